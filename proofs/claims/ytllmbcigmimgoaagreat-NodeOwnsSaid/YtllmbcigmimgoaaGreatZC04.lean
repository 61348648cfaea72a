/-
  Lemmas for a law's proof, put together from several texts. No conditions of their own.
-/
import Derived.Test.YtllmbcigmimgoaaGreatZC03
import Derived.Test.YtllmbcigmimgoaaGreatZC01
import Derived.WalkMore
import Derived.RangeFuncNested
import Derived.RangeFuncBound
import Derived.RangeFuncCalls
import Derived.RangeFuncLeaves
import Derived.OwnWalkIn
import Derived.TacticsInMore
import Derived.LoopNIn
import Derived.LoopIn
import Derived.Test.YtllmbcigmimgoaaGreatZC02
import Derived.Lib.BufferWrite
import Derived.BigRegionIn
set_option maxRecDepth 100000
set_option maxHeartbeats 20000000
set_option linter.all false
namespace Go.Proofs.YtllmbcigmimgoaaGreat
open _root_.Go.Proofs.Tryz
open _root_.Array renaming getElem?_eq_some_iff->aaz
open _root_.Go renaming World->acL,Calls->ac4,Value->acK,TypeId->acO,bodyPost_ret->ac5,KeepsFrom->adY,wpAnyH_take->ad1
open _root_.Go.Code renaming wp->adW
open _root_.Go.Ending renaming returned->ab4
open _root_.Go.IntKind renaming i64->adk
open _root_.Go.IntWalk renaming i64_in->adl
open _root_.Go.Obj renaming cells->ach,deferred->adL
open _root_.Go.Oper renaming semAt_some->agh
open _root_.Go.RowKit renaming Below->acN
open _root_.Go.RowKit.Below renaming refl->ac3,drew->adX
open _root_.Go.Value renaming tuple->adg,slice->aco,bool->acg,pointer->adj
open _root_.List renaming finRange->adK,length_cons->adV
open _root_.Nat renaming le_trans->abX,lt_of_lt_of_le->adN
open _root_.Or renaming inl->ack,inr->acm
open RowKit
variable{aA:Nat}{w w':acL}{k:Nat}{M:dA}
def gD (k:Nat)(w w':acL):Prop:=aP (λn=>n=k) w w'/\∀cs,aD w k 144 cs->aD w' k 144 cs\/∃n:Int,aD w' k 144 (cs.setIfInBounds 8 (vi n))
def gD.of_below (h:acN w.heap.size w w'):gD k w w':=⟨aP.of_below h,λ_ hb=>ack (hb.old h)⟩
def gD.trans {w'':acL}(h:gD k w w')(g:gD k w' w''):gD k w w'':=by
 refine⟨h.1.trans g.1 (λ_ _ e=>e),λcs hb=>?_⟩;rcases h.2 cs hb with h1|⟨n,h1⟩;exact g.2 cs h1;rcases g.2 _ h1 with h2|⟨m,h2⟩;exact acm ⟨n,h2⟩;exact acm ⟨m,by rwa[Array.setIfInBounds_setIfInBounds]at h2⟩
def gD.old {w'':acL}(h:gD k w w')(g:acN w'.heap.size w' w''):gD k w w'':=h.trans (gD.of_below g)
def gD.set (n:Int):gD k w (w.setCell ⟨k,8,none⟩ (vi n)):=⟨aP.set (F:=λn=>n=k) w (p:=⟨k,8,none⟩) rfl _,λ_ hb=>acm ⟨n,hb.bB 8 _⟩⟩
def Tf (aA:Nat)(w:acL)(k:Nat)(M:dA)(r:(List Nat×Int)×NP.bX)(e:Ending)(w':acL):Prop :=
 ∃v' M',e=ab4 (adg #[v',vi r.1.2])/\Own w' w.heap.size v' r.1.1/\Goes aA w k M w' M'/\M'.view=r.2/\(∀n,M'.foot k n->M.foot k n)/\gD k w w'
def KD (h:aT aA w k M)(hok:M.view.ok)(j p:Int):ac4 prog 101 #[ptr k,vi j,vi p] w (Tf aA w k M (NP.bQ M.view j p)):=by
 have hen:=λ(w:acL) (a:Option Addr) (n c:Nat)=>Lib.run_eql_slice_nil (P:=prog) w 23 5 a n c 0 0 underlying23;have hB:=pE hok;have HC:=az h;have vJ:=az hB;by_cases he:NP.asked M.view j p=0
 ·obtain⟨hd,hj0,hj1,hp0,hp1⟩:=NP.fB he;change j<M.B at hj1;change p<M.P at hp1;obtain⟨i,rfl⟩:∃i:Nat,j=i:=⟨j.toNat,aa⟩;obtain⟨q,rfl⟩:∃q:Nat,p=q:=⟨p.toNat,aa⟩;have hi:i<M.bs.length:=aa;have hps:=MF hok hi;have hq:q<(M.bs.getD i default).ps.length:=aa;have HQ:Hid (NP.bQ M.view i q=((if ((M.bs.getD i default).ps.getD q default).l=[] then List.replicate (M.S+32) 255 else ((M.bs.getD i default).ps.getD q default).l,0),(yA M).view)):=az (by
   unfold NP.bQ
   dsimp only
   rw[if_pos he,Int.toNat_natCast,Int.toNat_natCast,DZ hi hq]
   rfl)
  have HE:=az he;have hS:=(EY hok).1;have hfl:=MG hok hi (bL (d:=default) hq);have G:=h.field (M':=yA M) 8 (vi (wrap64 (M.reads+1))) (by rw[<-qY];rfl) rfl rfl rfl h.faults;have HG:=az G;obtain⟨c0,c1,c2,c3,c4,c5,c6,c7,c8⟩:=h.cells;have z8:=h.aW.frozen 8;clear c0 c1 c2 c4 c5 c6 c7 c3 hd he G hok h hB;go_in;go_wp2_with fail;refine(cu HC.o vJ.o _ _).mono ?_;rintro e w' ⟨rfl,rfl⟩;rw[HE.o];go_upto_region 5 with fail;have HRW:Hid (gD k w' (w'.setCell ⟨k,8,none⟩ (vi (wrap64 (M.reads+1))))):=az (gD.set _);generalize w'.setCell ⟨k,8,none⟩ (vi (wrap64 (M.reads+1)))=w1 at*
  have c3:w1.cell? ⟨k,3,none⟩=some (.slice (some ⟨M.kb,0,none⟩) M.bs.length M.kc):=HG.o.at_.aW.cell 3;have d0:w1.cell? ⟨M.kb,i*5,none⟩=some (.slice (some ⟨(M.bs.getD i default).g,0,none⟩) (M.bs.getD i default).ps.length (M.bs.getD i default).c):=HG.o.at_.iG (i:=i) (j:=0) hi ag;have d1:=HG.o.at_.Hq (i:=i) (p:=q) hi hq;have EZ:=HG.o.at_.rows _ (bL (d:=default) hi) _ (bL (d:=default) hq);change w1.cell? ⟨(M.bs.getD i default).g,q,none⟩=some ((M.bs.getD i default).ps.getD q default).v at d1;change (((M.bs.getD i default).ps.getD q default)).ok aA w1 at EZ;clear c8 z8
  generalize M.bs.getD i default=x at*;obtain⟨xg,xc,xps,xn,xb,xd,xw⟩:=x;dsimp only at*;generalize xps.getD q default=pg at*;obtain⟨pa,pl,pc⟩:=pg;dsimp only at*;by_cases hl:pl=[]
  ·have hnil:=EZ.nil hl;injection hnil with h1 h2 h3;subst h1 h2 h3;rw[if_pos rfl]at HQ;clear EZ hfl;go_wp2_with fail;refine(full_any HG.o.at_ hS).mono ?_;rintro e w2 ⟨rfl,rfl⟩;go_wp2_with fail;refine(Av (M.S+32) _ aa).mono ?_;rintro e w3 ⟨v3,rfl,ho3,hb3⟩;have EW:=az (ho3.more HG.o.size);have iR:=az (HG.o.old hb3);have OU:=az (HRW.o.old hb3);clear ho3 hb3;go_wp2;go_ret2;exact⟨v3,yA M,by rw[HQ.o];rfl,by rw[HQ.o];exact EW.o,iR.o,by rw[HQ.o],λ_ e=>e,OU.o⟩
  obtain⟨b,o,hab⟩:=EZ.some hl;dsimp only at hab;subst hab;rw[if_neg hl]at HQ;have hln:pl.length<=900000:=by rcases hfl with h|h;exact absurd h hl;omega
  have HR:=az EZ.row.row;clear EZ hfl hl;go_wp2_with fail;refine(jr (some ⟨b,o,none⟩) pl pc _ HR.o hln).mono ?_;rintro e w3 ⟨v3,rfl,ho3,hb3⟩;have EW:=az (ho3.more HG.o.size);have iR:=az (HG.o.old hb3);have OU:=az (HRW.o.old hb3);clear ho3 hb3;go_wp2;go_ret2;exact⟨v3,yA M,by rw[HQ.o];rfl,by rw[HQ.o];exact EW.o,iR.o,by rw[HQ.o],λ_ e=>e,OU.o⟩
 have HQ:Hid (NP.bQ M.view j p=(([],NP.asked M.view j p),M.view)):=az (by unfold NP.bQ;dsimp only;rw[if_neg he]);clear hok h hB;go_in;go_wp2_with fail;refine(cu HC.o vJ.o _ _).mono ?_;rintro e w' ⟨rfl,rfl⟩;generalize NP.asked M.view j p=n at*;have hn:((n:Int) != 0)=true:=by simp[he]
 go_wp2;go_ret2;exact⟨_,M,by rw[HQ.o];rfl,by rw[HQ.o];exact Own.nil _ _,Goes.refl HC.o,by rw[HQ.o],λ_ e=>e,gD.of_below ak⟩
namespace ft
open RowKit mgr
variable{f:Nat}{X:dm}
def jw (aA:Nat)(w:acL)(f:Nat)(X:dm)(r:(List Nat×Int)×FP.Ft)(e:Ending)(w':acL):Prop :=
 ∃v X',e=ab4 (adg #[v,vi r.1.2])/\Own w' w.heap.size v r.1.1/\JU aA w f X w' X'/\X'.view=r.2/\(∀n,X'.foot f n->X.foot f n)/\gD X.G.k w w'
def jw.mk {r:(List Nat×Int)×FP.Ft}{l:List Nat}{n:Int}{V:FP.Ft}{v:acK}(hr:r=((l,n),V))(ho:Own w' w.heap.size v l){X':dm}(hg:JU aA w f X w' X')(hv:X'.view=V)(hs:∀n,X'.foot f n->X.foot f n)(hw:gD X.G.k w w'):jw aA w f X r (ab4 (adg #[v,vi n])) w' :=
 ⟨v,X',by rw[hr],by rw[hr];exact ho,hg,by rw[hr];exact hv,hs,hw⟩
def Read_full (h:bP aA w f X)(hx:X.Fit)(aB:Nat)(hp:aB<4294967296):ac4 prog 64 #[ptr f,vw aB] w (jw aA w f X (X.view.read aB)):=by
 have H:=az h;have HX:=az hx;have HV:Hid (X.view.read aB=if X.view.logical aB≠0 then (([],X.view.logical aB),X.view) else match X.view.at_ aB with
  |none=>(([],60),X.view)
  |some p=>if (NP.bQ X.M.view p.block p.aB).1.2≠0 then (([],(NP.bQ X.M.view p.block p.aB).1.2),X.view.aW (NP.bQ X.M.view p.block p.aB).2) else
   if (TP.read (NP.bQ X.M.view p.block p.aB).1.1).2.2≠0 then (([],21),X.view.aW (NP.bQ X.M.view p.block p.aB).2) else (((TP.read (NP.bQ X.M.view p.block p.aB).1.1).2.1,0),X.view.aW (NP.bQ X.M.view p.block p.aB).2)):=az rfl
 clear h hx;go_in;go_wp2_with fail;refine(rA H.o HX.o aB hp).mono ?_;rintro e w1 ⟨rfl,hb1⟩;have HB1:=az hb1;have H1:=az (H.o.old hb1);clear hb1;generalize X.view.logical aB=lg at*;by_cases h0:lg=0
 ·subst h0;rw[if_neg ai]at HV;go_wp2_with fail;refine(pG H1.o aB).mono ?_;rintro e w2 ⟨rfl,hb2⟩;have HB2:=az (HB1.o.trans (hb2.mono HB1.o.size));have H2:=az (H1.o.old hb2);clear hb2 H1 HB1;cases hat:X.view.at_ aB with
  |none =>
   rw[hat]at HV;have HG:=az ((JU.aX H.o HB2.o).old (ak.alloc aj (ach #[vi 0,vi 0] 165)));go_wp2;go_ret2;exact jw.mk HV.o (Own.nil _ _) HG.o rfl (λ_ e=>e) ((gD.of_below HB2.o).old (ak.alloc aj (ach #[vi 0,vi 0] 165)))
  |some p =>
   obtain⟨pb,pp⟩:=p;rw[hat]at HV;dsimp only at HV;have HB3:Hid (acN w.heap.size w (w2.alloc (ach #[vi pb,vi pp] 165))):=az (HB2.o.alloc HB2.o.size _);have H3:Hid (bP aA (w2.alloc (ach #[vi pb,vi pp] 165)) f X):=az (H2.o.old ax);have F3:Hid (aD (w2.alloc (ach #[vi pb,vi pp] 165)) w2.heap.size 165 #[vi pb,vi pp]):=az (aD.new _ _ _);go_upto_region 7 with fail;clear H2 HB2;generalize w2.alloc (ach #[vi pb,vi pp] 165)=w3 at*;generalize w2.heap.size=g at*;obtain⟨d0,d1,_,_⟩:=bO F3.o;have c0:w3.cell? ⟨f,0,none⟩=some (ptr X.G.k):=H3.o.obj.cell 0
   have HS:Hid (w3.drew.cell? ⟨f,0,none⟩=some (ptr X.G.k)/\w3.drew.cell? ⟨g,0,none⟩=some (vi pb)/\w3.drew.cell? ⟨g,1,none⟩=some (vi pp)):=az ⟨c0,d0,d1⟩;have bK:=az (_root_.Go.Proofs.YtllmbcigmimgoaaGreat.KD (H3.o.held.aW.old au) HX.o.good.ok pb pp);have hfn:¬X.M.foot X.G.k f:=λe=>H3.o.nQ.2.2.2.2 (acm e)
   have WY:Hid (¬X.M.foot X.G.k g):=az (λe=>by
    have:=H3.o.held.type (acm e)
    obtain⟨t,cs,hb,ht⟩:=this
    have:=bY hb F3.o
    rcases ht with ht|ht|ht|ht|ht<;>rw[ht]at this<;>exact absurd this ag)
   have nS:Hid (∀W M',Goes aA w3.drew X.G.k X.M W M'->(W.cell? ⟨f,0,none⟩=some (ptr X.G.k)/\W.cell? ⟨g,0,none⟩=some (vi pb)/\W.cell? ⟨g,1,none⟩=some (vi pp))) :=
    az (λW M' q=>⟨q.aJ.cell HS.o.1 hfn,q.aJ.cell HS.o.2.1 WY.o,q.aJ.cell HS.o.2.2 WY.o⟩)
   go_region_held3 (λw'=>w'.cell? ⟨f,0,none⟩=some (ptr X.G.k)/\w'.cell? ⟨g,0,none⟩=some (vi pb)/\w'.cell? ⟨g,1,none⟩=some (vi pp))
    (first|exact HS.o|exact nS.o _ _ (by assumption))
    (first|(go_at_call 101;refine bK.o.mono ?_;rintro e w4 ⟨v4,M4,rfl,zm,hg4,hv4,adB,hw4⟩))
   have HG:=az ((JU.aX H.o HB3.o).trans ((JU.aX H3.o au).trans ((H3.o.old au).Sd hg4)));have HV4:=az hv4;have Tg:Hid (gD X.G.k w w4):=az (((gD.of_below HB3.o).old au).trans hw4);clear hw4;have OV:Hid (∀n,({X with M:=M4}:dm).foot f n->X.foot f n):=az (λn e=>by
    rcases e with e|e|e|e|e|e|e
    exact ack e
    exact acm (ack e)
    exact acm (acm (ack e))
    exact acm (acm (acm (ack e)))
    exact acm (acm (acm (acm (ack e))))
    exact acm (acm (acm (acm (acm (ack e)))))
    exact acm (acm (acm (acm (acm (acm (adB n e)))))))
   clear adB;have lX:=az (yM HX.o.good.ok pb pp);obtain⟨a4,k4,rfl,hs4,hl4,hc4,_⟩:=zm.Db (aA:=aA) lX.o;have HR4:=az hs4.row;have pI:=az (abX HB3.o.size hg4.aJ.size);clear hs4 zm hg4 hv4 nS WY bK HS c0 d0 d1;generalize NP.bQ X.M.view pb pp=r at*;obtain⟨⟨l,e⟩,V⟩:=r;dsimp only at*;by_cases he:e=0
   ·subst he;rw[if_neg ai]at HV;go_wp2_with fail;refine(OL a4 l k4 w4 HR4.o hl4 hc4).mono ?_;rintro e w5 ⟨v5,rfl,jT,hb5⟩;have Dk:=az (jT.more (abX pI.o aj));have Bl:=az (HG.o.old hb5);have zt:=az (Tg.o.old hb5);clear jT hb5 HG;generalize TP.read l=t at*;obtain⟨⟨k,pg,sq,ep⟩,pl,te⟩:=t;dsimp only at*;by_cases ht:te=0
    ·subst ht;rw[if_neg ai]at HV;go_wp2;go_ret2;exact jw.mk HV.o (Dk.o.old ax) (Bl.o.old ax) (by show FP.Ft.mk _ _ _ _ _ _ _ _ _ _ _ _=_;rw[HV4.o];rfl) OV.o (zt.o.old ax)
    rw[if_pos ht]at HV;go_wp2;go_ret2;exact jw.mk HV.o (Own.nil _ _) (Bl.o.old ax) (by show FP.Ft.mk _ _ _ _ _ _ _ _ _ _ _ _=_;rw[HV4.o];rfl) OV.o (zt.o.old ax)
   rw[if_pos he]at HV;go_wp2;go_ret2;exact jw.mk HV.o (Own.nil _ _) HG.o (by show FP.Ft.mk _ _ _ _ _ _ _ _ _ _ _ _=_;rw[HV4.o];rfl) OV.o Tg.o
 rw[if_pos h0]at HV;have HG:=az (JU.aX H.o HB1.o);go_wp2;go_ret2;exact jw.mk HV.o (Own.nil _ _) HG.o rfl (λ_ e=>e) (gD.of_below HB1.o)
end ft
namespace FP
def Ft.still (f:Ft):Ft:={f with c:={f.c with reads:=0}}
def IJ (c:NP.bX)(k i:Int):(NP.bQ {c with reads:=0} k i).1=(NP.bQ c k i).1:=by
 have ha:NP.asked {c with reads:=0} k i=NP.asked c k i:=rfl;unfold NP.bQ;rw[ha];by_cases e:NP.asked c k i=0;dsimp only;rw[if_pos e,if_pos e];dsimp only;rw[if_neg e,if_neg e]
def KE (c:NP.bX)(k i:Int):{(NP.bQ c k i).2 with reads:=0}={c with reads:=0}:=by
 unfold NP.bQ;by_cases e:NP.asked c k i=0;dsimp only;rw[if_pos e];dsimp only;rw[if_neg e]
def IK (f:Ft)(n:Nat):(f.read n).1=(if f.logical n≠0 then ([],f.logical n) else match f.at_ n with
  |none=>([],60)
  |some p=>if (NP.bQ f.c p.block p.aB).1.2≠0 then ([],(NP.bQ f.c p.block p.aB).1.2) else
   if (TP.read (NP.bQ f.c p.block p.aB).1.1).2.2≠0 then ([],21) else ((TP.read (NP.bQ f.c p.block p.aB).1.1).2.1,0)):=by
 unfold Ft.read;dsimp only;by_cases h:f.logical n≠0;rw[if_pos h,if_pos h];rw[if_neg h,if_neg h];cases f.at_ n with
 |none=>rfl
 |some p =>
  dsimp only;by_cases h2:(NP.bQ f.c p.block p.aB).1.2≠0;rw[if_pos h2,if_pos h2];rw[if_neg h2,if_neg h2];by_cases h3:(TP.read (NP.bQ f.c p.block p.aB).1.1).2.2≠0;rw[if_pos h3,if_pos h3];rw[if_neg h3,if_neg h3]
def Bn (f:Ft)(n:Nat):(f.still.read n).1=(f.read n).1:=by
 have h1:f.still.logical n=f.logical n:=rfl;have h2:f.still.at_ n=f.at_ n:=rfl;rw[IK,IK,h1,h2];cases f.at_ n with
 |none=>rfl
 |some p =>
  have h3:(NP.bQ f.still.c p.block p.aB).1=(NP.bQ f.c p.block p.aB).1:=IJ f.c p.block p.aB;dsimp only;rw[h3]
def KF (f:Ft)(n:Nat):(f.read n).2.still=f.still:=by
 unfold Ft.read;dsimp only;split;rfl;cases f.at_ n with
 |none=>rfl
 |some p =>
  have h3:(f.aW (NP.bQ f.c p.block p.aB).2).still=f.still:=by
   unfold Ft.still Ft.aW;dsimp only;rw[KE]
  dsimp only;split;exact h3;split;exact h3;exact h3
end FP
namespace po
open RowKit mgr ft pl
abbrev zs:List Nat:=List.replicate 64 0
def fit_still {F F':FP.Ft}(h:ft.Fit F)(e:F'.still=F.still):ft.Fit F':=by
 obtain⟨c,g,r,b,t,s,n,d,sq,ep,la,ov⟩:=F;obtain⟨c',g',r',b',t',s',n',d',sq',ep',la',ov'⟩:=F';unfold FP.Ft.still at e;injection e with e1 e2 e3 e4 e5 e6 e7 e8 e9 e10 e11 e12;dsimp only at e1 e2 e3 e4 e5 e6 e7 e8 e9 e10 e11 e12;subst e2 e3 e4 e5 e6 e7 e8 e9 e10 e11 e12;obtain⟨B,P,S,bs,fs,si,dn,st,rd⟩:=c;obtain⟨B',P',S',bs',fs',si',dn',st',rd'⟩:=c';injection e1 with a1 a2 a3 a4 a5 a6 a7 a8;subst a1 a2 a3 a4 a5 a6 a7 a8;exact⟨⟨⟨h.good.ok.right,h.good.ok.blocks,h.good.ok.pages,h.good.ok.full,h.good.ok.small,h.good.ok.next⟩,h.good.small,h.good.order⟩,h.lL.aW rfl rfl,h.res,h.qE,h.slow,h.oG,h.kQ,h.rz,h.lC⟩
structure Po where
 T:Int
 P:Int
 I:Int
 U:Mp Int
 M:Mp (List Nat)
 B:Int->List Nat
 G:FP.Ft->Prop
def Po.there (p:Po)(n:Int):Bool:=(decide (1<=n)&&decide (n<=p.T))||MP.has p.U n
def Po.given (p:Po)(n:Int):Bool:=decide (p.T+1<=n)&&decide (n-(p.T+1)<p.P)
def Po.get (p:Po)(n:Int):List Nat:=(MP.get p.M n).getD (p.B n)
def Po.put (p:Po)(n:Int)(l:List Nat):Po:={p with M:=MP.put p.M n l}
def Po.alloc (p:Po)(n:Int):Po:={p with U:=MP.put p.U n n,M:=MP.put p.M n zs}
def Po.free (p:Po)(n:Int):Po:={p with U:=MP.del p.U n,M:=MP.del p.M n}
def Po.aK (p:Po):Int:=p.P-p.U.length
structure Po.ok (p:Po):Prop where
 bI:1<=p.T/\p.T<=8192/\1<=p.P/\p.P<=8192/\0<=p.I/\p.I<=65535/\p.T+p.P<=8191
 MQ:MP.Ok p.U
 V6:MP.Ok p.M
 jf:∀n,MP.has p.U n=true->p.given n=true
 Bp:∀n,MP.has p.M n=true->p.there n=true
 len:∀n l,MP.get p.M n=some l->l.length=64/\∀y∈l,y<256
 gs:∀F F':FP.Ft,F'.still=F.still->p.G F->p.G F'
def Has (F:FP.Ft)(n:Nat)(l:List Nat):Prop:=l.length=64/\(∀y∈l,y<256)/\(((F.read n).1=([],60)/\l=zs)\/(F.read n).1=(l,0))
variable{l:List Nat}
def Has.still {F F':FP.Ft}{n:Nat}(h:Has F n l)(e:F'.still=F.still):Has F' n l:=by
 have h1:(F'.read n).1=(F.read n).1:=by rw[<-FP.Bn F',e,FP.Bn]
 unfold Has;rw[h1];exact h
def foot (Y:Bi)(X:dm)(n:Nat):Prop:=n=Y.bu\/n=Y.bd\/X.foot Y.f n
def iM (aA:Nat)(w:acL)(D:Mp acK)(M:Mp (List Nat))(n:Int):Prop :=
 (MP.get D n=none/\MP.get M n=none)\/∃g c l,MP.get D n=some (aco (some ⟨g,0,none⟩) 64 c)/\MP.get M n=some l/\l.length=64/\64<=c/\c<=maxLen/\dx aA w (some ⟨g,0,none⟩) l
structure iy (aA:Nat)(w:acL)(q:Nat)(Y:Bi)(X:dm)(p:Po):Prop where
 pl:fE w q Y
 ft:bP aA w Y.f X
 fit:X.Fit
 OT:∀n,Y.foot q n->¬X.foot Y.f n
 low:aA<=Y.bu/\aA<=Y.bd/\aA<=q
 lay:Y.T=p.T/\Y.F=p.T+1/\Y.P=p.P/\Y.I=p.I/\Y.sz=64
 used:Y.U=p.U
 rows:∀n,iM aA w Y.D p.M n
 holds:∀n:Nat,p.there n=true->MP.has p.M n=false->Has X.view n (p.B n)
 ok:p.ok
 gh:p.G X.view
def PQ (aA:Nat)(w:acL)(q:Nat)(K:Nat->Prop)(p:Po):Prop:=∃Y X,iy aA w q Y X p/\K=foot Y X
structure bG (aA:Nat)(w:acL)(q:Nat)(K:Nat->Prop)(w':acL)(K':Nat->Prop)(p':Po):Prop where
 at_:PQ aA w' q K' p'
 aJ:aP K w w'
 foot:∀n,K' n->K n\/w.heap.size<=n
section
variable{F:Nat->Prop}{w'':acL}{q:Nat}{Y:Bi}{X:dm}{p p' p'':Po}{K K' K'':Nat->Prop}
def iM.aJ {D:Mp acK}{M:Mp (List Nat)}{n:Int}(h:iM aA w D M n)(k:aP F w w')(hF:∀n,F n->Loose aA w n):iM aA w' D M n:=by
 rcases h with h|⟨g,c,l,h1,h2,h3,h4,h5,h6⟩;exact ack h;exact acm ⟨g,c,l,h1,h2,h3,h4,h5,h6.fD k hF⟩
def iy.loose (h:iy aA w q Y X p):∀n,foot Y X n->Loose aA w n:=by
 intro n e;rcases e with e|e|e;rw[e];exact Loose.map h.low.1 h.pl.used;rw[e];exact Loose.map h.low.2.1 h.pl.iI;exact h.ft.loose n e
def iy.lt (h:iy aA w q Y X p):∀n,foot Y X n->n<w.heap.size:=by
 intro n e;rcases e with e|e|e;rw[e];exact h.pl.used.lt;rw[e];exact h.pl.iI.lt;exact h.ft.lt n e
def iy.self (h:iy aA w q Y X p):¬foot Y X q:=by
 intro e;rcases e with e|e|e;exact h.pl.used.dM h.pl.obj e.symm;exact h.pl.iI.dM h.pl.obj e.symm;exact h.OT q (ack rfl) e
def iy.aJ (h:iy aA w q Y X p)(k:aP F w w')(hF:∀n,F n->Loose aA w n)(hn:∀n,foot Y X n->¬F n)(hq:¬F q):iy aA w' q Y X p :=
 ⟨h.pl.aJ k (λn e=>by
  rcases e with e|e|e
  rw[e];exact hq
  exact hn n (ack e)
  exact hn n (acm (ack e))),h.ft.aJ k hF (λn e=>hn n (acm (acm e))),h.fit,h.OT,h.low,h.lay,h.used,λn=>(h.rows n).aJ k hF,h.holds,h.ok,h.gh⟩
def PQ.loose (h:PQ aA w q K p):∀n,K n->Loose aA w n:=by obtain⟨Y,X,h,rfl⟩:=h;exact h.loose
def PQ.lt (h:PQ aA w q K p):∀n,K n->n<w.heap.size:=by obtain⟨Y,X,h,rfl⟩:=h;exact h.lt
def PQ.self (h:PQ aA w q K p):¬K q:=by obtain⟨Y,X,h,rfl⟩:=h;exact h.self
def PQ.JV (h:PQ aA w q K p):q<w.heap.size:=by obtain⟨Y,X,h,rfl⟩:=h;exact h.pl.obj.lt
def PQ.low (h:PQ aA w q K p):aA<=w.heap.size:=by obtain⟨Y,X,h,rfl⟩:=h;have:=h.pl.obj.lt;have:=h.low;omega
def PQ.ok (h:PQ aA w q K p):p.ok:=by obtain⟨Y,X,h,rfl⟩:=h;exact h.ok
def PQ.aJ (h:PQ aA w q K p)(k:aP F w w')(hF:∀n,F n->Loose aA w n)(hn:∀n,K n->¬F n)(hq:¬F q):PQ aA w' q K p:=by
 obtain⟨Y,X,h,rfl⟩:=h;exact⟨Y,X,h.aJ k hF hn hq,rfl⟩
def PQ.old (h:PQ aA w q K p)(k:acN w.heap.size w w'):PQ aA w' q K p:=h.aJ (F:=λ_=>False) (aP.of_below k) (λ_ e=>e.elim) (λ_ _ e=>e) (λe=>e)
def bG.refl (h:PQ aA w q K p):bG aA w q K w K p:=⟨h,aP.refl _ _,λ_ e=>ack e⟩
def bG.trans (h:bG aA w q K w' K' p')(k:bG aA w' q K' w'' K'' p''):bG aA w q K w'' K'' p'':=by
 refine⟨k.at_,h.aJ.trans k.aJ λn hn e=>?_,λn hn=>?_⟩;rcases h.foot n e with h1|h1;exact h1;omega;rcases k.foot n hn with h1|h1;exact h.foot n h1;exact acm (abX h.aJ.size h1)
def bG.old (h:bG aA w q K w' K' p')(k:acN w'.heap.size w' w''):bG aA w q K w'' K' p':=⟨h.at_.old k,h.aJ.below k,h.foot⟩
def bG.aX (h:PQ aA w q K p)(k:acN w.heap.size w w'):bG aA w q K w' K p:=(bG.refl h).old k
def bG.size (h:bG aA w q K w' K' p'):w.heap.size<=w'.heap.size:=h.aJ.size
def bG.keep {g:Nat}{t:acO}{cs:Array acK}(h:bG aA w q K w' K' p')(hb:aD w g t cs)(hn:¬K g):aD w' g t cs/\¬K' g:=by
 refine⟨hb.aJ h.aJ hn,λe=>?_⟩;rcases h.foot g e with h1|h1;exact hn h1;have:=hb.lt;omega
def bG.row {a:Option Addr}(h:bG aA w q K w' K' p')(h0:PQ aA w q K p)(hr:dx aA w a l):dx aA w' a l:=hr.fD h.aJ h0.loose
def bG.jg {f:Nat}{t:acO}{cs:Array acK}(h:bG aA w q K w' K' p')(h0:PQ aA w q K p)(hb:aD w' f t cs)(hf:w.heap.size<=f)(hn:¬K' f)(hc:aP (λn=>n=f) w' w'')(ht:qQ t=false:=by decide):bG aA w q K w'' K' p':=by
 have hlo:=h0.low;refine⟨h.at_.aJ hc (λn e=>by rw[e];exact Loose.blk (abX hlo hf) hb ht) (λn e e2=>by rw[e2]at e;exact hn e) (λe=>?_),h.aJ.trans hc (λn hn' e=>?_),h.foot⟩;have:=h0.JV;omega;omega
def FD {v:acK}{b:Nat}(h:Own w b v l)(q:aP F w w')(hn:∀g,v.ownBlock=some g->¬F g):Own w' b v l:=by
 refine⟨h.1,?_⟩;rcases h.2 with h1|⟨g,cap,cur,hv,hb,hg,h1⟩;exact ack h1;have hl:g<w.heap.size:=by
  have:aD w g 5 cur:=hg;exact this.lt
 exact acm ⟨g,cap,cur,hv,hb,(q.block g hl (hn g (by rw[hv];rfl))).trans hg,h1⟩
def bG.own {v:acK}{b:Nat}(h:bG aA w q K w' K' p')(h0:PQ aA w q K p)(ho:Own w b v l):Own w' b v l:=by
 refine FD ho h.aJ (λg e e2=>?_);rcases ho.2 with⟨h1,_⟩|⟨g',cap,cur,hv,_,hg,_⟩;rw[h1]at e;cases e;rw[hv]at e;injection e with e;subst e;have hb:aD w g' 5 cur:=hg;have:=(h0.loose _ e2).2 _ _ hb;revert this;decide
def Po.WZ (h:p.ok)(n:Nat)(_ht:p.there n=true){F:FP.Ft}(hh:MP.has p.M n=false->Has F n (p.B n)):(p.get n).length=64/\∀y∈p.get n,y<256:=by
 unfold Po.get;cases hm:MP.get p.M n with
 |some l=>exact h.len n l hm
 |none =>
  have:=hh (by unfold MP.has;rw[hm];rfl);exact⟨this.1,this.2.1⟩
def PQ.len (h:PQ aA w q K p)(n:Nat)(ht:p.there n=true):(p.get n).length=64/\∀y∈p.get n,y<256:=by
 obtain⟨Y,X,h,rfl⟩:=h;exact Po.WZ h.ok n ht (h.holds n ht)
def oF {v:acK}(h:Own w aA v l)(hn:0<l.length):∃g cap,v=aco (some ⟨g,0,none⟩) l.length cap/\aA<=g/\l.length<=cap/\cap<=maxLen:=by
 rcases h.2 with⟨_,h0⟩|⟨g,cap,cur,hv,hb,_,hnc,hcm,_⟩;omega;exact⟨g,cap,hv,hb,hnc,hcm⟩
def iy.mM (h:iy aA w q Y X p)(n:Int):Y.there n=p.there n:=by
 unfold Bi.there Po.there;rw[h.lay.1,h.used]
def Ee (X:dm)(f:Nat):X.foot f X.G.k:=by unfold dm.foot foot1 dA.foot;simp
def fF (w:acL)(q k:Nat):Prop:=∃f,w.cell? ⟨q,0,none⟩=some (ptr f)/\w.cell? ⟨f,0,none⟩=some (ptr k)
def iy.iN (h:iy aA w q Y X p):fF w q X.G.k:=⟨Y.f,h.pl.obj.cell 0,h.ft.obj.cell 0⟩
def fF.uniq {k':Nat}(h:fF w q k)(h':fF w q k'):k=k':=by
 obtain⟨f,h1,h2⟩:=h;obtain⟨f',h3,h4⟩:=h';rw[h1]at h3;injection h3 with h3;injection h3 with h3;injection h3 with h3;injection h3 with h3;subst h3;rw[h2]at h4;injection h4 with h4;injection h4 with h4;injection h4 with h4;injection h4 with h4
def PQ.iN (h:PQ aA w q K p):∃k,fF w q k/\K k:=by
 obtain⟨Y,X,h,rfl⟩:=h;exact⟨_,h.iN,acm (acm (Ee X Y.f))⟩
def PQ.pK (h:PQ aA w q K p)(hk:fF w q k):K k/\k≠q:=by
 obtain⟨k',h1,h2⟩:=h.iN;have:=hk.uniq h1;subst this;exact⟨h2,λe=>h.self (e▸h2)⟩
def PQ.OW (h:PQ aA w q K p)(hk:fF w q k)(hr:gD k w w'):PQ aA w' q K p:=by
 obtain⟨Y,X,h,rfl⟩:=h;have:=hk.uniq h.iN;subst this;have hch:=h.ft.held.aW;have key:∀M':dA,M'.kb=X.M.kb->M'.kc=X.M.kc->M'.bs=X.M.bs->M'.fa=X.M.fa/\M'.fs=X.M.fs->({X with M:=M'}:dm).view.still=X.view.still->aD w' X.G.k 144 M'.cs->PQ aA w' q (foot Y X) p:=by
  intro M' a1 a2 a3 a4 a5 a6;have hg:=(h.ft.Sd (hch.fields hr.1 a6 a1 a2 a3 a4)).goes;have hfo:∀m,({X with M:=M'}:dm).foot Y.f m↔X.foot Y.f m:=λm=>by unfold dm.foot foot1 dA.foot;dsimp only;rw[a1,a3]
  refine⟨Y,{X with M:=M'},⟨h.pl.aJ hg.aJ h.OT,hg.at_,fit_still h.fit a5,λm e e2=>h.OT m e ((hfo m).1 e2),h.low,h.lay,h.used,λm=>(h.rows m).aJ hg.aJ h.ft.loose,λm h1 h2=>(h.holds m h1 h2).still a5,h.ok,h.ok.gs _ _ a5 h.gh⟩,funext λm=>?_⟩;unfold foot;rw[propext (hfo m)]
 rcases hr.2 _ hch.aW with h1|⟨n,h1⟩;exact key X.M rfl rfl rfl ⟨rfl,rfl⟩ rfl h1;exact key {X.M with reads:=n} rfl rfl rfl ⟨rfl,rfl⟩ rfl h1
structure bM (aA:Nat)(w:acL)(q:Nat)(K:Nat->Prop)(w':acL)(K':Nat->Prop)(p:Po):Prop where
 go:bG aA w q K w' K' p
 sub:∀n,K' n->K n
 rd:∀k,fF w q k->gD k w w'
 beg:PQ aA w q K p
def bM.refl (h:PQ aA w q K p):bM aA w q K w K p:=⟨bG.refl h,λ_ e=>e,λ_ _=>gD.of_below ak,h⟩
def PQ.j6 (h:PQ aA w q K p)(hk:fF w q k)(hr:gD k w w'):fF w' q k:=by
 obtain⟨Y,X,h,rfl⟩:=h;have:=hk.uniq h.iN;subst this;have hf:Y.f≠X.G.k:=h.ft.nQ.2.2.2.2∘λe=>acm (ack e)
 have hq:q≠X.G.k:=λe=>h.self (by rw[e];exact acm (acm (Ee X Y.f)))
 exact⟨Y.f,hr.1.cell (h.pl.obj.cell 0) hq,hr.1.cell (h.ft.obj.cell 0) hf⟩
def bM.pM (h:PQ aA w q K p)(hk:fF w q k)(hr:gD k w w'):bM aA w q K w' K p :=
 ⟨⟨h.OW hk hr,hr.1.mono (λn _ e=>by rw[e];exact(h.pK hk).1),λ_ e=>ack e⟩,λ_ e=>e,λk' hk'=>by rw[hk'.uniq hk];exact hr,h⟩
def bM.trans (h:bM aA w q K w' K' p)(k:bM aA w' q K' w'' K'' p):bM aA w q K w'' K'' p:=⟨h.go.trans k.go,λn e=>h.sub n (k.sub n e),λc hc=>(h.rd c hc).trans (k.rd c (h.beg.j6 hc (h.rd c hc))),h.beg⟩
def bM.old (h:bM aA w q K w' K' p)(k:acN w'.heap.size w' w''):bM aA w q K w'' K' p:=⟨h.go.old k,h.sub,λc hc=>(h.rd c hc).old k,h.beg⟩
def bM.aX (h:PQ aA w q K p)(k:acN w.heap.size w w'):bM aA w q K w' K p:=(bM.refl h).old k
def aaK (aA:Nat)(w:acL)(q:Nat)(K:Nat->Prop)(p:Po)(n:Int)(e:Ending)(w':acL):Prop :=
 ∃K' g c,e=ab4 (adg #[aco (some ⟨g,0,none⟩) 64 c,vi 0])/\Own w' w.heap.size (aco (some ⟨g,0,none⟩) 64 c) (p.get n)/\w.heap.size<=g/\64<=c/\c<=maxLen/\bM aA w q K w' K' p
def OX (h:iy aA w q Y X p)(n:Int)(ht:p.there n=true)(g c:Nat)(l:List Nat)(hd:MP.get Y.D n=some (aco (some ⟨g,0,none⟩) 64 c))(hl:l.length=64)(hr:bE w (some ⟨g,0,none⟩) l) :
  ac4 prog 34 #[ptr q,vi n] w λe w'=>∃v,e=ab4 (adg #[v,vi 0])/\Own w' w.heap.size v l/\acN w.heap.size w w':=by
 have HA:=az (pl.cu h.pl n);rw[h.mM,ht]at HA;have e7:w.cell? ⟨q,7,none⟩=some (.map (some Y.bd)):=h.pl.obj.cell 7;have L:=h.pl.Zf n;rw[show MP.has Y.D n=true by unfold MP.has;rw[hd];rfl,hd]at L;simp only[Option.map_some,Option.getD_some]at L;have FE:Hid (ac4 prog 63 #[aco (some ⟨g,0,none⟩) 64 c] w λe w'=>∃v',e=ab4 v'/\Own w' w.heap.size v' l/\acN w.heap.size w w'):=az (by
  have h:=jr (some ⟨g,0,none⟩) l c w hr (by rw[hl];decide)
  rwa[hl]at h)
 clear h ht hd hl hr;go_in;go_wp2_with fail;refine HA.o.mono ?_;rintro e w' ⟨rfl,rfl⟩;go_wp2_with fail;refine FE.o.mono ?_;rintro e w2 ⟨v,rfl,ho,hb⟩;have HO:=az ho;have HB:=az hb;clear ho hb FE HA L e7;go_wp2;go_ret2;exact⟨v,rfl,HO.o,HB.o⟩
def ahv (aA:Nat)(w:acL)(q:Nat)(Y:Bi)(X:dm)(l:List Nat)(e:Ending)(w':acL):Prop :=
 ∃w1 X' v,e=ab4 (adg #[v,vi 0])/\Own w' w.heap.size v l/\aQ aA w Y.f X w1 X'/\X'.view.still=X.view.still/\fE w1 q Y/\acN w1.heap.size w1 w'/\(∀n,X'.foot Y.f n->X.foot Y.f n)/\gD X.G.k w w'
def OY (h:fE w q Y)(hF:bP aA w Y.f X)(hx:X.Fit)(OZ:∀n,Y.foot q n->¬X.foot Y.f n)(m:Nat)(hm:m<4294967296)(ht:Y.there m=true)(hd:MP.has Y.D m=false)(hs:Y.sz=64)
  (l:List Nat) (hr:Has X.view m l):ac4 prog 34 #[ptr q,vi m] w (ahv aA w q Y X l):=by
 have HA:=az (pl.cu h m);rw[ht]at HA;have e7:w.cell? ⟨q,7,none⟩=some (.map (some Y.bd)):=h.obj.cell 7;have e0:w.cell? ⟨q,0,none⟩=some (ptr Y.f):=h.obj.cell 0;have L:=h.Zf m;rw[hd]at L;have bK:=az (ft.Read_full hF hx m hm);have HST:Hid ((X.view.read m).2.still=X.view.still):=az (FP.KF _ _);have H:=az h;have ahw:=az OZ;have jS:=az hs;have HRR:=az hr.2.2;have hmk:∀w:acL,(Instr.makeSlice 23 (.int .i64 64) (.int .i64 64)).run prog w=.ok (aco (some ⟨w.heap.size,0,none⟩) 64 64) (w.alloc (ach (madeCells #[vb 0] 64) 5)):=λw=>gp 64 aa w
 have w1:IntKind.u32.wrap (m:Int)=m:=by simp only[IntKind.wrap,IntKind.bits,IntKind.signed];simp;omega
 clear h hF ht hd hr OZ hs;generalize X.view.read m=r at*;obtain⟨⟨rl,rn⟩,rF⟩:=r;generalize ((MP.get Y.D m).map λv=>v).getD (aco none 0 0)=v0 at*;go_in;go_wp2_with fail;refine HA.o.mono ?_;rintro e w' ⟨rfl,rfl⟩;go_wp2_with fail;refine bK.o.mono ?_;rintro e w2 ⟨va,X',rfl,ho,hrd,hv,hsub,hrw⟩;have HRW:=az hrw;have adC:=az hsub;have HG:=az hrd.goes;have HV:=az hv;have HO:=az ho;have H2:=az (H.o.aJ hrd.goes.aJ ahw.o);have d5:w2.cell? ⟨q,5,none⟩=some (.int .i64 64):=by
  have h:=H2.o.obj.cell 5;change w2.cell? ⟨q,5,none⟩=some (vi Y.sz) at h;rwa[jS.o]at h
 clear hrd hv e7 e0 L ho hsub hrw;rcases HRR.o with⟨h1,h2⟩|h1
 ·injection h1 with h1 h3;try dsimp only at h1 h3
  subst h3 h2;clear h1;go_wp2;go_ret2;have hb:acN w2.heap.size w2 (w2.alloc (ach (madeCells #[vb 0] 64) 5)):=ax;exact⟨w2,X',_,rfl,(xz w2 64 ag).more HG.o.aJ.size,HG.o,by rw[HV.o];exact HST.o,H2.o,hb,adC.o,HRW.o.old hb⟩
 injection h1 with h1 h3;try dsimp only at h1 h3
 subst h3 h1;go_wp2;go_ret2;exact⟨w2,X',va,rfl,HO.o,HG.o,by rw[HV.o];exact HST.o,H2.o,ak,adC.o,HRW.o⟩
def sS (h:PQ aA w q K p)(n:Nat)(hn:n<=1000000)(ht:p.there n=true):ac4 prog 34 #[ptr q,vi n] w (aaK aA w q K p n):=by
 have hlen:=h.len n ht;obtain⟨Y,X,h,rfl⟩:=h;rcases h.rows n with⟨h1,h2⟩|⟨g,c,l,h1,h2,h3,h4,h5,h6⟩;have hz:p.get n=p.B n:=by unfold Po.get;rw[h2];rfl
 rw[hz]at hlen;refine(OY h.pl h.ft h.fit h.OT n aa (by rw[h.mM];exact ht) (by unfold MP.has;rw[h1];rfl) h.lay.2.2.2.2 (p.B n) (h.holds n ht (by unfold MP.has;rw[h2];rfl))).mono ?_;rintro e w' ⟨w1,X',v,rfl,ho,hg,hv,hp,hb,hsub,hrw⟩;obtain⟨g',c',rfl,hg',hc,hc'⟩:=oF ho aa;rw[hlen.1]at hc ho ⊢;have hlo:∀m,X.foot Y.f m->Loose aA w m:=h.ft.loose;have hat:iy aA w1 q Y X' p:=⟨hp,hg.at_,by
  have h1:=h.fit
  exact fit_still h1 hv,λm e e2=>by
  rcases hg.foot m e2 with e3|e3
  exact h.OT m e e3
  have:=h.pl.lt m e;omega,h.low,h.lay,h.used,λm=>(h.rows m).aJ hg.aJ hlo,λm h1 h2=>(h.holds m h1 h2).still hv,h.ok,h.ok.gs _ _ hv h.gh⟩
 refine⟨foot Y X',g',c',rfl,by rw[hz];exact ho,hg',hc,hc',⟨(bG.mk ⟨Y,X',hat,rfl⟩ (hg.aJ.mono (λm _ e=>acm (acm e))) (λm e=>?_)).old hb,λm e=>?_,λc hc=>by rw[hc.uniq h.iN];exact hrw,⟨Y,X,h,rfl⟩⟩⟩;rcases e with e|e|e;exact ack (ack e);exact ack (acm (ack e));rcases hg.foot m e with e3|e3;exact ack (acm (acm e3));exact acm e3;rcases e with e|e|e;exact ack e;exact acm (ack e);exact acm (acm (hsub m e));have hg:p.get n=l:=by unfold Po.get;rw[h2];rfl
 refine(OX h n ht g c l h1 h3 h6.row).mono ?_;rintro e w' ⟨v,rfl,ho,hb⟩;obtain⟨g',c',rfl,hg',hc,hc'⟩:=oF ho aa;rw[h3]at hc ho ⊢;exact⟨_,g',c',rfl,by rw[hg];exact ho,hg',hc,hc',bM.aX ⟨Y,X,h,rfl⟩ hb⟩
end
section
variable{p:Po}
def kE {α:Type}(m:Mp α)(k:Int)(v:α)(j:Int):MP.has (MP.put m k v) j=if k=j then true else MP.has m j:=by
 unfold MP.has;rw[MP.get_put];by_cases e:k=j;rw[if_pos e,if_pos e];rfl;rw[if_neg e,if_neg e]
def jN {α:Type}{m:Mp α}(ok:MP.Ok m)(k j:Int):MP.has (MP.del m k) j=if k=j then false else MP.has m j:=by
 unfold MP.has;rw[MP.dO ok];by_cases e:k=j;rw[if_pos e,if_pos e];rfl;rw[if_neg e,if_neg e]
variable{n:Int}
def Po.cz :p.there n=true↔(1<=n/\n<=p.T)\/MP.has p.U n=true:=by
 unfold Po.there;simp
def Po.dF :p.given n=true↔p.T+1<=n/\n<=p.T+p.P:=by
 unfold Po.given;simp;omega
def Po.ok.put (h:p.ok)(ht:p.there n=true)(hl:l.length=64/\∀y∈l,y<256):(p.put n l).ok:=by
 refine⟨h.bI,h.MQ,MP.iJ h.V6 _ _,h.jf,λm hm=>?_,λm l' hm=>?_,h.gs⟩;change MP.has (MP.put p.M n l) m=true at hm;show p.there m=true;rw[kE]at hm;by_cases e:n=m;rw[<-e];exact ht;rw[if_neg e]at hm;exact h.Bp m hm;change MP.get (MP.put p.M n l) m=some l' at hm;rw[MP.get_put]at hm;by_cases e:n=m;rw[if_pos e]at hm;injection hm with hm;rw[<-hm];exact hl;rw[if_neg e]at hm;exact h.len m l' hm
def IL:zs.length=64/\∀y∈zs,y<256:=⟨by simp,λy hy=>by rw[List.eq_of_mem_replicate hy];decide⟩
def Po.ok.alloc (h:p.ok)(hg:p.given n=true):(p.alloc n).ok:=by
 refine⟨h.bI,MP.iJ h.MQ _ _,MP.iJ h.V6 _ _,λm hm=>?_,λm hm=>?_,λm l' hm=>?_,h.gs⟩;change MP.has (MP.put p.U n n) m=true at hm;show p.given m=true;rw[kE]at hm;by_cases e:n=m;rw[<-e];exact hg;rw[if_neg e]at hm;exact h.jf m hm;change MP.has (MP.put p.M n zs) m=true at hm;rw[Po.cz];show _\/MP.has (MP.put p.U n n) m=true;rw[kE]at hm ⊢;by_cases e:n=m;rw[if_pos e];exact acm rfl;rw[if_neg e]at hm ⊢;exact Po.cz.1 (h.Bp m hm);change MP.get (MP.put p.M n zs) m=some l' at hm;rw[MP.get_put]at hm;by_cases e:n=m;rw[if_pos e]at hm;injection hm with hm
 rw[<-hm];exact IL;rw[if_neg e]at hm;exact h.len m l' hm
def Po.ok.free (h:p.ok):(p.free n).ok:=by
 refine⟨h.bI,MP.jc h.MQ _,MP.jc h.V6 _,λm hm=>?_,λm hm=>?_,λm l' hm=>?_,h.gs⟩;change MP.has (MP.del p.U n) m=true at hm;show p.given m=true;rw[jN h.MQ]at hm;by_cases e:n=m;rw[if_pos e]at hm;cases hm;rw[if_neg e]at hm;exact h.jf m hm;change MP.has (MP.del p.M n) m=true at hm;rw[Po.cz];show _\/MP.has (MP.del p.U n) m=true;rw[jN h.V6]at hm;rw[jN h.MQ];by_cases e:n=m;rw[if_pos e]at hm;cases hm;rw[if_neg e]at hm ⊢;exact Po.cz.1 (h.Bp m hm);change MP.get (MP.del p.M n) m=some l' at hm;rw[MP.dO h.V6]at hm;by_cases e:n=m
 rw[if_pos e]at hm;cases hm;rw[if_neg e]at hm;exact h.len m l' hm
def vX:∀(m:Mp Int) (a b:Int),a<=b->m.Pairwise (λx y=>x.1<y.1)->(∀x∈m,a<=x.1/\x.1<b)->(m.length:Int)<=b-a
 |[],a,b,h,_,_=>by simp;omega
 |x::m,a,b,h,hp,hb=>by
  obtain⟨h1,h2⟩:=List.pairwise_cons.1 hp
  have hx:=hb x ai
  have:=vX m (x.1+1) b aa h2 (λy hy=>⟨by have:=h1 y hy;omega,(hb y (List.mem_cons_of_mem _ hy)).2⟩)
  simp only[adV]
  omega
def Po.ok.W9 (h:p.ok):(p.U.length:Int)<=p.P:=by
 have hd:=h.bI;have:=vX p.U (p.T+1) (p.T+1+p.P) aa h.MQ (λx hx=>by
  have hg:=h.jf x.1 (by unfold MP.has;rw[MP.dR h.MQ hx];rfl)
  rw[Po.dF]at hg
  omega)
 omega
def full_len:∀(k:Nat) (m:Mp Int) (a:Int),MP.Ok m->(∀i:Nat,i<k->MP.has m (a+i)=true)->k<=m.length:=by
 intro k;induction k with
 |zero=>intro m a _ _;exact Nat.zero_le _
 |succ k ih =>
  intro m a hm h;have hk:=h k (Nat.lt_succ_self k);cases hg:MP.get m (a+k) with
  |none=>unfold MP.has at hk;rw[hg]at hk;cases hk
  |some v =>
   have h1:=MP.o8 hg;have h2:=ih (MP.del m (a+k)) a (MP.jc hm _) (λi hi=>by
    rw[jN hm,if_neg aa]
    exact h i (Nat.lt_succ_of_lt hi))
   omega
def firstFrom (U:Mp Int):Nat->Int->Int
 |0,n=>n
 |k+1,n=>if MP.has U n=true then firstFrom U k (n+1) else n
def Po.first (p:Po):Int:=firstFrom p.U p.P.toNat (p.T+1)
def firstFrom_spec (U:Mp Int):∀(k:Nat) (n:Int),n<=firstFrom U k n/\firstFrom U k n<=n+k/\(∀m,n<=m->m<firstFrom U k n->MP.has U m=true)/\(firstFrom U k n<n+k->MP.has U (firstFrom U k n)=false)
 |0,n=>⟨Int.le_refl _,by simp[firstFrom],λm h1 h2=>by simp[firstFrom]at h2;omega,λh=>by simp[firstFrom]at h⟩
 |k+1,n=>by
  unfold firstFrom
  by_cases h:MP.has U n=true
  rw[if_pos h]
  obtain⟨h1,h2,h3,h4⟩:=firstFrom_spec U k (n+1)
  refine⟨aa,by push_cast;omega,λm h5 h6=>?_,λh5=>h4 (by push_cast at h5;omega)⟩
  by_cases e:m=n
  rw[e];exact h
  exact h3 m aa h6
  rw[if_neg h]
  refine⟨Int.le_refl _,by push_cast;omega,λm h5 h6=>aa,λ_=>by simpa using h⟩
def Po.ok.first (h:p.ok)(hr:0<p.aK):p.given p.first=true/\MP.has p.U p.first=false/\(∀m,p.T+1<=m->m<p.first->MP.has p.U m=true):=by
 obtain⟨h1,h2,h3,h4⟩:=firstFrom_spec p.U p.P.toNat (p.T+1);have hd:=h.bI;have hlt:p.first<p.T+1+p.P.toNat:=by
  rcases Int.lt_or_le p.first (p.T+1+p.P.toNat) with e|e;exact e;have he:firstFrom p.U p.P.toNat (p.T+1)=p.T+1+p.P.toNat:=by unfold Po.first at e;omega
  have:=full_len p.P.toNat p.U (p.T+1) h.MQ (λi hi=>h3 _ aa (by rw[he];omega));unfold Po.aK at hr;omega
 refine⟨Po.dF.2 ⟨h1,by unfold Po.first at hlt;unfold Po.first;omega⟩,h4 hlt,h3⟩
end
section
variable{F:Nat->Prop}{q:Nat}{Y:Bi}{X:dm}{p:Po}{K:Nat->Prop}
def iy.go (h:iy aA w q Y X p){U:Mp Int}{D:Mp acK}(g:aP (λn=>n=Y.bu\/n=Y.bd) w w')(hp:fE w' q {Y with U:=U,D:=D}){M:Mp (List Nat)}(hr:∀n,iM aA w' D M n)
  (hh:∀n:Nat,(Po.mk p.T p.P p.I U M p.B p.G).there n=true->MP.has M n=false->Has X.view n (p.B n)) (hok:(Po.mk p.T p.P p.I U M p.B p.G).ok) :
  bG aA w q (foot Y X) w' (foot Y X) ⟨p.T,p.P,p.I,U,M,p.B,p.G⟩:=by
 have hl:∀n,(n=Y.bu\/n=Y.bd)->Loose aA w n:=by
  intro n e;rcases e with e|e;exact h.loose n (ack e);exact h.loose n (acm (ack e))
 refine⟨⟨{Y with U:=U,D:=D},X,⟨hp,h.ft.aJ g hl (λn e e2=>?_),h.fit,h.OT,h.low,h.lay,rfl,hr,hh,hok,h.gh⟩,rfl⟩,g.mono (λn _ e=>?_),λn e=>ack e⟩;rcases e2 with e2|e2;exact h.OT n (acm (ack e2)) e;exact h.OT n (acm (acm e2)) e;rcases e with e|e;exact ack e;exact acm (ack e)
def iy.IM (h:iy aA w q Y X p)(g:aP (λn=>n=Y.bu\/n=Y.bd) w w'){n:Int}{a c:Nat}(hl:l.length=64)(hc:64<=c/\c<=maxLen)(hr:dx aA w' (some ⟨a,0,none⟩) l) :
  ∀m,iM aA w' (MP.put Y.D n (aco (some ⟨a,0,none⟩) 64 c)) (MP.put p.M n l) m:=by
 intro m;unfold iM;simp only[MP.get_put];by_cases e:n=m;rw[if_pos e,if_pos e];exact acm ⟨a,c,l,rfl,rfl,hl,hc.1,hc.2,hr⟩;rw[if_neg e,if_neg e];refine(h.rows m).aJ g (λn e=>?_);rcases e with e|e;exact h.loose n (ack e);exact h.loose n (acm (ack e))
def iy.Ti (h:iy aA w q Y X p)(g:aP (λn=>n=Y.bu\/n=Y.bd) w w')(n:Int):∀m,iM aA w' (MP.del Y.D n) (MP.del p.M n) m:=by
 intro m;unfold iM;rw[MP.dO h.pl.iI.ok,MP.dO h.ok.V6];by_cases e:n=m;rw[if_pos e,if_pos e];exact ack ⟨rfl,rfl⟩;rw[if_neg e,if_neg e];refine(h.rows m).aJ g (λn e=>?_);rcases e with e|e;exact h.loose n (ack e);exact h.loose n (acm (ack e))
def FH (h:PQ aA w q K p)(n:Int)(ht:p.there n=true)(a:Option Addr)(c:Nat)(l:List Nat)(hr:bE w a l)(hl:l.length=64) :
  ac4 prog 35 #[ptr q,vi n,aco a 64 c] w λe w'=>e=ab4 (vi 0)/\bG aA w q K w' K (p.put n l):=by
 obtain⟨Y,X,h,rfl⟩:=h;have HA:=az (pl.cu h.pl n);rw[h.mM,ht]at HA;have e5:w.cell? ⟨q,5,none⟩=some (vi 64):=by have e:=h.pl.obj.cell 5;change w.cell? ⟨q,5,none⟩=some (vi Y.sz) at e;rwa[h.lay.2.2.2.2]at e
 have e7:w.cell? ⟨q,7,none⟩=some (.map (some Y.bd)):=h.pl.obj.cell 7;have H:=az h;have FE:Hid (∀W,acN w.heap.size w W->ac4 prog 63 #[aco a 64 c] W λe w'=>∃v',e=ab4 v'/\Own w' W.heap.size v' l/\acN W.heap.size W w'):=az (λW hb=>by
  have h:=jr a l c W (hr.below hb) (by rw[hl];decide)
  rwa[hl]at h)
 have lX:=az hr.small;have HL:=az hl;have Xa:=az ht;have HK:Hid (∀W,acN w.heap.size w W->W.cell? ⟨q,7,none⟩=some (.map (some Y.bd))):=az (λW hb=>(h.pl.old hb).obj.cell 7);have HB0:Hid (acN w.heap.size w w):=az ak;have nR:Hid (∀W,acN w.heap.size w W->acN w.heap.size w W.drew):=az (λW h=>h.drew);have HB2:Hid (∀W W':acL,acN W.heap.size W W'->acN w.heap.size w W->acN w.heap.size w W'):=az (λW W' q h=>h.trans (q.mono h.size));clear h ht hr hl;go_in;go_wp2_with fail;refine HA.o.mono ?_;rintro e w' ⟨rfl,rfl⟩;go_upto_region 6 with fail;clear e5 e7 HA
 go_region_held3 (λW=>W.cell? ⟨q,7,none⟩=some (.map (some Y.bd)))
  (first|assumption|exact HK.o _ (by repeat first|exact HB0.o|(refine HB2.o _ _ (by assumption) ?_)|(refine nR.o _ ?_)))
  (first|(go_at_call 63;refine(FE.o _ (by repeat first|exact HB0.o|(refine nR.o _ ?_))).mono ?_;rintro e w5 ⟨v5,rfl,jT,hb5⟩;obtain⟨g5,c5,rfl,hg5,JR,ahx⟩:=oF jT (by rw[HL.o];decide);rw[HL.o]at jT JR ⊢;obtain⟨w6,hu6,h6,uy⟩:=(H.o.pl.old (HB2.o _ _ hb5 (by repeat first|exact HB0.o|(refine nR.o _ ?_)))).ady n (aco (some ⟨g5,0,none⟩) 64 c5);have hup:(Instr.mapUpdate 94 (.map (some Y.bd)) (vi n) (aco (some ⟨g5,0,none⟩) 64 c5)).run prog w5=.ok () w6:=hu6.run;have hs6:w6.cell? ⟨q,7,none⟩=some (.map (some Y.bd)):=h6.obj.cell 7))
 all_goals
  have hbw:acN w'.heap.size w' w5:=HB2.o _ _ hb5 (nR.o _ HB0.o);have hc6:aP (λn=>n=Y.bu\/n=Y.bd) w' w6:=(aP.of_below hbw).grown uy (λk e=>by cases e;exact ack (acm rfl));obtain⟨a',c',he,hsr,_⟩:=jT.Db (aA:=aA) lX.o;injection he with he;subst he;have adD:dx aA w6 (some ⟨g5,0,none⟩) l:=hsr.fD (F:=λn=>n=Y.bd) ((aP.refl _ w5).grown uy (λk e=>by cases e;exact ack rfl)) (λn e=>by rw[e];exact Loose.map H.o.low.2.1 (H.o.pl.old hbw).iI);have HG:=az (H.o.go hc6 h6 (H.o.IM hc6 HL.o ⟨JR,ahx⟩ adD) (λm h1 h2=>by
   rw[kE]at h2
   by_cases e:n=m
   rw[if_pos e]at h2;cases h2
   rw[if_neg e]at h2
   rw[H.o.used]at h1
   exact H.o.holds m h1 h2) (by rw[H.o.used];exact H.o.ok.put Xa.o ⟨HL.o,lX.o⟩))
  rw[H.o.used]at HG;clear hbw hc6 hsr adD hup hs6 hu6 h6 uy jT hb5 FE HK HB0 nR HB2;go_wp2;go_ret;exact⟨rfl,HG.o⟩
def kR (h:PQ aA w q K p):ac4 prog 28 #[ptr q] w λe w'=>e=ab4 (vi 64)/\w'=w:=by
 obtain⟨Y,X,h,rfl⟩:=h;have e5:w.cell? ⟨q,5,none⟩=some (vi 64):=by have e:=h.pl.obj.cell 5;change w.cell? ⟨q,5,none⟩=some (vi Y.sz) at e;rwa[h.lay.2.2.2.2]at e
 clear h;go_in;go_wp2;go_ret;exact⟨rfl,rfl⟩
def fP (h:PQ aA w q K p):ac4 prog 21 #[ptr q] w λe w'=>e=ab4 (vi p.aK)/\acN w.heap.size w w':=by
 obtain⟨Y,X,h,rfl⟩:=h;have h1:=h.ok.W9;have h2:=h.ok.bI;exact pl.fP h.pl p.aK (by rw[h.lay.2.2.1,h.used];rfl) (by rw[h.lay.2.2.1,h.used];omega)
def mG (h:PQ aA w q K p)(n:Int)(ht:MP.has p.U n=true):ac4 prog 48 #[ptr q,vi n] w λe w'=>e=ab4 (vi 0)/\bG aA w q K w' K (p.free n):=by
 obtain⟨Y,X,h,rfl⟩:=h;have hg:=h.ok.jf n ht;have hd:=h.ok.bI;have hl:=h.lay;refine(pl.mG h.pl n (by rw[Po.dF]at hg;omega) (by
  unfold Bi.given;rw[hl.2.1,hl.2.2.1];exact hg) (by rw[h.mM];exact Po.cz.2 (acm ht))).mono ?_
 rintro e w' ⟨rfl,hp,hc⟩;have HG:=h.go hc hp (h.Ti hc n) (λm h1 h2=>by
  rw[h.used]at h1
  rw[jN h.ok.V6]at h2
  rw[Po.cz]at h1
  change (1<=(m:Int)/\(m:Int)<=p.T)\/MP.has (MP.del p.U n) m=true at h1
  rw[jN h.ok.MQ]at h1
  by_cases e:n=m
  rw[if_pos e]at h1
  rw[Po.dF]at hg
  rcases h1 with h1|h1
  omega
  cases h1
  rw[if_neg e]at h1 h2
  exact h.holds m (Po.cz.2 h1) h2) (by rw[h.used];exact h.ok.free)
 rw[h.used]at HG;exact⟨rfl,HG⟩
def Tj (h:fE w q Y)(n:Int)(hb:0<=Y.F/\Y.F<=20000)(hn:Y.F<=n/\n<=40000)(hg:∀m,Y.F<=m->m<=n->Y.given m=true)(ht:Y.there n=false)(hf:∀m,Y.F<=m->m<n->Y.there m=true)(hs:Y.sz=64)(hbd:aA<=Y.bd):ac4 prog 32 #[ptr q] w λe w' =>
  ∃g,e=ab4 (adg #[vi n,vi 0])/\fE w' q {Y with U:=MP.put Y.U n n,D:=MP.put Y.D n (aco (some ⟨g,0,none⟩) 64 64)}/\aP (λn=>n=Y.bu\/n=Y.bd) w w'/\dx aA w' (some ⟨g,0,none⟩) zs:=by
 have e2:w.cell? ⟨q,2,none⟩=some (vi Y.F):=h.obj.cell 2;have H:=az h;have HG:=az hg;have HF:=az hf;have jS:=az hs;have HT:=az ht;have HN:=az hn;have vJ:=az hb;have hmk:∀w:acL,(Instr.makeSlice 23 (.int .i64 64) (.int .i64 64)).run prog w=.ok (aco (some ⟨w.heap.size,0,none⟩) 64 64) (w.alloc (ach (madeCells #[vb 0] 64) 5)):=λw=>gp 64 aa w;clear h hg ht hs hf hn hb;go_in;go_wp2_with fail;clear e2;go_loopw [2,3,4] (λv2 v3 v wr=>∃m,v2=vi 0/\v3=vi 0/\v=vi m/\Y.F<=m/\m<=n/\acN w.heap.size w wr) (λ_ _ v _=>(n+1-intOf v).toNat)
 case atStart=>exact⟨Y.F,rfl,rfl,rfl,Int.le_refl _,HN.o.1,ak⟩
 case round =>
  obtain⟨m,rfl,rfl,rfl,hm1,hm2,hbw⟩:=hrel;have HM:=az (And.intro hm1 hm2);have uz:=az hbw;have HR:=az (H.o.old hbw);have O0:=az (pl.Ed HR.o m (by have:=vJ.o;have:=HN.o;omega));rw[HG.o m hm1 hm2]at O0;clear hm1 hm2 hbw;go_wp2_with fail;refine O0.o.mono ?_;rintro e w1 ⟨rfl,hb1⟩;have HB1:=az (uz.o.trans (hb1.mono uz.o.size));have H1:=az (HR.o.old hb1);have Xa:=az (pl.dP H1.o m);clear hb1 O0 HR uz;by_cases Zh:m=n
  ·subst Zh;rw[HT.o]at Xa;go_wp2_with fail;refine Xa.o.mono ?_;rintro e w2 ⟨rfl,rfl⟩;obtain⟨w3,hu,h3,hg3⟩:=H1.o.ahn m m;have HU:=az hu;have H3:=az h3;have Ij:Hid (aP (λn=>n=Y.bu\/n=Y.bd) w w3):=az ((aP.of_below HB1.o).grown hg3 (λk e=>by cases e;exact ack (ack rfl)));have e6:w2.cell? ⟨q,6,none⟩=some (.map (some Y.bu)):=H1.o.obj.cell 6;clear hu h3 hg3;go_upto_region 7 with fail;go_wp2_with (at_mapUpdate;refine gP rfl (.tmp 24) (.tmp 25) (.tmp 26) rfl rfl rfl rfl HU.o.run ?_);clear e6 HU Xa HG;go_frame;have d7:w3.cell? ⟨q,7,none⟩=some (.map (some Y.bd)):=H3.o.obj.cell 7
   have d5:w3.cell? ⟨q,5,none⟩=some (.int .i64 64):=by
    have h:=H3.o.obj.cell 5;change w3.cell? ⟨q,5,none⟩=some (vi Y.sz) at h;rwa[jS.o]at h
   have hb4:acN w3.heap.size w3 (w3.drew.alloc (ach (madeCells #[vb 0] 64) 5)):=au.alloc aj _;obtain⟨w5,hu5,h5,hg5⟩:=(H3.o.old hb4).ady m (aco (some ⟨w3.heap.size,0,none⟩) 64 64);have hup:(Instr.mapUpdate 94 (.map (some Y.bd)) (vi m) (aco (some ⟨w3.heap.size,0,none⟩) 64 64)).run prog ((w3.alloc (ach (madeCells #[vb 0] 64) 5)).drew)=.ok () w5:=hu5.run;have H5:=az h5;have HZ:Hid (dx aA w5 (some ⟨w3.heap.size,0,none⟩) zs):=az ((mK (aA:=aA) w3.drew 64).fD (F:=λn=>n=Y.bd) ((aP.refl _ _).grown hg5 (λk e=>by cases e;exact ack rfl)) (λn e=>by rw[e];exact Loose.map hbd (H3.o.old hb4).iI))
   have HC5:Hid (aP (λn=>n=Y.bu\/n=Y.bd) w w5):=az ((Ij.o.below hb4).grown hg5 (λk e=>by cases e;exact ack (acm rfl)));have fV:Hid (w3.drew.cell? ⟨q,7,none⟩=some (.map (some Y.bd))/\w3.drew.cell? ⟨q,5,none⟩=some (.int .i64 64)):=az ⟨d7,d5⟩;have HS2:Hid (((w3.alloc (ach (madeCells #[vb 0] 64) 5)).drew).cell? ⟨q,7,none⟩=some (.map (some Y.bd))/\((w3.alloc (ach (madeCells #[vb 0] 64) 5)).drew).cell? ⟨q,5,none⟩=some (.int .i64 64)):=az ⟨cell_below d7 hb4,cell_below d5 hb4⟩;have GL:Hid (w5.cell? ⟨q,7,none⟩=some (.map (some Y.bd))/\w5.cell? ⟨q,5,none⟩=some (.int .i64 64)):=az ⟨h5.obj.cell 7,by
    have h:=h5.obj.cell 5
    change w5.cell? ⟨q,5,none⟩=some (vi Y.sz) at h
    rwa[jS.o]at h⟩
   clear hu5 h5 hg5 hb4 Ij H3;go_region_held3 (λW=>W.cell? ⟨q,7,none⟩=some (.map (some Y.bd))/\W.cell? ⟨q,5,none⟩=some (.int .i64 64))
    (first|exact fV.o|exact HS2.o|exact GL.o)
    (fail)
   go_wp2;go_ret2;exact⟨rfl,⟨_,H5.o,HC5.o,HZ.o⟩⟩
  rw[HF.o m HM.o.1 (by have:=HM.o;omega)]at Xa;go_wp2_with fail;refine Xa.o.mono ?_;rintro e w2 ⟨rfl,rfl⟩;have l1:adk.wrap (m+1)=m+1:=by
   have:=vJ.o;have:=HN.o;have:=HM.o;exact adl _ aa
  go_wp2;go_roundw
  case rel=>exact⟨m+1,rfl,rfl,rfl,by have:=HM.o;omega,by have:=HM.o;omega,HB1.o⟩
  case measure =>
   have:=HM.o;simp[intOf];omega
def Ef (h:PQ aA w q K p)(hr:0<p.aK):ac4 prog 32 #[ptr q] w λe w'=>e=ab4 (adg #[vi p.first,vi 0])/\bG aA w q K w' K (p.alloc p.first):=by
 obtain⟨Y,X,h,rfl⟩:=h;obtain⟨h1,h2,h3⟩:=h.ok.first hr;have hd:=h.ok.bI;have hl:=h.lay;have hg:=Po.dF.1 h1;refine(Tj h.pl p.first aa aa (λm h4 h5=>?_) (by
  rw[h.mM]
  cases e:p.there p.first with
  |false=>rfl
  |true =>
   rcases Po.cz.1 e with e|e
   omega
   rw[h2]at e;cases e) (λm h4 h5=>?_) hl.2.2.2.2 h.low.2.1).mono ?_
 have:p.given m=true:=Po.dF.2 aa;unfold Bi.given;rw[hl.2.1,hl.2.2.1];exact this;rw[h.mM];exact Po.cz.2 (acm (h3 m aa h5));rintro e w' ⟨g,rfl,hp,hc,hr'⟩;have HG:=h.go hc hp (h.IM hc ai ⟨aj,ag⟩ hr') (λm h4 h5=>by
  rw[kE]at h5
  by_cases e:p.first=m
  rw[if_pos e]at h5;cases h5
  rw[if_neg e]at h5
  rw[h.used,Po.cz]at h4
  change (1<=(m:Int)/\(m:Int)<=p.T)\/MP.has (MP.put p.U p.first p.first) m=true at h4
  rw[kE,if_neg e]at h4
  exact h.holds m (Po.cz.2 h4) h5) (by rw[h.used];exact h.ok.alloc h1)
 rw[h.used]at HG;exact⟨rfl,HG⟩
end
end po
namespace PI
def two (b:List Nat)(k:Nat):Nat:=b.getD (2*k) 0+256*b.getD (2*k+1) 0
def point (b:List Nat)(k v:Nat):List Nat:=(b.set (2*k) (v%256)).set (2*k+1) (v/256)
def xJ (b:List Nat)(k v:Nat):(point b k v).length=b.length:=by unfold point;simp
def rM {b:List Nat}{v:Nat}(h:∀y∈b,y<256)(ht:v<8192):∀y∈point b k v,y<256:=by
 intro y hy;unfold point at hy;rcases List.mem_or_eq_of_mem_set hy with hy|hy;rcases List.mem_or_eq_of_mem_set hy with hy|hy;exact h y hy;omega;omega
def O1 {b:List Nat}{v:Nat}(hb:b.length=64)(hk:k<32)(j:Nat):two (point b k v) j=if j=k then v else two b j:=by
 unfold two point;simp only[List.getD_eq_getElem?_getD,List.getElem?_set,List.length_set,hb];by_cases e:j=k;subst e;rw[if_neg aa,if_pos rfl,if_pos aa,if_pos rfl,if_pos aa,if_pos rfl];simp;omega;rw[if_neg aa,if_neg aa,if_neg aa,if_neg aa,if_neg e]
end PI
namespace ino
open RowKit
def aaM (a b:Nat)(ha:a<65536)(hb:b<65536):bits .or .i64 (a:Int) (b:Int)=((a ||| b:Nat):Int):=by
 have h1:a ||| b<65536:=Nat.or_lt_two_pow (n:=16) ha hb;have h2:(BitVec.ofInt 64 (a:Int) ||| BitVec.ofInt 64 (b:Int)).toNat=a ||| b:=by
  rw[BitVec.toNat_or,BitVec.ofInt_natCast,BitVec.ofInt_natCast,BitVec.toNat_ofNat,BitVec.toNat_ofNat,Nat.mod_eq_of_lt aa,Nat.mod_eq_of_lt aa]
 show adk.wrap ((BitVec.ofInt 64 (a:Int) ||| BitVec.ofInt 64 (b:Int)).toNat:Int)=_;rw[h2];exact adl _ aa
def MR (x y:Nat)(hx:x<256)(hy:y<256):bits .or .i64 (x:Int) ((y:Int)*256)=((x+256*y:Nat):Int):=by
 rw[show (y:Int)*256=((y*256:Nat):Int) by simp,aaM _ _ aa aa,Nat.or_comm,nat_join 8 (y*256) x aa aa];congr 1;omega
def MS (n:Nat)(hn:n<8192):ac4 prog 129 #[vi n] w λe w'=>e=ab4 (acg true)/\w'=w:=by
 have c1:(0:Int)<=(n:Int):=aa;have c2:(n:Int)<8192:=aa;go_in;go_wp2;go_ret;exact⟨rfl,rfl⟩
def uR (a:Option Addr)(c k:Nat)(hk:k<32):ac4 prog 128 #[aco a 64 c,vi k] w λe w'=>e=ab4 (acg true)/\w'=w:=by
 have c1:(0:Int)<=(k:Int):=aa;have c2:(k:Int)<32:=aa;go_in;go_wp2_with fail;refine oD.mono ?_;rintro e w' ⟨rfl,rfl⟩;go_wp2;go_ret;exact⟨rfl,rfl⟩
def IP (a:Option Addr)(c:Nat):ac4 prog 128 #[aco a 64 c,vi 32] w λe w'=>e=ab4 (acg false)/\w'=w:=by
 go_in;go_wp2_with fail;refine oD.mono ?_;rintro e w' ⟨rfl,rfl⟩;go_wp2;go_ret;exact⟨rfl,rfl⟩
def IQ (g c k:Nat)(l:List Nat)(hr:bE w (some ⟨g,0,none⟩) l)(hl:l.length=64)(hk:k<32)(hv:PI.two l k<8192):ac4 prog 96 #[aco (some ⟨g,0,none⟩) 64 c,vi k] w λe w'=>e=ab4 (adg #[vi (PI.two l k),vi 0])/\acN w.heap.size w w':=by
 obtain⟨g0,o0,e0,h0,hx⟩:=hr.lookup (k:=2*k) aa;obtain⟨g1,o1,e1,h1,hy⟩:=hr.lookup (k:=2*k+1) aa;injection e0 with e0;injection e0 with e0 e0';injection e1 with e1;injection e1 with e1 e1';subst e0 e0' e1 e1';rw[Nat.zero_add]at h0 h1;have HO:=az (MR _ _ hx hy);have HV:Hid (PI.two l k=l.getD (2*k) 0+256*l.getD (2*k+1) 0):=az rfl;rw[HV.o]at hv ⊢;generalize l.getD (2*k) 0=x at*;generalize l.getD (2*k+1) 0=y at*;have HP:=az (MS (w:=w.drew) (x+256*y) hv);clear hr hl hv;have l1:adk.wrap (2*(k:Int))=((2*k:Nat):Int):=by rw[adl _ aa];omega
 have l2:adk.wrap (((2*k:Nat):Int)+1)=((2*k+1:Nat):Int):=by rw[adl _ aa];omega
 go_in;go_wp2_with fail;refine(uR _ _ k hk).mono ?_;rintro e w' ⟨rfl,rfl⟩;go_wp2_with fail;go_region;rw[HO.o];clear HO h0 h1;go_wp2_with fail;refine HP.o.mono ?_;rintro e w2 ⟨rfl,rfl⟩;go_wp2;go_ret2;exact⟨rfl,au⟩
def O3 (a:Option Addr)(c k t:Nat)(l:List Nat)(hr:bE w a l)(hl:l.length=64)(hk:k<32)(ht:t<8192):ac4 prog 97 #[aco a 64 c,vi k,vi t] w λe w'=>∃v,e=ab4 (adg #[v,vi 0])/\Own w' w.heap.size v (PI.point l k t)/\acN w.heap.size w w':=by
 have FE:Hid (∀W,acN w.heap.size w W->ac4 prog 63 #[aco a 64 c] W λe w'=>∃v',e=ab4 v'/\Own w' W.heap.size v' l/\acN W.heap.size W w'):=az (λW hb=>by
  have h:=jr a l c W (hr.below hb) (by rw[hl];decide)
  rwa[hl]at h)
 have HL:=az hl;have Bq:Hid (PI.point l k t=(l.set (2*k) (t%256)).set (2*k+1) (t/256)):=az rfl;have Tk:=az (MS (w:=w) t ht);clear hr hl;have l1:adk.wrap (2*(k:Int))=((2*k:Nat):Int):=by rw[adl _ aa];omega
 have l2:adk.wrap (((2*k:Nat):Int)+1)=((2*k+1:Nat):Int):=by rw[adl _ aa];omega
 go_in;go_wp2_with fail;refine(uR _ _ k hk).mono ?_;rintro e w' ⟨rfl,rfl⟩;go_wp2_with fail;refine Tk.o.mono ?_;rintro e w' ⟨rfl,rfl⟩;go_wp2_with fail;refine(FE.o _ ak).mono ?_;rintro e w2 ⟨v2,rfl,ho,hb⟩;obtain⟨g,c2,rfl,hg,hc2,_⟩:=oF ho (by rw[HL.o];decide);rw[HL.o]at ho hc2 ⊢;have r0:=mH ho HL.o.symm (j:=2*k) aa;have f0:=jd ho HL.o.symm (2*k);have r1:=mH ho HL.o.symm (j:=2*k+1) aa;have f1:=jd ho HL.o.symm (2*k+1);have HO:=az ho;have HB:=az hb;have HG:=az hg;clear ho hb hg FE;go_wp2;go_ret2;have h1:=o9 HO.o HL.o.symm (2*k) (t%256)
 have h2:=o9 h1 (by rw[List.length_set];exact HL.o.symm) (2*k+1) (t/256);exact⟨_,rfl,by rw[Bq.o];exact h2,(HB.o.setCell (p:=⟨g,2*k,none⟩) HG.o _).setCell (p:=⟨g,2*k+1,none⟩) HG.o _⟩
end ino
namespace PI
def ptrsTo (l:List Nat):Nat->List (Nat×Nat)
 |0=>[]
 |j+1=>ptrsTo l j++(if two l j=0 then [] else [(j,two l j)])
abbrev ptrs (l:List Nat):List (Nat×Nat):=ptrsTo l 32
variable{j:Nat}
def KG (l:List Nat){i:Nat}(h:i<=j):∃r,ptrsTo l j=ptrsTo l i++r:=by
 induction j with
 |zero=>exact⟨[],by rw[show i=0 by omega];rfl⟩
 |succ j ih =>
  by_cases e:i=j+1;exact⟨[],by rw[e,List.append_nil]⟩;obtain⟨r,hr⟩:=ih aa;exact⟨r++(if two l j=0 then [] else [(j,two l j)]),by rw[<-List.append_assoc,<-hr];rfl⟩
def uS (l:List Nat)(j:Nat):(ptrsTo l j).length<=j:=by
 induction j with
 |zero=>exact aj
 |succ j ih =>
  unfold ptrsTo;rw[List.length_append];split<;>simp<;>omega
def MU (l:List Nat)(hj:j<32)(h:two l j≠0):(ptrsTo l j).length<(ptrs l).length/\(ptrs l)[(ptrsTo l j).length]?=some (j,two l j)/\(ptrsTo l (j+1)).length=(ptrsTo l j).length+1:=by
 obtain⟨r,hr⟩:=KG l (i:=j+1) (j:=32) aa;have h1:ptrsTo l (j+1)=ptrsTo l j++[(j,two l j)]:=by
  show ptrsTo l j++(if two l j=0 then [] else [(j,two l j)])=_;rw[if_neg h]
 have h2:ptrs l=ptrsTo l j++((j,two l j)::r):=by
  show ptrsTo l 32=_;rw[hr,h1,List.append_assoc];rfl
 refine⟨by rw[h2,List.length_append,adV];omega,?_,by rw[h1,List.length_append];rfl⟩;rw[h2,List.getElem?_append_right aj,Nat.sub_self];rfl
def Eg (l:List Nat)(h:two l j=0):ptrsTo l (j+1)=ptrsTo l j:=by
 show ptrsTo l j++(if two l j=0 then [] else [(j,two l j)])=_;rw[if_pos h,List.append_nil]
def Br (l:List Nat)(n:Nat){x:Nat×Nat}(h:x∈ptrsTo l n):x.1<n/\x.2=two l x.1/\x.2≠0:=by
 induction n with
 |zero=>cases h
 |succ n ih =>
  unfold ptrsTo at h;rcases List.mem_append.1 h with h|h;have:=ih h;exact⟨aa,this.2⟩;split at h;cases h;rename_i h0;rw[List.mem_singleton]at h;subst h;exact⟨Nat.lt_succ_self _,rfl,h0⟩
end PI
namespace ino
open RowKit
attribute [local go_sem] agh
abbrev Xb (l:List (Nat×Nat))(x:Fin l.length):Array acK:=#[vi ((l[x.1]).1:Int),vi ((l[x.1]).2:Int)]
def fin_take {n j:Nat}(h:j<n):(adK n).take (j+1)=(adK n).take j++[⟨j,h⟩]:=by
 rw[List.take_succ_eq_append_getElem (by rw[List.length_finRange];exact h),List.getElem_finRange];rfl
def lN (b g:Nat)(W W':acL):Prop:=aP (λm=>m≠b/\m≠g) W W'
variable{g:Nat}
def lN.t {b:Nat}{A B C:acL}(h:lN b g A B)(k:lN b g B C):lN b g A C:=aP.trans h k (λ_ _ e=>e)
def lN.b {b m:Nat}(hb:b<m)(hg:g<m)(W:acL)(l:Nat)(o o':Obj)(hl:m<=l)(h:W.heap[l]?=some o):lN b g W (W.putObj l o') :=
 (aP.refl _ W).grown (grownBy_putObj' W l o') (λk e=>by cases e;exact ack ⟨aa,aa⟩)
def lN.row {b:Nat}{W W':acL}{l:List Nat}(h:lN b g W W')(hr:bE W (some ⟨g,0,none⟩) l):bE W' (some ⟨g,0,none⟩) l:=by
 refine⟨hr.small,?_⟩;rcases hr.at_ with h0|⟨b',o',he,h1⟩;exact ack h0;injection he with he;injection he with hb ho;subst hb ho;exact acm ⟨g,0,rfl,λi hi=>h.cell (h1 i hi) (λe=>e.2 rfl)⟩
def lN.box {b:Nat}{W W':acL}{v:acK}(h:lN b g W W')(hc:W.cell? ⟨b,0,none⟩=some v):W'.cell? ⟨b,0,none⟩=some v:=h.cell hc (λe=>e.1 rfl)
def Xc {β:Type}{B:Nat}{J:β->acL->Prop}(hJ:AbidesFrom B J){s:β}(hs:J s w)(h:acN w.heap.size w w'):J s w' :=
 hJ s w w' none hs ⟨h.os,h.tape,h.output,h.size,λk hk _=>h.block k hk⟩ (λr e=>by cases e)
def vY (a:Option Addr)(n c:Nat):ac4 prog 98 #[aco a n c] w λe w'=>e=ab4 (.func (.func 130) #[] #[adj (some ⟨w.heap.size,0,none⟩)])/\w'=w.alloc (ach #[aco a n c] 23):=by
 go_in;go_wp2;go_ret;exact⟨rfl,rfl⟩
def uA (n:Nat)(hn:1<=n)(b1 g c:Nat)(l:List Nat)(h1:w.cell? ⟨b1,0,none⟩=some (aco (some ⟨g,0,none⟩) 64 c))(hr:bE w (some ⟨g,0,none⟩) l)(hl:l.length=64) :
  SeqStopsK Fence.wide n prog 130 #[adj (some ⟨b1,0,none⟩)] (Xb (PI.ptrs l)) (lN b1 g) (λxs=>xs=adK _) (λxs=>∃j,xs=(adK _).take j) 33 w:=by
 intro ll J Jx W hW hJ hJx hY h0;have HC:=az (cell_below h1 hW);have HR:=az (hr.below hW);have HL:=az hl;have HY:=az hY;have HJ:=az hJ;have FI:Hid (J ((adK (PI.ptrs l).length).take (PI.ptrsTo l 0).length) W):=az h0;clear hY hJ hJx h1 h0 hr hW hl;refine callsIn_of_wp func130 rfl trivial ?_ rfl;simp only[ntmps130,List.size_toArray,adV,List.length_nil,Nat.reduceAdd,Nat.reduceSub,Array.replicate_succ,Array.replicate_zero,List.push_toArray,List.append_toArray,List.nil_append,List.cons_append];gi_wp2;gi_loopw [3] (λv wr=>∃j:Nat,v=vi j/\j<=32/\Hid (J ((adK (PI.ptrs l).length).take (PI.ptrsTo l j).length) wr)/\Hid (wr.cell? ⟨b1,0,none⟩=some (aco (some ⟨g,0,none⟩) 64 c))/\Hid (bE wr (some ⟨g,0,none⟩) l)) (λv _=>32-(intOf v).toNat)
 case atStart=>exact⟨0,rfl,ag,FI,HC,HR⟩
 case round =>
  clear FI HC HR;obtain⟨j,rfl,hj,HJS,HC,HR⟩:=hrel;have c1:=HC.o;by_cases hlt:j<32
  ·gi_wp2;refine⟨trivial,?_⟩;refine(callsIn_wide.2 (uR _ _ j hlt)).mono ?_;rintro e w2 ⟨rfl,rfl⟩;obtain⟨g0,o0,e0,d0,hx⟩:=HR.o.lookup (k:=2*j) (by rw[HL.o];omega);obtain⟨g1,o1,e1,d1,hy⟩:=HR.o.lookup (k:=2*j+1) (by rw[HL.o];omega);injection e0 with e0;injection e0 with e0 e0';injection e1 with e1;injection e1 with e1 e1';subst e0 e0' e1 e1';rw[Nat.zero_add]at d0 d1;have HO:=az (MR _ _ hx hy);have HV:Hid (PI.two l j=l.getD (2*j) 0+256*l.getD (2*j+1) 0):=az rfl;rw[<-HV.o]at HO;generalize l.getD (2*j) 0=x at*;generalize l.getD (2*j+1) 0=y at*;have l1:adk.wrap (2*(j:Int))=((2*j:Nat):Int):=by rw[adl _ aa];omega
   have l2:adk.wrap (((2*j:Nat):Int)+1)=((2*j+1:Nat):Int):=by rw[adl _ aa];omega
   have l3:adk.wrap ((j:Int)+1)=((j+1:Nat):Int):=by rw[adl _ aa];omega
   gi_wp2;gi_region;rw[HO.o];clear d0 d1 HO HV hx hy;have QV:Hid (J ((adK (PI.ptrs l).length).take (PI.ptrsTo l j).length) w2.drew):=az (Xc HJ.o HJS.o au);have Ij:Hid (w2.drew.cell? ⟨b1,0,none⟩=some (aco (some ⟨g,0,none⟩) 64 c)):=az HC.o;have HR3:Hid (bE w2.drew (some ⟨g,0,none⟩) l):=az (HR.o.below au);clear HJS HC HR c1;by_cases hz:PI.two l j=0
   ·have HSK:=az (PI.Eg l hz);have hz':((PI.two l j:Nat):Int)=0:=aa;rw[hz'];clear hz hz';gi_wp2;refine⟨λf h=>(by cases h),?_⟩;gi_wp2;go_roundw
    case rel=>exact⟨j+1,rfl,aa,by rw[HSK.o];exact QV,Ij,HR3⟩
    case measure=>simp[intOf];omega
   obtain⟨x,hx1,hx2,hx3⟩:∃x:Fin (PI.ptrs l).length,x.1=(PI.ptrsTo l j).length/\(PI.ptrs l)[x.1]=(j,PI.two l j)/\(PI.ptrsTo l (j+1)).length=x.1+1:=by
    obtain⟨p1,p2,p3⟩:=PI.MU l hlt hz;rw[List.getElem?_eq_getElem p1]at p2;injection p2 with p2;exact⟨⟨_,p1⟩,rfl,p2,p3⟩
   have HP3:Hid ((adK (PI.ptrs l).length).take (PI.ptrsTo l (j+1)).length=(adK (PI.ptrs l).length).take (PI.ptrsTo l j).length++[x]):=az (by
    rw[hx3,<-hx1]
    exact fin_take x.2)
   have hlen:((adK (PI.ptrs l).length).take (PI.ptrsTo l j).length).length<33:=by
    have:=PI.uS l j;rw[List.length_take];omega
   obtain⟨fn,tmps,assign,body,hy,hR⟩:=HY.o _ x _ QV.o hlen;have HRR:=az hR;have hz':(((PI.two l j:Nat):Int) != 0)=true:=by simp;omega
   change (Instr.yield ll #[vi (((PI.ptrs l)[x.1]).1:Int),vi (((PI.ptrs l)[x.1]).2:Int)]).run prog w2.drew=_ at hy;rw[hx2]at hy;dsimp only at hy;clear hR hx1 hx2 hx3 hlen QV hz;generalize PI.two l j=v at*;gi_wp2;refine HRR.o.mono ?_;rintro e W4 (⟨rfl,Tm,hk4⟩|⟨rfl,adF⟩)
   ·have V7:Hid (J ((adK (PI.ptrs l).length).take (PI.ptrsTo l (j+1)).length) W4):=az (by rw[HP3.o];exact Tm);have QW:=az (hk4.box Ij.o);have HR4:=az (hk4.row HR3.o);clear Tm hk4 hy;gi_wp2;go_roundw
    case rel=>exact⟨j+1,rfl,aa,V7,QW,HR4⟩
    case measure=>simp[intOf];omega
   have HJX:=az adF;clear adF hy;gi_wp2;refine ac5 (results_none rfl _ _ _) rfl ?_;exact⟨⟨_,rfl⟩,acm ⟨_,⟨_,HP3.o.symm⟩,HJX.o⟩⟩
  obtain rfl:j=32:=aa;gi_wp2;refine⟨trivial,?_⟩;refine(callsIn_wide.2 (IP _ _)).mono ?_;rintro e w2 ⟨rfl,rfl⟩;gi_wp2;go_end0;exact⟨⟨_,rfl⟩,ack ⟨_,rfl,by
   have:=HJS.o
   rwa[List.take_of_length_le (by rw[List.length_finRange];exact aj)]at this⟩⟩
end ino
namespace po
open RowKit mgr ft pl ino nd
def Po.ptr (p:Po)(aB k:Nat):Nat:=if aB=0 then 0 else PI.two (p.get aB) k
def Po.good (p:Po)(x:Nat):Prop:=x<8192/\(x≠0->p.there x=true)
def Po.at_ (p:Po)(i:PI.bF)(n:Nat):Nat :=
 if n<6 then i.direct.getD n 0 else if n<38 then p.ptr i.single (n-6) else if n<1062 then p.ptr (p.ptr i.double ((n-38)/32)) ((n-38)%32) else 0
structure Po.wf (p:Po)(i:PI.bF):Prop where
 len:i.direct.length=6
 direct:∀n,n<6->p.good (i.direct.getD n 0)
 single:p.good i.single
 double:p.good i.double
 one:∀k,k<32->p.good (p.ptr i.single k)
 two:∀k,k<32->p.good (p.ptr i.double k)/\∀j,j<32->p.good (p.ptr (p.ptr i.double k) j)
section
variable{q g:Nat}{p p':Po}{K K':Nat->Prop}
def Own.zu {b c:Nat}{l:List Nat}(h:Own w b (aco (some ⟨g,0,none⟩) 64 c) l)(hl:l.length=64)(hs:∀y∈l,y<256):bE w (some ⟨g,0,none⟩) l:=by
 obtain⟨a,k,he,hr,_⟩:=h.row hs;injection he with he;rwa[he]
def nI (h:PQ aA w q K p)(hg:w.cell? ⟨g,0,none⟩=some (ptr q))(aB k:Nat)(hk:k<32)(hp:p.good aB)(hv:p.ptr aB k<8192) :
  ac4 prog 58 #[ptr g,vi aB,vi k] w λe w'=>∃K',e=ab4 (vi (p.ptr aB k))/\bM aA w q K w' K' p:=by
 have H:=az h;by_cases h0:aB=0
 ·subst h0;clear hg hv;go_in;go_wp2;go_ret;exact⟨K,rfl,bM.refl H.o⟩
 have CX:=az (hp.2 h0);have hpn:aB<=1000000:=by have:=hp.1;omega
 have je:=az (h.len aB (hp.2 h0));have IU:=az (sS h aB hpn (hp.2 h0));have HV:Hid (p.ptr aB k=PI.two (p.get aB) k):=az (by unfold Po.ptr;rw[if_neg h0]);rw[HV.o]at hv ⊢;have HVL:=az hv;have n0:¬(aB:Int)=0:=aa;clear h hp hv;go_in;go_wp2_with fail;refine IU.o.mono ?_;rintro e w2 ⟨K2,g2,c2,rfl,ho,hg2,hc2,hc2',hrd⟩;have HR:=az (Own.zu ho je.o.1 je.o.2);have bK:=az hrd;have Bq:=az (IQ g2 c2 k (p.get aB) HR.o je.o.1 hk HVL.o);clear ho hrd hg IU CX;go_wp2_with fail;refine Bq.o.mono ?_;rintro e w3 ⟨rfl,hb3⟩;have ahC:=az (bK.o.old hb3)
 clear hb3 Bq;go_wp2;go_ret;exact⟨K2,rfl,ahC.o⟩
def aaN (n:Nat)(hn:1062<=n)(hn':n<=1000000):ac4 prog 57 #[vi 64,vi n] w λe w'=>e=ab4 (adg #[.agg #[vi 0,vi 0,vi 0],vi 52])/\acN w.heap.size w w':=by
 have HB:Hid (acN w.heap.size w (w.alloc (ach #[vi 0,vi 0,vi 0] 111))):=az ax;have HF:=az (aD.new w 111 #[vi 0,vi 0,vi 0]);have n1:¬(n:Int)<0:=aa;have n2:(1062:Int)<=(n:Int):=aa;go_in;go_upto_region 1 with fail;change adW _ _ _ _ (w.alloc (ach #[vi 0,vi 0,vi 0] 111));generalize w.alloc (ach #[vi 0,vi 0,vi 0] 111)=w1 at*;have r0:w1.cell? ⟨w.heap.size,0,none⟩=some (vi 0):=HF.o.cell 0;have f0:=HF.o.frozen 0;have r1:w1.cell? ⟨w.heap.size,1,none⟩=some (vi 0):=HF.o.cell 1;have f1:=HF.o.frozen 1;have r2:w1.cell? ⟨w.heap.size,2,none⟩=some (vi 0):=HF.o.cell 2
 have f2:=HF.o.frozen 2;go_wp2_with fail;refine oD.mono ?_;rintro e w2 ⟨rfl,rfl⟩;go_wp2_with fail;refine A9.mono ?_;rintro e w2 ⟨rfl,rfl⟩;go_wp2_with fail;obtain⟨hf,hw⟩:=jL (vi 0) (vi 0) (vi 0) HF.o HB.o aj;exact ac5 (jv hf _ rfl rfl) rfl ⟨rfl,hw⟩
structure sU (g y:Nat)(C D:Array acK)(W:acL):Prop where
 file:aD W g 74 C
 way:aD W y 111 D
variable{y:Nat}{C D:Array acK}{W:acL}
def sU.drew (h:sU g y C D W):sU g y C D W.drew:=⟨h.file,h.way⟩
def sU.go (h:sU g y C D w)(r:bG aA w q K w' K' p')(hg:¬K g)(hy:¬K y):sU g y C D w':=⟨(r.keep h.file hg).1,(r.keep h.way hy).1⟩
def sU.old (h:sU g y C D w)(r:acN w.heap.size w w'):sU g y C D w':=⟨h.file.old r,h.way.old r⟩
def sU.facts {kd ln sz d0 d1 d2 d3 d4 d5 sg db:Nat}{v0 v1 v2:acK}(h:sU g y #[ptr q,vi kd,vi ln,vi sz,vi d0,vi d1,vi d2,vi d3,vi d4,vi d5,vi sg,vi db] #[v0,v1,v2] W) :
  (W.cell? ⟨g,10,none⟩=some (vi sg)/\W.cell? ⟨g,11,none⟩=some (vi db)/\W.cell? ⟨y,1,none⟩=some v1/\W.cell? ⟨y,2,none⟩=some v2) :=
 ⟨h.file.cell 10,h.file.cell 11,h.way.cell 1,h.way.cell 2⟩
def bM.atB (r:bM aA w q K w' K' p)(h:sU g y C D w)(hg:¬K g)(hy:¬K y):sU g y C D w':=h.go r.go hg hy
def pG (h:PQ aA w q K p)(i:PI.bF)(hi:p.wf i)(hf:aD w g 74 (fileC q i))(QX:¬K g)(n:Nat)(hn:n<=1000000) :
  ac4 prog 31 #[ptr g,vi n] w λe w'=>∃K',e=ab4 (vi (p.at_ i n))/\bM aA w q K w' K' p:=by
 have H:=az h;have FJ:=az QX;have e0:=file_q hi.len hf;have HF:=az hf;have HS:=az (kR h);have HAT:Hid (p.at_ i n=if n<6 then i.direct.getD n 0 else if n<38 then p.ptr i.single (n-6) else if n<1062 then p.ptr (p.ptr i.double ((n-38)/32)) ((n-38)%32) else 0):=az rfl;clear h QX hf;by_cases hend:1062<=n
 ·rw[if_neg aa,if_neg aa,if_neg aa]at HAT;rw[HAT.o];have HT:=az (aaN (w:=w) n hend hn);clear hi;generalize fileC q i=C at*;go_in;go_wp2_with fail;refine HS.o.mono ?_;rintro e w' ⟨rfl,rfl⟩;go_wp2_with fail;refine HT.o.mono ?_;rintro e w2 ⟨rfl,hb2⟩;have HB3:Hid (acN w'.heap.size w' (w2.alloc (ach #[vi 0,vi 0,vi 0] 111))):=az (hb2.alloc hb2.size _);clear hb2 HT HS e0;go_wp2;go_ret;exact⟨K,rfl,bM.aX H.o HB3.o⟩
 have HT:=az (Ba (w:=w) n aa);by_cases h6:n<6
 ·rw[show PI.way n=(0,n,0) by unfold PI.way;rw[if_pos h6]]at HT;dsimp only at HT;rw[if_pos h6]at HAT;rw[HAT.o];have wU:=az hi.len;clear hi;generalize hd:i.direct.getD n 0=d at*;have HD:=az hd;clear hd;generalize hC:fileC q i=C at*;have HC:=az hC;clear hC;go_in;go_wp2_with fail;refine HS.o.mono ?_;rintro e w' ⟨rfl,rfl⟩;go_wp2_with fail;refine HT.o.mono ?_;rintro e w2 ⟨rfl,hb2⟩;go_upto_region 2 with fail;have HB3:Hid (acN w'.heap.size w' (w2.alloc (ach #[vi 0,vi n,vi 0] 111))):=az (hb2.alloc hb2.size _);have iR:=az (aD.new w2 111 #[vi 0,vi n,vi 0]);change adW _ _ _ _ (w2.alloc (ach #[vi 0,vi n,vi 0] 111))
  have MV:Hid (¬K w2.heap.size):=az (λe=>by have:=H.o.lt _ e;have:=hb2.size;omega);have vZ:=az (HF.o.old HB3.o);have H3:=az (H.o.old HB3.o);generalize w2.alloc (ach #[vi 0,vi n,vi 0] 111)=w3 at*;generalize w2.heap.size=y at*;have x0:w3.cell? ⟨y,0,none⟩=some (vi 0):=iR.o.cell 0;have x1:w3.cell? ⟨y,1,none⟩=some (vi n):=iR.o.cell 1;have y0:w3.cell? ⟨g,4+n,none⟩=some (vi d):=by rw[<-HD.o];exact file_d wU.o (by rw[HC.o];exact vZ.o) h6
  have n6:(n:Int)<6:=aa;clear hb2 HS HT HF e0;go_wp2_with fail;clear vZ iR x0;have n0:(0:Int)<=(n:Int):=aa;have x1:=Sub.cell x1;have y0:=Sub.cell y0;refine aZ ah ah ?_;repeat (go_big_quiet_step (fail))
  refine wpQuiet_nil ?_;rintro _ ⟨nq,rfl⟩;have HB:=az (HB3.o.trans (nq.below.mono HB3.o.size));go_wp2;go_ret;exact⟨K,rfl,bM.aX H.o HB.o⟩
 rw[if_neg h6]at HAT;have wU:=az hi.len;obtain⟨kd,ln,sz,dl,sg,db⟩:=i;obtain⟨d0,d1,d2,d3,d4,d5,rfl⟩:=six (l:=dl) hi.len;by_cases zN:n<38
 ·rw[show PI.way n=(1,n-6,0) by unfold PI.way;rw[if_neg h6,if_pos zN]]at HT;dsimp only at HT;rw[if_pos zN]at HAT;rw[HAT.o];dsimp only;have hone:=hi.one (n-6) aa;have hsg:=hi.single;dsimp only at hone hsg;have HPN:Hid (∀W,PQ aA W q K p->W.cell? ⟨g,0,none⟩=some (ptr q)->ac4 prog 58 #[ptr g,vi sg,vi ((n-6:Nat):Int)] W λe w'=>∃K',e=ab4 (vi (p.ptr sg (n-6)))/\bM aA W q K w' K' p) :=
   az (λW h1 h2=>nI h1 h2 sg (n-6) aa hsg hone.1)
  clear hi hone hsg HAT;generalize p.ptr sg (n-6)=v at*;generalize n-6=m at*;go_in;go_wp2_with fail;refine HS.o.mono ?_;rintro e w' ⟨rfl,rfl⟩;go_wp2_with fail;refine HT.o.mono ?_;rintro e w2 ⟨rfl,hb2⟩;go_upto_region 2 with fail;have HB3:Hid (acN w'.heap.size w' (w2.alloc (ach #[vi 1,vi m,vi 0] 111))):=az (hb2.alloc hb2.size _);have iR:=az (aD.new w2 111 #[vi 1,vi m,vi 0]);change adW _ _ _ _ (w2.alloc (ach #[vi 1,vi m,vi 0] 111));have MV:Hid (¬K w2.heap.size):=az (λe=>by have:=H.o.lt _ e;have:=hb2.size;omega);have vZ:=az (HF.o.old HB3.o);have H3:=az (H.o.old HB3.o)
  generalize w2.alloc (ach #[vi 1,vi m,vi 0] 111)=w3 at*;generalize w2.heap.size=y at*;have x0:w3.cell? ⟨y,0,none⟩=some (vi 1):=iR.o.cell 0;have FK:Hid (sU g y #[ptr q,vi kd,vi ln,vi sz,vi d0,vi d1,vi d2,vi d3,vi d4,vi d5,vi sg,vi db] #[vi 1,vi m,vi 0] w3):=az ⟨vZ.o,iR.o⟩;clear hb2 HS HT HF vZ iR e0;go_upto_region 8 with fail;clear x0;have HB0:Hid (acN w3.heap.size w3 w3):=az ak;have nR:Hid (∀W,acN w3.heap.size w3 W->acN w3.heap.size w3 W.drew):=az (λW h=>h.drew);have V8:Hid (∀W,acN w3.heap.size w3 W->ac4 prog 58 #[ptr g,vi sg,vi m] W λe w'=>∃K',e=ab4 (vi v)/\bM aA W q K w' K' p):=az (λW hb=>HPN.o W (H3.o.old hb) ((FK.o.old hb).file.cell 0))
  have nS:Hid (∀W W' K',acN w3.heap.size w3 W->bM aA W q K W' K' p->sU g y #[ptr q,vi kd,vi ln,vi sz,vi d0,vi d1,vi d2,vi d3,vi d4,vi d5,vi sg,vi db] #[vi 1,vi m,vi 0] W'):=az (λW W' K' hb hr=>hr.atB (FK.o.old hb) FJ.o MV.o);have FL:Hid (∀W W' K',acN w3.heap.size w3 W->bM aA W q K W' K' p->bM aA w' q K W' K' p):=az (λW W' K' hb hr=>((bM.aX H.o HB3.o).old hb).trans hr);clear HPN;go_region_held3 (λW=>(W.cell? ⟨g,10,none⟩=some (vi sg)/\W.cell? ⟨g,11,none⟩=some (vi db)/\W.cell? ⟨y,1,none⟩=some (vi m)/\W.cell? ⟨y,2,none⟩=some (vi 0)))
   (exact sU.facts (by repeat (with_reducible first|exact FK.o|exact FM.o|(refine sU.drew ?_))))
   (first|(go_at_call 58;refine(V8.o _ (by repeat first|exact HB0.o|(refine nR.o _ ?_))).mono ?_;rintro e w5 ⟨K5,rfl,qJ⟩;have FM:=az (nS.o _ _ _ (by repeat first|exact HB0.o|(refine nR.o _ ?_)) qJ);have ql:=az (FL.o _ _ _ (by repeat first|exact HB0.o|(refine nR.o _ ?_)) qJ)))
  all_goals
   clear qJ;go_wp2;go_ret;exact⟨K5,rfl,ql.o⟩
 rw[show PI.way n=(2,(n-38)/32,(n-38)%32) by unfold PI.way;rw[if_neg h6,if_neg zN]]at HT;dsimp only at HT;rw[if_neg zN,if_pos aa]at HAT;rw[HAT.o];dsimp only;have WU:=hi.double;have FN:=hi.two ((n-38)/32) aa;have aaO:=FN.2 ((n-38)%32) aa;dsimp only at WU FN aaO;have Tn:Hid (∀W,PQ aA W q K p->W.cell? ⟨g,0,none⟩=some (ptr q)->ac4 prog 58 #[ptr g,vi db,vi (((n-38)/32:Nat):Int)] W λe w'=>∃K',e=ab4 (vi (p.ptr db ((n-38)/32)))/\bM aA W q K w' K' p) :=
  az (λW h1 h2=>nI h1 h2 db ((n-38)/32) aa WU FN.1.1)
 have ahD:Hid (∀W K',PQ aA W q K' p->W.cell? ⟨g,0,none⟩=some (ptr q)->ac4 prog 58 #[ptr g,vi (p.ptr db ((n-38)/32)),vi (((n-38)%32:Nat):Int)] W λe w'=>∃K'',e=ab4 (vi (p.ptr (p.ptr db ((n-38)/32)) ((n-38)%32)))/\bM aA W q K' w' K'' p) :=
  az (λW K' h1 h2=>nI h1 h2 (p.ptr db ((n-38)/32)) ((n-38)%32) aa FN.1 aaO.1)
 clear hi WU FN aaO HAT;generalize p.ptr (p.ptr db ((n-38)/32)) ((n-38)%32)=v2 at*;generalize p.ptr db ((n-38)/32)=v at*;generalize (n-38)/32=m at*;generalize (n-38)%32=m2 at*;go_in;go_wp2_with fail;refine HS.o.mono ?_;rintro e w' ⟨rfl,rfl⟩;go_wp2_with fail;refine HT.o.mono ?_;rintro e w2 ⟨rfl,hb2⟩;go_upto_region 2 with fail;have HB3:Hid (acN w'.heap.size w' (w2.alloc (ach #[vi 2,vi m,vi m2] 111))):=az (hb2.alloc hb2.size _);have iR:=az (aD.new w2 111 #[vi 2,vi m,vi m2]);change adW _ _ _ _ (w2.alloc (ach #[vi 2,vi m,vi m2] 111));have MV:Hid (¬K w2.heap.size):=az (λe=>by have:=H.o.lt _ e;have:=hb2.size;omega)
 have vZ:=az (HF.o.old HB3.o);have H3:=az (H.o.old HB3.o);generalize w2.alloc (ach #[vi 2,vi m,vi m2] 111)=w3 at*;generalize w2.heap.size=y at*;have x0:w3.cell? ⟨y,0,none⟩=some (vi 2):=iR.o.cell 0;have FK:Hid (sU g y #[ptr q,vi kd,vi ln,vi sz,vi d0,vi d1,vi d2,vi d3,vi d4,vi d5,vi sg,vi db] #[vi 2,vi m,vi m2] w3):=az ⟨vZ.o,iR.o⟩;clear hb2 HS HT HF vZ iR e0;go_upto_region 9 with fail;clear x0;have HB0:Hid (acN w3.heap.size w3 w3):=az ak;have nR:Hid (∀W,acN w3.heap.size w3 W->acN w3.heap.size w3 W.drew):=az (λW h=>h.drew);have V8:Hid (∀W,acN w3.heap.size w3 W->ac4 prog 58 #[ptr g,vi db,vi m] W λe w'=>∃K',e=ab4 (vi v)/\bM aA W q K w' K' p):=az (λW hb=>Tn.o W (H3.o.old hb) ((FK.o.old hb).file.cell 0))
 have nS:Hid (∀W W' K',acN w3.heap.size w3 W->bM aA W q K W' K' p->sU g y #[ptr q,vi kd,vi ln,vi sz,vi d0,vi d1,vi d2,vi d3,vi d4,vi d5,vi sg,vi db] #[vi 2,vi m,vi m2] W'):=az (λW W' K' hb hr=>hr.atB (FK.o.old hb) FJ.o MV.o);have FL:Hid (∀W W' K',acN w3.heap.size w3 W->bM aA W q K W' K' p->bM aA w' q K W' K' p):=az (λW W' K' hb hr=>((bM.aX H.o HB3.o).old hb).trans hr);clear Tn;go_region_held3 (λW=>(W.cell? ⟨g,10,none⟩=some (vi sg)/\W.cell? ⟨g,11,none⟩=some (vi db)/\W.cell? ⟨y,1,none⟩=some (vi m)/\W.cell? ⟨y,2,none⟩=some (vi m2)))
  (exact sU.facts (by repeat (with_reducible first|exact FK.o|exact FM.o|exact FO.o|(refine sU.drew ?_))))
  (first
   |(go_at_call 58;have hx5:=FM.o;refine(ahD.o _ K5 (PQ.old ql.o.go.at_ (by repeat (with_reducible first | exact ac3 _ _ | (refine adX ?_)))) (by have:=FM.o.file.cell 0;exact this)).mono ?_;rintro e w6 ⟨K6,rfl,MW⟩;have GM:=az ((ql.o.old (by repeat (with_reducible first | exact ac3 _ _ | (refine adX ?_)))).trans MW);have FO:=az (MW.atB (sU.old FM.o (by repeat (with_reducible first | exact ac3 _ _ | (refine adX ?_)))) (λe=>FJ.o (ql.o.sub _ e)) (λe=>MV.o (ql.o.sub _ e))))
   |(go_at_call 58;refine(V8.o _ (by repeat first | exact HB0.o | (refine nR.o _ ?_))).mono ?_;rintro e w5 ⟨K5,rfl,qJ⟩;have FM:=az (nS.o _ _ _ (by repeat first | exact HB0.o | (refine nR.o _ ?_)) qJ);have ql:=az (FL.o _ _ _ (by repeat first | exact HB0.o | (refine nR.o _ ?_)) qJ)))
 all_goals
  clear qJ MW;go_wp2;go_ret;exact⟨K6,rfl,GM.o⟩
end
section
variable{P:Program}{md:Region.Mode}{ops:Array Oper}{Q:Exit->Act->acL->Prop}{l n:Nat}
def IV {m:Nat}{row:String}{args:Array acK}{R:acK->acL->Prop}(h:Rows P row args w R):RowsIn Fence.wide m P row args w R:=by
 intro c cs _;obtain⟨v,w',r,s⟩:=h c cs;exact⟨v,w',r,stepsIn_wide.2 s⟩
variable{a:Act}{K K':Act->acL->Prop}
def KH {o:Oper}(hd:∀c,o.op≠ .defer c)(hk:∀a w,K a w->K' a w)(h:Oper.wp P o a w K Q):Oper.wpIn (Fence.wide.inRound l) n P o a w K' Q:=by
 refine⟨λf _=>trivial,?_⟩;rw[show (Fence.wide.inRound l).round=some l from rfl,agh l _ o hd];unfold Oper.wp at h;generalize (execOp a.eval o).run P w=r at*;cases r with
 |ok x w' =>
  cases x<;>simp only[Oper.upon,Oper.uponIn]at h⊢ <;>
   first
    |exact hk _ _ h
    |exact⟨λe=>(by cases e),CallsIn.inRound l (callsIn_wide.2 (ac4.mono h λe w'' he=>by cases e<;>first | exact hk _ _ he | exact he))⟩
    |exact⟨λe=>(by cases e),IV (Rows.mono h λ_ _ he=>hk _ _ he)⟩
    |exact h.elim
 |halt x w'=>cases x<;>simp only[Oper.upon,Oper.uponIn]at h⊢<;>exact h
def FQ {i:Nat}(hd:∀(j:Nat) (o:Oper) c,ops[j]?=some o->o.op≠ .defer c)(hq:¬LetsOut Q)(hk:∀a w,K a w->K' a w)(h:wpOp P ops Q i K a w):wpOpIn (Fence.wide.inRound l) n P ops Q i K' a w:=by
 unfold wpOp at h;unfold wpOpIn;cases ho:ops[i]? with
 |none=>rw[ho]at h;exact hk _ _ h
 |some o =>
  rw[ho]at h;dsimp only at h ⊢;split at h;rename_i hw;rw[if_pos hw];rcases h with h|h;exact KH (λc=>hd i o c ho) hk h;exact absurd h.2 hq;rename_i hw;rw[if_neg hw];exact⟨λf _=>trivial,hk _ _ h⟩
def uB (hd:∀(j:Nat) (o:Oper) c,ops[j]?=some o->o.op≠ .defer c)(hq:¬LetsOut Q):∀(fuel:Nat) (listed:Array Bool) (a:Act) (w:acL),wpAny P md ops Q fuel listed a w->wpAnyIn (Fence.wide.inRound l) n P md ops Q fuel listed a w
 |0,_,_,_,h=>h
 |fuel+1,_,_,_,h=>⟨h.1,λi hi=>FQ hd hq (λa' w' h'=>uB hd hq fuel _ a' w' h') (h.2 i hi)⟩
def FR (ops:Array Oper):Bool:=ops.all λo=>match o.op with|.defer _=>false|_=>true
def O4 (h:FR ops=true):∀(j:Nat) (o:Oper) c,ops[j]?=some o->o.op≠ .defer c:=by
 intro j o c ho e;unfold FR at h;rw[Array.all_eq_true]at h;obtain⟨hj,rfl⟩:=aaz.1 ho;have:=h j hj;rw[e]at this;cases this
def FT {S:acL->Prop}{id:Nat}(hc:FR ops=true)(hm:P.follows .mixedOrders=true)(hq:¬LetsOut Q)
  (h:wpAnyH P .any ops Q S ops.size (Array.replicate ops.size false) a w.drew):(Code.region id ops true).wpIn (Fence.wide.inRound l) n P Q a w :=
 wpIn_region_any hm (uB (O4 hc) hq _ _ _ _ (wpAny_of_held _ _ _ _ h))
end
end po
namespace nd
open RowKit mgr ft pl ino
variable{g:Nat}
def five (w:acL)(a b c d e:Obj):acN w.heap.size w (((((w.alloc a).alloc b).alloc c).alloc d).alloc e)/\((((w.alloc a).alloc b).alloc c).alloc d).heap.size=w.heap.size+1+1+1+1:=by
 refine⟨(((ax.alloc ?_ _).alloc ?_ _).alloc ?_ _).alloc ?_ _,?_⟩<;>simp<;>omega
def jh {v0:acK}(hb:aD w' g 4 #[v0])(tmps:Array acK)(h2:tmps[10]?=some (adj (some ⟨g,0,none⟩))) :
  (results Tryz.f65 tmps).run prog w'=.ok v0 w':=by
 have g0:w'.cell? ⟨g,0,none⟩=some v0:=hb.cell 0;simp only[results,results65];simp[go_sem,h2,g0]
abbrev one (kd ln sz d:Nat):PI.bF:=⟨kd,ln,sz,[d,0,0,0,0,0],0,0⟩
end nd
namespace pl
def Pl.first (p:Pl)(l:List Nat):Pl:=⟨p.P,MP.put p.U 5 5,MP.put (MP.put p.M 5 (List.replicate 64 0)) 5 (l++List.replicate (64-l.length) 0)⟩
end pl
namespace nd
open RowKit mgr ft pl ino
section
variable{g:Nat}{p:Pl}
def iA {W:acL}{u0 u1 u2 u3 u4 u5 u6 u7 u8 u9 wV:acK}(v0 v1 v2 v3 v4 v5 v6 v7 v8 v9 v10:acK)(hb:aD W g 29 #[u0,u1,u2,u3,u4,u5,u6,u7,u8,u9,wV]) :
  aD (((((((((((W.setCell ⟨g,0,none⟩ v0).setCell ⟨g,1,none⟩ v1).setCell ⟨g,2,none⟩ v2).setCell ⟨g,3,none⟩ v3).setCell ⟨g,4,none⟩ v4).setCell ⟨g,5,none⟩ v5).setCell ⟨g,6,none⟩ v6).setCell ⟨g,7,none⟩ v7).setCell ⟨g,8,none⟩ v8).setCell ⟨g,9,none⟩ v9).setCell ⟨g,10,none⟩ v10) g 29 #[v0,v1,v2,v3,v4,v5,v6,v7,v8,v9,v10]/\aP (λn=>n=g) W (((((((((((W.setCell ⟨g,0,none⟩ v0).setCell ⟨g,1,none⟩ v1).setCell ⟨g,2,none⟩ v2).setCell ⟨g,3,none⟩ v3).setCell ⟨g,4,none⟩ v4).setCell ⟨g,5,none⟩ v5).setCell ⟨g,6,none⟩ v6).setCell ⟨g,7,none⟩ v7).setCell ⟨g,8,none⟩ v8).setCell ⟨g,9,none⟩ v9).setCell ⟨g,10,none⟩ v10):=by
 have h0:aD (W.setCell ⟨g,0,none⟩ v0) g 29 #[v0,u1,u2,u3,u4,u5,u6,u7,u8,u9,wV]:=hb.bB 0 v0;have e0:aP (λn=>n=g) W (W.setCell ⟨g,0,none⟩ v0):=(aP.refl _ W).setCell (F:=λn=>n=g) (p:=⟨g,0,none⟩) (ack rfl) v0;have h1:aD ((W.setCell ⟨g,0,none⟩ v0).setCell ⟨g,1,none⟩ v1) g 29 #[v0,v1,u2,u3,u4,u5,u6,u7,u8,u9,wV]:=h0.bB 1 v1;have e1:aP (λn=>n=g) W ((W.setCell ⟨g,0,none⟩ v0).setCell ⟨g,1,none⟩ v1):=e0.setCell (F:=λn=>n=g) (p:=⟨g,1,none⟩) (ack rfl) v1;have h2:aD (((W.setCell ⟨g,0,none⟩ v0).setCell ⟨g,1,none⟩ v1).setCell ⟨g,2,none⟩ v2) g 29 #[v0,v1,v2,u3,u4,u5,u6,u7,u8,u9,wV]:=h1.bB 2 v2
 have e2:aP (λn=>n=g) W (((W.setCell ⟨g,0,none⟩ v0).setCell ⟨g,1,none⟩ v1).setCell ⟨g,2,none⟩ v2):=e1.setCell (F:=λn=>n=g) (p:=⟨g,2,none⟩) (ack rfl) v2;have h3:aD ((((W.setCell ⟨g,0,none⟩ v0).setCell ⟨g,1,none⟩ v1).setCell ⟨g,2,none⟩ v2).setCell ⟨g,3,none⟩ v3) g 29 #[v0,v1,v2,v3,u4,u5,u6,u7,u8,u9,wV]:=h2.bB 3 v3;have e3:aP (λn=>n=g) W ((((W.setCell ⟨g,0,none⟩ v0).setCell ⟨g,1,none⟩ v1).setCell ⟨g,2,none⟩ v2).setCell ⟨g,3,none⟩ v3):=e2.setCell (F:=λn=>n=g) (p:=⟨g,3,none⟩) (ack rfl) v3;have h4:aD (((((W.setCell ⟨g,0,none⟩ v0).setCell ⟨g,1,none⟩ v1).setCell ⟨g,2,none⟩ v2).setCell ⟨g,3,none⟩ v3).setCell ⟨g,4,none⟩ v4) g 29 #[v0,v1,v2,v3,v4,u5,u6,u7,u8,u9,wV]:=h3.bB 4 v4
 have e4:aP (λn=>n=g) W (((((W.setCell ⟨g,0,none⟩ v0).setCell ⟨g,1,none⟩ v1).setCell ⟨g,2,none⟩ v2).setCell ⟨g,3,none⟩ v3).setCell ⟨g,4,none⟩ v4):=e3.setCell (F:=λn=>n=g) (p:=⟨g,4,none⟩) (ack rfl) v4;have h5:aD ((((((W.setCell ⟨g,0,none⟩ v0).setCell ⟨g,1,none⟩ v1).setCell ⟨g,2,none⟩ v2).setCell ⟨g,3,none⟩ v3).setCell ⟨g,4,none⟩ v4).setCell ⟨g,5,none⟩ v5) g 29 #[v0,v1,v2,v3,v4,v5,u6,u7,u8,u9,wV]:=h4.bB 5 v5;have e5:aP (λn=>n=g) W ((((((W.setCell ⟨g,0,none⟩ v0).setCell ⟨g,1,none⟩ v1).setCell ⟨g,2,none⟩ v2).setCell ⟨g,3,none⟩ v3).setCell ⟨g,4,none⟩ v4).setCell ⟨g,5,none⟩ v5):=e4.setCell (F:=λn=>n=g) (p:=⟨g,5,none⟩) (ack rfl) v5
 have h6:aD (((((((W.setCell ⟨g,0,none⟩ v0).setCell ⟨g,1,none⟩ v1).setCell ⟨g,2,none⟩ v2).setCell ⟨g,3,none⟩ v3).setCell ⟨g,4,none⟩ v4).setCell ⟨g,5,none⟩ v5).setCell ⟨g,6,none⟩ v6) g 29 #[v0,v1,v2,v3,v4,v5,v6,u7,u8,u9,wV]:=h5.bB 6 v6;have e6:aP (λn=>n=g) W (((((((W.setCell ⟨g,0,none⟩ v0).setCell ⟨g,1,none⟩ v1).setCell ⟨g,2,none⟩ v2).setCell ⟨g,3,none⟩ v3).setCell ⟨g,4,none⟩ v4).setCell ⟨g,5,none⟩ v5).setCell ⟨g,6,none⟩ v6):=e5.setCell (F:=λn=>n=g) (p:=⟨g,6,none⟩) (ack rfl) v6;have h7:aD ((((((((W.setCell ⟨g,0,none⟩ v0).setCell ⟨g,1,none⟩ v1).setCell ⟨g,2,none⟩ v2).setCell ⟨g,3,none⟩ v3).setCell ⟨g,4,none⟩ v4).setCell ⟨g,5,none⟩ v5).setCell ⟨g,6,none⟩ v6).setCell ⟨g,7,none⟩ v7) g 29 #[v0,v1,v2,v3,v4,v5,v6,v7,u8,u9,wV]:=h6.bB 7 v7
 have e7:aP (λn=>n=g) W ((((((((W.setCell ⟨g,0,none⟩ v0).setCell ⟨g,1,none⟩ v1).setCell ⟨g,2,none⟩ v2).setCell ⟨g,3,none⟩ v3).setCell ⟨g,4,none⟩ v4).setCell ⟨g,5,none⟩ v5).setCell ⟨g,6,none⟩ v6).setCell ⟨g,7,none⟩ v7):=e6.setCell (F:=λn=>n=g) (p:=⟨g,7,none⟩) (ack rfl) v7;have h8:aD (((((((((W.setCell ⟨g,0,none⟩ v0).setCell ⟨g,1,none⟩ v1).setCell ⟨g,2,none⟩ v2).setCell ⟨g,3,none⟩ v3).setCell ⟨g,4,none⟩ v4).setCell ⟨g,5,none⟩ v5).setCell ⟨g,6,none⟩ v6).setCell ⟨g,7,none⟩ v7).setCell ⟨g,8,none⟩ v8) g 29 #[v0,v1,v2,v3,v4,v5,v6,v7,v8,u9,wV]:=h7.bB 8 v8;have e8:aP (λn=>n=g) W (((((((((W.setCell ⟨g,0,none⟩ v0).setCell ⟨g,1,none⟩ v1).setCell ⟨g,2,none⟩ v2).setCell ⟨g,3,none⟩ v3).setCell ⟨g,4,none⟩ v4).setCell ⟨g,5,none⟩ v5).setCell ⟨g,6,none⟩ v6).setCell ⟨g,7,none⟩ v7).setCell ⟨g,8,none⟩ v8):=e7.setCell (F:=λn=>n=g) (p:=⟨g,8,none⟩) (ack rfl) v8
 have h9:aD ((((((((((W.setCell ⟨g,0,none⟩ v0).setCell ⟨g,1,none⟩ v1).setCell ⟨g,2,none⟩ v2).setCell ⟨g,3,none⟩ v3).setCell ⟨g,4,none⟩ v4).setCell ⟨g,5,none⟩ v5).setCell ⟨g,6,none⟩ v6).setCell ⟨g,7,none⟩ v7).setCell ⟨g,8,none⟩ v8).setCell ⟨g,9,none⟩ v9) g 29 #[v0,v1,v2,v3,v4,v5,v6,v7,v8,v9,wV]:=h8.bB 9 v9;have e9:aP (λn=>n=g) W ((((((((((W.setCell ⟨g,0,none⟩ v0).setCell ⟨g,1,none⟩ v1).setCell ⟨g,2,none⟩ v2).setCell ⟨g,3,none⟩ v3).setCell ⟨g,4,none⟩ v4).setCell ⟨g,5,none⟩ v5).setCell ⟨g,6,none⟩ v6).setCell ⟨g,7,none⟩ v7).setCell ⟨g,8,none⟩ v8).setCell ⟨g,9,none⟩ v9):=e8.setCell (F:=λn=>n=g) (p:=⟨g,9,none⟩) (ack rfl) v9
 have h10:aD (((((((((((W.setCell ⟨g,0,none⟩ v0).setCell ⟨g,1,none⟩ v1).setCell ⟨g,2,none⟩ v2).setCell ⟨g,3,none⟩ v3).setCell ⟨g,4,none⟩ v4).setCell ⟨g,5,none⟩ v5).setCell ⟨g,6,none⟩ v6).setCell ⟨g,7,none⟩ v7).setCell ⟨g,8,none⟩ v8).setCell ⟨g,9,none⟩ v9).setCell ⟨g,10,none⟩ v10) g 29 #[v0,v1,v2,v3,v4,v5,v6,v7,v8,v9,v10]:=h9.bB 10 v10;have e10:aP (λn=>n=g) W (((((((((((W.setCell ⟨g,0,none⟩ v0).setCell ⟨g,1,none⟩ v1).setCell ⟨g,2,none⟩ v2).setCell ⟨g,3,none⟩ v3).setCell ⟨g,4,none⟩ v4).setCell ⟨g,5,none⟩ v5).setCell ⟨g,6,none⟩ v6).setCell ⟨g,7,none⟩ v7).setCell ⟨g,8,none⟩ v8).setCell ⟨g,9,none⟩ v9).setCell ⟨g,10,none⟩ v10):=e9.setCell (F:=λn=>n=g) (p:=⟨g,10,none⟩) (ack rfl) v10
 exact⟨h10,e10⟩
def bZ {v0 v1 v2 v3 v4 v5 v6 v7 v8 v9 v10:acK}{n:Int}(hb:aD w' g 29 #[v0,v1,v2,v3,v4,v5,v6,v7,v8,v9,v10])(tmps:Array acK)(h2:tmps[8]?=some (adj (some ⟨g,0,none⟩)))(h3:tmps[9]?=some (vi n)) :
  (results Tryz.f12 tmps).run prog w'=.ok (adg #[.agg #[v0,v1,v2,v3,v4,v5,v6,v7,v8,v9,v10],vi n]) w':=by
 have g0:w'.cell? ⟨g,0,none⟩=some v0:=hb.cell 0;have g1:w'.cell? ⟨g,1,none⟩=some v1:=hb.cell 1;have g2:w'.cell? ⟨g,2,none⟩=some v2:=hb.cell 2;have g3:w'.cell? ⟨g,3,none⟩=some v3:=hb.cell 3;have g4:w'.cell? ⟨g,4,none⟩=some v4:=hb.cell 4;have g5:w'.cell? ⟨g,5,none⟩=some v5:=hb.cell 5;have g6:w'.cell? ⟨g,6,none⟩=some v6:=hb.cell 6;have g7:w'.cell? ⟨g,7,none⟩=some v7:=hb.cell 7;have g8:w'.cell? ⟨g,8,none⟩=some v8:=hb.cell 8;have g9:w'.cell? ⟨g,9,none⟩=some v9:=hb.cell 9;have g10:w'.cell? ⟨g,10,none⟩=some v10:=hb.cell 10;simp only[results,results12];simp[go_sem,h2,h3,g0,g1,g2,g3,g4,g5,g6,g7,g8,g9,g10]
end
end nd
namespace di
open RowKit mgr ft pl ino
abbrev sa:acK:=.string ⟨#[97]⟩
def sl:List Nat:=[2,0,1,97,0,0,0,0,0,0,0,0,0,0,0,0]
attribute [local go_sem] agh
variable{D:Nat}
def ji {n:Nat}{fn:Func}{R:Ending->acL->Prop}{tmps:Array acK}{v:acK}(hK:w.heap[D]?=some (adL (some [])))(hres:(results fn tmps).run prog (w.putObj D (adL none))=.ok v (w.putObj D (adL none)))
  (h:R (ab4 v) (w.putObj D (adL none))):bodyPostM Fence.wide n prog fn R .ret {tmps,defers:=[{target:=.collected D,args:=#[]}]} w :=
 ⟨ai,ack ⟨_,_,rfl,run_takeDeferred hK,⟨_,hres,h⟩⟩⟩
def iB {g:Nat}{t:acO}{cs:Array acK}(h:aD w g t cs)(hK:w.heap[D]?=some (adL (some [])))(o:Obj):aD (w.putObj D o) g t cs:=by
 unfold aD;rw[acL.putObj_heap_other];exact h;intro e;subst e;unfold aD at h;rw[h]at hK;cases hK
def Xd {g:Nat}{t:acO}{cs:Array acK}(h:aD w g t cs)(hK:w.heap[D]?=some (adL (some [])))(i:Nat)(u:acK):(w.setCell ⟨g,i,none⟩ u).heap[D]?=some (adL (some [])):=by
 rw[acN.heap_setCell];exact hK;intro e;subst e;unfold aD at h;rw[h]at hK;cases hK
end di
namespace po
open RowKit mgr ft pl ino nd
attribute [local go_sem] agh
def Po.mine (p:Po)(aB:Nat):Po×Nat:=if aB=0 then (p.alloc p.first,p.first.toNat) else (p,aB)
def Po.point (p:Po)(aB k v:Nat):Po×Nat :=
 let m:=p.mine aB
 let b:=PI.point (m.1.get m.2) k v
 if PI.ptrs b=[] then (m.1.free m.2,0) else (m.1.put m.2 b,m.2)
section
variable{w'':acL}{q g:Nat}{p p':Po}{K K':Nat->Prop}
def three (w:acL)(a b c:Obj):acN w.heap.size w (((w.alloc a).alloc b).alloc c)/\((w.alloc a).alloc b).heap.size=w.heap.size+1+1 :=
 ⟨(((ac3 _ w).alloc aj a).alloc ai b).alloc (by simp;omega) c,ai⟩
structure rO (g A B C aB:Nat)(F:Array acK)(W:acL):Prop where
 file:aD W g 74 F
 fb:aD W A 72 #[ptr g]
 pb:aD W B 3 #[vi aB]
 rb:aD W C 3 #[vi 0]
variable{A B C:Nat}{F:Array acK}{W:acL}
def rO.facts {aB:Nat}(h:rO g A B C aB F W)(hq:F[0]?=some (ptr q)):(W.cell? ⟨A,0,none⟩=some (ptr g)/\W.cell? ⟨B,0,none⟩=some (vi aB)/\W.cell? ⟨g,0,none⟩=some (ptr q)) :=
 ⟨h.fb.cell 0,h.pb.cell 0,by rw[h.file.cell];exact hq⟩
def rO.drew {aB:Nat}(h:rO g A B C aB F W):rO g A B C aB F W.drew:=⟨h.file,h.fb,h.pb,h.rb⟩
variable{W':acL}
def rO.old {aB:Nat}(h:rO g A B C aB F W)(b:acN W.heap.size W W'):rO g A B C aB F W':=⟨h.file.old b,h.fb.old b,h.pb.old b,h.rb.old b⟩
def rO.alloc {aB:Nat}(o:Obj)(h:rO g A B C aB F W):rO g A B C aB F (W.alloc o):=⟨h.file.alloc o,h.fb.alloc o,h.pb.alloc o,h.rb.alloc o⟩
variable{D:Nat}
def rO.aJ {aB:Nat}(h:rO g A B C aB F W)(c:aP (λn=>n=D) W W')(hn:D≠g/\D≠A/\D≠B/\D≠C):rO g A B C aB F W' :=
 ⟨h.file.aJ c (λe=>hn.1 e.symm),h.fb.aJ c (λe=>hn.2.1 e.symm),h.pb.aJ c (λe=>hn.2.2.1 e.symm),h.rb.aJ c (λe=>hn.2.2.2 e.symm)⟩
def rO.set {aB:Nat}(hn:D≠g/\D≠A/\D≠B/\D≠C)(i:Nat)(v:acK)(h:rO g A B C aB F W):rO g A B C aB F (W.setCell ⟨D,i,none⟩ v) :=
 h.aJ (aP.set (F:=λn=>n=D) W (p:=⟨D,i,none⟩) rfl v) hn
def rO.go {aB:Nat}(h:rO g A B C aB F w)(r:bG aA w q K w' K' p')(hg:¬K g)(hk:¬K A/\¬K B/\¬K C):rO g A B C aB F w' :=
 ⟨(r.keep h.file hg).1,(r.keep h.fb hk.1).1,(r.keep h.pb hk.2.1).1,(r.keep h.rb hk.2.2).1⟩
def Zi (w8:acL){α:Type}(pre:List α)(W:acL):Prop:=pre=[]/\acN w8.heap.size w8 W
def Xe (w8:acL){α:Type}:OwnFrom w8.heap.size (Zi w8 (α:=α)):=by
 intro s W W' row hs hg hr;exact⟨hs.1,hs.2.grown hg hs.2.size (λk e=>(hr k e).1)⟩
def Zj (aA:Nat)(w:acL)(q:Nat)(K:Nat->Prop)(p2:Po)(C x B8:Nat){α:Type}(c:Code)(_:List α)(W:acL):Prop :=
 c=.ret/\Nonempty α/\∃K',bG aA w q K W K' p2/\(∀n,K' n->n<B8)/\aD W C 3 #[vi x]
def rQ {t:acO}{cs:Array acK}{row:Option Nat}(h:aD W g t cs)(hg:W.grownBy W' row)(hr:∀r,row=some r->∃o:Obj,W.heap[r]?=some o/\o.isCells=false):aD W' g t cs:=by
 refine(hg.block g h.lt (λe=>?_)).trans h;obtain⟨o,ho,hc⟩:=hr g e.symm;have:W.heap[g]?=some (ach cs t):=h;rw[ho]at this;injection this with this;rw[this]at hc;cases hc
def bG.grown {row:Option Nat}(h:bG aA w q K w' K' p')(hk:∀n,K' n->n<B)(hb:w.heap.size<=B)(hl:aA<=B)(hq:q<B)(hg:w'.grownBy w'' row)(hr:∀r,row=some r->B<=r/\∃o:Obj,w'.heap[r]?=some o/\o.isCells=false):bG aA w q K w'' K' p':=by
 have hc:aP (λn=>row=some n) w' w'':=(aP.refl _ _).grown hg (λk e=>ack e);refine⟨h.at_.aJ hc (λn e=>⟨abX hl (hr n e).1,λt cur hbk=>?_⟩) (λn e e2=>?_) (λe=>?_),h.aJ.trans hc (λn hn e=>?_),h.foot⟩;obtain⟨o,ho,hc⟩:=(hr n e).2;have:w'.heap[n]?=some (ach cur t):=hbk;rw[ho]at this;injection this with this;rw[this]at hc;cases hc;have:=(hr n e2).1;have:=hk n e;omega;have:=(hr q e).1;omega;have:=(hr n e).1;omega
variable{x:Nat}
def Xf {p2:Po}{B8:Nat}{α:Type}(hb:w.heap.size<=B8)(hl:aA<=B8)(hq:q<B8)(c:Code):OwnFrom B8 (Zj aA w q K p2 C x B8 (α:=α) c):=by
 intro s W W' row hs hg hr;obtain⟨h1,h0,K',h2,h3,h4⟩:=hs;exact⟨h1,h0,K',h2.grown h3 hb hl hq hg hr,h3,rQ h4 hg (λr e=>(hr r e).2)⟩
def Eh (h:aP K w w')(hk:∀n,K n->n<B):adY B w w' :=
 ⟨h.size,λk o hB ho _=>(h.block k (aaz.1 ho).1 (λe=>by have:=hk k e;omega)).trans ho⟩
def pO {r:Nat}{t:acO}{cs:Array acK}(h:aD W r t cs)(i:Nat)(u:acK):adY B W (W.setCell ⟨r,i,none⟩ u):=by
 refine⟨ai,λk o hB ho hc=>?_⟩;refine((aP.set (F:=λn=>n=r) W (p:=⟨r,i,none⟩) rfl u).block k (aaz.1 ho).1 (λe=>?_)).trans ho;have:W.heap[r]?=some (ach cs t):=h;rw[e,this]at ho;injection ho with ho;rw[<-ho]at hc;cases hc
def Po.Bt {pm:Po}{aB v:Nat}{bl:List Nat}(hm:p.mine aB=(pm,x))(hb:PI.point (pm.get x) k v=bl)(hp:PI.ptrs bl=[]):p.point aB k v=(pm.free x,0):=by
 unfold Po.point;rw[hm];dsimp only;rw[hb,if_pos hp]
def Po.Bu {pm:Po}{aB v:Nat}{bl:List Nat}(hm:p.mine aB=(pm,x))(hb:PI.point (pm.get x) k v=bl)(hp:PI.ptrs bl≠[]):p.point aB k v=(pm.put x bl,x):=by
 unfold Po.point;rw[hm];dsimp only;rw[hb,if_neg hp]
def wo {v0:acK}(hb:aD W C 3 #[v0])(tmps:Array acK)(h2:tmps[8]?=some (adj (some ⟨C,0,none⟩))) :
  (results Tryz.f61 tmps).run prog W=.ok v0 W:=by
 have g0:W.cell? ⟨C,0,none⟩=some v0:=hb.cell 0;simp only[results,results61];simp[go_sem,h2,g0]
def bG.marked (h:bG aA w q K w' K' p')(hk:∀n,K' n->n<B)(hb:w.heap.size<=B)(hl:aA<=B)(hq:q<B)(hD:B<=D)(hK:w'.heap[D]?=some (adL (some []))):bG aA w q K (w'.putObj D (adL none)) K' p' :=
 h.grown hk hb hl hq (grownBy_putObj' w' D _) (λr e=>by cases e;exact⟨hD,_,hK,rfl⟩)
def Tp {b c:Nat}{l:List Nat}(h:Own w b (aco (some ⟨g,0,none⟩) 64 c) l):g<w.heap.size:=by
 rcases h.2 with⟨h1,_⟩|⟨g',cap,cur,hv,_,hg,_⟩;cases h1;injection hv with hv;injection hv with hv;injection hv with hv;have hb:aD w g' 5 cur:=hg;rw[hv];exact hb.lt
def xK (h:PQ aA w q K p)(hg:aD w g 74 F)(hq:F[0]?=some (ptr q))(QX:¬K g)(aB k v:Nat)(hk:k<32)(hv:v<8192)(h0:aB=0->0<p.aK)(h1:aB≠0->aB<8192/\MP.has p.U aB=true) :
  ac4 prog 61 #[ptr g,vi aB,vi k,vi v] w λe w'=>∃K',e=ab4 (vi (p.point aB k v).2)/\bG aA w q K w' K' (p.point aB k v).1:=by
 have H:=az h;have FJ:=az QX;have ahE:Hid (g<w.heap.size):=az hg.lt;refine callsIn_wide.1 (callsIn_of_wp_marks (F:=Fence.wide) (n:=6) func61 rfl trivial (wpIn_wide.2 ?_) rfl);simp only[ntmps61,List.size_toArray,adV,List.length_nil,Nat.reduceAdd,Nat.reduceSub,Array.replicate_succ,Array.replicate_zero,List.push_toArray,List.append_toArray,List.nil_append,List.cons_append];have FU:=az h.low;obtain⟨hb3,hsz⟩:=three w (ach #[ptr g] 72) (ach #[vi aB] 3) (ach #[vi 0] 3);have HA:=az (((aD.new w 72 #[ptr g]).alloc (ach #[vi aB] 3)).alloc (ach #[vi 0] 3))
 have HBp:Hid (aD (((w.alloc (ach #[ptr g] 72)).alloc (ach #[vi aB] 3)).alloc (ach #[vi 0] 3)) (w.heap.size+1) 3 #[vi aB]):=az (by
  have:=(aD.new (w.alloc (ach #[ptr g] 72)) 3 #[vi aB]).alloc (ach #[vi 0] 3)
  rwa[size_alloc]at this)
 have HCr:Hid (aD (((w.alloc (ach #[ptr g] 72)).alloc (ach #[vi aB] 3)).alloc (ach #[vi 0] 3)) (w.heap.size+1+1) 3 #[vi 0]):=az (by
  have:=aD.new ((w.alloc (ach #[ptr g] 72)).alloc (ach #[vi aB] 3)) 3 #[vi 0]
  rwa[size_alloc,size_alloc]at this)
 have HB3:=az hb3;have iR:=az (hg.old hb3);have HQ:=az hq;clear hb3 hsz hg h;go_upto_region 1 with fail;change adW _ _ _ _ (((w.alloc (ach #[ptr g] 72)).alloc (ach #[vi aB] 3)).alloc (ach #[vi 0] 3));generalize ((w.alloc (ach #[ptr g] 72)).alloc (ach #[vi aB] 3)).alloc (ach #[vi 0] 3)=w1 at*;obtain⟨C,hC⟩:∃C,C=w.heap.size+1+1:=⟨_,rfl⟩;rw[<-hC]at HCr ⊢;obtain⟨B,hB⟩:∃B,B=w.heap.size+1:=⟨_,rfl⟩;rw[<-hB]at HBp ⊢;obtain⟨A,hA⟩:∃A,A=w.heap.size:=⟨_,rfl⟩;rw[<-hA]at HA ⊢;have wU:Hid (w.heap.size<=A/\w.heap.size<=B/\w.heap.size<=C/\A≠B/\A≠C/\B≠C):=az aa;have Ik:Hid (g≠B):=az (by have:=ahE.o;omega)
 have wW:Hid (¬K A/\¬K B/\¬K C):=az ⟨λe=>by have:=H.o.lt _ e;omega,λe=>by have:=H.o.lt _ e;omega,λe=>by have:=H.o.lt _ e;omega⟩;clear hA hB hC;have H1:=az (H.o.old HB3.o);have KI:Hid (rO g A B C aB F w1):=az ⟨iR.o,HA.o,HBp.o,HCr.o⟩;clear HA HBp HCr iR;have c4:w1.cell? ⟨A,0,none⟩=some (ptr g):=KI.o.fb.cell 0;have c5:w1.cell? ⟨B,0,none⟩=some (vi aB):=KI.o.pb.cell 0;have f5:=KI.o.pb.frozen 0;have e0:w1.cell? ⟨g,0,none⟩=some (ptr q):=by rw[KI.o.file.cell];exact HQ.o
 go_upto_if 12 with fail;have HH0:=az h0;have HH1:=az h1;clear h0 h1;go_cut [13] from 11 to 20 (λ_ wx=>Hid (rO g A B C (p.mine aB).2 F wx)/\Hid (bG aA w q K wx K (p.mine aB).1)/\Hid ((p.mine aB).2<8192/\MP.has (p.mine aB).1.U (p.mine aB).2=true))
 case first =>
  by_cases hp0:aB=0
  ·have Zk:Hid (p.mine aB=(p.alloc p.first,p.first.toNat)):=az (if_pos hp0);obtain⟨q1,q2,q3⟩:=H.o.ok.first (HH0.o hp0);have hd:=H.o.ok.bI;have hgv:=Po.dF.1 q1;have HFI:Hid (p.first=(p.first.toNat:Int)/\p.first.toNat<8192):=az ⟨aa,aa⟩;have GN:=az (Ef H1.o (HH0.o hp0));subst hp0;clear q1 q2 q3 hd hgv;go_wp2_with fail;refine GN.o.mono ?_;rintro e w2 ⟨rfl,hgo⟩;have HB2:Hid (aD w2 B 3 #[vi 0]):=az (hgo.keep KI.o.pb wW.o.2.1).1;have HA2:Hid (aD w2 A 72 #[ptr g]):=az (hgo.keep KI.o.fb wW.o.1).1;have JQ:Hid (aD w2 C 3 #[vi 0]):=az (hgo.keep KI.o.rb wW.o.2.2).1
   have HG2:Hid (aD w2 g 74 F):=az (hgo.keep KI.o.file FJ.o).1;have FV:=az ((bG.aX H.o HB3.o).trans hgo);have d5:w2.cell? ⟨B,0,none⟩=some (vi 0):=HB2.o.cell 0;have z5:=HB2.o.frozen 0;clear hgo c4 c5 f5 e0 GN;go_wp2;go_meet;have hst:aP (λn=>n=B) w2 (w2.setCell ⟨B,0,none⟩ (vi p.first)):=aP.set (F:=λn=>n=B) w2 (p:=⟨B,0,none⟩) rfl _;have hle:=wU.o;rw[Zk.o];refine⟨az ⟨HG2.o.aJ hst (λe=>Ik.o e),HA2.o.aJ hst (λe=>hle.2.2.2.1 e),?_,JQ.o.aJ hst (λe=>hle.2.2.2.2.2 e.symm)⟩,az (FV.o.jg H.o HB2.o hle.2.1 wW.o.2.1 hst),az ⟨HFI.o.2,?_⟩⟩;show aD _ B 3 #[vi (p.first.toNat:Int)]
   rw[<-HFI.o.1];exact HB2.o.bB 0 (vi p.first);show MP.has (MP.put p.U p.first p.first) (p.first.toNat:Int)=true;rw[<-HFI.o.1,kE,if_pos rfl]
  have Zk:Hid (p.mine aB=(p,aB)):=az (if_neg hp0);have hpi:¬(aB:Int)=0:=aa;go_wp2;go_meet;rw[Zk.o];exact⟨KI,az (bG.aX H.o HB3.o),az (HH1.o hp0)⟩
 case rest =>
  obtain⟨KJ,FV,HXU⟩:=hcut;clear c4 c5 f5 e0 KI H1 HH0 HH1;generalize Xg:p.mine aB=m at*;have Zk:=az Xg;clear Xg;obtain⟨pm,x⟩:=m;dsimp only at*;go_upto_region 3 with fail;have CX:Hid (pm.there x=true):=az (Po.cz.2 (acm HXU.o.2));have je:=az (FV.o.at_.len x CX.o);have IU:Hid (∀W,acN wc.heap.size wc W->ac4 prog 34 #[ptr q,vi x] W (aaK aA W q K pm x)):=az (λW hb=>sS (FV.o.at_.old hb) x (by have:=HXU.o.1;omega) CX.o);have HB0:Hid (acN wc.heap.size wc wc):=az ak;have nR:Hid (∀W,acN wc.heap.size wc W->acN wc.heap.size wc W.drew):=az (λW h=>h.drew)
  have Ii:Hid (∀(W:acL) o,acN wc.heap.size wc W->acN wc.heap.size wc (W.alloc o)):=az (λW o h=>h.alloc h.size o);have nS:Hid (∀W W' K',acN wc.heap.size wc W->bM aA W q K W' K' pm->rO g A B C x F W'):=az (λW W' K' hb hr=>(KJ.o.old hb).go hr.go FJ.o wW.o);have FL:Hid (∀W W' K',acN wc.heap.size wc W->bM aA W q K W' K' pm->bG aA w q K W' K' pm):=az (λW W' K' hb hr=>(FV.o.old hb).trans hr.go);have Zl:Hid (∀W W' K',bM aA W q K W' K' pm->aD W wc.heap.size 23 #[aco none 0 0]->(aD W' wc.heap.size 23 #[aco none 0 0]/\¬K' wc.heap.size)) :=
   az (λW W' K' hr hb=>hr.go.keep hb (λe=>by have:=FV.o.at_.lt _ e;omega))
  have GQ:Hid (wc.heap.size≠g/\wc.heap.size≠A/\wc.heap.size≠B/\wc.heap.size≠C):=az ⟨λe=>by have:=KJ.o.file.lt;omega,λe=>by have:=KJ.o.fb.lt;omega,λe=>by have:=KJ.o.pb.lt;omega,λe=>by have:=KJ.o.rb.lt;omega⟩;have HWC:Hid (w.heap.size<=wc.heap.size):=az FV.o.size;go_cut [9,10] from 21 to 29 (λv9 v10 wx=>∃K5 D g5 c5,v9=adj (some ⟨D,0,none⟩)/\v10=vi 0/\Hid (aD wx D 23 #[aco (some ⟨g5,0,none⟩) 64 c5])/\Hid (wc.heap.size<=D)/\Hid (rO g A B C x F wx)/\Hid (bG aA w q K wx K5 pm/\∀n,K5 n->K n)/\Hid (bE wx (some ⟨g5,0,none⟩) (pm.get x)))
  case first =>
   go_region_held3 (λW=>(W.cell? ⟨A,0,none⟩=some (ptr g)/\W.cell? ⟨B,0,none⟩=some (vi x)/\W.cell? ⟨g,0,none⟩=some (ptr q)))
    (exact rO.facts (C:=C) (F:=F) (by repeat (with_reducible first|exact KJ.o|exact Dm.o|(refine rO.drew ?_)|(refine rO.alloc _ ?_)|(refine rO.set GQ.o _ _ ?_))) HQ.o)
    (first|(go_at_call 34;refine(IU.o _ (by repeat first|exact HB0.o|(refine nR.o _ ?_)|(refine Ii.o _ _ ?_))).mono ?_;rintro e w5 ⟨K5,g5,c5,rfl,jT,hg5,JR,amP,qJ⟩;have Dm:=az (nS.o _ _ _ (by repeat first|exact HB0.o|(refine nR.o _ ?_)|(refine Ii.o _ _ ?_)) qJ);have ht5:=FL.o _ _ _ (by repeat first|exact HB0.o|(refine nR.o _ ?_)|(refine Ii.o _ _ ?_)) qJ;first|(have hk5:=Zl.o _ _ _ qJ (by exact aD.new _ _ _);have r0:w5.cell? ⟨wc.heap.size,0,none⟩=some (aco none 0 0):=hk5.1.cell 0;have f0:=hk5.1.frozen 0)|skip))
   all_goals
    have hrow:=Own.zu jT je.o.1 je.o.2;go_wp2;go_meet;first
     |(have hx:=hk5.1
       have hst:aP (λn=>n=wc.heap.size) w5 (w5.setCell ⟨wc.heap.size,0,none⟩ (aco (some ⟨g5,0,none⟩) 64 c5)):=aP.set (F:=λn=>n=wc.heap.size) w5 (p:=⟨wc.heap.size,0,none⟩) rfl _
       have hz:=ht5.jg H.o hx HWC.o hk5.2 hst
       have hp:=Dm.o.aJ hst GQ.o
       have yL:=FD jT hst (λm e e2=>bU jT hx ag (by rw[e,e2]))
       have MW:=Own.zu yL je.o.1 je.o.2
       exact⟨K5,_,g5,c5,rfl,rfl,az (hx.bB 0 _),az aj,az hp,az ⟨hz,qJ.sub⟩,az MW⟩)
     |skip
   all_goals
    have hbn:=aD.new w5 23 #[aco (some ⟨g5,0,none⟩) 64 c5];have hbb:acN w5.heap.size w5 (w5.alloc (ach #[aco (some ⟨g5,0,none⟩) 64 c5] 23)):=ax;have hz:=ht5.old hbb;have hp:=Dm.o.old hbb;exact⟨K5,w5.heap.size,g5,c5,rfl,rfl,az hbn,az qJ.go.size,az hp,az ⟨hz,qJ.sub⟩,az (hrow.below hbb)⟩
  case rest =>
   obtain⟨K5,D,g5,c5,rfl,rfl,hbd,hdl,Dm,aaP,Zm⟩:=hcut;clear HB0 nR Ii nS FL Zl IU KJ;have Bv:=az (O3 (some ⟨g5,0,none⟩) c5 k v (pm.get x) Zm.o je.o.1 hk hv);have qL:Hid ((PI.point (pm.get x) k v).length=64/\∀y∈PI.point (pm.get x) k v,y<256):=az ⟨by rw[PI.xJ];exact je.o.1,PI.rM je.o.2 hv⟩;have d9:wc.cell? ⟨D,0,none⟩=some (aco (some ⟨g5,0,none⟩) 64 c5):=hbd.o.cell 0;have z9:=hbd.o.frozen 0;have Zl:Hid (¬K5 D):=az (λe=>by have:=FV.o.at_.lt _ (aaP.o.2 _ e);have:=hdl.o;omega);have adG:=az hbd.o;have Bw:=az aaP.o;have vQ:Hid (w.heap.size<=D):=az (abX HWC.o hdl.o)
   have HDN:Hid (D≠g/\D≠A/\D≠B/\D≠C):=az (by
    have h1:=Dm.o.file
    have h2:=Dm.o.fb
    have h3:=Dm.o.pb
    have h4:=Dm.o.rb
    have h5:=hbd.o
    refine⟨λe=>?_,λe=>?_,λe=>?_,λe=>?_⟩
    rw[e]at h5;exact absurd (bY h5 h1) ag
    rw[e]at h5;exact absurd (bY h5 h2) ag
    rw[e]at h5;exact absurd (bY h5 h3) ag
    rw[e]at h5;exact absurd (bY h5 h4) ag)
   clear hbd aaP hdl Zm;generalize hbl:PI.point (pm.get x) k v=bl at*;have lK:=az hbl;clear hbl;go_wp2_with fail;refine Bv.o.mono ?_;rintro e w6 ⟨v6,rfl,yL,hb6⟩;obtain⟨g6,c6,rfl,uy,hc6,amQ⟩:=oF yL (by rw[qL.o.1];decide);rw[qL.o.1]at yL hc6 ⊢;have d6:w6.cell? ⟨D,0,none⟩=some (aco (some ⟨g5,0,none⟩) 64 c5):=cell_below d9 hb6;have HD6:=az (adG.o.old hb6);have z6:=HD6.o.frozen 0;clear d9 z9;go_upto_region 5 with fail;have hst:aP (λn=>n=D) w6 (w6.setCell ⟨D,0,none⟩ (aco (some ⟨g6,0,none⟩) 64 c6)):=aP.set (F:=λn=>n=D) w6 (p:=⟨D,0,none⟩) rfl _;have HD7:=az (HD6.o.bB 0 (aco (some ⟨g6,0,none⟩) 64 c6))
   have adH:=az ((Dm.o.old hb6).aJ hst HDN.o);have adI:=az ((Bw.o.1.old hb6).jg H.o HD6.o vQ.o Zl.o hst);have Bz:Hid (bE (w6.setCell ⟨D,0,none⟩ (aco (some ⟨g6,0,none⟩) 64 c6)) (some ⟨g6,0,none⟩) bl):=az (Own.zu (FD yL hst (λm e e2=>bU yL HD6.o ag (by rw[e,e2]))) qL.o.1 qL.o.2);change adW _ _ _ _ (w6.setCell ⟨D,0,none⟩ (aco (some ⟨g6,0,none⟩) 64 c6));have O5:Hid (g6<w6.heap.size):=az (Tp yL);have ahJ:Hid ((w6.setCell ⟨D,0,none⟩ (aco (some ⟨g6,0,none⟩) 64 c6)).heap.size=w6.heap.size):=az ai;rw[<-ahJ.o]at O5
   clear yL hb6 hst d6 z6 HD6 Dm adG Bv uy;generalize w6.setCell ⟨D,0,none⟩ (aco (some ⟨g6,0,none⟩) 64 c6)=w7 at*;have d7:w7.cell? ⟨D,0,none⟩=some (aco (some ⟨g6,0,none⟩) 64 c6):=HD7.o.cell 0;go_wp2_with fail;refine(vY (some ⟨g6,0,none⟩) 64 c6).mono ?_;rintro e w8 ⟨rfl,rfl⟩;go_wp2_with fail;have wX:Hid (acN w7.heap.size w7 (w7.alloc (ach #[aco (some ⟨g6,0,none⟩) 64 c6] 23))):=az ax;have zP:=az (aD.new w7 23 #[aco (some ⟨g6,0,none⟩) 64 c6]);have Xh:Hid ((w7.alloc (ach #[aco (some ⟨g6,0,none⟩) 64 c6] 23)).heap.size=w7.heap.size+1):=az ai
   have HD8:=az (HD7.o.old wX.o);have adJ:=az (adH.o.old wX.o);have Xi:=az (adI.o.old wX.o);have Ei:=az (Bz.o.below wX.o);clear HD7 adH adI Bz d7;change adW _ _ _ _ (w7.alloc (ach #[aco (some ⟨g6,0,none⟩) 64 c6] 23));generalize w7.alloc (ach #[aco (some ⟨g6,0,none⟩) 64 c6] 23)=w8 at*;obtain⟨b1,hb1⟩:∃b,b=w7.heap.size:=⟨_,rfl⟩;rw[<-hb1]at zP Xh O5 ⊢;clear hb1 wX;have ig:Hid (b1<w8.heap.size/\g6<w8.heap.size):=az (by have h1:=Xh.o;have h2:=O5.o;omega);have HK5:Hid (∀n,K5 n->n<w8.heap.size):=az (λn e=>Xi.o.at_.lt n e);have CY:Hid (w.heap.size<=w8.heap.size):=az Xi.o.size
   have HSQ:=uA (w:=w8) 5 ag b1 g6 c6 bl (zP.o.cell 0) Ei.o qL.o.1;have Tq:=Xe w8 (α:=Fin (PI.ptrs bl).length);have HOX:=λc=>Xf (aA:=aA) (w:=w) (q:=q) (K:=K) (p2:=pm.put x bl) (C:=C) (x:=x) (α:=Fin (PI.ptrs bl).length) CY.o (abX FU.o CY.o) (adN H.o.JV CY.o) c
   have HEG:=dI func130 ah rfl;refine(wpIn_wide (n:=6)).1 ?_;refine wpIn_rangeFunc_ownG_of_H (F:=Fence.wide) (n:=6) rfl aa (gf:=130) (lb:=#[adj (some ⟨b1,0,none⟩)]) ?g1 ?g2 HEG HSQ ?g4 ?g5 ?g6 ?g7 (Zi w8) (Zj aA w q K (pm.put x bl) C x w8.heap.size) Tq HOX ?g8
    (λx=>{tmps:=#[ptr g,vi aB,vi k,vi v,adj (some ⟨A,0,none⟩),adj (some ⟨B,0,none⟩),undef,undef,adj (some ⟨C,0,none⟩),adj (some ⟨D,0,none⟩),vi 0,u11,u12,u13,u14,u15,u16,u17,u18,u19,u20,u21,u22,u23,u24,u25,u26,u27,u28,u29,adg #[aco (some ⟨g6,0,none⟩) 64 c6,vi 0],aco (some ⟨g5,0,none⟩) 64 c5,vi k,vi v,adg #[aco (some ⟨g6,0,none⟩) 64 c6,vi 0],aco (some ⟨g6,0,none⟩) 64 c6,vi 0,aco (some ⟨g6,0,none⟩) 64 c6,.func (.func 130) #[] #[adj (some ⟨b1,0,none⟩)],vi (((PI.ptrs bl)[x.1]).1:Int),vi (((PI.ptrs bl)[x.1]).2:Int),undef,undef,undef,undef,undef,undef,undef,undef,undef,undef,undef,undef,undef,undef],defers:=[]}) ?_ ?_ ?_ ?_ ?g9
   case g1=>rfl
   case g2=>trivial
   case g4=>exact λh k=>lN.t h k
   case g5=>exact λW l o o' hl h _ _=>lN.b ig.o.1 ig.o.2 W l o o' hl h
   case g6=>exact ak
   case g7=>exact λ_=>rfl
   case g8=>exact⟨rfl,ak⟩
   case g9=>exact λW=>aP.refl _ _
   ·intro l y W K hK;have HK:=az hK;clear hK;dsimp only;gi_wp2;exact HK.o
   ·rintro l pre y W ⟨rfl,hB⟩ hlen;have uz:=az hB;have IW:=az (adJ.o.old hB);have HDW:=az (HD8.o.old hB);have Tt:=az (Xi.o.old hB);clear hB hlen;dsimp only;gi_wp2;have hSW:(λW=>W.cell? ⟨A,0,none⟩=some (ptr g)/\W.cell? ⟨B,0,none⟩=some (vi x)/\W.cell? ⟨g,0,none⟩=some (ptr q)/\W.cell? ⟨D,0,none⟩=some (aco (some ⟨g6,0,none⟩) 64 c6)) W.drew:=⟨IW.o.fb.cell 0,IW.o.pb.cell 0,by rw[(rO.drew IW.o).file.cell];exact HQ.o,HDW.o.cell 0⟩;refine FT (S:=(λW=>W.cell? ⟨A,0,none⟩=some (ptr g)/\W.cell? ⟨B,0,none⟩=some (vi x)/\W.cell? ⟨g,0,none⟩=some (ptr q)/\W.cell? ⟨D,0,none⟩=some (aco (some ⟨g6,0,none⟩) 64 c6))) ah ah (by rintro⟨a,w,h⟩;exact h) ?_
    change wpAnyH _ _ _ _ _ 7 #[false,false,false,false,false,false,false] _ _;refine ad1 (i:=0) (oi:=⟨some 41,_,_,_,_,_⟩) (v:= ?_) rfl ah ah ah (λ_ _ _ h=>h) (Or.inl ⟨by rfl,?_⟩) (by assumption) ?_;rotate_left
    ·intro w hSw;(try dsimp only at hSw);go_simp;(try with_reducible rfl)
    simp only[ay];refine ad1 (i:=1) (oi:=⟨some 42,_,_,_,_,_⟩) (v:= ?_) rfl ah ah ah (λ_ _ _ h=>h) (Or.inl ⟨by rfl,?_⟩) (by assumption) ?_;rotate_left
    ·intro w hSw;(try dsimp only at hSw);go_simp;(try with_reducible rfl)
    simp only[ay];refine ad1 (i:=2) (oi:=⟨some 43,_,_,_,_,_⟩) (v:= ?_) rfl ah ah ah (λ_ _ _ h=>h) (Or.inl ⟨by rfl,?_⟩) (by assumption) ?_;rotate_left
    ·intro w hSw;(try dsimp only at hSw);go_simp;(try with_reducible rfl)
    simp only[ay];refine ad1 (i:=3) (oi:=⟨some 44,_,_,_,_,_⟩) (v:= ?_) rfl ah ah ah (λ_ _ _ h=>h) (Or.inl ⟨by rfl,?_⟩) (by assumption) ?_;rotate_left
    ·intro w hSw;(try dsimp only at hSw);go_simp;(try with_reducible rfl)
    simp only[ay];refine ad1 (i:=4) (oi:=⟨some 45,_,_,_,_,_⟩) (v:= ?_) rfl ah ah ah (λ_ _ _ h=>h) (Or.inl ⟨by rfl,?_⟩) (by assumption) ?_;rotate_left
    ·intro w hSw;(try dsimp only at hSw);go_simp;(try with_reducible rfl)
    simp only[ay];refine ad1 (i:=5) (oi:=⟨some 46,_,_,_,_,_⟩) (v:= ?_) rfl ah ah ah (λ_ _ _ h=>h) (Or.inl ⟨by rfl,?_⟩) (by assumption) ?_;rotate_left
    ·intro w hSw;(try dsimp only at hSw);go_simp;(try with_reducible rfl)
    simp only[ay];refine wpAnyH_ready (rs:=[6]) ah ai ?_;refine AllReadyH.cons rfl (λK0 hK0=>?_) AllReadyH.nil;have HK0:=az hK0;clear hK0;go_simp;have HRW:Hid (bE W.drew (some ⟨g6,0,none⟩) bl):=az ((Ei.o.below uz.o).below au);have HPU:=az (FH (PQ.old Tt.o.at_ au) x CX.o (some ⟨g6,0,none⟩) c6 bl HRW.o qL.o.1);refine HPU.o.mono ?_;rintro e W2 ⟨rfl,hgo⟩;have ug:Hid (rO g A B C x F W2):=az (rO.go (rO.drew IW.o) hgo (λe=>FJ.o (Bw.o.2 _ e)) ⟨λe=>wW.o.1 (Bw.o.2 _ e),λe=>wW.o.2.1 (Bw.o.2 _ e),λe=>wW.o.2.2 (Bw.o.2 _ e)⟩)
    have HD9:Hid (aD W2 D 23 #[aco (some ⟨g6,0,none⟩) 64 c6]):=az (hgo.keep HDW.o Zl.o).1;have ahN:=az ((Tt.o.old au).trans hgo);have HKE:Hid (adY w8.heap.size W W2):=az ((Eh (K:=λ_=>False) (aP.of_below (ac3 _ W).drew) (λ_ e=>e.elim)).trans (Eh hgo.aJ HK5.o));clear hgo HPU HRW IW HDW Tt hSW;refine HK0.o.out _ _ ⟨ug.o.fb.cell 0,ug.o.pb.cell 0,by rw[ug.o.file.cell];exact HQ.o,HD9.o.cell 0⟩ (λ_=>?_);clear HK0;simp only[ay];refine wpAnyH_done ah ?_ _
    have d5:W2.cell? ⟨B,0,none⟩=some (vi x):=ug.o.pb.cell 0;have d8:W2.cell? ⟨C,0,none⟩=some (vi 0):=ug.o.rb.cell 0;have z8:=ug.o.rb.frozen 0;gi_wp2;have hst:aP (λn=>n=C) W2 (W2.setCell ⟨C,0,none⟩ (vi x)):=aP.set (F:=λn=>n=C) W2 (p:=⟨C,0,none⟩) rfl _;have hz1:adY w8.heap.size W (W2.setCell ⟨C,0,none⟩ (vi x)):=HKE.o.trans (pO ug.o.rb 0 (vi x));have hz2:bG aA w q K (W2.setCell ⟨C,0,none⟩ (vi x)) K5 (pm.put x bl):=ahN.o.jg H.o ug.o.rb wU.o.2.2.1 (λe=>wW.o.2.2 (Bw.o.2 _ e)) hst;have hz3:aD (W2.setCell ⟨C,0,none⟩ (vi x)) C 3 #[vi x]:=ug.o.rb.bB 0 (vi x)
    exact⟨hz1,rfl,⟨y⟩,K5,hz2,HK5.o,hz3⟩
   ·intro D' xs W hD hS hI hK;have hI':xs=[]/\acN w8.heap.size w8 W:=hI;have hS':xs=adK (PI.ptrs bl).length:=hS;obtain⟨h,hB⟩:=hI';have HNP:Hid (PI.ptrs bl=[]):=az (by
     rw[h]at hS'
     have:=congrArg List.length hS'
     rw[List.length_finRange]at this
     exact List.eq_nil_of_length_eq_zero this.symm)
    clear hS hS' hI h;have uz:=az hB;have HK:=az hK;have HD:=az hD;have IW:=az (adJ.o.old hB);have Tt:=az (Xi.o.old hB);clear hB hK hD;go_wp2_with fail;have HB0:Hid (acN W.heap.size W W):=az ak;have nR:Hid (∀W',acN W.heap.size W W'->acN W.heap.size W W'.drew):=az (λW' h=>h.drew);have yB:Hid (∀W',acN W.heap.size W W'->ac4 prog 48 #[ptr q,vi x] W' λe w'=>e=ab4 (vi 0)/\bG aA W' q K5 w' K5 (pm.free x)):=az (λW' hb=>mG (Tt.o.at_.old hb) x HXU.o.2);have nS:Hid (∀W' W'',acN W.heap.size W W'->bG aA W' q K5 W'' K5 (pm.free x)->rO g A B C x F W''):=az (λW' W'' hb hr=>(IW.o.old hb).go hr (λe=>FJ.o (Bw.o.2 _ e)) ⟨λe=>wW.o.1 (Bw.o.2 _ e),λe=>wW.o.2.1 (Bw.o.2 _ e),λe=>wW.o.2.2 (Bw.o.2 _ e)⟩)
    have FL:Hid (∀W' W'',acN W.heap.size W W'->bG aA W' q K5 W'' K5 (pm.free x)->bG aA w q K W'' K5 (pm.free x)):=az (λW' W'' hb hr=>(Tt.o.old hb).trans hr);have HDE:Hid (∀W' W'',acN W.heap.size W W'->bG aA W' q K5 W'' K5 (pm.free x)->W''.heap[D']?=some (adL (some []))):=az (λW' W'' hb hr=>by
     have hlt:D'<W.heap.size:=(aaz.1 HK.o).1
     have h1:=hb.block D' hlt
     exact(hr.aJ.block D' (adN hlt hb.size) (λe=>by have h2:=HK5.o _ e;have h3:=HD.o;omega)).trans (h1.trans HK.o))
    go_region_held3 (λW=>(W.cell? ⟨A,0,none⟩=some (ptr g)/\W.cell? ⟨B,0,none⟩=some (vi x)/\W.cell? ⟨g,0,none⟩=some (ptr q)))
     (exact rO.facts (C:=C) (F:=F) (by repeat (with_reducible first|exact IW.o|exact ug.o|(refine rO.drew ?_))) HQ.o)
     (first|(go_at_call 48;refine(yB.o _ (by repeat first|exact HB0.o|(refine nR.o _ ?_))).mono ?_;rintro e w9 ⟨rfl,hr9⟩;have ug:=az (nS.o _ _ (by repeat first|exact HB0.o|(refine nR.o _ ?_)) hr9);have Ej:=az (FL.o _ _ (by repeat first|exact HB0.o|(refine nR.o _ ?_)) hr9);have HK9:=az (HDE.o _ _ (by repeat first|exact HB0.o|(refine nR.o _ ?_)) hr9)))
    all_goals
     have d8:w9.cell? ⟨C,0,none⟩=some (vi 0):=ug.o.rb.cell 0;have z8:=ug.o.rb.frozen 0;clear hr9 nS FL HDE yB HB0 nR;go_wp2_with fail;have hst:aP (λn=>n=C) w9 (w9.setCell ⟨C,0,none⟩ (vi 0)):=aP.set (F:=λn=>n=C) w9 (p:=⟨C,0,none⟩) rfl _;have hrb:aD (w9.setCell ⟨C,0,none⟩ (vi 0)) C 3 #[vi 0]:=ug.o.rb.bB 0 (vi 0);have hgo:bG aA w q K (w9.setCell ⟨C,0,none⟩ (vi 0)) K5 (pm.free x):=Ej.o.jg H.o ug.o.rb wU.o.2.2.1 (λe=>wW.o.2.2 (Bw.o.2 _ e)) hst;have hdk:(w9.setCell ⟨C,0,none⟩ (vi 0)).heap[D']?=some (adL (some [])):=(hst.block D' (aaz.1 HK9.o).1 (λe=>by
      have h1:w9.heap[C]?=some (ach #[vi 0] 3):=ug.o.rb
      have h2:=HK9.o
      rw[e,h1]at h2
      cases h2)).trans HK9.o
     have hgm:=hgo.marked HK5.o CY.o (abX FU.o CY.o) (adN H.o.JV CY.o) HD.o hdk;have hcp:=di.iB hrb hdk (adL none);refine di.ji (v:=vi 0) hdk ?_ ?_;exact wo hcp _ rfl;refine⟨K5,?_,?_⟩;rw[Po.Bt Zk.o lK.o HNP.o];rfl;rw[Po.Bt Zk.o lK.o HNP.o];exact hgm
   intro D' c' pre W hD hS hI hK;have hI':c'=.ret/\Nonempty (Fin (PI.ptrs bl).length)/\∃K',bG aA w q K W K' (pm.put x bl)/\(∀n,K' n->n<w8.heap.size)/\aD W C 3 #[vi x]:=hI;obtain⟨rfl,⟨y⟩,K',hgo,hlt,hc⟩:=hI';have HNP:Hid (PI.ptrs bl≠[]):=az (λe=>by
    have h1:=y.2
    have h2:=congrArg List.length e
    rw[List.length_nil]at h2
    omega)
   clear hS hI;have FV:=az (hgo.marked hlt CY.o (abX FU.o CY.o) (adN H.o.JV CY.o) hD hK);gi_wp2;have hcp:=di.iB hc hK (adL none);refine di.ji (v:=vi x) hK ?_ ?_;exact wo hcp _ rfl;refine⟨K',?_,?_⟩;rw[Po.Bu Zk.o lK.o HNP.o];rw[Po.Bu Zk.o lK.o HNP.o];exact FV.o
end
end po
namespace po
open RowKit mgr ft pl ino nd
def Po.set (p:Po)(i:PI.bF)(n v:Nat):Po×PI.bF :=
 if n<6 then (p,i.KC n v)
 else if n<38 then ((p.point i.single (n-6) v).1,{i with single:=(p.point i.single (n-6) v).2})
 else
  (((p.point (p.ptr i.double ((n-38)/32)) ((n-38)%32) v).1.point i.double ((n-38)/32) (p.point (p.ptr i.double ((n-38)/32)) ((n-38)%32) v).2).1,
   {i with double:=((p.point (p.ptr i.double ((n-38)/32)) ((n-38)%32) v).1.point i.double ((n-38)/32) (p.point (p.ptr i.double ((n-38)/32)) ((n-38)%32) v).2).2})
def Po.may (p:Po)(x:Nat):Prop:=(x=0->0<p.aK)/\(x≠0->x<8192/\MP.has p.U x=true)
structure Po.wfp (p:Po)(i:PI.bF):Prop where
 len:i.direct.length=6
 double:p.good i.double
 two:∀k,k<32->p.good (p.ptr i.double k)/\True
def Po.wf.p {p:Po}{i:PI.bF}(h:p.wf i):p.wfp i:=⟨h.len,h.double,λk hk=>⟨(h.two k hk).1,trivial⟩⟩
structure Po.BC (p:Po)(i:PI.bF)(n v:Nat):Prop where
 one:6<=n->n<38->p.may i.single
 two:38<=n->p.may (p.ptr i.double ((n-38)/32))/\(p.point (p.ptr i.double ((n-38)/32)) ((n-38)%32) v).1.may i.double/\(p.point (p.ptr i.double ((n-38)/32)) ((n-38)%32) v).2<8192
structure IX (aA:Nat)(w:acL)(q g:Nat)(K:Nat->Prop)(w':acL)(K':Nat->Prop)(p':Po)(i':PI.bF):Prop where
 at_:PQ aA w' q K' p'
 aJ:aP (λn=>K n\/n=g) w w'
 foot:∀n,K' n->K n\/w.heap.size<=n
 file:aD w' g 74 (fileC q i')
 ng:¬K' g
section
variable{q g:Nat}{p p':Po}{K K' K0:Nat->Prop}{i i':PI.bF}
def bG.gg {w0:acL}(h:bG aA w0 q K0 w K p)(k:IX aA w q g K w' K' p' i')(hg:w0.heap.size<=g):bG aA w0 q K0 w' K' p':=by
 refine⟨k.at_,h.aJ.trans k.aJ λn hn e=>?_,λn hn=>?_⟩;rcases e with e|e;rcases h.foot n e with h1|h1;exact h1;omega;omega;rcases k.foot n hn with h1|h1;exact h.foot n h1;exact acm (abX h.aJ.size h1)
def IX.keep {b:Nat}{t:acO}{cs:Array acK}(h:IX aA w q g K w' K' p' i')(hb:aD w b t cs)(hn:¬K b)(hg:b≠g):aD w' b t cs/\¬K' b:=by
 refine⟨hb.aJ h.aJ (λe=>?_),λe=>?_⟩;rcases e with e|e;exact hn e;exact hg e;rcases h.foot b e with h1|h1;exact hn h1;have:=hb.lt;omega
def bG.box {C:Array acK}(h:bG aA w q K w' K' p')(h0:PQ aA w q K p)(hf:aD w g 74 C)(hn:¬K g)(hb:aA<=g)(i:Nat)(v:acK)(hi':(C.setIfInBounds i v)=fileC q i'):IX aA w q g K (w'.setCell ⟨g,i,none⟩ v) K' p' i':=by
 obtain⟨hf',hn'⟩:=h.keep hf hn;have hst:aP (λn=>n=g) w' (w'.setCell ⟨g,i,none⟩ v):=aP.set (F:=λn=>n=g) w' (p:=⟨g,i,none⟩) rfl v;have hgq:g≠q:=λe=>by
  obtain⟨Y,X,h1,_⟩:=h0;have h2:aD w q 96 Y.cs:=h1.pl.obj;rw[<-e]at h2;exact absurd (bY h2 hf) ag
 refine⟨h.at_.aJ hst (λn e=>by rw[e];exact Loose.blk hb hf') (λn e e2=>by rw[e2]at e;exact hn' e) (λe=>hgq e.symm),(h.aJ.mono (λn _ e=>ack e)).trans hst (λn _ e=>acm e),h.foot,by rw[<-hi'];exact hf'.bB i v,hn'⟩
def MX (h:PQ aA w q K p)(i:PI.bF)(hi:p.wfp i)(hf:aD w g 74 (fileC q i))(QX:¬K g)(hbg:aA<=g)(n v:Nat)(hn:n<1062)(hv:v<8192)(hm:p.BC i n v) :
  ac4 prog 33 #[ptr g,vi n,vi v] w λe w'=>e=ab4 (adg #[])/\∃K',IX aA w q g K w' K' (p.set i n v).1 (p.set i n v).2:=by
 have H:=az h;have FJ:=az QX;have HBG:=az hbg;have e0:=file_q hi.len hf;have HF:=az hf;have HS:=az (kR h);have HT:=az (Ba (w:=w) n hn);clear h QX hf hbg;by_cases h6:n<6
 ·have CZ:Hid (p.set i n v=(p,i.KC n v)):=az (by unfold Po.set;rw[if_pos h6]);rw[show PI.way n=(0,n,0) by unfold PI.way;rw[if_pos h6]]at HT;dsimp only at HT;rw[CZ.o];have HST:Hid (∀W,aD W g 74 (fileC q i)->aD (W.setCell ⟨g,4+n,none⟩ (vi v)) g 74 (fileC q (i.KC n v))):=az (λW h=>file_set hi.len h h6 v);have wU:=az hi.len;clear hi hm CZ;go_in;go_wp2_with fail;refine HS.o.mono ?_;rintro e w' ⟨rfl,rfl⟩;go_wp2_with fail;refine HT.o.mono ?_;rintro e w2 ⟨rfl,hb2⟩;go_upto_region 1 with fail;have HB3:Hid (acN w'.heap.size w' (w2.alloc (ach #[vi 0,vi n,vi 0] 111))):=az (hb2.alloc hb2.size _)
  have iR:=az (aD.new w2 111 #[vi 0,vi n,vi 0]);change adW _ _ _ _ (w2.alloc (ach #[vi 0,vi n,vi 0] 111));have MV:Hid (¬K w2.heap.size):=az (λe=>by have:=H.o.lt _ e;have:=hb2.size;omega);have MM:Hid (g≠w2.heap.size):=az (λe=>by have:=HF.o.lt;have:=hb2.size;omega);have vZ:=az (HF.o.old HB3.o);have H3:=az (H.o.old HB3.o);generalize w2.alloc (ach #[vi 0,vi n,vi 0] 111)=w3 at*;generalize w2.heap.size=y at*;have x0:w3.cell? ⟨y,0,none⟩=some (vi 0):=iR.o.cell 0;have x1:w3.cell? ⟨y,1,none⟩=some (vi n):=iR.o.cell 1;have y0:w3.cell? ⟨g,4+n,none⟩=some (vi (i.direct.getD n 0)):=file_d wU.o vZ.o h6
  have y1:w3.frozen? ⟨g,4+n,none⟩=false:=vZ.o.frozen _;generalize i.direct.getD n 0=d at*;have n6:(n:Int)<6:=aa;have n0:(0:Int)<=(n:Int):=aa;clear hb2 HS HT HF e0;go_upto_region 3 with fail;clear iR x0;go_region;go_wp2_with fail;have hst:aP (λm=>m=g) w3 (w3.setCell ⟨g,4+n,none⟩ (vi v)):=aP.set (F:=λm=>m=g) w3 (p:=⟨g,4+n,none⟩) rfl _;have hgq:g≠q:=λe=>by
   obtain⟨Y,X,h1,_⟩:=H3.o;have h2:aD w3 q 96 Y.cs:=h1.pl.obj;rw[<-e]at h2;exact absurd (bY h2 vZ.o) ag
  have hq4:PQ aA (w3.setCell ⟨g,4+n,none⟩ (vi v)) q K p:=H3.o.aJ hst (λm e=>by rw[e];exact Loose.blk HBG.o vZ.o) (λm e e2=>by rw[e2]at e;exact FJ.o e) (λe=>hgq e.symm);have hc4:aP (λm=>K m\/m=g) w' (w3.setCell ⟨g,4+n,none⟩ (vi v)):=(aP.of_below HB3.o).trans hst (λm _ e=>acm e);have hf4:=HST.o w3 vZ.o;go_end0;exact⟨rfl,K,⟨hq4.old au,hc4.drew,λm e=>ack e,Iw hf4,FJ.o⟩⟩
 have wU:=az hi.len;obtain⟨kd,ln,sz,dl,sg,db⟩:=i;obtain⟨d0,d1,d2,d3,d4,d5,rfl⟩:=six (l:=dl) hi.len;by_cases zN:n<38
 ·have CZ:Hid (p.set ⟨kd,ln,sz,[d0,d1,d2,d3,d4,d5],sg,db⟩ n v=((p.point sg (n-6) v).1,⟨kd,ln,sz,[d0,d1,d2,d3,d4,d5],(p.point sg (n-6) v).2,db⟩)):=az (by unfold Po.set;rw[if_neg h6,if_pos zN]);rw[show PI.way n=(1,n-6,0) by unfold PI.way;rw[if_neg h6,if_pos zN]]at HT;dsimp only at HT;have hone:=hm.one aa zN;dsimp only at hone;rw[CZ.o];dsimp only;have Bq:Hid (∀W,PQ aA W q K p->aD W g 74 #[ptr q,vi kd,vi ln,vi sz,vi d0,vi d1,vi d2,vi d3,vi d4,vi d5,vi sg,vi db]->ac4 prog 61 #[ptr g,vi sg,vi ((n-6:Nat):Int),vi v] W λe w'=>∃K',e=ab4 (vi (p.point sg (n-6) v).2)/\bG aA W q K w' K' (p.point sg (n-6) v).1) :=
   az (λW h1 h2=>xK h1 h2 rfl FJ.o sg (n-6) v aa hv hone.1 hone.2)
  clear hi hm hone CZ;generalize p.point sg (n-6) v=r at*;obtain⟨p2,r2⟩:=r;dsimp only at*;generalize n-6=m at*;go_in;go_wp2_with fail;refine HS.o.mono ?_;rintro e w' ⟨rfl,rfl⟩;go_wp2_with fail;refine HT.o.mono ?_;rintro e w2 ⟨rfl,hb2⟩;go_upto_region 1 with fail;have HB3:Hid (acN w'.heap.size w' (w2.alloc (ach #[vi 1,vi m,vi 0] 111))):=az (hb2.alloc hb2.size _);have iR:=az (aD.new w2 111 #[vi 1,vi m,vi 0]);change adW _ _ _ _ (w2.alloc (ach #[vi 1,vi m,vi 0] 111));have MV:Hid (¬K w2.heap.size):=az (λe=>by have:=H.o.lt _ e;have:=hb2.size;omega);have MM:Hid (g≠w2.heap.size):=az (λe=>by have:=HF.o.lt;have:=hb2.size;omega)
  have vZ:=az (HF.o.old HB3.o);have H3:=az (H.o.old HB3.o);generalize w2.alloc (ach #[vi 1,vi m,vi 0] 111)=w3 at*;generalize w2.heap.size=y at*;have x0:w3.cell? ⟨y,0,none⟩=some (vi 1):=iR.o.cell 0;have FK:Hid (sU g y #[ptr q,vi kd,vi ln,vi sz,vi d0,vi d1,vi d2,vi d3,vi d4,vi d5,vi sg,vi db] #[vi 1,vi m,vi 0] w3):=az ⟨vZ.o,iR.o⟩;clear hb2 HS HT vZ iR e0;go_upto_region 5 with fail;clear x0;obtain⟨y0,_,x1,_⟩:=sU.facts FK.o;have HB0:Hid (acN w3.heap.size w3 w3):=az ak;have nR:Hid (∀W,acN w3.heap.size w3 W->acN w3.heap.size w3 W.drew):=az (λW h=>h.drew)
  have V8:Hid (∀W,acN w3.heap.size w3 W->ac4 prog 61 #[ptr g,vi sg,vi m,vi v] W λe w'=>∃K',e=ab4 (vi r2)/\bG aA W q K w' K' p2):=az (λW hb=>Bq.o W (H3.o.old hb) (FK.o.old hb).file);have nS:Hid (∀W W' K',acN w3.heap.size w3 W->bG aA W q K W' K' p2->aD W' g 74 #[ptr q,vi kd,vi ln,vi sz,vi d0,vi d1,vi d2,vi d3,vi d4,vi d5,vi sg,vi db]):=az (λW W' K' hb hr=>(hr.keep (FK.o.old hb).file FJ.o).1);have FL:Hid (∀W W' K',acN w3.heap.size w3 W->bG aA W q K W' K' p2->bG aA w' q K W' K' p2):=az (λW W' K' hb hr=>((bG.aX H.o HB3.o).old hb).trans hr)
  clear Bq;go_region_with (first|(go_at_call 61;refine(V8.o _ (by repeat first|exact HB0.o|(refine nR.o _ ?_))).mono ?_;rintro e w5 ⟨K5,rfl,qJ⟩;have hf5:=nS.o _ _ _ (by repeat first|exact HB0.o|(refine nR.o _ ?_)) qJ;have ql:=az (FL.o _ _ _ (by repeat first|exact HB0.o|(refine nR.o _ ?_)) qJ);have q0:w5.cell? ⟨g,10,none⟩=some (vi sg):=hf5.cell 10;have q1:=hf5.frozen 10))
  all_goals
   clear qJ hf5;go_wp2_with fail;have hz:IX aA w' q g K (w5.setCell ⟨g,10,none⟩ (vi r2)) K5 p2 ⟨kd,ln,sz,[d0,d1,d2,d3,d4,d5],r2,db⟩:=bG.box ql.o H.o HF.o FJ.o HBG.o 10 (vi r2) rfl;go_end0;exact⟨rfl,K5,hz⟩
 have CZ:Hid (p.set ⟨kd,ln,sz,[d0,d1,d2,d3,d4,d5],sg,db⟩ n v=(((p.point (p.ptr db ((n-38)/32)) ((n-38)%32) v).1.point db ((n-38)/32) (p.point (p.ptr db ((n-38)/32)) ((n-38)%32) v).2).1,⟨kd,ln,sz,[d0,d1,d2,d3,d4,d5],sg,((p.point (p.ptr db ((n-38)/32)) ((n-38)%32) v).1.point db ((n-38)/32) (p.point (p.ptr db ((n-38)/32)) ((n-38)%32) v).2).2⟩)):=az (by unfold Po.set;rw[if_neg h6,if_neg zN]);rw[show PI.way n=(2,(n-38)/32,(n-38)%32) by unfold PI.way;rw[if_neg h6,if_neg zN]]at HT;dsimp only at HT;obtain⟨hma,hmb,hmc⟩:=hm.two aa;have WU:=hi.double;have FN:=(hi.two ((n-38)/32) aa).1
 dsimp only at hma hmb hmc WU FN;rw[CZ.o];dsimp only;have adO:(n-38)/32<32:=aa;have ahR:(n-38)%32<32:=aa;clear hi hm CZ;generalize (n-38)/32=m at*;generalize (n-38)%32=m2 at*;have Tn:Hid (∀W,PQ aA W q K p->W.cell? ⟨g,0,none⟩=some (ptr q)->ac4 prog 58 #[ptr g,vi db,vi m] W λe w'=>∃K',e=ab4 (vi (p.ptr db m))/\bM aA W q K w' K' p) :=
  az (λW h1 h2=>nI h1 h2 db m adO WU FN.1)
 have Bq:Hid (∀W K',PQ aA W q K' p->¬K' g->aD W g 74 #[ptr q,vi kd,vi ln,vi sz,vi d0,vi d1,vi d2,vi d3,vi d4,vi d5,vi sg,vi db]->ac4 prog 61 #[ptr g,vi (p.ptr db m),vi m2,vi v] W λe w'=>∃K'',e=ab4 (vi (p.point (p.ptr db m) m2 v).2)/\bG aA W q K' w' K'' (p.point (p.ptr db m) m2 v).1) :=
  az (λW K' h1 h3 h2=>xK h1 h2 rfl h3 (p.ptr db m) m2 v ahR hv hma.1 hma.2)
 clear WU FN hma;generalize p.point (p.ptr db m) m2 v=s at*;generalize p.ptr db m=pm at*;obtain⟨s1,s2⟩:=s;dsimp only at*;have adP:Hid (∀W K',PQ aA W q K' s1->¬K' g->aD W g 74 #[ptr q,vi kd,vi ln,vi sz,vi d0,vi d1,vi d2,vi d3,vi d4,vi d5,vi sg,vi db]->ac4 prog 61 #[ptr g,vi db,vi m,vi s2] W λe w'=>∃K'',e=ab4 (vi (s1.point db m s2).2)/\bG aA W q K' w' K'' (s1.point db m s2).1) :=
  az (λW K' h1 h3 h2=>xK h1 h2 rfl h3 db m s2 adO hmc hmb.1 hmb.2)
 clear hmb hmc;generalize s1.point db m s2=r at*;obtain⟨p2,r2⟩:=r;dsimp only at*;go_in;go_wp2_with fail;refine HS.o.mono ?_;rintro e w' ⟨rfl,rfl⟩;go_wp2_with fail;refine HT.o.mono ?_;rintro e w2 ⟨rfl,hb2⟩;go_upto_region 1 with fail;have HB3:Hid (acN w'.heap.size w' (w2.alloc (ach #[vi 2,vi m,vi m2] 111))):=az (hb2.alloc hb2.size _);have iR:=az (aD.new w2 111 #[vi 2,vi m,vi m2]);change adW _ _ _ _ (w2.alloc (ach #[vi 2,vi m,vi m2] 111));have MV:Hid (¬K w2.heap.size):=az (λe=>by have:=H.o.lt _ e;have:=hb2.size;omega);have MM:Hid (g≠w2.heap.size):=az (λe=>by have:=HF.o.lt;have:=hb2.size;omega)
 have vZ:=az (HF.o.old HB3.o);have H3:=az (H.o.old HB3.o);generalize w2.alloc (ach #[vi 2,vi m,vi m2] 111)=w3 at*;generalize w2.heap.size=y at*;have x0:w3.cell? ⟨y,0,none⟩=some (vi 2):=iR.o.cell 0;have FK:Hid (sU g y #[ptr q,vi kd,vi ln,vi sz,vi d0,vi d1,vi d2,vi d3,vi d4,vi d5,vi sg,vi db] #[vi 2,vi m,vi m2] w3):=az ⟨vZ.o,iR.o⟩;clear hb2 HS HT vZ iR e0;go_upto_region 7 with fail;clear x0;have HB0:Hid (acN w3.heap.size w3 w3):=az ak;have nR:Hid (∀W,acN w3.heap.size w3 W->acN w3.heap.size w3 W.drew):=az (λW h=>h.drew);have V8:Hid (∀W,acN w3.heap.size w3 W->ac4 prog 58 #[ptr g,vi db,vi m] W λe w'=>∃K',e=ab4 (vi pm)/\bM aA W q K w' K' p):=az (λW hb=>Tn.o W (H3.o.old hb) ((FK.o.old hb).file.cell 0))
 have nS:Hid (∀W W' K',acN w3.heap.size w3 W->bM aA W q K W' K' p->sU g y #[ptr q,vi kd,vi ln,vi sz,vi d0,vi d1,vi d2,vi d3,vi d4,vi d5,vi sg,vi db] #[vi 2,vi m,vi m2] W'):=az (λW W' K' hb hr=>hr.atB (FK.o.old hb) FJ.o MV.o);have FL:Hid (∀W W' K',acN w3.heap.size w3 W->bM aA W q K W' K' p->bM aA w' q K W' K' p):=az (λW W' K' hb hr=>((bM.aX H.o HB3.o).old hb).trans hr);clear Tn;go_cut [8] from 49 to 62 (λv8 wx=>∃K6,v8=vi s2/\Hid (bG aA w' q K wx K6 s1)/\Hid (sU g y #[ptr q,vi kd,vi ln,vi sz,vi d0,vi d1,vi d2,vi d3,vi d4,vi d5,vi sg,vi db] #[vi 2,vi m,vi m2] wx)/\Hid (¬K6 g/\¬K6 y))
 case first =>
  go_region_held3 (λW=>(W.cell? ⟨g,10,none⟩=some (vi sg)/\W.cell? ⟨g,11,none⟩=some (vi db)/\W.cell? ⟨y,1,none⟩=some (vi m)/\W.cell? ⟨y,2,none⟩=some (vi m2)))
   (exact sU.facts (q:=q) (by repeat (with_reducible first|exact FK.o|exact FM.o|exact FO.o|(refine sU.drew ?_))))
   (first
    |(go_at_call 61;have hx5:=FM.o;refine(Bq.o _ K5 (PQ.old ql.o.go.at_ (by repeat (with_reducible first | exact ac3 _ _ | (refine adX ?_)))) Tu.o.1 (sU.old hx5 (by repeat (with_reducible first | exact ac3 _ _ | (refine adX ?_)))).file).mono ?_;rintro e w6 ⟨K6,rfl,MW⟩;have GM:=az ((ql.o.old (by repeat (with_reducible first | exact ac3 _ _ | (refine adX ?_)))).go.trans MW);have FO:=az ((sU.old hx5 (by repeat (with_reducible first | exact ac3 _ _ | (refine adX ?_)))).go MW Tu.o.1 Tu.o.2);have Xj:Hid (¬K6 g/\¬K6 y):=az ⟨(MW.keep (sU.old hx5 (by repeat (with_reducible first | exact ac3 _ _ | (refine adX ?_)))).file Tu.o.1).2,(MW.keep (sU.old hx5 (by repeat (with_reducible first | exact ac3 _ _ | (refine adX ?_)))).way Tu.o.2).2⟩)
    |(go_at_call 58;refine(V8.o _ (by repeat first | exact HB0.o | (refine nR.o _ ?_))).mono ?_;rintro e w5 ⟨K5,rfl,qJ⟩;have FM:=az (nS.o _ _ _ (by repeat first | exact HB0.o | (refine nR.o _ ?_)) qJ);have ql:=az (FL.o _ _ _ (by repeat first | exact HB0.o | (refine nR.o _ ?_)) qJ);have Tu:Hid (¬K5 g/\¬K5 y):=az ⟨λe=>FJ.o (qJ.sub _ e),λe=>MV.o (qJ.sub _ e)⟩))
  all_goals
   clear qJ MW;go_wp2;go_meet;exact⟨K6,rfl,GM,FO,Xj⟩
 case rest =>
  obtain⟨K6,rfl,GM,FO,Xj⟩:=hcut;clear HB0 nR V8 nS FL Bq FK H3 HB3;obtain⟨_,y0,x1,_⟩:=sU.facts FO.o;have HB0:Hid (acN wc.heap.size wc wc):=az ak;have nR:Hid (∀W,acN wc.heap.size wc W->acN wc.heap.size wc W.drew):=az (λW h=>h.drew);have V8:Hid (∀W,acN wc.heap.size wc W->ac4 prog 61 #[ptr g,vi db,vi m,vi s2] W λe w'=>∃K',e=ab4 (vi r2)/\bG aA W q K6 w' K' p2):=az (λW hb=>adP.o W K6 (GM.o.at_.old hb) Xj.o.1 (FO.o.old hb).file);have nS:Hid (∀W W' K',acN wc.heap.size wc W->bG aA W q K6 W' K' p2->aD W' g 74 #[ptr q,vi kd,vi ln,vi sz,vi d0,vi d1,vi d2,vi d3,vi d4,vi d5,vi sg,vi db]):=az (λW W' K' hb hr=>(hr.keep (FO.o.old hb).file Xj.o.1).1)
  have FL:Hid (∀W W' K',acN wc.heap.size wc W->bG aA W q K6 W' K' p2->bG aA w' q K W' K' p2):=az (λW W' K' hb hr=>(GM.o.old hb).trans hr);clear adP FO;go_upto_region 8 with fail;go_region_with (first|(go_at_call 61;refine(V8.o _ (by repeat first|exact HB0.o|(refine nR.o _ ?_))).mono ?_;rintro e w5 ⟨K5,rfl,qJ⟩;have hf5:=nS.o _ _ _ (by repeat first|exact HB0.o|(refine nR.o _ ?_)) qJ;have ql:=az (FL.o _ _ _ (by repeat first|exact HB0.o|(refine nR.o _ ?_)) qJ);have q0:w5.cell? ⟨g,11,none⟩=some (vi db):=hf5.cell 11;have q1:=hf5.frozen 11))
  all_goals
   clear qJ hf5;go_wp2_with fail;have hz:IX aA w' q g K (w5.setCell ⟨g,11,none⟩ (vi r2)) K5 p2 ⟨kd,ln,sz,[d0,d1,d2,d3,d4,d5],sg,r2⟩:=bG.box ql.o H.o HF.o FJ.o HBG.o 11 (vi r2) rfl;go_end0;exact⟨rfl,K5,hz⟩
end
def Po.cont (p:Po)(i:PI.bF)(k:Nat):List Nat:=if p.at_ i k=0 then zs else p.get (p.at_ i k)
def Po.byte (p:Po)(i:PI.bF)(x:Nat):Nat:=(p.cont i (x/64)).getD (x%64) 0
def Po.bytes (p:Po)(i:PI.bF)(aF m:Nat):List Nat:=(List.range m).map λk=>p.byte i (aF+k)
def Po.xL (p:Po)(i:PI.bF)(aF m:Nat):(p.bytes i aF m).length=m:=by unfold Po.bytes;simp
def Po.O6 (p:Po)(i:PI.bF)(aF a c:Nat):p.bytes i aF (a+c)=p.bytes i aF a++p.bytes i (aF+a) c:=by
 unfold Po.bytes;rw[List.range_add,List.map_append,List.map_map];congr 1;refine List.map_congr_left (λk _=>?_);show p.byte i (aF+(a+k))=p.byte i (aF+a+k);rw[Nat.add_assoc]
def Po.chunk (p:Po)(i:PI.bF)(o c:Nat)(hl:(p.cont i (o/64)).length=64)(hc:o%64+c<=64):((p.cont i (o/64)).drop (o%64)).take c=p.bytes i o c:=by
 refine List.ext_getElem? λk=>?_
 rw[List.getElem?_take];by_cases hk:k<c;rw[if_pos hk,List.getElem?_drop];unfold Po.bytes;rw[List.getElem?_map,List.getElem?_range hk];have h1:(o+k)/64=o/64:=aa;have h2:(o+k)%64=o%64+k:=aa;show _=some (p.byte i (o+k));unfold Po.byte;rw[h1,h2,List.getD_eq_getElem?_getD,List.getElem?_eq_getElem aa];rfl;rw[if_neg hk,List.getElem?_eq_none (by rw[Po.xL];omega)]
def Po.FW {p:Po}{i:PI.bF}(h:p.wf i)(n:Nat):p.good (p.at_ i n):=by
 have h0:p.good 0:=⟨ag,λe=>absurd rfl e⟩;unfold Po.at_;split;rename_i h6;exact h.direct n h6;split;exact h.one _ aa;split;exact(h.two _ aa).2 _ aa;exact h0
section
variable{q g:Nat}{p:Po}{K K':Nat->Prop}{i:PI.bF}
def Po.wu (h:PQ aA w q K p)(hi:p.wf i)(k:Nat):(p.cont i k).length=64/\∀y∈p.cont i k,y<256:=by
 unfold Po.cont;by_cases e:p.at_ i k=0;rw[if_pos e];exact IL
 ·rw[if_neg e];exact h.len _ ((Po.FW hi k).2 e)
structure GR (w:acL)(q k:Nat)(p:Po)(i:PI.bF)(f aF o:Nat)(v:acK)(wr:acL):Prop where
 rd:gD k w wr
 file:aD wr f 74 (fileC q i)
 o:Own wr w.heap.size v (p.bytes i aF (o-aF))
 ge:w.heap.size<=f
section
variable{f aF o:Nat}{v:acK}{wr:acL}
def GR.pq (h:GR w q k p i f aF o v wr)(h0:PQ aA w q K p)(hk:fF w q k):PQ aA wr q K p:=h0.OW hk h.rd
def GR.nf (h:GR w q k p i f aF o v wr)(h0:PQ aA w q K p):¬K f:=λe=>by
 have h1:=h0.lt f e
 have h2:=h.ge
 omega
def GR.old (h:GR w q k p i f aF o v wr)(b:acN wr.heap.size wr w'):GR w q k p i f aF o v w':=⟨h.rd.old b,h.file.old b,h.o.old b,h.ge⟩
def GR.next (h:GR w q k p i f aF o v wr)(h0:PQ aA w q K p)(hk:fF w q k)(r:bM aA wr q K w' K' p):GR w q k p i f aF o v w' :=
 ⟨h.rd.trans (r.rd k (h0.j6 hk h.rd)),(r.go.keep h.file (h.nf h0)).1,r.go.own (h.pq h0 hk) h.o,h.ge⟩
def GR.app (h:GR w q k p i f aF o v wr)(h0:PQ aA w q K p)(hk:fF w q k){o':Nat}{v':acK}(ho:Own w' w.heap.size v' (p.bytes i aF (o'-aF)))(hg:wr.grownBy w' v.ownBlock):GR w q k p i f aF o' v' w':=by
 have hrow:∀g,v.ownBlock=some g->w.heap.size<=g/\∃cur,aD wr g 5 cur:=by
  intro g e;rcases h.o.2 with⟨h1,_⟩|⟨g',cap,cur,hv,hb,hg,_⟩;rw[h1]at e;cases e;rw[hv]at e;injection e with e;subst e;exact⟨hb,cur,hg⟩
 have hkl:k<w.heap.size:=h0.lt _ (h0.pK hk).1;refine⟨⟨h.rd.1.grown hg (λg e=>acm (hrow g e).1),λcs hb=>?_⟩,?_,ho,h.ge⟩;have hs:w'.heap[k]?=wr.heap[k]?:=hg.block k (adN hkl h.rd.1.size) (λe=>by have:=(hrow k e.symm).1;omega);rcases h.rd.2 cs hb with h1|⟨n,h1⟩;exact ack (hs.trans h1);exact acm ⟨n,hs.trans h1⟩;refine(hg.block f h.file.lt (λe=>?_)).trans h.file;obtain⟨_,cur,hb⟩:=hrow f e.symm;exact absurd (bY hb h.file) ag
end
def ahS (w:acL)(q k:Nat)(p:Po)(i:PI.bF)(f aF ed:Nat)(v2 v8 v9 v12:acK)(wr:acL):Prop :=
 ∃o:Nat,v2=vi (o:Int)/\v8=aco none 0 0/\v9=vi 0/\aF<=o/\o<=ed/\Hid (GR w q k p i f aF o v12 wr)
def adQ (aA:Nat)(w:acL)(q:Nat)(K:Nat->Prop)(p:Po)(l:List Nat)(e:Ending)(w':acL):Prop :=
 ∃v,e=ab4 (adg #[v,vi 0])/\Own w' w.heap.size v l/\bM aA w q K w' K p
def Read_any (h:PQ aA w q K p)(i:PI.bF)(hi:p.wf i)(aF n:Nat)(hn:n<=1024)(hs:aF<i.size)(hz:i.size<=67968) :
  ac4 prog 13 #[ptr q,dS i,vi aF,vi n] w (adQ aA w q K p (p.bytes i aF (min n (i.size-aF)))):=by
 have H:=az h;obtain⟨k,hk,_⟩:=h.iN;have Dj:=az hk;clear hk;have HI:=az hi;have hmk:∀w:acL,(Instr.makeSlice 23 (.int .i64 64) (.int .i64 64)).run prog w=.ok (aco (some ⟨w.heap.size,0,none⟩) 64 64) (w.alloc (ach (madeCells #[vb 0] 64) 5)):=λw=>gp 64 aa w;have wU:=az hi.len;obtain⟨m,hm⟩:∃m,m=min n (i.size-aF):=⟨_,rfl⟩;rw[<-hm];obtain⟨ed,Zn⟩:∃e,e=aF+m:=⟨_,rfl⟩;have O7:Hid (ed=aF+m/\ed<=67968):=az aa;clear h hi;obtain⟨kd,ln,sz,dl,sg,db⟩:=i;obtain⟨d0,d1,d2,d3,d4,d5,rfl⟩:=six (l:=dl) wU.o;dsimp only at hs hz hm;simp only[dS,j4];generalize hii:(⟨kd,ln,sz,[d0,d1,d2,d3,d4,d5],sg,db⟩:PI.bF)=ii at*
 have HFC:Hid (fileC q ii=#[ptr q,vi kd,vi ln,vi sz,vi d0,vi d1,vi d2,vi d3,vi d4,vi d5,vi sg,vi db]):=az (by rw[<-hii]);have m0:¬(aF:Int)<0:=aa;have m1:¬(n:Int)<0:=aa;have m2:¬(1024:Int)<(n:Int):=aa;have m3:¬(sz:Int)<=(aF:Int):=aa;have m4:adk.wrap ((sz:Int)-(aF:Int))=((sz-aF:Nat):Int):=by rw[adl _ aa];omega
 have m7:(m=n/\¬sz-aF<n)\/(m=sz-aF/\sz-aF<n):=aa;have m8:((m:Int)=n->adk.wrap ((aF:Int)+(n:Int))=(ed:Int))/\((m:Int)=((sz-aF:Nat):Int)->adk.wrap ((aF:Int)+((sz-aF:Nat):Int))=(ed:Int)):=⟨λe=>by rw[<-e,adl _ aa];omega,λe=>by rw[<-e,adl _ aa];omega⟩;clear hm hs hz Zn hii;rcases m7 with⟨m7,m5⟩|⟨m7,m5⟩;have m6:=m8.1 (by rw[m7]);rotate_left
 have m6:=m8.2 (by rw[m7]);all_goals
  clear m8 m7;go_in;go_upto_region 1 with fail;refine mD λw1 HB1 lD=>?_
  obtain⟨x,hx⟩:∃x,x=w.heap.size:=⟨_,rfl⟩;rw[<-hx]at lD ⊢;clear hx;obtain⟨x0,x1,x2,x3,x4,x5,x6,x7,x8,x9,JW⟩:=nT lD.o;go_upto_region 8 with fail;have HB2:Hid (acN w.heap.size w (w1.alloc (ach #[ptr q,vi kd,vi ln,vi sz,vi d0,vi d1,vi d2,vi d3,vi d4,vi d5,vi sg,vi db] 74))):=az (HB1.o.alloc HB1.o.size _);have lM:=az (lD.o.alloc (ach #[ptr q,vi kd,vi ln,vi sz,vi d0,vi d1,vi d2,vi d3,vi d4,vi d5,vi sg,vi db] 74));have vK:=az (aD.new w1 74 #[ptr q,vi kd,vi ln,vi sz,vi d0,vi d1,vi d2,vi d3,vi d4,vi d5,vi sg,vi db]);have AX:Hid (w.heap.size<=w1.heap.size):=az HB1.o.size
  change adW _ _ _ _ (w1.alloc (ach #[ptr q,vi kd,vi ln,vi sz,vi d0,vi d1,vi d2,vi d3,vi d4,vi d5,vi sg,vi db] 74));clear x0 x1 x2 x3 x4 x5 x6 x7 x8 x9 JW;generalize w1.alloc (ach #[ptr q,vi kd,vi ln,vi sz,vi d0,vi d1,vi d2,vi d3,vi d4,vi d5,vi sg,vi db] 74)=w2 at*;generalize w1.heap.size=f at*;have x2:w2.cell? ⟨x,2,none⟩=some (vi sz):=lM.o.cell 2;have H2:=az (H.o.old HB2.o);go_wp2_with fail;refine(kR H2.o).mono ?_;rintro e w3 ⟨rfl,rfl⟩;have vN:Hid (GR w q k p ii f aF aF (aco none 0 0) w3):=az ⟨gD.of_below HB2.o,by rw[HFC.o];exact vK.o,by rw[Nat.sub_self];exact Own.nil _ _,AX.o⟩
  clear lD HB1 lM x2 m0 m1 m2 m3 m4 m5 m6 vK H2 HB2;go_wp2_with fail;go_loopw [2,8,9,12] (λv2 v8 v9 v12 wr=>ahS w q k p ii f aF ed v2 v8 v9 v12 wr) (λv2 _ _ _ _=>ed-(intOf v2).toNat)
  case atStart=>exact⟨aF,rfl,rfl,rfl,aj,by have:=O7.o;omega,vN⟩
  case round =>
   clear vN;obtain⟨o,rfl,rfl,rfl,ho1,ho2,vN⟩:=hrel;by_cases hlt:o<ed
   ·have c1:(o:Int)<(ed:Int):=aa;have hq1:wrap64 ((o:Int)/64)=((o/64:Nat):Int):=by
     rw[IntWalk.wrap64_in _ (by have:=O7.o;omega)];omega
    have Zo:Hid (GR w q k p ii f aF o u12 (wr.alloc (ach (madeCells #[vb 0] 64) 5))):=az (vN.o.old ax);have HZR:=az (mK (aA:=aA) wr 64);have HPZ:=az (Zo.o.pq H.o Dj.o);have HAT:=az (pG HPZ.o ii HI.o Zo.o.file (Zo.o.nf H.o) (o/64) (by have:=O7.o;omega));go_wp2_with fail;rw[hq1];refine HAT.o.mono ?_;rintro e w5 ⟨K2,rfl,aaT⟩;have ql:=az (Zo.o.next H.o Dj.o aaT);have HZ5:=az (aaT.go.row HPZ.o HZR.o).row;have FE:=az (Po.wu H.o HI.o (o/64));have HCO:Hid (p.cont ii (o/64)=if p.at_ ii (o/64)=0 then zs else p.get (p.at_ ii (o/64))):=az rfl
    have oC:=az (Po.FW HI.o (o/64));clear aaT HAT Zo HZR hq1 vN HPZ;generalize p.at_ ii (o/64)=A at*;generalize wr.heap.size=z at*;go_upto_if 63 with fail;go_cut [8,9,14,16,17] from 52 to 94 (λv8 v9 v14 v16 v17 wx=>v8=aco none 0 0/\v9=vi 0/\∃ob cb,v14=aco ob 64 cb/\64<=cb/\Hid (bE wx ob (p.cont ii (o/64)))/\Hid (GR w q k p ii f aF o u12 wx))
    case first =>
     by_cases ha:A=0
     ·have c2:((A:Int) != 0)=false:=by simp[ha]
      go_wp2;go_meet;exact⟨rfl,rfl,_,64,rfl,aj,az (by rw[HCO.o,if_pos ha];exact HZ5.o),ql⟩
     have c2:((A:Int) != 0)=true:=by simp[ha]
     have IU:=az (sS (ql.o.pq H.o Dj.o) A (by have:=oC.o.1;omega) (oC.o.2 ha));go_wp2_with fail;refine IU.o.mono ?_;rintro e w7 ⟨K3,g7,c7,rfl,Fw,yO,Tv,hx7,El⟩;have Bz:=az (ql.o.next H.o Dj.o El);have QT:Hid (bE w7 (some ⟨g7,0,none⟩) (p.cont ii (o/64))):=az (by
      rw[HCO.o,if_neg ha]
      have hl:=H.o.len _ (oC.o.2 ha)
      exact Own.zu Fw hl.1 hl.2)
     clear Fw El IU;go_wp2;go_meet;exact⟨rfl,rfl,_,c7,rfl,Tv,QT,Bz⟩
    case rest =>
     obtain⟨rfl,rfl,ob,cb,rfl,hcb,hrow,Ei⟩:=hcut;obtain⟨a,hA⟩:∃a,a=o%64:=⟨_,rfl⟩;obtain⟨t,ht⟩:∃t,t=a+ed:=⟨_,rfl⟩;obtain⟨s,hS⟩:∃s,s=t-o:=⟨_,rfl⟩;obtain⟨h,hh⟩:∃h,h=min 64 s:=⟨_,rfl⟩;have aaU:=O7.o;have r1:(o:Int).tmod 64=(a:Int):=by rw[Int.tmod_eq_emod_of_nonneg aa];omega
     have r2:(o:Int)%64=(a:Int):=aa;have r3:adk.wrap ((a:Int)+(ed:Int))=(t:Int):=by rw[adl _ aa];omega
     have r4:adk.wrap ((t:Int)-(o:Int))=(s:Int):=by rw[adl _ aa];omega
     have r5:min (64:Int) (s:Int)=(h:Int):=aa;have r6:(if (s:Int)<64 then (s:Int) else 64)=(h:Int):=by split<;>omega
     have r7:a<=h:=aa;have r8:h<=cb:=aa;have r9:¬cb=a:=aa;have r10:(0:Int)<=(a:Int):=aa;have HEQ:=az (And.intro hA (And.intro ht (And.intro hS hh)));clear aaU hA ht hS hh;go_upto_region 19 with fail;go_region;obtain⟨hA,ht,hS,hh⟩:=HEQ.o;have aaU:=O7.o;have hch:((p.cont ii (o/64)).drop a).take (h-a)=p.bytes ii o (h-a):=by
      have:=Po.chunk p ii o (h-a) FE.o.1 aa;rwa[<-hA]at this
     have hrw:bE wc.drew (Option.map (λx=>x.add a) ob) (p.bytes ii o (h-a)):=by
      rw[<-hch];exact((hrow.o.dropped a).take _).drew
     have hbl:=Po.xL p ii o (h-a);have hb0:=Po.xL p ii aF (o-aF);have hr8:=Ei.o.old au;obtain⟨v8,w8,hrun,QY,ahV,adR⟩:=uo (w:=wc.drew) (aA:=w.heap.size) hr8.o (c:=cb-a) hrw aa hr8.rd.1.size;rw[hbl]at hrun;have lF:Hid (eH 23 23 23 u12 (aco (Option.map (λx=>x.add a) ob) (h-a) (cb-a)) wc.drew v8 w8):=az ⟨hrun⟩;have HR9:Hid (GR w q k p ii f aF (o+(h-a)) v8 w8):=az (hr8.app H.o Dj.o (by
      rw[show o+(h-a)-aF=(o-aF)+(h-a) by omega,Po.O6,show aF+(o-aF)=o by omega]
      exact QY) adR)
     have r11:adk.wrap ((o:Int)+((h-a:Nat):Int))=((o+(h-a):Nat):Int):=by rw[adl _ aa];omega
     have hle:o+(h-a)<=ed/\0<h-a:=aa;clear hrun QY ahV adR hr8 hbl hb0 hrw hch aaU hA ht hS hh;generalize h-a=c at*;go_wp2_with (at_builtin;refine wpList_append_run rfl (.tmp 88) (.tmp 89) rfl rfl rfl lF.o.run ?_);exact⟨⟨o+c,by rw[Int.natCast_add],rfl,rfl,aa,hle.1,HR9⟩,by simp only[intOf];omega⟩
   obtain rfl:o=ed:=aa;have c1:¬(o:Int)<(o:Int):=aa;go_wp2;go_ret2;exact⟨u12,rfl,by
    have h1:=vN.o.o
    rwa[show o-aF=m by have:=O7.o;omega]at h1,bM.pM H.o Dj.o vN.o.rd⟩
end
abbrev It:=Nat×Nat×Nat
def stepOf (lv:Nat):Nat:=if lv=2 then 32 else 1
def Po.items (p:Po):Nat->Nat->Nat->List It
 |0,aB,fr=>if aB=0 then [] else [(fr,aB,0)]
 |lv+1,aB,fr=>if aB=0 then [] else (fr,aB,lv+1)::(PI.ptrs (p.get aB)).flatMap λx=>p.items lv x.2 (fr+x.1*stepOf (lv+1))
def Po.agz (p:Po):Nat->Nat->Prop
 |0,aB=>p.good aB
 |lv+1,aB=>p.good aB/\(aB≠0->∀x∈PI.ptrs (p.get aB),p.agz lv x.2)
def MZ:Nat->Nat
 |0=>1
 |1=>34
 |_=>1200
def Po.agz.good {p:Po}{lv aB:Nat}(h:p.agz lv aB):p.good aB:=by
 cases lv with
 |zero=>exact h
 |succ lv=>exact h.1
structure mO (B0 k:Nat)(F:Nat->Prop)(w:acL)(F':Nat->Prop)(w':acL):Prop where
 aJ:aP (λn=>F n\/n=k) w w'
 foot:∀n,F' n->F n\/w.heap.size<=n
 keeps:adY B0 w w'
variable{B0:Nat}{F F' F'':Nat->Prop}{w'':acL}
def mO.refl:mO B0 k F w F w:=⟨aP.refl _ _,λ_ e=>ack e,adY.refl _ _⟩
def mO.trans (h:mO B0 k F w F' w')(g:mO B0 k F' w' F'' w''):mO B0 k F w F'' w'':=by
 refine⟨h.aJ.trans g.aJ (λn hn e=>?_),λn e=>?_,h.keeps.trans g.keeps⟩;rcases e with e|e;rcases h.foot n e with h1|h1;exact ack h1;omega;exact acm e;rcases g.foot n e with h1|h1;exact h.foot n h1;exact acm (abX h.aJ.size h1)
def yP {B:Nat}(h:acN w.heap.size w w'):adY B w w':=⟨h.size,λj _ _ ho _=>(h.block j (aaz.1 ho).1).trans ho⟩
def mO.old (h:acN w.heap.size w w'):mO B0 k F w F w':=⟨aP.of_below h,λ_ e=>ack e,yP h⟩
def mO.after (g:mO B0 k F w F' w')(h:acN w'.heap.size w' w''):mO B0 k F w F' w'':=g.trans (mO.old h)
def mO.ahead (h:acN w.heap.size w w')(g:mO B0 k F w' F' w''):mO B0 k F w F' w'':=(mO.old h).trans g
def mO.OW {t:acO}{cs:Array acK}(hb:aD w k t cs)(h:gD k w w'):mO B0 k F w F w' :=
 ⟨h.1.mono (λ_ _ e=>acm e),λ_ e=>ack e,⟨h.1.size,λj o _ ho hc=>(h.1.block j (aaz.1 ho).1 (λe=>by
  have h1:w.heap[k]?=some (ach cs t):=hb
  rw[e,h1]at ho
  injection ho with ho
  rw[<-ho]at hc
  cases hc)).trans ho⟩⟩
def mO.jg {b:Nat}{t:acO}{cs:Array acK}(h:mO B0 k F w F' w')(hb:aD w' b t cs)(hw:w.heap.size<=b)(i:Nat)(u:acK):mO B0 k F w F' (w'.setCell ⟨b,i,none⟩ u) :=
 ⟨h.aJ.setCell (p:=⟨b,i,none⟩) (acm hw) u,h.foot,h.keeps.trans (pO hb i u)⟩
def mO.keep {g:Nat}{t:acO}{cs:Array acK}(h:mO B0 k F w F' w')(hb:aD w g t cs)(hn:¬F g)(hk:g≠k):aD w' g t cs/\¬F' g:=by
 refine⟨hb.aJ h.aJ (λe=>?_),λe=>?_⟩;rcases e with e|e;exact hn e;exact hk e;rcases h.foot g e with h1|h1;exact hn h1;have:=hb.lt;omega
structure zw (aA q:Nat)(K:Nat->Prop)(p:Po)(k B0:Nat)(J:List It->(Nat->Prop)->acL->Prop):Prop where
 pq:∀{pre F W},J pre F W->PQ aA W q K p
 aW:∀{pre F W},J pre F W->fF W q k
 lt:∀{pre F W},J pre F W->∀n,F n->n<W.heap.size
 rd:∀{pre F W W'},J pre F W->gD k W W'->J pre F W'
 own:∀{pre F W W'} {row:Option Nat},J pre F W->W.grownBy W' row->(∀r,row=some r->B0<=r/\∃o:Obj,W.heap[r]?=some o/\o.isCells=false)->J pre F W'
 uh:∀{pre F W W' b t cs},J pre F W->aD W b t cs->qQ t=false->B0<=b->¬F b->aP (λn=>n=b) W W'->J pre F W'
def zw.old {q:Nat}{K:Nat->Prop}{p:Po}{J:List It->(Nat->Prop)->acL->Prop}(T:zw aA q K p k B0 J){pre:List It}{W W':acL}(h:J pre F W)(b:acN W.heap.size W W'):J pre F W':=T.rd h (gD.of_below b)
def Em (k B0:Nat)(J:List It->(Nat->Prop)->acL->Prop)(Jx:List It->(Nat->Prop)->acL->Prop)(pre:List It)(F:Nat->Prop)(w:acL)(e:Ending)(w':acL):Prop :=
 ∃F',mO B0 k F w F' w'/\((e=ab4 (acg true)/\J pre F' w')\/(e=ab4 (acg false)/\∃its,its <+: pre/\Jx its F' w'))
def Cb (cf y:Nat)(k B0:Nat)(J:List It->(Nat->Prop)->acL->Prop)(Jx:List It->(Nat->Prop)->acL->Prop):Prop :=
 ∀(pre:List It) (x:It) (F:Nat->Prop) (W:acL),pre.length<2000->x.2.2<=2->J pre F W->B0<=W.heap.size->ac4 prog cf #[vi x.1,vi x.2.1,vi x.2.2,ptr y] W (Em k B0 J Jx (pre++[x]) F W)
structure IY (B0:Nat)(Jx:List It->(Nat->Prop)->acL->Prop):Prop where
 own:∀{its F W W'} {row:Option Nat},Jx its F W->W.grownBy W' row->(∀r,row=some r->B0<=r/\∃o:Obj,W.heap[r]?=some o/\o.isCells=false)->Jx its F W'
 uh:∀{its F W W' b t cs},Jx its F W->aD W b t cs->qQ t=false->B0<=b->¬F b->aP (λn=>n=b) W W'->Jx its F W'
def mP (h:acN w.heap.size w w'):w.grownBy w' none:=⟨h.os,h.tape,h.output,h.size,λk hk _=>h.block k hk⟩
structure lZ (n0 b1 b2 b3 b4 b5 g:Nat)(fr lv:Int)(cb:acK)(ok:Bool)(W:acL):Prop where
 f:aD W b1 72 #[ptr g]
 fr:aD W b2 3 #[vi fr]
 lv:aD W b3 3 #[vi lv]
 cb:aD W b4 82 #[cb]
 ok:aD W b5 4 #[acg ok]
 ge:n0<=b1/\n0<=b2/\n0<=b3/\n0<=b4/\n0<=b5
 ne:b1≠b5/\b2≠b5/\b3≠b5/\b4≠b5
def lZ.mk' (w:acL)(g:Nat)(fr lv:Int)(cb:acK):lZ w.heap.size w.heap.size (w.heap.size+1) (w.heap.size+1+1) (w.heap.size+1+1+1) (w.heap.size+1+1+1+1) g fr lv cb false (((((w.alloc (ach #[ptr g] 72)).alloc (ach #[vi fr] 3)).alloc (ach #[vi lv] 3)).alloc (ach #[cb] 82)).alloc (ach #[acg false] 4)):=by
 refine⟨?_,?_,?_,?_,?_,aa,aa⟩;exact((((aD.new w 72 #[ptr g]).alloc _).alloc _).alloc _).alloc _;have:=(((aD.new (w.alloc (ach #[ptr g] 72)) 3 #[vi fr]).alloc (ach #[vi lv] 3)).alloc (ach #[cb] 82)).alloc (ach #[acg false] 4);simpa using this;have:=((aD.new ((w.alloc (ach #[ptr g] 72)).alloc (ach #[vi fr] 3)) 3 #[vi lv]).alloc (ach #[cb] 82)).alloc (ach #[acg false] 4);simpa using this;have:=(aD.new (((w.alloc (ach #[ptr g] 72)).alloc (ach #[vi fr] 3)).alloc (ach #[vi lv] 3)) 82 #[cb]).alloc (ach #[acg false] 4);simpa using this;have:=aD.new ((((w.alloc (ach #[ptr g] 72)).alloc (ach #[vi fr] 3)).alloc (ach #[vi lv] 3)).alloc (ach #[cb] 82)) 4 #[acg false]
 simpa using this
section
variable{n0 b1 b2 b3 b4 b5 g:Nat}{fr lv:Int}{cb:acK}{ok:Bool}{W W':acL}
def lZ.old (h:lZ n0 b1 b2 b3 b4 b5 g fr lv cb ok W)(q:acN W.heap.size W W'):lZ n0 b1 b2 b3 b4 b5 g fr lv cb ok W':=⟨h.f.old q,h.fr.old q,h.lv.old q,h.cb.old q,h.ok.old q,h.ge,h.ne⟩
def lZ.done (h:lZ n0 b1 b2 b3 b4 b5 g fr lv cb ok W)(v:Bool):lZ n0 b1 b2 b3 b4 b5 g fr lv cb v (W.setCell ⟨b5,0,none⟩ (acg v)) :=
 have hst:aP (λn=>n=b5) W (W.setCell ⟨b5,0,none⟩ (acg v)):=aP.set (F:=λn=>n=b5) W (p:=⟨b5,0,none⟩) rfl _
 ⟨h.f.aJ hst h.ne.1,h.fr.aJ hst h.ne.2.1,h.lv.aJ hst h.ne.2.2.1,h.cb.aJ hst h.ne.2.2.2,h.ok.bB 0 (acg v),h.ge,h.ne⟩
def lZ.go (h:lZ n0 b1 b2 b3 b4 b5 g fr lv cb ok W)(q:mO B0 k F W F' W')(hF:∀n,F n->n<n0)(hk:k<n0):lZ n0 b1 b2 b3 b4 b5 g fr lv cb ok W':=by
 have key:∀b,n0<=b->¬F b/\b≠k:=λb hb=>⟨λe=>by have:=hF b e;omega,aa⟩
 have h1:=key b1 h.ge.1;have h2:=key b2 h.ge.2.1;have h3:=key b3 h.ge.2.2.1;have h4:=key b4 h.ge.2.2.2.1;have h5:=key b5 h.ge.2.2.2.2;exact⟨(q.keep h.f h1.1 h1.2).1,(q.keep h.fr h2.1 h2.2).1,(q.keep h.lv h3.1 h3.2).1,(q.keep h.cb h4.1 h4.2).1,(q.keep h.ok h5.1 h5.2).1,h.ge,h.ne⟩
end
section
variable{q g cf y:Nat}{p:Po}{K:Nat->Prop}{J:List It->(Nat->Prop)->acL->Prop}{Jx:List It->(Nat->Prop)->acL->Prop}{pre:List It}
def KL (T:zw aA q K p k B0 J)(X:IY B0 Jx)(hcf:∀(args:Array acK) (W:acL),(callFunc cf args).run prog W=.ok (.enter cf args) W)(C:Cb cf y k B0 J Jx)(hJ:J pre F w)(hB:B0<=w.heap.size)(aB fr:Nat)(hp:p.good aB)(hL:pre.length<2000) :
  ac4 prog 65 #[ptr g,vi aB,vi fr,vi 0,.func (.func cf) #[] #[ptr y]] w (Em k B0 J Jx (pre++p.items 0 aB fr) F w):=by
 go_in;go_upto_region 1 with fail;have HB1:Hid (acN w.heap.size w (((((w.alloc (ach #[ptr g] 72)).alloc (ach #[vi fr] 3)).alloc (ach #[vi 0] 3)).alloc (ach #[.func (.func cf) #[] #[ptr y]] 82)).alloc (ach #[acg false] 4))):=az (five w _ _ _ _ _).1;have lD:=az (lZ.mk' w g fr 0 (.func (.func cf) #[] #[ptr y]));change adW _ _ _ _ (((((w.alloc (ach #[ptr g] 72)).alloc (ach #[vi fr] 3)).alloc (ach #[vi 0] 3)).alloc (ach #[.func (.func cf) #[] #[ptr y]] 82)).alloc (ach #[acg false] 4));generalize (((((w.alloc (ach #[ptr g] 72)).alloc (ach #[vi fr] 3)).alloc (ach #[vi 0] 3)).alloc (ach #[.func (.func cf) #[] #[ptr y]] 82)).alloc (ach #[acg false] 4))=w1 at*
 obtain⟨n0,hn0⟩:∃n,n=w.heap.size:=⟨_,rfl⟩;have QZ:=az hn0;rw[<-hn0]at lD ⊢;clear hn0;obtain⟨b1,h1⟩:∃b,b=n0:=⟨_,rfl⟩;have jE:Hid (lZ n0 b1 (n0+1) (n0+1+1) (n0+1+1+1) (n0+1+1+1+1) g fr 0 (.func (.func cf) #[] #[ptr y]) false w1):=az (by rw[h1];exact lD.o);clear lD;generalize n0+1+1+1+1=b5 at*;generalize n0+1+1+1=b4 at*;generalize n0+1+1=b3 at*;generalize n0+1=b2 at*;rw[<-h1];clear h1;have FI:=az hJ;have HT:=az T;have HX:=az X;have D6:Hid (∀n,F n->n<n0):=az (λn e=>by rw[QZ.o];exact T.lt hJ n e);have jU:Hid (k<n0):=az (by
  rw[QZ.o]
  exact(T.pq hJ).lt _ ((T.pq hJ).pK (T.aW hJ)).1)
 have HB0:=az hB;clear hJ T X hB;by_cases hz:aB=0
 ·have Bv:Hid (p.items 0 aB fr=[]):=az (by unfold Po.items;rw[if_pos hz]);subst hz;have r0:w1.cell? ⟨b5,0,none⟩=some (acg false):=jE.o.ok.cell 0;have f0:=jE.o.ok.frozen 0;clear hcf C;go_wp2_with fail;have hb:=(jE.o.done true).ok;have hbl:acN w.heap.size w (w1.setCell ⟨b5,0,none⟩ (acg true)):=HB1.o.setCell (p:=⟨b5,0,none⟩) (by rw[<-QZ.o];exact jE.o.ge.2.2.2.2) _;refine ac5 (jh hb _ rfl) rfl ⟨F,mO.old hbl,ack ⟨rfl,?_⟩⟩;rw[Bv.o,List.append_nil];exact HT.o.old FI.o hbl
 have Bv:Hid (p.items 0 aB fr=[(fr,aB,0)]):=az (by unfold Po.items;rw[if_neg hz]);rw[Bv.o];have HCB:Hid (∀W,acN w.heap.size w W->ac4 prog cf #[vi fr,vi aB,vi 0,ptr y] W (Em k B0 J Jx (pre++[(fr,aB,0)]) F W)):=az (λW hb=>C pre (fr,aB,0) F W hL (Nat.zero_le _) (HT.o.old FI.o hb) (abX HB0.o hb.size));have x2:w1.cell? ⟨b2,0,none⟩=some (vi fr):=jE.o.fr.cell 0;have x3:w1.cell? ⟨b3,0,none⟩=some (vi 0):=jE.o.lv.cell 0;have x4:w1.cell? ⟨b4,0,none⟩=some (.func (.func cf) #[] #[ptr y]):=jE.o.cb.cell 0;have n0':¬(aB:Int)=0:=aa;clear C;go_upto_region 3 with fail
 go_wp2_with fail;refine(HCB.o _ HB1.o).mono ?_;rintro e w2 ⟨F2,hg2,h⟩;have lM:=az (jE.o.go hg2 D6.o jU.o);have HG2:=az (mO.ahead HB1.o hg2);have Zp:Hid (¬F2 b5):=az (hg2.keep jE.o.ok (λe=>by have h1:=D6.o _ e;have h2:=jE.o.ge.2.2.2.2;omega) (by have h1:=jU.o;have h2:=jE.o.ge.2.2.2.2;omega)).2;have zt:Hid (w.heap.size<=b5):=az (by rw[<-QZ.o];exact jE.o.ge.2.2.2.2);have y3:w2.cell? ⟨b3,0,none⟩=some (vi 0):=lM.o.lv.cell 0;have r0:w2.cell? ⟨b5,0,none⟩=some (acg false):=lM.o.ok.cell 0;have f0:=lM.o.ok.frozen 0;clear hg2 jE HCB x2 x3 x4;rcases h with⟨rfl,hj⟩|⟨rfl,its,hpre,hx⟩
 ·have HJ2:=az hj;clear hj;go_wp2_with fail;have hb:=(lM.o.done true).ok;have hst:aP (λn=>n=b5) w2 (w2.setCell ⟨b5,0,none⟩ (acg true)):=aP.set (F:=λn=>n=b5) w2 (p:=⟨b5,0,none⟩) rfl _;exact ac5 (jh hb _ rfl) rfl ⟨F2,HG2.o.jg lM.o.ok zt.o 0 _,ack ⟨rfl,by rw[Bv.o];exact HT.o.uh HJ2.o lM.o.ok ag (abX HB0.o zt.o) Zp.o hst⟩⟩
 have HJ2:=az hx;clear hx;go_wp2_with fail;have hb:=(lM.o.done false).ok;have hst:aP (λn=>n=b5) w2 (w2.setCell ⟨b5,0,none⟩ (acg false)):=aP.set (F:=λn=>n=b5) w2 (p:=⟨b5,0,none⟩) rfl _;exact ac5 (jh hb _ rfl) rfl ⟨F2,HG2.o.jg lM.o.ok zt.o 0 _,acm ⟨rfl,its,by rw[Bv.o];exact hpre,HX.o.uh HJ2.o lM.o.ok ag (abX HB0.o zt.o) Zp.o hst⟩⟩
end
end po
end Go.Proofs.YtllmbcigmimgoaaGreat
