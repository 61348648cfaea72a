/-
  Lemmas for a law's proof, put together from several texts. No conditions of their own.
-/
import Derived.Test.YtllmbcigmimgoaaGreatZB06
import Derived.BigRegionIn
set_option maxRecDepth 100000
set_option maxHeartbeats 20000000
set_option linter.all false
namespace Go.Proofs.YtllmbcigmimgoaaGreat
open _root_.Go.Proofs.Tryz
open _root_.Array renaming getElem?_eq_some_iff->aaz
open _root_.Go renaming World->acL,Value->acK,KeepsFrom->adY,Calls->ac4,wpAnyH_take->ad1
open _root_.Go.Code renaming wp->adW
open _root_.Go.Ending renaming returned->ab4
open _root_.Go.IntKind renaming i64->adk
open _root_.Go.IntWalk renaming i64_in->adl
open _root_.Go.Obj renaming cells->ach,deferred->adL
open _root_.Go.RowKit renaming Below->acN
open _root_.Go.RowKit.Below renaming refl->ac3,drew->adX
open _root_.Go.Value renaming pointer->adj,slice->aco,tuple->adg,bool->acg
open _root_.List renaming append_assoc->adM,length_append->acZ,append_nil->adS,prefix_append_right_inj->adU,length_cons->adV,finRange->adK
open _root_.Nat renaming le_trans->abX,lt_of_lt_of_le->adN
open _root_.Or renaming inl->ack,inr->acm
namespace po
open RowKit mgr ft pl ino nd
attribute [local go_sem] Oper.semAt_some
def Po.mine (p:Po)(aB:Nat):Po×Nat:=if aB=0 then (p.alloc p.first,p.first.toNat) else (p,aB)
def Po.point (p:Po)(aB k v:Nat):Po×Nat :=
 let m:=p.mine aB
 let b:=PI.point (m.1.get m.2) k v
 if PI.ptrs b=[] then (m.1.free m.2,0) else (m.1.put m.2 b,m.2)
section
variable{aA:Nat}{w w' w'':acL}{q g:Nat}{p p':Po}{K K':Nat->Prop}
def three (w:acL)(a b c:Obj):acN w.heap.size w (((w.alloc a).alloc b).alloc c)/\((w.alloc a).alloc b).heap.size=w.heap.size+1+1 :=
 ⟨(((ac3 _ w).alloc aj a).alloc ai b).alloc (by simp;omega) c,ai⟩
structure rO (g A B C aB:Nat)(F:Array acK)(W:acL):Prop where
 file:aD W g 74 F
 fb:aD W A 72 #[ptr g]
 pb:aD W B 3 #[vi aB]
 rb:aD W C 3 #[vi 0]
variable{A B C:Nat}{F:Array acK}{W:acL}
def rO.facts {aB:Nat}(h:rO g A B C aB F W)(hq:F[0]?=some (ptr q)):(W.cell? ⟨A,0,none⟩=some (ptr g)/\W.cell? ⟨B,0,none⟩=some (vi aB)/\W.cell? ⟨g,0,none⟩=some (ptr q)) :=
 ⟨h.fb.cell 0,h.pb.cell 0,by rw[h.file.cell];exact hq⟩
def rO.drew {aB:Nat}(h:rO g A B C aB F W):rO g A B C aB F W.drew:=⟨h.file,h.fb,h.pb,h.rb⟩
variable{W':acL}
def rO.old {aB:Nat}(h:rO g A B C aB F W)(b:acN W.heap.size W W'):rO g A B C aB F W':=⟨h.file.old b,h.fb.old b,h.pb.old b,h.rb.old b⟩
def rO.alloc {aB:Nat}(o:Obj)(h:rO g A B C aB F W):rO g A B C aB F (W.alloc o):=⟨h.file.alloc o,h.fb.alloc o,h.pb.alloc o,h.rb.alloc o⟩
variable{D:Nat}
def rO.aJ {aB:Nat}(h:rO g A B C aB F W)(c:aP (λn=>n=D) W W')(hn:D≠g/\D≠A/\D≠B/\D≠C):rO g A B C aB F W' :=
 ⟨h.file.aJ c (λe=>hn.1 e.symm),h.fb.aJ c (λe=>hn.2.1 e.symm),h.pb.aJ c (λe=>hn.2.2.1 e.symm),h.rb.aJ c (λe=>hn.2.2.2 e.symm)⟩
def rO.set {aB:Nat}(hn:D≠g/\D≠A/\D≠B/\D≠C)(i:Nat)(v:acK)(h:rO g A B C aB F W):rO g A B C aB F (W.setCell ⟨D,i,none⟩ v) :=
 h.aJ (aP.set (F:=λn=>n=D) W (p:=⟨D,i,none⟩) rfl v) hn
def rO.go {aB:Nat}(h:rO g A B C aB F w)(r:bG aA w q K w' K' p')(hg:¬K g)(hk:¬K A/\¬K B/\¬K C):rO g A B C aB F w' :=
 ⟨(r.keep h.file hg).1,(r.keep h.fb hk.1).1,(r.keep h.pb hk.2.1).1,(r.keep h.rb hk.2.2).1⟩
def Zi (w8:acL){α:Type}(pre:List α)(W:acL):Prop:=pre=[]/\acN w8.heap.size w8 W
def Xe (w8:acL){α:Type}:OwnFrom w8.heap.size (Zi w8 (α:=α)):=by
 intro s W W' row hs hg hr;exact⟨hs.1,hs.2.grown hg hs.2.size (λk e=>(hr k e).1)⟩
def Zj (aA:Nat)(w:acL)(q:Nat)(K:Nat->Prop)(p2:Po)(C x B8:Nat){α:Type}(c:Code)(_:List α)(W:acL):Prop :=
 c=.ret/\Nonempty α/\∃K',bG aA w q K W K' p2/\(∀n,K' n->n<B8)/\aD W C 3 #[vi x]
def rQ {t:TypeId}{cs:Array acK}{row:Option Nat}(h:aD W g t cs)(hg:W.grownBy W' row)(hr:∀r,row=some r->∃o:Obj,W.heap[r]?=some o/\o.isCells=false):aD W' g t cs:=by
 refine(hg.block g h.lt (λe=>?_)).trans h;obtain⟨o,ho,hc⟩:=hr g e.symm;have:W.heap[g]?=some (ach cs t):=h;rw[ho]at this;injection this with this;rw[this]at hc;cases hc
def bG.grown {row:Option Nat}(h:bG aA w q K w' K' p')(hk:∀n,K' n->n<B)(hb:w.heap.size<=B)(hl:aA<=B)(hq:q<B)(hg:w'.grownBy w'' row)(hr:∀r,row=some r->B<=r/\∃o:Obj,w'.heap[r]?=some o/\o.isCells=false):bG aA w q K w'' K' p':=by
 have hc:aP (λn=>row=some n) w' w'':=(aP.refl _ _).grown hg (λk e=>ack e);refine⟨h.at_.aJ hc (λn e=>⟨abX hl (hr n e).1,λt cur hbk=>?_⟩) (λn e e2=>?_) (λe=>?_),h.aJ.trans hc (λn hn e=>?_),h.foot⟩;obtain⟨o,ho,hc⟩:=(hr n e).2;have:w'.heap[n]?=some (ach cur t):=hbk;rw[ho]at this;injection this with this;rw[this]at hc;cases hc;have:=(hr n e2).1;have:=hk n e;omega;have:=(hr q e).1;omega;have:=(hr n e).1;omega
variable{x:Nat}
def Xf {p2:Po}{B8:Nat}{α:Type}(hb:w.heap.size<=B8)(hl:aA<=B8)(hq:q<B8)(c:Code):OwnFrom B8 (Zj aA w q K p2 C x B8 (α:=α) c):=by
 intro s W W' row hs hg hr;obtain⟨h1,h0,K',h2,h3,h4⟩:=hs;exact⟨h1,h0,K',h2.grown h3 hb hl hq hg hr,h3,rQ h4 hg (λr e=>(hr r e).2)⟩
def Eh (h:aP K w w')(hk:∀n,K n->n<B):adY B w w' :=
 ⟨h.size,λk o hB ho _=>(h.block k (aaz.1 ho).1 (λe=>by have:=hk k e;omega)).trans ho⟩
def pO {r:Nat}{t:TypeId}{cs:Array acK}(h:aD W r t cs)(i:Nat)(u:acK):adY B W (W.setCell ⟨r,i,none⟩ u):=by
 refine⟨ai,λk o hB ho hc=>?_⟩;refine((aP.set (F:=λn=>n=r) W (p:=⟨r,i,none⟩) rfl u).block k (aaz.1 ho).1 (λe=>?_)).trans ho;have:W.heap[r]?=some (ach cs t):=h;rw[e,this]at ho;injection ho with ho;rw[<-ho]at hc;cases hc
def Po.Bt {pm:Po}{aB k v:Nat}{bl:List Nat}(hm:p.mine aB=(pm,x))(hb:PI.point (pm.get x) k v=bl)(hp:PI.ptrs bl=[]):p.point aB k v=(pm.free x,0):=by
 unfold Po.point;rw[hm];dsimp only;rw[hb,if_pos hp]
def Po.Bu {pm:Po}{aB k v:Nat}{bl:List Nat}(hm:p.mine aB=(pm,x))(hb:PI.point (pm.get x) k v=bl)(hp:PI.ptrs bl≠[]):p.point aB k v=(pm.put x bl,x):=by
 unfold Po.point;rw[hm];dsimp only;rw[hb,if_neg hp]
def wo {v0:acK}(hb:aD W C 3 #[v0])(tmps:Array acK)(h2:tmps[8]?=some (adj (some ⟨C,0,none⟩))) :
  (results Tryz.f61 tmps).run prog W=.ok v0 W:=by
 have g0:W.cell? ⟨C,0,none⟩=some v0:=hb.cell 0;simp only[results,results61];simp[go_sem,h2,g0]
def bG.marked (h:bG aA w q K w' K' p')(hk:∀n,K' n->n<B)(hb:w.heap.size<=B)(hl:aA<=B)(hq:q<B)(hD:B<=D)(hK:w'.heap[D]?=some (adL (some []))):bG aA w q K (w'.putObj D (adL none)) K' p' :=
 h.grown hk hb hl hq (grownBy_putObj' w' D _) (λr e=>by cases e;exact⟨hD,_,hK,rfl⟩)
def Tp {b c:Nat}{l:List Nat}(h:Own w b (aco (some ⟨g,0,none⟩) 64 c) l):g<w.heap.size:=by
 rcases h.2 with⟨h1,_⟩|⟨g',cap,cur,hv,_,hg,_⟩;cases h1;injection hv with hv;injection hv with hv;injection hv with hv;have hb:aD w g' 5 cur:=hg;rw[hv];exact hb.lt
def xK (h:PQ aA w q K p)(hg:aD w g 74 F)(hq:F[0]?=some (ptr q))(QX:¬K g)(aB k v:Nat)(hk:k<32)(hv:v<8192)(h0:aB=0->0<p.aK)(h1:aB≠0->aB<8192/\MP.has p.U aB=true) :
  ac4 prog 61 #[ptr g,vi aB,vi k,vi v] w λe w'=>∃K',e=ab4 (vi (p.point aB k v).2)/\bG aA w q K w' K' (p.point aB k v).1:=by
 have H:=az h;have FJ:=az QX;have ahE:Hid (g<w.heap.size):=az hg.lt;refine callsIn_wide.1 (callsIn_of_wp_marks (F:=Fence.wide) (n:=6) func61 rfl trivial (wpIn_wide.2 ?_) rfl);simp only[ntmps61,List.size_toArray,adV,List.length_nil,Nat.reduceAdd,Nat.reduceSub,Array.replicate_succ,Array.replicate_zero,List.push_toArray,List.append_toArray,List.nil_append,List.cons_append];have FU:=az h.low;obtain⟨hb3,hsz⟩:=three w (ach #[ptr g] 72) (ach #[vi aB] 3) (ach #[vi 0] 3);have HA:=az (((aD.new w 72 #[ptr g]).alloc (ach #[vi aB] 3)).alloc (ach #[vi 0] 3))
 have HBp:Hid (aD (((w.alloc (ach #[ptr g] 72)).alloc (ach #[vi aB] 3)).alloc (ach #[vi 0] 3)) (w.heap.size+1) 3 #[vi aB]):=az (by
  have:=(aD.new (w.alloc (ach #[ptr g] 72)) 3 #[vi aB]).alloc (ach #[vi 0] 3)
  rwa[size_alloc]at this)
 have HCr:Hid (aD (((w.alloc (ach #[ptr g] 72)).alloc (ach #[vi aB] 3)).alloc (ach #[vi 0] 3)) (w.heap.size+1+1) 3 #[vi 0]):=az (by
  have:=aD.new ((w.alloc (ach #[ptr g] 72)).alloc (ach #[vi aB] 3)) 3 #[vi 0]
  rwa[size_alloc,size_alloc]at this)
 have HB3:=az hb3;have iR:=az (hg.old hb3);have HQ:=az hq;clear hb3 hsz hg h;go_upto_region 1 with fail;change adW _ _ _ _ (((w.alloc (ach #[ptr g] 72)).alloc (ach #[vi aB] 3)).alloc (ach #[vi 0] 3));generalize ((w.alloc (ach #[ptr g] 72)).alloc (ach #[vi aB] 3)).alloc (ach #[vi 0] 3)=w1 at*;obtain⟨C,hC⟩:∃C,C=w.heap.size+1+1:=⟨_,rfl⟩;rw[<-hC]at HCr ⊢;obtain⟨B,hB⟩:∃B,B=w.heap.size+1:=⟨_,rfl⟩;rw[<-hB]at HBp ⊢;obtain⟨A,hA⟩:∃A,A=w.heap.size:=⟨_,rfl⟩;rw[<-hA]at HA ⊢;have wU:Hid (w.heap.size<=A/\w.heap.size<=B/\w.heap.size<=C/\A≠B/\A≠C/\B≠C):=az aa;have Ik:Hid (g≠B):=az (by have:=ahE.o;omega)
 have wW:Hid (¬K A/\¬K B/\¬K C):=az ⟨λe=>by have:=H.o.lt _ e;omega,λe=>by have:=H.o.lt _ e;omega,λe=>by have:=H.o.lt _ e;omega⟩;clear hA hB hC;have H1:=az (H.o.old HB3.o);have KI:Hid (rO g A B C aB F w1):=az ⟨iR.o,HA.o,HBp.o,HCr.o⟩;clear HA HBp HCr iR;have c4:w1.cell? ⟨A,0,none⟩=some (ptr g):=KI.o.fb.cell 0;have c5:w1.cell? ⟨B,0,none⟩=some (vi aB):=KI.o.pb.cell 0;have f5:=KI.o.pb.frozen 0;have e0:w1.cell? ⟨g,0,none⟩=some (ptr q):=by rw[KI.o.file.cell];exact HQ.o
 go_upto_if 12 with fail;have HH0:=az h0;have HH1:=az h1;clear h0 h1;go_cut [13] from 11 to 20 (λ_ wx=>Hid (rO g A B C (p.mine aB).2 F wx)/\Hid (bG aA w q K wx K (p.mine aB).1)/\Hid ((p.mine aB).2<8192/\MP.has (p.mine aB).1.U (p.mine aB).2=true))
 case first =>
  by_cases hp0:aB=0
  ·have Zk:Hid (p.mine aB=(p.alloc p.first,p.first.toNat)):=az (if_pos hp0);obtain⟨q1,q2,q3⟩:=H.o.ok.first (HH0.o hp0);have hd:=H.o.ok.bI;have hgv:=Po.dF.1 q1;have HFI:Hid (p.first=(p.first.toNat:Int)/\p.first.toNat<8192):=az ⟨aa,aa⟩;have GN:=az (Ef H1.o (HH0.o hp0));subst hp0;clear q1 q2 q3 hd hgv;go_wp2_with fail;refine GN.o.mono ?_;rintro e w2 ⟨rfl,hgo⟩;have HB2:Hid (aD w2 B 3 #[vi 0]):=az (hgo.keep KI.o.pb wW.o.2.1).1;have HA2:Hid (aD w2 A 72 #[ptr g]):=az (hgo.keep KI.o.fb wW.o.1).1;have JQ:Hid (aD w2 C 3 #[vi 0]):=az (hgo.keep KI.o.rb wW.o.2.2).1
   have HG2:Hid (aD w2 g 74 F):=az (hgo.keep KI.o.file FJ.o).1;have FV:=az ((bG.aX H.o HB3.o).trans hgo);have d5:w2.cell? ⟨B,0,none⟩=some (vi 0):=HB2.o.cell 0;have z5:=HB2.o.frozen 0;clear hgo c4 c5 f5 e0 GN;go_wp2;go_meet;have hst:aP (λn=>n=B) w2 (w2.setCell ⟨B,0,none⟩ (vi p.first)):=aP.set (F:=λn=>n=B) w2 (p:=⟨B,0,none⟩) rfl _;have hle:=wU.o;rw[Zk.o];refine⟨az ⟨HG2.o.aJ hst (λe=>Ik.o e),HA2.o.aJ hst (λe=>hle.2.2.2.1 e),?_,JQ.o.aJ hst (λe=>hle.2.2.2.2.2 e.symm)⟩,az (FV.o.jg H.o HB2.o hle.2.1 wW.o.2.1 hst),az ⟨HFI.o.2,?_⟩⟩;show aD _ B 3 #[vi (p.first.toNat:Int)]
   rw[<-HFI.o.1];exact HB2.o.bB 0 (vi p.first);show MP.has (MP.put p.U p.first p.first) (p.first.toNat:Int)=true;rw[<-HFI.o.1,kE,if_pos rfl]
  have Zk:Hid (p.mine aB=(p,aB)):=az (if_neg hp0);have hpi:¬(aB:Int)=0:=aa;go_wp2;go_meet;rw[Zk.o];exact⟨KI,az (bG.aX H.o HB3.o),az (HH1.o hp0)⟩
 case rest =>
  obtain⟨KJ,FV,HXU⟩:=hcut;clear c4 c5 f5 e0 KI H1 HH0 HH1;generalize Xg:p.mine aB=m at*;have Zk:=az Xg;clear Xg;obtain⟨pm,x⟩:=m;dsimp only at*;go_upto_region 3 with fail;have CX:Hid (pm.there x=true):=az (Po.cz.2 (acm HXU.o.2));have je:=az (FV.o.at_.len x CX.o);have IU:Hid (∀W,acN wc.heap.size wc W->ac4 prog 34 #[ptr q,vi x] W (aaK aA W q K pm x)):=az (λW hb=>sS (FV.o.at_.old hb) x (by have:=HXU.o.1;omega) CX.o);have HB0:Hid (acN wc.heap.size wc wc):=az ak;have nR:Hid (∀W,acN wc.heap.size wc W->acN wc.heap.size wc W.drew):=az (λW h=>h.drew)
  have Ii:Hid (∀(W:acL) o,acN wc.heap.size wc W->acN wc.heap.size wc (W.alloc o)):=az (λW o h=>h.alloc h.size o);have nS:Hid (∀W W' K',acN wc.heap.size wc W->bM aA W q K W' K' pm->rO g A B C x F W'):=az (λW W' K' hb hr=>(KJ.o.old hb).go hr.go FJ.o wW.o);have FL:Hid (∀W W' K',acN wc.heap.size wc W->bM aA W q K W' K' pm->bG aA w q K W' K' pm):=az (λW W' K' hb hr=>(FV.o.old hb).trans hr.go);have Zl:Hid (∀W W' K',bM aA W q K W' K' pm->aD W wc.heap.size 23 #[aco none 0 0]->(aD W' wc.heap.size 23 #[aco none 0 0]/\¬K' wc.heap.size)) :=
   az (λW W' K' hr hb=>hr.go.keep hb (λe=>by have:=FV.o.at_.lt _ e;omega))
  have GQ:Hid (wc.heap.size≠g/\wc.heap.size≠A/\wc.heap.size≠B/\wc.heap.size≠C):=az ⟨λe=>by have:=KJ.o.file.lt;omega,λe=>by have:=KJ.o.fb.lt;omega,λe=>by have:=KJ.o.pb.lt;omega,λe=>by have:=KJ.o.rb.lt;omega⟩;have HWC:Hid (w.heap.size<=wc.heap.size):=az FV.o.size;go_cut [9,10] from 21 to 29 (λv9 v10 wx=>∃K5 D g5 c5,v9=adj (some ⟨D,0,none⟩)/\v10=vi 0/\Hid (aD wx D 23 #[aco (some ⟨g5,0,none⟩) 64 c5])/\Hid (wc.heap.size<=D)/\Hid (rO g A B C x F wx)/\Hid (bG aA w q K wx K5 pm/\∀n,K5 n->K n)/\Hid (bE wx (some ⟨g5,0,none⟩) (pm.get x)))
  case first =>
   go_region_held3 (λW=>(W.cell? ⟨A,0,none⟩=some (ptr g)/\W.cell? ⟨B,0,none⟩=some (vi x)/\W.cell? ⟨g,0,none⟩=some (ptr q)))
    (exact rO.facts (C:=C) (F:=F) (by repeat (with_reducible first|exact KJ.o|exact Dm.o|(refine rO.drew ?_)|(refine rO.alloc _ ?_)|(refine rO.set GQ.o _ _ ?_))) HQ.o)
    (first|(go_at_call 34;refine(IU.o _ (by repeat first|exact HB0.o|(refine nR.o _ ?_)|(refine Ii.o _ _ ?_))).mono ?_;rintro e w5 ⟨K5,g5,c5,rfl,jT,hg5,JR,amP,qJ⟩;have Dm:=az (nS.o _ _ _ (by repeat first|exact HB0.o|(refine nR.o _ ?_)|(refine Ii.o _ _ ?_)) qJ);have ht5:=FL.o _ _ _ (by repeat first|exact HB0.o|(refine nR.o _ ?_)|(refine Ii.o _ _ ?_)) qJ;first|(have hk5:=Zl.o _ _ _ qJ (by exact aD.new _ _ _);have r0:w5.cell? ⟨wc.heap.size,0,none⟩=some (aco none 0 0):=hk5.1.cell 0;have f0:=hk5.1.frozen 0)|skip))
   all_goals
    have hrow:=Own.zu jT je.o.1 je.o.2;go_wp2;go_meet;first
     |(have hx:=hk5.1
       have hst:aP (λn=>n=wc.heap.size) w5 (w5.setCell ⟨wc.heap.size,0,none⟩ (aco (some ⟨g5,0,none⟩) 64 c5)):=aP.set (F:=λn=>n=wc.heap.size) w5 (p:=⟨wc.heap.size,0,none⟩) rfl _
       have hz:=ht5.jg H.o hx HWC.o hk5.2 hst
       have hp:=Dm.o.aJ hst GQ.o
       have yL:=FD jT hst (λm e e2=>bU jT hx ag (by rw[e,e2]))
       have MW:=Own.zu yL je.o.1 je.o.2
       exact⟨K5,_,g5,c5,rfl,rfl,az (hx.bB 0 _),az aj,az hp,az ⟨hz,qJ.sub⟩,az MW⟩)
     |skip
   all_goals
    have hbn:=aD.new w5 23 #[aco (some ⟨g5,0,none⟩) 64 c5];have hbb:acN w5.heap.size w5 (w5.alloc (ach #[aco (some ⟨g5,0,none⟩) 64 c5] 23)):=ax;have hz:=ht5.old hbb;have hp:=Dm.o.old hbb;exact⟨K5,w5.heap.size,g5,c5,rfl,rfl,az hbn,az qJ.go.size,az hp,az ⟨hz,qJ.sub⟩,az (hrow.below hbb)⟩
  case rest =>
   obtain⟨K5,D,g5,c5,rfl,rfl,hbd,hdl,Dm,aaP,Zm⟩:=hcut;clear HB0 nR Ii nS FL Zl IU KJ;have Bv:=az (O3 (some ⟨g5,0,none⟩) c5 k v (pm.get x) Zm.o je.o.1 hk hv);have qL:Hid ((PI.point (pm.get x) k v).length=64/\∀y∈PI.point (pm.get x) k v,y<256):=az ⟨by rw[PI.xJ];exact je.o.1,PI.rM je.o.2 hv⟩;have d9:wc.cell? ⟨D,0,none⟩=some (aco (some ⟨g5,0,none⟩) 64 c5):=hbd.o.cell 0;have z9:=hbd.o.frozen 0;have Zl:Hid (¬K5 D):=az (λe=>by have:=FV.o.at_.lt _ (aaP.o.2 _ e);have:=hdl.o;omega);have adG:=az hbd.o;have Bw:=az aaP.o;have vQ:Hid (w.heap.size<=D):=az (abX HWC.o hdl.o)
   have HDN:Hid (D≠g/\D≠A/\D≠B/\D≠C):=az (by
    have h1:=Dm.o.file
    have h2:=Dm.o.fb
    have h3:=Dm.o.pb
    have h4:=Dm.o.rb
    have h5:=hbd.o
    refine⟨λe=>?_,λe=>?_,λe=>?_,λe=>?_⟩
    rw[e]at h5;exact absurd (bY h5 h1) ag
    rw[e]at h5;exact absurd (bY h5 h2) ag
    rw[e]at h5;exact absurd (bY h5 h3) ag
    rw[e]at h5;exact absurd (bY h5 h4) ag)
   clear hbd aaP hdl Zm;generalize hbl:PI.point (pm.get x) k v=bl at*;have lK:=az hbl;clear hbl;go_wp2_with fail;refine Bv.o.mono ?_;rintro e w6 ⟨v6,rfl,yL,hb6⟩;obtain⟨g6,c6,rfl,uy,hc6,amQ⟩:=oF yL (by rw[qL.o.1];decide);rw[qL.o.1]at yL hc6 ⊢;have d6:w6.cell? ⟨D,0,none⟩=some (aco (some ⟨g5,0,none⟩) 64 c5):=cell_below d9 hb6;have HD6:=az (adG.o.old hb6);have z6:=HD6.o.frozen 0;clear d9 z9;go_upto_region 5 with fail;have hst:aP (λn=>n=D) w6 (w6.setCell ⟨D,0,none⟩ (aco (some ⟨g6,0,none⟩) 64 c6)):=aP.set (F:=λn=>n=D) w6 (p:=⟨D,0,none⟩) rfl _;have HD7:=az (HD6.o.bB 0 (aco (some ⟨g6,0,none⟩) 64 c6))
   have adH:=az ((Dm.o.old hb6).aJ hst HDN.o);have adI:=az ((Bw.o.1.old hb6).jg H.o HD6.o vQ.o Zl.o hst);have Bz:Hid (bE (w6.setCell ⟨D,0,none⟩ (aco (some ⟨g6,0,none⟩) 64 c6)) (some ⟨g6,0,none⟩) bl):=az (Own.zu (FD yL hst (λm e e2=>bU yL HD6.o ag (by rw[e,e2]))) qL.o.1 qL.o.2);change adW _ _ _ _ (w6.setCell ⟨D,0,none⟩ (aco (some ⟨g6,0,none⟩) 64 c6));have O5:Hid (g6<w6.heap.size):=az (Tp yL);have ahJ:Hid ((w6.setCell ⟨D,0,none⟩ (aco (some ⟨g6,0,none⟩) 64 c6)).heap.size=w6.heap.size):=az ai;rw[<-ahJ.o]at O5
   clear yL hb6 hst d6 z6 HD6 Dm adG Bv uy;generalize w6.setCell ⟨D,0,none⟩ (aco (some ⟨g6,0,none⟩) 64 c6)=w7 at*;have d7:w7.cell? ⟨D,0,none⟩=some (aco (some ⟨g6,0,none⟩) 64 c6):=HD7.o.cell 0;go_wp2_with fail;refine(vY (some ⟨g6,0,none⟩) 64 c6).mono ?_;rintro e w8 ⟨rfl,rfl⟩;go_wp2_with fail;have wX:Hid (acN w7.heap.size w7 (w7.alloc (ach #[aco (some ⟨g6,0,none⟩) 64 c6] 23))):=az ax;have zP:=az (aD.new w7 23 #[aco (some ⟨g6,0,none⟩) 64 c6]);have Xh:Hid ((w7.alloc (ach #[aco (some ⟨g6,0,none⟩) 64 c6] 23)).heap.size=w7.heap.size+1):=az ai
   have HD8:=az (HD7.o.old wX.o);have adJ:=az (adH.o.old wX.o);have Xi:=az (adI.o.old wX.o);have Ei:=az (Bz.o.below wX.o);clear HD7 adH adI Bz d7;change adW _ _ _ _ (w7.alloc (ach #[aco (some ⟨g6,0,none⟩) 64 c6] 23));generalize w7.alloc (ach #[aco (some ⟨g6,0,none⟩) 64 c6] 23)=w8 at*;obtain⟨b1,hb1⟩:∃b,b=w7.heap.size:=⟨_,rfl⟩;rw[<-hb1]at zP Xh O5 ⊢;clear hb1 wX;have ig:Hid (b1<w8.heap.size/\g6<w8.heap.size):=az (by have h1:=Xh.o;have h2:=O5.o;omega);have HK5:Hid (∀n,K5 n->n<w8.heap.size):=az (λn e=>Xi.o.at_.lt n e);have CY:Hid (w.heap.size<=w8.heap.size):=az Xi.o.size
   have HSQ:=uA (w:=w8) 5 ag b1 g6 c6 bl (zP.o.cell 0) Ei.o qL.o.1;have Tq:=Xe w8 (α:=Fin (PI.ptrs bl).length);have HOX:=λc=>Xf (aA:=aA) (w:=w) (q:=q) (K:=K) (p2:=pm.put x bl) (C:=C) (x:=x) (α:=Fin (PI.ptrs bl).length) CY.o (abX FU.o CY.o) (adN H.o.JV CY.o) c
   have HEG:=dI func130 ah rfl;refine(wpIn_wide (n:=6)).1 ?_;refine wpIn_rangeFunc_ownG_of_H (F:=Fence.wide) (n:=6) rfl aa (gf:=130) (lb:=#[adj (some ⟨b1,0,none⟩)]) ?g1 ?g2 HEG HSQ ?g4 ?g5 ?g6 ?g7 (Zi w8) (Zj aA w q K (pm.put x bl) C x w8.heap.size) Tq HOX ?g8
    (λx=>{tmps:=#[ptr g,vi aB,vi k,vi v,adj (some ⟨A,0,none⟩),adj (some ⟨B,0,none⟩),undef,undef,adj (some ⟨C,0,none⟩),adj (some ⟨D,0,none⟩),vi 0,u11,u12,u13,u14,u15,u16,u17,u18,u19,u20,u21,u22,u23,u24,u25,u26,u27,u28,u29,adg #[aco (some ⟨g6,0,none⟩) 64 c6,vi 0],aco (some ⟨g5,0,none⟩) 64 c5,vi k,vi v,adg #[aco (some ⟨g6,0,none⟩) 64 c6,vi 0],aco (some ⟨g6,0,none⟩) 64 c6,vi 0,aco (some ⟨g6,0,none⟩) 64 c6,.func (.func 130) #[] #[adj (some ⟨b1,0,none⟩)],vi (((PI.ptrs bl)[x.1]).1:Int),vi (((PI.ptrs bl)[x.1]).2:Int),undef,undef,undef,undef,undef,undef,undef,undef,undef,undef,undef,undef,undef,undef],defers:=[]}) ?_ ?_ ?_ ?_ ?g9
   case g1=>rfl
   case g2=>trivial
   case g4=>exact λh k=>lN.t h k
   case g5=>exact λW l o o' hl h _ _=>lN.b ig.o.1 ig.o.2 W l o o' hl h
   case g6=>exact ak
   case g7=>exact λ_=>rfl
   case g8=>exact⟨rfl,ak⟩
   case g9=>exact λW=>aP.refl _ _
   ·intro l y W K hK;have HK:=az hK;clear hK;dsimp only;gi_wp2;exact HK.o
   ·rintro l pre y W ⟨rfl,hB⟩ hlen;have uz:=az hB;have IW:=az (adJ.o.old hB);have HDW:=az (HD8.o.old hB);have Tt:=az (Xi.o.old hB);clear hB hlen;dsimp only;gi_wp2;have hSW:(λW=>W.cell? ⟨A,0,none⟩=some (ptr g)/\W.cell? ⟨B,0,none⟩=some (vi x)/\W.cell? ⟨g,0,none⟩=some (ptr q)/\W.cell? ⟨D,0,none⟩=some (aco (some ⟨g6,0,none⟩) 64 c6)) W.drew:=⟨IW.o.fb.cell 0,IW.o.pb.cell 0,by rw[(rO.drew IW.o).file.cell];exact HQ.o,HDW.o.cell 0⟩;refine FT (S:=(λW=>W.cell? ⟨A,0,none⟩=some (ptr g)/\W.cell? ⟨B,0,none⟩=some (vi x)/\W.cell? ⟨g,0,none⟩=some (ptr q)/\W.cell? ⟨D,0,none⟩=some (aco (some ⟨g6,0,none⟩) 64 c6))) ah ah (by rintro⟨a,w,h⟩;exact h) ?_
    change wpAnyH _ _ _ _ _ 7 #[false,false,false,false,false,false,false] _ _;refine ad1 (i:=0) (oi:=⟨some 41,_,_,_,_,_⟩) (v:= ?_) rfl ah ah ah (λ_ _ _ h=>h) (Or.inl ⟨by rfl,?_⟩) (by assumption) ?_;rotate_left
    ·intro w hSw;(try dsimp only at hSw);go_simp;(try with_reducible rfl)
    simp only[ay];refine ad1 (i:=1) (oi:=⟨some 42,_,_,_,_,_⟩) (v:= ?_) rfl ah ah ah (λ_ _ _ h=>h) (Or.inl ⟨by rfl,?_⟩) (by assumption) ?_;rotate_left
    ·intro w hSw;(try dsimp only at hSw);go_simp;(try with_reducible rfl)
    simp only[ay];refine ad1 (i:=2) (oi:=⟨some 43,_,_,_,_,_⟩) (v:= ?_) rfl ah ah ah (λ_ _ _ h=>h) (Or.inl ⟨by rfl,?_⟩) (by assumption) ?_;rotate_left
    ·intro w hSw;(try dsimp only at hSw);go_simp;(try with_reducible rfl)
    simp only[ay];refine ad1 (i:=3) (oi:=⟨some 44,_,_,_,_,_⟩) (v:= ?_) rfl ah ah ah (λ_ _ _ h=>h) (Or.inl ⟨by rfl,?_⟩) (by assumption) ?_;rotate_left
    ·intro w hSw;(try dsimp only at hSw);go_simp;(try with_reducible rfl)
    simp only[ay];refine ad1 (i:=4) (oi:=⟨some 45,_,_,_,_,_⟩) (v:= ?_) rfl ah ah ah (λ_ _ _ h=>h) (Or.inl ⟨by rfl,?_⟩) (by assumption) ?_;rotate_left
    ·intro w hSw;(try dsimp only at hSw);go_simp;(try with_reducible rfl)
    simp only[ay];refine ad1 (i:=5) (oi:=⟨some 46,_,_,_,_,_⟩) (v:= ?_) rfl ah ah ah (λ_ _ _ h=>h) (Or.inl ⟨by rfl,?_⟩) (by assumption) ?_;rotate_left
    ·intro w hSw;(try dsimp only at hSw);go_simp;(try with_reducible rfl)
    simp only[ay];refine wpAnyH_ready (rs:=[6]) ah ai ?_;refine AllReadyH.cons rfl (λK0 hK0=>?_) AllReadyH.nil;have HK0:=az hK0;clear hK0;go_simp;have HRW:Hid (bE W.drew (some ⟨g6,0,none⟩) bl):=az ((Ei.o.below uz.o).below au);have HPU:=az (FH (PQ.old Tt.o.at_ au) x CX.o (some ⟨g6,0,none⟩) c6 bl HRW.o qL.o.1);refine HPU.o.mono ?_;rintro e W2 ⟨rfl,hgo⟩;have ug:Hid (rO g A B C x F W2):=az (rO.go (rO.drew IW.o) hgo (λe=>FJ.o (Bw.o.2 _ e)) ⟨λe=>wW.o.1 (Bw.o.2 _ e),λe=>wW.o.2.1 (Bw.o.2 _ e),λe=>wW.o.2.2 (Bw.o.2 _ e)⟩)
    have HD9:Hid (aD W2 D 23 #[aco (some ⟨g6,0,none⟩) 64 c6]):=az (hgo.keep HDW.o Zl.o).1;have ahN:=az ((Tt.o.old au).trans hgo);have HKE:Hid (adY w8.heap.size W W2):=az ((Eh (K:=λ_=>False) (aP.of_below (ac3 _ W).drew) (λ_ e=>e.elim)).trans (Eh hgo.aJ HK5.o));clear hgo HPU HRW IW HDW Tt hSW;refine HK0.o.out _ _ ⟨ug.o.fb.cell 0,ug.o.pb.cell 0,by rw[ug.o.file.cell];exact HQ.o,HD9.o.cell 0⟩ (λ_=>?_);clear HK0;simp only[ay];refine wpAnyH_done ah ?_ _
    have d5:W2.cell? ⟨B,0,none⟩=some (vi x):=ug.o.pb.cell 0;have d8:W2.cell? ⟨C,0,none⟩=some (vi 0):=ug.o.rb.cell 0;have z8:=ug.o.rb.frozen 0;gi_wp2;have hst:aP (λn=>n=C) W2 (W2.setCell ⟨C,0,none⟩ (vi x)):=aP.set (F:=λn=>n=C) W2 (p:=⟨C,0,none⟩) rfl _;have hz1:adY w8.heap.size W (W2.setCell ⟨C,0,none⟩ (vi x)):=HKE.o.trans (pO ug.o.rb 0 (vi x));have hz2:bG aA w q K (W2.setCell ⟨C,0,none⟩ (vi x)) K5 (pm.put x bl):=ahN.o.jg H.o ug.o.rb wU.o.2.2.1 (λe=>wW.o.2.2 (Bw.o.2 _ e)) hst;have hz3:aD (W2.setCell ⟨C,0,none⟩ (vi x)) C 3 #[vi x]:=ug.o.rb.bB 0 (vi x)
    exact⟨hz1,rfl,⟨y⟩,K5,hz2,HK5.o,hz3⟩
   ·intro D' xs W hD hS hI hK;have hI':xs=[]/\acN w8.heap.size w8 W:=hI;have hS':xs=adK (PI.ptrs bl).length:=hS;obtain⟨h,hB⟩:=hI';have HNP:Hid (PI.ptrs bl=[]):=az (by
     rw[h]at hS'
     have:=congrArg List.length hS'
     rw[List.length_finRange]at this
     exact List.eq_nil_of_length_eq_zero this.symm)
    clear hS hS' hI h;have uz:=az hB;have HK:=az hK;have HD:=az hD;have IW:=az (adJ.o.old hB);have Tt:=az (Xi.o.old hB);clear hB hK hD;go_wp2_with fail;have HB0:Hid (acN W.heap.size W W):=az ak;have nR:Hid (∀W',acN W.heap.size W W'->acN W.heap.size W W'.drew):=az (λW' h=>h.drew);have yB:Hid (∀W',acN W.heap.size W W'->ac4 prog 48 #[ptr q,vi x] W' λe w'=>e=ab4 (vi 0)/\bG aA W' q K5 w' K5 (pm.free x)):=az (λW' hb=>mG (Tt.o.at_.old hb) x HXU.o.2);have nS:Hid (∀W' W'',acN W.heap.size W W'->bG aA W' q K5 W'' K5 (pm.free x)->rO g A B C x F W''):=az (λW' W'' hb hr=>(IW.o.old hb).go hr (λe=>FJ.o (Bw.o.2 _ e)) ⟨λe=>wW.o.1 (Bw.o.2 _ e),λe=>wW.o.2.1 (Bw.o.2 _ e),λe=>wW.o.2.2 (Bw.o.2 _ e)⟩)
    have FL:Hid (∀W' W'',acN W.heap.size W W'->bG aA W' q K5 W'' K5 (pm.free x)->bG aA w q K W'' K5 (pm.free x)):=az (λW' W'' hb hr=>(Tt.o.old hb).trans hr);have HDE:Hid (∀W' W'',acN W.heap.size W W'->bG aA W' q K5 W'' K5 (pm.free x)->W''.heap[D']?=some (adL (some []))):=az (λW' W'' hb hr=>by
     have hlt:D'<W.heap.size:=(aaz.1 HK.o).1
     have h1:=hb.block D' hlt
     exact(hr.aJ.block D' (adN hlt hb.size) (λe=>by have h2:=HK5.o _ e;have h3:=HD.o;omega)).trans (h1.trans HK.o))
    go_region_held3 (λW=>(W.cell? ⟨A,0,none⟩=some (ptr g)/\W.cell? ⟨B,0,none⟩=some (vi x)/\W.cell? ⟨g,0,none⟩=some (ptr q)))
     (exact rO.facts (C:=C) (F:=F) (by repeat (with_reducible first|exact IW.o|exact ug.o|(refine rO.drew ?_))) HQ.o)
     (first|(go_at_call 48;refine(yB.o _ (by repeat first|exact HB0.o|(refine nR.o _ ?_))).mono ?_;rintro e w9 ⟨rfl,hr9⟩;have ug:=az (nS.o _ _ (by repeat first|exact HB0.o|(refine nR.o _ ?_)) hr9);have Ej:=az (FL.o _ _ (by repeat first|exact HB0.o|(refine nR.o _ ?_)) hr9);have HK9:=az (HDE.o _ _ (by repeat first|exact HB0.o|(refine nR.o _ ?_)) hr9)))
    all_goals
     have d8:w9.cell? ⟨C,0,none⟩=some (vi 0):=ug.o.rb.cell 0;have z8:=ug.o.rb.frozen 0;clear hr9 nS FL HDE yB HB0 nR;go_wp2_with fail;have hst:aP (λn=>n=C) w9 (w9.setCell ⟨C,0,none⟩ (vi 0)):=aP.set (F:=λn=>n=C) w9 (p:=⟨C,0,none⟩) rfl _;have hrb:aD (w9.setCell ⟨C,0,none⟩ (vi 0)) C 3 #[vi 0]:=ug.o.rb.bB 0 (vi 0);have hgo:bG aA w q K (w9.setCell ⟨C,0,none⟩ (vi 0)) K5 (pm.free x):=Ej.o.jg H.o ug.o.rb wU.o.2.2.1 (λe=>wW.o.2.2 (Bw.o.2 _ e)) hst;have hdk:(w9.setCell ⟨C,0,none⟩ (vi 0)).heap[D']?=some (adL (some [])):=(hst.block D' (aaz.1 HK9.o).1 (λe=>by
      have h1:w9.heap[C]?=some (ach #[vi 0] 3):=ug.o.rb
      have h2:=HK9.o
      rw[e,h1]at h2
      cases h2)).trans HK9.o
     have hgm:=hgo.marked HK5.o CY.o (abX FU.o CY.o) (adN H.o.JV CY.o) HD.o hdk;have hcp:=di.iB hrb hdk (adL none);refine di.ji (v:=vi 0) hdk ?_ ?_;exact wo hcp _ rfl;refine⟨K5,?_,?_⟩;rw[Po.Bt Zk.o lK.o HNP.o];rfl;rw[Po.Bt Zk.o lK.o HNP.o];exact hgm
   intro D' c' pre W hD hS hI hK;have hI':c'=.ret/\Nonempty (Fin (PI.ptrs bl).length)/\∃K',bG aA w q K W K' (pm.put x bl)/\(∀n,K' n->n<w8.heap.size)/\aD W C 3 #[vi x]:=hI;obtain⟨rfl,⟨y⟩,K',hgo,hlt,hc⟩:=hI';have HNP:Hid (PI.ptrs bl≠[]):=az (λe=>by
    have h1:=y.2
    have h2:=congrArg List.length e
    rw[List.length_nil]at h2
    omega)
   clear hS hI;have FV:=az (hgo.marked hlt CY.o (abX FU.o CY.o) (adN H.o.JV CY.o) hD hK);gi_wp2;have hcp:=di.iB hc hK (adL none);refine di.ji (v:=vi x) hK ?_ ?_;exact wo hcp _ rfl;refine⟨K',?_,?_⟩;rw[Po.Bu Zk.o lK.o HNP.o];rw[Po.Bu Zk.o lK.o HNP.o];exact FV.o
end
end po
namespace po
open RowKit mgr ft pl ino nd
def Po.set (p:Po)(i:PI.bF)(n v:Nat):Po×PI.bF :=
 if n<6 then (p,i.KC n v)
 else if n<38 then ((p.point i.single (n-6) v).1,{i with single:=(p.point i.single (n-6) v).2})
 else
  (((p.point (p.ptr i.double ((n-38)/32)) ((n-38)%32) v).1.point i.double ((n-38)/32) (p.point (p.ptr i.double ((n-38)/32)) ((n-38)%32) v).2).1,
   {i with double:=((p.point (p.ptr i.double ((n-38)/32)) ((n-38)%32) v).1.point i.double ((n-38)/32) (p.point (p.ptr i.double ((n-38)/32)) ((n-38)%32) v).2).2})
def Po.may (p:Po)(x:Nat):Prop:=(x=0->0<p.aK)/\(x≠0->x<8192/\MP.has p.U x=true)
structure Po.wfp (p:Po)(i:PI.bF):Prop where
 len:i.direct.length=6
 double:p.good i.double
 two:∀k,k<32->p.good (p.ptr i.double k)/\True
def Po.wf.p {p:Po}{i:PI.bF}(h:p.wf i):p.wfp i:=⟨h.len,h.double,λk hk=>⟨(h.two k hk).1,trivial⟩⟩
structure Po.BC (p:Po)(i:PI.bF)(n v:Nat):Prop where
 one:6<=n->n<38->p.may i.single
 two:38<=n->p.may (p.ptr i.double ((n-38)/32))/\(p.point (p.ptr i.double ((n-38)/32)) ((n-38)%32) v).1.may i.double/\(p.point (p.ptr i.double ((n-38)/32)) ((n-38)%32) v).2<8192
structure IX (aA:Nat)(w:acL)(q g:Nat)(K:Nat->Prop)(w':acL)(K':Nat->Prop)(p':Po)(i':PI.bF):Prop where
 at_:PQ aA w' q K' p'
 aJ:aP (λn=>K n\/n=g) w w'
 foot:∀n,K' n->K n\/w.heap.size<=n
 file:aD w' g 74 (fileC q i')
 ng:¬K' g
section
variable{aA:Nat}{w w':acL}{q g:Nat}{p p':Po}{K K' K0:Nat->Prop}{i i':PI.bF}
def bG.gg {w0:acL}(h:bG aA w0 q K0 w K p)(k:IX aA w q g K w' K' p' i')(hg:w0.heap.size<=g):bG aA w0 q K0 w' K' p':=by
 refine⟨k.at_,h.aJ.trans k.aJ λn hn e=>?_,λn hn=>?_⟩;rcases e with e|e;rcases h.foot n e with h1|h1;exact h1;omega;omega;rcases k.foot n hn with h1|h1;exact h.foot n h1;exact acm (abX h.aJ.size h1)
def IX.keep {b:Nat}{t:TypeId}{cs:Array acK}(h:IX aA w q g K w' K' p' i')(hb:aD w b t cs)(hn:¬K b)(hg:b≠g):aD w' b t cs/\¬K' b:=by
 refine⟨hb.aJ h.aJ (λe=>?_),λe=>?_⟩;rcases e with e|e;exact hn e;exact hg e;rcases h.foot b e with h1|h1;exact hn h1;have:=hb.lt;omega
def bG.box {C:Array acK}(h:bG aA w q K w' K' p')(h0:PQ aA w q K p)(hf:aD w g 74 C)(hn:¬K g)(hb:aA<=g)(i:Nat)(v:acK)(hi':(C.setIfInBounds i v)=fileC q i'):IX aA w q g K (w'.setCell ⟨g,i,none⟩ v) K' p' i':=by
 obtain⟨hf',hn'⟩:=h.keep hf hn;have hst:aP (λn=>n=g) w' (w'.setCell ⟨g,i,none⟩ v):=aP.set (F:=λn=>n=g) w' (p:=⟨g,i,none⟩) rfl v;have hgq:g≠q:=λe=>by
  obtain⟨Y,X,h1,_⟩:=h0;have h2:aD w q 96 Y.cs:=h1.pl.obj;rw[<-e]at h2;exact absurd (bY h2 hf) ag
 refine⟨h.at_.aJ hst (λn e=>by rw[e];exact Loose.blk hb hf') (λn e e2=>by rw[e2]at e;exact hn' e) (λe=>hgq e.symm),(h.aJ.mono (λn _ e=>ack e)).trans hst (λn _ e=>acm e),h.foot,by rw[<-hi'];exact hf'.bB i v,hn'⟩
def MX (h:PQ aA w q K p)(i:PI.bF)(hi:p.wfp i)(hf:aD w g 74 (fileC q i))(QX:¬K g)(hbg:aA<=g)(n v:Nat)(hn:n<1062)(hv:v<8192)(hm:p.BC i n v) :
  ac4 prog 33 #[ptr g,vi n,vi v] w λe w'=>e=ab4 (adg #[])/\∃K',IX aA w q g K w' K' (p.set i n v).1 (p.set i n v).2:=by
 have H:=az h;have FJ:=az QX;have HBG:=az hbg;have e0:=file_q hi.len hf;have HF:=az hf;have HS:=az (kR h);have HT:=az (Ba (w:=w) n hn);clear h QX hf hbg;by_cases h6:n<6
 ·have CZ:Hid (p.set i n v=(p,i.KC n v)):=az (by unfold Po.set;rw[if_pos h6]);rw[show PI.way n=(0,n,0) by unfold PI.way;rw[if_pos h6]]at HT;dsimp only at HT;rw[CZ.o];have HST:Hid (∀W,aD W g 74 (fileC q i)->aD (W.setCell ⟨g,4+n,none⟩ (vi v)) g 74 (fileC q (i.KC n v))):=az (λW h=>file_set hi.len h h6 v);have wU:=az hi.len;clear hi hm CZ;go_in;go_wp2_with fail;refine HS.o.mono ?_;rintro e w' ⟨rfl,rfl⟩;go_wp2_with fail;refine HT.o.mono ?_;rintro e w2 ⟨rfl,hb2⟩;go_upto_region 1 with fail;have HB3:Hid (acN w'.heap.size w' (w2.alloc (ach #[vi 0,vi n,vi 0] 111))):=az (hb2.alloc hb2.size _)
  have iR:=az (aD.new w2 111 #[vi 0,vi n,vi 0]);change adW _ _ _ _ (w2.alloc (ach #[vi 0,vi n,vi 0] 111));have MV:Hid (¬K w2.heap.size):=az (λe=>by have:=H.o.lt _ e;have:=hb2.size;omega);have MM:Hid (g≠w2.heap.size):=az (λe=>by have:=HF.o.lt;have:=hb2.size;omega);have vZ:=az (HF.o.old HB3.o);have H3:=az (H.o.old HB3.o);generalize w2.alloc (ach #[vi 0,vi n,vi 0] 111)=w3 at*;generalize w2.heap.size=y at*;have x0:w3.cell? ⟨y,0,none⟩=some (vi 0):=iR.o.cell 0;have x1:w3.cell? ⟨y,1,none⟩=some (vi n):=iR.o.cell 1;have y0:w3.cell? ⟨g,4+n,none⟩=some (vi (i.direct.getD n 0)):=file_d wU.o vZ.o h6
  have y1:w3.frozen? ⟨g,4+n,none⟩=false:=vZ.o.frozen _;generalize i.direct.getD n 0=d at*;have n6:(n:Int)<6:=aa;have n0:(0:Int)<=(n:Int):=aa;clear hb2 HS HT HF e0;go_upto_region 3 with fail;clear iR x0;go_region;go_wp2_with fail;have hst:aP (λm=>m=g) w3 (w3.setCell ⟨g,4+n,none⟩ (vi v)):=aP.set (F:=λm=>m=g) w3 (p:=⟨g,4+n,none⟩) rfl _;have hgq:g≠q:=λe=>by
   obtain⟨Y,X,h1,_⟩:=H3.o;have h2:aD w3 q 96 Y.cs:=h1.pl.obj;rw[<-e]at h2;exact absurd (bY h2 vZ.o) ag
  have hq4:PQ aA (w3.setCell ⟨g,4+n,none⟩ (vi v)) q K p:=H3.o.aJ hst (λm e=>by rw[e];exact Loose.blk HBG.o vZ.o) (λm e e2=>by rw[e2]at e;exact FJ.o e) (λe=>hgq e.symm);have hc4:aP (λm=>K m\/m=g) w' (w3.setCell ⟨g,4+n,none⟩ (vi v)):=(aP.of_below HB3.o).trans hst (λm _ e=>acm e);have hf4:=HST.o w3 vZ.o;go_end0;exact⟨rfl,K,⟨hq4.old au,hc4.drew,λm e=>ack e,Iw hf4,FJ.o⟩⟩
 have wU:=az hi.len;obtain⟨kd,ln,sz,dl,sg,db⟩:=i;obtain⟨d0,d1,d2,d3,d4,d5,rfl⟩:=six (l:=dl) hi.len;by_cases zN:n<38
 ·have CZ:Hid (p.set ⟨kd,ln,sz,[d0,d1,d2,d3,d4,d5],sg,db⟩ n v=((p.point sg (n-6) v).1,⟨kd,ln,sz,[d0,d1,d2,d3,d4,d5],(p.point sg (n-6) v).2,db⟩)):=az (by unfold Po.set;rw[if_neg h6,if_pos zN]);rw[show PI.way n=(1,n-6,0) by unfold PI.way;rw[if_neg h6,if_pos zN]]at HT;dsimp only at HT;have hone:=hm.one aa zN;dsimp only at hone;rw[CZ.o];dsimp only;have Bq:Hid (∀W,PQ aA W q K p->aD W g 74 #[ptr q,vi kd,vi ln,vi sz,vi d0,vi d1,vi d2,vi d3,vi d4,vi d5,vi sg,vi db]->ac4 prog 61 #[ptr g,vi sg,vi ((n-6:Nat):Int),vi v] W λe w'=>∃K',e=ab4 (vi (p.point sg (n-6) v).2)/\bG aA W q K w' K' (p.point sg (n-6) v).1) :=
   az (λW h1 h2=>xK h1 h2 rfl FJ.o sg (n-6) v aa hv hone.1 hone.2)
  clear hi hm hone CZ;generalize p.point sg (n-6) v=r at*;obtain⟨p2,r2⟩:=r;dsimp only at*;generalize n-6=m at*;go_in;go_wp2_with fail;refine HS.o.mono ?_;rintro e w' ⟨rfl,rfl⟩;go_wp2_with fail;refine HT.o.mono ?_;rintro e w2 ⟨rfl,hb2⟩;go_upto_region 1 with fail;have HB3:Hid (acN w'.heap.size w' (w2.alloc (ach #[vi 1,vi m,vi 0] 111))):=az (hb2.alloc hb2.size _);have iR:=az (aD.new w2 111 #[vi 1,vi m,vi 0]);change adW _ _ _ _ (w2.alloc (ach #[vi 1,vi m,vi 0] 111));have MV:Hid (¬K w2.heap.size):=az (λe=>by have:=H.o.lt _ e;have:=hb2.size;omega);have MM:Hid (g≠w2.heap.size):=az (λe=>by have:=HF.o.lt;have:=hb2.size;omega)
  have vZ:=az (HF.o.old HB3.o);have H3:=az (H.o.old HB3.o);generalize w2.alloc (ach #[vi 1,vi m,vi 0] 111)=w3 at*;generalize w2.heap.size=y at*;have x0:w3.cell? ⟨y,0,none⟩=some (vi 1):=iR.o.cell 0;have FK:Hid (sU g y #[ptr q,vi kd,vi ln,vi sz,vi d0,vi d1,vi d2,vi d3,vi d4,vi d5,vi sg,vi db] #[vi 1,vi m,vi 0] w3):=az ⟨vZ.o,iR.o⟩;clear hb2 HS HT vZ iR e0;go_upto_region 5 with fail;clear x0;obtain⟨y0,_,x1,_⟩:=sU.facts FK.o;have HB0:Hid (acN w3.heap.size w3 w3):=az ak;have nR:Hid (∀W,acN w3.heap.size w3 W->acN w3.heap.size w3 W.drew):=az (λW h=>h.drew)
  have V8:Hid (∀W,acN w3.heap.size w3 W->ac4 prog 61 #[ptr g,vi sg,vi m,vi v] W λe w'=>∃K',e=ab4 (vi r2)/\bG aA W q K w' K' p2):=az (λW hb=>Bq.o W (H3.o.old hb) (FK.o.old hb).file);have nS:Hid (∀W W' K',acN w3.heap.size w3 W->bG aA W q K W' K' p2->aD W' g 74 #[ptr q,vi kd,vi ln,vi sz,vi d0,vi d1,vi d2,vi d3,vi d4,vi d5,vi sg,vi db]):=az (λW W' K' hb hr=>(hr.keep (FK.o.old hb).file FJ.o).1);have FL:Hid (∀W W' K',acN w3.heap.size w3 W->bG aA W q K W' K' p2->bG aA w' q K W' K' p2):=az (λW W' K' hb hr=>((bG.aX H.o HB3.o).old hb).trans hr)
  clear Bq;go_region_with (first|(go_at_call 61;refine(V8.o _ (by repeat first|exact HB0.o|(refine nR.o _ ?_))).mono ?_;rintro e w5 ⟨K5,rfl,qJ⟩;have hf5:=nS.o _ _ _ (by repeat first|exact HB0.o|(refine nR.o _ ?_)) qJ;have ql:=az (FL.o _ _ _ (by repeat first|exact HB0.o|(refine nR.o _ ?_)) qJ);have q0:w5.cell? ⟨g,10,none⟩=some (vi sg):=hf5.cell 10;have q1:=hf5.frozen 10))
  all_goals
   clear qJ hf5;go_wp2_with fail;have hz:IX aA w' q g K (w5.setCell ⟨g,10,none⟩ (vi r2)) K5 p2 ⟨kd,ln,sz,[d0,d1,d2,d3,d4,d5],r2,db⟩:=bG.box ql.o H.o HF.o FJ.o HBG.o 10 (vi r2) rfl;go_end0;exact⟨rfl,K5,hz⟩
 have CZ:Hid (p.set ⟨kd,ln,sz,[d0,d1,d2,d3,d4,d5],sg,db⟩ n v=(((p.point (p.ptr db ((n-38)/32)) ((n-38)%32) v).1.point db ((n-38)/32) (p.point (p.ptr db ((n-38)/32)) ((n-38)%32) v).2).1,⟨kd,ln,sz,[d0,d1,d2,d3,d4,d5],sg,((p.point (p.ptr db ((n-38)/32)) ((n-38)%32) v).1.point db ((n-38)/32) (p.point (p.ptr db ((n-38)/32)) ((n-38)%32) v).2).2⟩)):=az (by unfold Po.set;rw[if_neg h6,if_neg zN]);rw[show PI.way n=(2,(n-38)/32,(n-38)%32) by unfold PI.way;rw[if_neg h6,if_neg zN]]at HT;dsimp only at HT;obtain⟨hma,hmb,hmc⟩:=hm.two aa;have WU:=hi.double;have FN:=(hi.two ((n-38)/32) aa).1
 dsimp only at hma hmb hmc WU FN;rw[CZ.o];dsimp only;have adO:(n-38)/32<32:=aa;have ahR:(n-38)%32<32:=aa;clear hi hm CZ;generalize (n-38)/32=m at*;generalize (n-38)%32=m2 at*;have Tn:Hid (∀W,PQ aA W q K p->W.cell? ⟨g,0,none⟩=some (ptr q)->ac4 prog 58 #[ptr g,vi db,vi m] W λe w'=>∃K',e=ab4 (vi (p.ptr db m))/\bM aA W q K w' K' p) :=
  az (λW h1 h2=>nI h1 h2 db m adO WU FN.1)
 have Bq:Hid (∀W K',PQ aA W q K' p->¬K' g->aD W g 74 #[ptr q,vi kd,vi ln,vi sz,vi d0,vi d1,vi d2,vi d3,vi d4,vi d5,vi sg,vi db]->ac4 prog 61 #[ptr g,vi (p.ptr db m),vi m2,vi v] W λe w'=>∃K'',e=ab4 (vi (p.point (p.ptr db m) m2 v).2)/\bG aA W q K' w' K'' (p.point (p.ptr db m) m2 v).1) :=
  az (λW K' h1 h3 h2=>xK h1 h2 rfl h3 (p.ptr db m) m2 v ahR hv hma.1 hma.2)
 clear WU FN hma;generalize p.point (p.ptr db m) m2 v=s at*;generalize p.ptr db m=pm at*;obtain⟨s1,s2⟩:=s;dsimp only at*;have adP:Hid (∀W K',PQ aA W q K' s1->¬K' g->aD W g 74 #[ptr q,vi kd,vi ln,vi sz,vi d0,vi d1,vi d2,vi d3,vi d4,vi d5,vi sg,vi db]->ac4 prog 61 #[ptr g,vi db,vi m,vi s2] W λe w'=>∃K'',e=ab4 (vi (s1.point db m s2).2)/\bG aA W q K' w' K'' (s1.point db m s2).1) :=
  az (λW K' h1 h3 h2=>xK h1 h2 rfl h3 db m s2 adO hmc hmb.1 hmb.2)
 clear hmb hmc;generalize s1.point db m s2=r at*;obtain⟨p2,r2⟩:=r;dsimp only at*;go_in;go_wp2_with fail;refine HS.o.mono ?_;rintro e w' ⟨rfl,rfl⟩;go_wp2_with fail;refine HT.o.mono ?_;rintro e w2 ⟨rfl,hb2⟩;go_upto_region 1 with fail;have HB3:Hid (acN w'.heap.size w' (w2.alloc (ach #[vi 2,vi m,vi m2] 111))):=az (hb2.alloc hb2.size _);have iR:=az (aD.new w2 111 #[vi 2,vi m,vi m2]);change adW _ _ _ _ (w2.alloc (ach #[vi 2,vi m,vi m2] 111));have MV:Hid (¬K w2.heap.size):=az (λe=>by have:=H.o.lt _ e;have:=hb2.size;omega);have MM:Hid (g≠w2.heap.size):=az (λe=>by have:=HF.o.lt;have:=hb2.size;omega)
 have vZ:=az (HF.o.old HB3.o);have H3:=az (H.o.old HB3.o);generalize w2.alloc (ach #[vi 2,vi m,vi m2] 111)=w3 at*;generalize w2.heap.size=y at*;have x0:w3.cell? ⟨y,0,none⟩=some (vi 2):=iR.o.cell 0;have FK:Hid (sU g y #[ptr q,vi kd,vi ln,vi sz,vi d0,vi d1,vi d2,vi d3,vi d4,vi d5,vi sg,vi db] #[vi 2,vi m,vi m2] w3):=az ⟨vZ.o,iR.o⟩;clear hb2 HS HT vZ iR e0;go_upto_region 7 with fail;clear x0;have HB0:Hid (acN w3.heap.size w3 w3):=az ak;have nR:Hid (∀W,acN w3.heap.size w3 W->acN w3.heap.size w3 W.drew):=az (λW h=>h.drew);have V8:Hid (∀W,acN w3.heap.size w3 W->ac4 prog 58 #[ptr g,vi db,vi m] W λe w'=>∃K',e=ab4 (vi pm)/\bM aA W q K w' K' p):=az (λW hb=>Tn.o W (H3.o.old hb) ((FK.o.old hb).file.cell 0))
 have nS:Hid (∀W W' K',acN w3.heap.size w3 W->bM aA W q K W' K' p->sU g y #[ptr q,vi kd,vi ln,vi sz,vi d0,vi d1,vi d2,vi d3,vi d4,vi d5,vi sg,vi db] #[vi 2,vi m,vi m2] W'):=az (λW W' K' hb hr=>hr.atB (FK.o.old hb) FJ.o MV.o);have FL:Hid (∀W W' K',acN w3.heap.size w3 W->bM aA W q K W' K' p->bM aA w' q K W' K' p):=az (λW W' K' hb hr=>((bM.aX H.o HB3.o).old hb).trans hr);clear Tn;go_cut [8] from 49 to 62 (λv8 wx=>∃K6,v8=vi s2/\Hid (bG aA w' q K wx K6 s1)/\Hid (sU g y #[ptr q,vi kd,vi ln,vi sz,vi d0,vi d1,vi d2,vi d3,vi d4,vi d5,vi sg,vi db] #[vi 2,vi m,vi m2] wx)/\Hid (¬K6 g/\¬K6 y))
 case first =>
  go_region_held3 (λW=>(W.cell? ⟨g,10,none⟩=some (vi sg)/\W.cell? ⟨g,11,none⟩=some (vi db)/\W.cell? ⟨y,1,none⟩=some (vi m)/\W.cell? ⟨y,2,none⟩=some (vi m2)))
   (exact sU.facts (q:=q) (by repeat (with_reducible first|exact FK.o|exact FM.o|exact FO.o|(refine sU.drew ?_))))
   (first
    |(go_at_call 61;have hx5:=FM.o;refine(Bq.o _ K5 (PQ.old ql.o.go.at_ (by repeat (with_reducible first | exact ac3 _ _ | (refine adX ?_)))) Tu.o.1 (sU.old hx5 (by repeat (with_reducible first | exact ac3 _ _ | (refine adX ?_)))).file).mono ?_;rintro e w6 ⟨K6,rfl,MW⟩;have GM:=az ((ql.o.old (by repeat (with_reducible first | exact ac3 _ _ | (refine adX ?_)))).go.trans MW);have FO:=az ((sU.old hx5 (by repeat (with_reducible first | exact ac3 _ _ | (refine adX ?_)))).go MW Tu.o.1 Tu.o.2);have Xj:Hid (¬K6 g/\¬K6 y):=az ⟨(MW.keep (sU.old hx5 (by repeat (with_reducible first | exact ac3 _ _ | (refine adX ?_)))).file Tu.o.1).2,(MW.keep (sU.old hx5 (by repeat (with_reducible first | exact ac3 _ _ | (refine adX ?_)))).way Tu.o.2).2⟩)
    |(go_at_call 58;refine(V8.o _ (by repeat first | exact HB0.o | (refine nR.o _ ?_))).mono ?_;rintro e w5 ⟨K5,rfl,qJ⟩;have FM:=az (nS.o _ _ _ (by repeat first | exact HB0.o | (refine nR.o _ ?_)) qJ);have ql:=az (FL.o _ _ _ (by repeat first | exact HB0.o | (refine nR.o _ ?_)) qJ);have Tu:Hid (¬K5 g/\¬K5 y):=az ⟨λe=>FJ.o (qJ.sub _ e),λe=>MV.o (qJ.sub _ e)⟩))
  all_goals
   clear qJ MW;go_wp2;go_meet;exact⟨K6,rfl,GM,FO,Xj⟩
 case rest =>
  obtain⟨K6,rfl,GM,FO,Xj⟩:=hcut;clear HB0 nR V8 nS FL Bq FK H3 HB3;obtain⟨_,y0,x1,_⟩:=sU.facts FO.o;have HB0:Hid (acN wc.heap.size wc wc):=az ak;have nR:Hid (∀W,acN wc.heap.size wc W->acN wc.heap.size wc W.drew):=az (λW h=>h.drew);have V8:Hid (∀W,acN wc.heap.size wc W->ac4 prog 61 #[ptr g,vi db,vi m,vi s2] W λe w'=>∃K',e=ab4 (vi r2)/\bG aA W q K6 w' K' p2):=az (λW hb=>adP.o W K6 (GM.o.at_.old hb) Xj.o.1 (FO.o.old hb).file);have nS:Hid (∀W W' K',acN wc.heap.size wc W->bG aA W q K6 W' K' p2->aD W' g 74 #[ptr q,vi kd,vi ln,vi sz,vi d0,vi d1,vi d2,vi d3,vi d4,vi d5,vi sg,vi db]):=az (λW W' K' hb hr=>(hr.keep (FO.o.old hb).file Xj.o.1).1)
  have FL:Hid (∀W W' K',acN wc.heap.size wc W->bG aA W q K6 W' K' p2->bG aA w' q K W' K' p2):=az (λW W' K' hb hr=>(GM.o.old hb).trans hr);clear adP FO;go_upto_region 8 with fail;go_region_with (first|(go_at_call 61;refine(V8.o _ (by repeat first|exact HB0.o|(refine nR.o _ ?_))).mono ?_;rintro e w5 ⟨K5,rfl,qJ⟩;have hf5:=nS.o _ _ _ (by repeat first|exact HB0.o|(refine nR.o _ ?_)) qJ;have ql:=az (FL.o _ _ _ (by repeat first|exact HB0.o|(refine nR.o _ ?_)) qJ);have q0:w5.cell? ⟨g,11,none⟩=some (vi db):=hf5.cell 11;have q1:=hf5.frozen 11))
  all_goals
   clear qJ hf5;go_wp2_with fail;have hz:IX aA w' q g K (w5.setCell ⟨g,11,none⟩ (vi r2)) K5 p2 ⟨kd,ln,sz,[d0,d1,d2,d3,d4,d5],sg,r2⟩:=bG.box ql.o H.o HF.o FJ.o HBG.o 11 (vi r2) rfl;go_end0;exact⟨rfl,K5,hz⟩
end
def Po.cont (p:Po)(i:PI.bF)(k:Nat):List Nat:=if p.at_ i k=0 then zs else p.get (p.at_ i k)
def Po.byte (p:Po)(i:PI.bF)(x:Nat):Nat:=(p.cont i (x/64)).getD (x%64) 0
def Po.bytes (p:Po)(i:PI.bF)(aF m:Nat):List Nat:=(List.range m).map λk=>p.byte i (aF+k)
def Po.xL (p:Po)(i:PI.bF)(aF m:Nat):(p.bytes i aF m).length=m:=by unfold Po.bytes;simp
def Po.O6 (p:Po)(i:PI.bF)(aF a c:Nat):p.bytes i aF (a+c)=p.bytes i aF a++p.bytes i (aF+a) c:=by
 unfold Po.bytes;rw[List.range_add,List.map_append,List.map_map];congr 1;refine List.map_congr_left (λk _=>?_);show p.byte i (aF+(a+k))=p.byte i (aF+a+k);rw[Nat.add_assoc]
def Po.chunk (p:Po)(i:PI.bF)(o c:Nat)(hl:(p.cont i (o/64)).length=64)(hc:o%64+c<=64):((p.cont i (o/64)).drop (o%64)).take c=p.bytes i o c:=by
 refine List.ext_getElem? λk=>?_
 rw[List.getElem?_take];by_cases hk:k<c;rw[if_pos hk,List.getElem?_drop];unfold Po.bytes;rw[List.getElem?_map,List.getElem?_range hk];have h1:(o+k)/64=o/64:=aa;have h2:(o+k)%64=o%64+k:=aa;show _=some (p.byte i (o+k));unfold Po.byte;rw[h1,h2,List.getD_eq_getElem?_getD,List.getElem?_eq_getElem aa];rfl;rw[if_neg hk,List.getElem?_eq_none (by rw[Po.xL];omega)]
def Po.FW {p:Po}{i:PI.bF}(h:p.wf i)(n:Nat):p.good (p.at_ i n):=by
 have h0:p.good 0:=⟨ag,λe=>absurd rfl e⟩;unfold Po.at_;split;rename_i h6;exact h.direct n h6;split;exact h.one _ aa;split;exact(h.two _ aa).2 _ aa;exact h0
section
variable{aA:Nat}{w w':acL}{q g:Nat}{p:Po}{K K':Nat->Prop}{i:PI.bF}
def Po.wu (h:PQ aA w q K p)(hi:p.wf i)(k:Nat):(p.cont i k).length=64/\∀y∈p.cont i k,y<256:=by
 unfold Po.cont;by_cases e:p.at_ i k=0;rw[if_pos e];exact IL
 ·rw[if_neg e];exact h.len _ ((Po.FW hi k).2 e)
structure GR (w:acL)(q k:Nat)(p:Po)(i:PI.bF)(f aF o:Nat)(v:acK)(wr:acL):Prop where
 rd:gD k w wr
 file:aD wr f 74 (fileC q i)
 o:Own wr w.heap.size v (p.bytes i aF (o-aF))
 ge:w.heap.size<=f
section
variable{k f aF o:Nat}{v:acK}{wr:acL}
def GR.pq (h:GR w q k p i f aF o v wr)(h0:PQ aA w q K p)(hk:fF w q k):PQ aA wr q K p:=h0.OW hk h.rd
def GR.nf (h:GR w q k p i f aF o v wr)(h0:PQ aA w q K p):¬K f:=λe=>by
 have h1:=h0.lt f e
 have h2:=h.ge
 omega
def GR.old (h:GR w q k p i f aF o v wr)(b:acN wr.heap.size wr w'):GR w q k p i f aF o v w':=⟨h.rd.old b,h.file.old b,h.o.old b,h.ge⟩
def GR.next (h:GR w q k p i f aF o v wr)(h0:PQ aA w q K p)(hk:fF w q k)(r:bM aA wr q K w' K' p):GR w q k p i f aF o v w' :=
 ⟨h.rd.trans (r.rd k (h0.j6 hk h.rd)),(r.go.keep h.file (h.nf h0)).1,r.go.own (h.pq h0 hk) h.o,h.ge⟩
def GR.app (h:GR w q k p i f aF o v wr)(h0:PQ aA w q K p)(hk:fF w q k){o':Nat}{v':acK}(ho:Own w' w.heap.size v' (p.bytes i aF (o'-aF)))(hg:wr.grownBy w' v.ownBlock):GR w q k p i f aF o' v' w':=by
 have hrow:∀g,v.ownBlock=some g->w.heap.size<=g/\∃cur,aD wr g 5 cur:=by
  intro g e;rcases h.o.2 with⟨h1,_⟩|⟨g',cap,cur,hv,hb,hg,_⟩;rw[h1]at e;cases e;rw[hv]at e;injection e with e;subst e;exact⟨hb,cur,hg⟩
 have hkl:k<w.heap.size:=h0.lt _ (h0.pK hk).1;refine⟨⟨h.rd.1.grown hg (λg e=>acm (hrow g e).1),λcs hb=>?_⟩,?_,ho,h.ge⟩;have hs:w'.heap[k]?=wr.heap[k]?:=hg.block k (adN hkl h.rd.1.size) (λe=>by have:=(hrow k e.symm).1;omega);rcases h.rd.2 cs hb with h1|⟨n,h1⟩;exact ack (hs.trans h1);exact acm ⟨n,hs.trans h1⟩;refine(hg.block f h.file.lt (λe=>?_)).trans h.file;obtain⟨_,cur,hb⟩:=hrow f e.symm;exact absurd (bY hb h.file) ag
end
def ahS (w:acL)(q k:Nat)(p:Po)(i:PI.bF)(f aF ed:Nat)(v2 v8 v9 v12:acK)(wr:acL):Prop :=
 ∃o:Nat,v2=vi (o:Int)/\v8=aco none 0 0/\v9=vi 0/\aF<=o/\o<=ed/\Hid (GR w q k p i f aF o v12 wr)
def adQ (aA:Nat)(w:acL)(q:Nat)(K:Nat->Prop)(p:Po)(l:List Nat)(e:Ending)(w':acL):Prop :=
 ∃v,e=ab4 (adg #[v,vi 0])/\Own w' w.heap.size v l/\bM aA w q K w' K p
def Read_any (h:PQ aA w q K p)(i:PI.bF)(hi:p.wf i)(aF n:Nat)(hn:n<=1024)(hs:aF<i.size)(hz:i.size<=67968) :
  ac4 prog 13 #[ptr q,dS i,vi aF,vi n] w (adQ aA w q K p (p.bytes i aF (min n (i.size-aF)))):=by
 have H:=az h;obtain⟨k,hk,_⟩:=h.iN;have Dj:=az hk;clear hk;have HI:=az hi;have hmk:∀w:acL,(Instr.makeSlice 23 (.int .i64 64) (.int .i64 64)).run prog w=.ok (aco (some ⟨w.heap.size,0,none⟩) 64 64) (w.alloc (ach (madeCells #[vb 0] 64) 5)):=λw=>gp 64 aa w;have wU:=az hi.len;obtain⟨m,hm⟩:∃m,m=min n (i.size-aF):=⟨_,rfl⟩;rw[<-hm];obtain⟨ed,Zn⟩:∃e,e=aF+m:=⟨_,rfl⟩;have O7:Hid (ed=aF+m/\ed<=67968):=az aa;clear h hi;obtain⟨kd,ln,sz,dl,sg,db⟩:=i;obtain⟨d0,d1,d2,d3,d4,d5,rfl⟩:=six (l:=dl) wU.o;dsimp only at hs hz hm;simp only[dS,j4];generalize hii:(⟨kd,ln,sz,[d0,d1,d2,d3,d4,d5],sg,db⟩:PI.bF)=ii at*
 have HFC:Hid (fileC q ii=#[ptr q,vi kd,vi ln,vi sz,vi d0,vi d1,vi d2,vi d3,vi d4,vi d5,vi sg,vi db]):=az (by rw[<-hii]);have m0:¬(aF:Int)<0:=aa;have m1:¬(n:Int)<0:=aa;have m2:¬(1024:Int)<(n:Int):=aa;have m3:¬(sz:Int)<=(aF:Int):=aa;have m4:adk.wrap ((sz:Int)-(aF:Int))=((sz-aF:Nat):Int):=by rw[adl _ aa];omega
 have m7:(m=n/\¬sz-aF<n)\/(m=sz-aF/\sz-aF<n):=aa;have m8:((m:Int)=n->adk.wrap ((aF:Int)+(n:Int))=(ed:Int))/\((m:Int)=((sz-aF:Nat):Int)->adk.wrap ((aF:Int)+((sz-aF:Nat):Int))=(ed:Int)):=⟨λe=>by rw[<-e,adl _ aa];omega,λe=>by rw[<-e,adl _ aa];omega⟩;clear hm hs hz Zn hii;rcases m7 with⟨m7,m5⟩|⟨m7,m5⟩;have m6:=m8.1 (by rw[m7]);rotate_left
 have m6:=m8.2 (by rw[m7]);all_goals
  clear m8 m7;go_in;go_upto_region 1 with fail;refine mD λw1 HB1 lD=>?_
  obtain⟨x,hx⟩:∃x,x=w.heap.size:=⟨_,rfl⟩;rw[<-hx]at lD ⊢;clear hx;obtain⟨x0,x1,x2,x3,x4,x5,x6,x7,x8,x9,JW⟩:=nT lD.o;go_upto_region 8 with fail;have HB2:Hid (acN w.heap.size w (w1.alloc (ach #[ptr q,vi kd,vi ln,vi sz,vi d0,vi d1,vi d2,vi d3,vi d4,vi d5,vi sg,vi db] 74))):=az (HB1.o.alloc HB1.o.size _);have lM:=az (lD.o.alloc (ach #[ptr q,vi kd,vi ln,vi sz,vi d0,vi d1,vi d2,vi d3,vi d4,vi d5,vi sg,vi db] 74));have vK:=az (aD.new w1 74 #[ptr q,vi kd,vi ln,vi sz,vi d0,vi d1,vi d2,vi d3,vi d4,vi d5,vi sg,vi db]);have AX:Hid (w.heap.size<=w1.heap.size):=az HB1.o.size
  change adW _ _ _ _ (w1.alloc (ach #[ptr q,vi kd,vi ln,vi sz,vi d0,vi d1,vi d2,vi d3,vi d4,vi d5,vi sg,vi db] 74));clear x0 x1 x2 x3 x4 x5 x6 x7 x8 x9 JW;generalize w1.alloc (ach #[ptr q,vi kd,vi ln,vi sz,vi d0,vi d1,vi d2,vi d3,vi d4,vi d5,vi sg,vi db] 74)=w2 at*;generalize w1.heap.size=f at*;have x2:w2.cell? ⟨x,2,none⟩=some (vi sz):=lM.o.cell 2;have H2:=az (H.o.old HB2.o);go_wp2_with fail;refine(kR H2.o).mono ?_;rintro e w3 ⟨rfl,rfl⟩;have vN:Hid (GR w q k p ii f aF aF (aco none 0 0) w3):=az ⟨gD.of_below HB2.o,by rw[HFC.o];exact vK.o,by rw[Nat.sub_self];exact Own.nil _ _,AX.o⟩
  clear lD HB1 lM x2 m0 m1 m2 m3 m4 m5 m6 vK H2 HB2;go_wp2_with fail;go_loopw [2,8,9,12] (λv2 v8 v9 v12 wr=>ahS w q k p ii f aF ed v2 v8 v9 v12 wr) (λv2 _ _ _ _=>ed-(intOf v2).toNat)
  case atStart=>exact⟨aF,rfl,rfl,rfl,aj,by have:=O7.o;omega,vN⟩
  case round =>
   clear vN;obtain⟨o,rfl,rfl,rfl,ho1,ho2,vN⟩:=hrel;by_cases hlt:o<ed
   ·have c1:(o:Int)<(ed:Int):=aa;have hq1:wrap64 ((o:Int)/64)=((o/64:Nat):Int):=by
     rw[IntWalk.wrap64_in _ (by have:=O7.o;omega)];omega
    have Zo:Hid (GR w q k p ii f aF o u12 (wr.alloc (ach (madeCells #[vb 0] 64) 5))):=az (vN.o.old ax);have HZR:=az (mK (aA:=aA) wr 64);have HPZ:=az (Zo.o.pq H.o Dj.o);have HAT:=az (pG HPZ.o ii HI.o Zo.o.file (Zo.o.nf H.o) (o/64) (by have:=O7.o;omega));go_wp2_with fail;rw[hq1];refine HAT.o.mono ?_;rintro e w5 ⟨K2,rfl,aaT⟩;have ql:=az (Zo.o.next H.o Dj.o aaT);have HZ5:=az (aaT.go.row HPZ.o HZR.o).row;have FE:=az (Po.wu H.o HI.o (o/64));have HCO:Hid (p.cont ii (o/64)=if p.at_ ii (o/64)=0 then zs else p.get (p.at_ ii (o/64))):=az rfl
    have oC:=az (Po.FW HI.o (o/64));clear aaT HAT Zo HZR hq1 vN HPZ;generalize p.at_ ii (o/64)=A at*;generalize wr.heap.size=z at*;go_upto_if 63 with fail;go_cut [8,9,14,16,17] from 52 to 94 (λv8 v9 v14 v16 v17 wx=>v8=aco none 0 0/\v9=vi 0/\∃ob cb,v14=aco ob 64 cb/\64<=cb/\Hid (bE wx ob (p.cont ii (o/64)))/\Hid (GR w q k p ii f aF o u12 wx))
    case first =>
     by_cases ha:A=0
     ·have c2:((A:Int) != 0)=false:=by simp[ha]
      go_wp2;go_meet;exact⟨rfl,rfl,_,64,rfl,aj,az (by rw[HCO.o,if_pos ha];exact HZ5.o),ql⟩
     have c2:((A:Int) != 0)=true:=by simp[ha]
     have IU:=az (sS (ql.o.pq H.o Dj.o) A (by have:=oC.o.1;omega) (oC.o.2 ha));go_wp2_with fail;refine IU.o.mono ?_;rintro e w7 ⟨K3,g7,c7,rfl,Fw,yO,Tv,hx7,El⟩;have Bz:=az (ql.o.next H.o Dj.o El);have QT:Hid (bE w7 (some ⟨g7,0,none⟩) (p.cont ii (o/64))):=az (by
      rw[HCO.o,if_neg ha]
      have hl:=H.o.len _ (oC.o.2 ha)
      exact Own.zu Fw hl.1 hl.2)
     clear Fw El IU;go_wp2;go_meet;exact⟨rfl,rfl,_,c7,rfl,Tv,QT,Bz⟩
    case rest =>
     obtain⟨rfl,rfl,ob,cb,rfl,hcb,hrow,Ei⟩:=hcut;obtain⟨a,hA⟩:∃a,a=o%64:=⟨_,rfl⟩;obtain⟨t,ht⟩:∃t,t=a+ed:=⟨_,rfl⟩;obtain⟨s,hS⟩:∃s,s=t-o:=⟨_,rfl⟩;obtain⟨h,hh⟩:∃h,h=min 64 s:=⟨_,rfl⟩;have aaU:=O7.o;have r1:(o:Int).tmod 64=(a:Int):=by rw[Int.tmod_eq_emod_of_nonneg aa];omega
     have r2:(o:Int)%64=(a:Int):=aa;have r3:adk.wrap ((a:Int)+(ed:Int))=(t:Int):=by rw[adl _ aa];omega
     have r4:adk.wrap ((t:Int)-(o:Int))=(s:Int):=by rw[adl _ aa];omega
     have r5:min (64:Int) (s:Int)=(h:Int):=aa;have r6:(if (s:Int)<64 then (s:Int) else 64)=(h:Int):=by split<;>omega
     have r7:a<=h:=aa;have r8:h<=cb:=aa;have r9:¬cb=a:=aa;have r10:(0:Int)<=(a:Int):=aa;have HEQ:=az (And.intro hA (And.intro ht (And.intro hS hh)));clear aaU hA ht hS hh;go_upto_region 19 with fail;go_region;obtain⟨hA,ht,hS,hh⟩:=HEQ.o;have aaU:=O7.o;have hch:((p.cont ii (o/64)).drop a).take (h-a)=p.bytes ii o (h-a):=by
      have:=Po.chunk p ii o (h-a) FE.o.1 aa;rwa[<-hA]at this
     have hrw:bE wc.drew (Option.map (λx=>x.add a) ob) (p.bytes ii o (h-a)):=by
      rw[<-hch];exact((hrow.o.dropped a).take _).drew
     have hbl:=Po.xL p ii o (h-a);have hb0:=Po.xL p ii aF (o-aF);have hr8:=Ei.o.old au;obtain⟨v8,w8,hrun,QY,ahV,adR⟩:=uo (w:=wc.drew) (aA:=w.heap.size) hr8.o (c:=cb-a) hrw aa hr8.rd.1.size;rw[hbl]at hrun;have lF:Hid (eH 23 23 23 u12 (aco (Option.map (λx=>x.add a) ob) (h-a) (cb-a)) wc.drew v8 w8):=az ⟨hrun⟩;have HR9:Hid (GR w q k p ii f aF (o+(h-a)) v8 w8):=az (hr8.app H.o Dj.o (by
      rw[show o+(h-a)-aF=(o-aF)+(h-a) by omega,Po.O6,show aF+(o-aF)=o by omega]
      exact QY) adR)
     have r11:adk.wrap ((o:Int)+((h-a:Nat):Int))=((o+(h-a):Nat):Int):=by rw[adl _ aa];omega
     have hle:o+(h-a)<=ed/\0<h-a:=aa;clear hrun QY ahV adR hr8 hbl hb0 hrw hch aaU hA ht hS hh;generalize h-a=c at*;go_wp2_with (at_builtin;refine wpList_append_run rfl (.tmp 88) (.tmp 89) rfl rfl rfl lF.o.run ?_);exact⟨⟨o+c,by rw[Int.natCast_add],rfl,rfl,aa,hle.1,HR9⟩,by simp only[intOf];omega⟩
   obtain rfl:o=ed:=aa;have c1:¬(o:Int)<(o:Int):=aa;go_wp2;go_ret2;exact⟨u12,rfl,by
    have h1:=vN.o.o
    rwa[show o-aF=m by have:=O7.o;omega]at h1,bM.pM H.o Dj.o vN.o.rd⟩
end
abbrev It:=Nat×Nat×Nat
def stepOf (lv:Nat):Nat:=if lv=2 then 32 else 1
def Po.items (p:Po):Nat->Nat->Nat->List It
 |0,aB,fr=>if aB=0 then [] else [(fr,aB,0)]
 |lv+1,aB,fr=>if aB=0 then [] else (fr,aB,lv+1)::(PI.ptrs (p.get aB)).flatMap λx=>p.items lv x.2 (fr+x.1*stepOf (lv+1))
def Po.wB (p:Po):Nat->Nat->Prop
 |0,aB=>p.good aB
 |lv+1,aB=>p.good aB/\(aB≠0->∀x∈PI.ptrs (p.get aB),p.wB lv x.2)
def MZ:Nat->Nat
 |0=>1
 |1=>34
 |_=>1200
def Po.wB.good {p:Po}{lv aB:Nat}(h:p.wB lv aB):p.good aB:=by
 cases lv with
 |zero=>exact h
 |succ lv=>exact h.1
structure mO (B0 k:Nat)(F:Nat->Prop)(w:acL)(F':Nat->Prop)(w':acL):Prop where
 aJ:aP (λn=>F n\/n=k) w w'
 foot:∀n,F' n->F n\/w.heap.size<=n
 keeps:adY B0 w w'
variable{B0 k:Nat}{F F' F'':Nat->Prop}{w w' w'':acL}
def mO.refl:mO B0 k F w F w:=⟨aP.refl _ _,λ_ e=>ack e,adY.refl _ _⟩
def mO.trans (h:mO B0 k F w F' w')(g:mO B0 k F' w' F'' w''):mO B0 k F w F'' w'':=by
 refine⟨h.aJ.trans g.aJ (λn hn e=>?_),λn e=>?_,h.keeps.trans g.keeps⟩;rcases e with e|e;rcases h.foot n e with h1|h1;exact ack h1;omega;exact acm e;rcases g.foot n e with h1|h1;exact h.foot n h1;exact acm (abX h.aJ.size h1)
def yP {B:Nat}(h:acN w.heap.size w w'):adY B w w':=⟨h.size,λj _ _ ho _=>(h.block j (aaz.1 ho).1).trans ho⟩
def mO.old (h:acN w.heap.size w w'):mO B0 k F w F w':=⟨aP.of_below h,λ_ e=>ack e,yP h⟩
def mO.after (g:mO B0 k F w F' w')(h:acN w'.heap.size w' w''):mO B0 k F w F' w'':=g.trans (mO.old h)
def mO.ahead (h:acN w.heap.size w w')(g:mO B0 k F w' F' w''):mO B0 k F w F' w'':=(mO.old h).trans g
def mO.OW {t:TypeId}{cs:Array acK}(hb:aD w k t cs)(h:gD k w w'):mO B0 k F w F w' :=
 ⟨h.1.mono (λ_ _ e=>acm e),λ_ e=>ack e,⟨h.1.size,λj o _ ho hc=>(h.1.block j (aaz.1 ho).1 (λe=>by
  have h1:w.heap[k]?=some (ach cs t):=hb
  rw[e,h1]at ho
  injection ho with ho
  rw[<-ho]at hc
  cases hc)).trans ho⟩⟩
def mO.jg {b:Nat}{t:TypeId}{cs:Array acK}(h:mO B0 k F w F' w')(hb:aD w' b t cs)(hw:w.heap.size<=b)(i:Nat)(u:acK):mO B0 k F w F' (w'.setCell ⟨b,i,none⟩ u) :=
 ⟨h.aJ.setCell (p:=⟨b,i,none⟩) (acm hw) u,h.foot,h.keeps.trans (pO hb i u)⟩
variable{g:Nat}
def mO.keep {t:TypeId}{cs:Array acK}(h:mO B0 k F w F' w')(hb:aD w g t cs)(hn:¬F g)(hk:g≠k):aD w' g t cs/\¬F' g:=by
 refine⟨hb.aJ h.aJ (λe=>?_),λe=>?_⟩;rcases e with e|e;exact hn e;exact hk e;rcases h.foot g e with h1|h1;exact hn h1;have:=hb.lt;omega
structure zw (aA q:Nat)(K:Nat->Prop)(p:Po)(k B0:Nat)(J:List It->(Nat->Prop)->acL->Prop):Prop where
 pq:∀{pre F W},J pre F W->PQ aA W q K p
 aW:∀{pre F W},J pre F W->fF W q k
 lt:∀{pre F W},J pre F W->∀n,F n->n<W.heap.size
 rd:∀{pre F W W'},J pre F W->gD k W W'->J pre F W'
 own:∀{pre F W W'} {row:Option Nat},J pre F W->W.grownBy W' row->(∀r,row=some r->B0<=r/\∃o:Obj,W.heap[r]?=some o/\o.isCells=false)->J pre F W'
 uh:∀{pre F W W' b t cs},J pre F W->aD W b t cs->qQ t=false->B0<=b->¬F b->aP (λn=>n=b) W W'->J pre F W'
variable{W W':acL}
def zw.old {aA q:Nat}{K:Nat->Prop}{p:Po}{J:List It->(Nat->Prop)->acL->Prop}(T:zw aA q K p k B0 J){pre:List It}(h:J pre F W)(b:acN W.heap.size W W'):J pre F W':=T.rd h (gD.of_below b)
def Em (k B0:Nat)(J:List It->(Nat->Prop)->acL->Prop)(Jx:List It->(Nat->Prop)->acL->Prop)(pre:List It)(F:Nat->Prop)(w:acL)(e:Ending)(w':acL):Prop :=
 ∃F',mO B0 k F w F' w'/\((e=ab4 (acg true)/\J pre F' w')\/(e=ab4 (acg false)/\∃its,its <+: pre/\Jx its F' w'))
def Cb (cf y:Nat)(k B0:Nat)(J:List It->(Nat->Prop)->acL->Prop)(Jx:List It->(Nat->Prop)->acL->Prop):Prop :=
 ∀(pre:List It) (x:It) (F:Nat->Prop) (W:acL),pre.length<2000->x.2.2<=2->J pre F W->B0<=W.heap.size->ac4 prog cf #[vi x.1,vi x.2.1,vi x.2.2,ptr y] W (Em k B0 J Jx (pre++[x]) F W)
structure IY (B0:Nat)(Jx:List It->(Nat->Prop)->acL->Prop):Prop where
 own:∀{its F W W'} {row:Option Nat},Jx its F W->W.grownBy W' row->(∀r,row=some r->B0<=r/\∃o:Obj,W.heap[r]?=some o/\o.isCells=false)->Jx its F W'
 uh:∀{its F W W' b t cs},Jx its F W->aD W b t cs->qQ t=false->B0<=b->¬F b->aP (λn=>n=b) W W'->Jx its F W'
def mP (h:acN w.heap.size w w'):w.grownBy w' none:=⟨h.os,h.tape,h.output,h.size,λk hk _=>h.block k hk⟩
structure lZ (n0 b1 b2 b3 b4 b5 g:Nat)(fr lv:Int)(cb:acK)(ok:Bool)(W:acL):Prop where
 f:aD W b1 72 #[ptr g]
 fr:aD W b2 3 #[vi fr]
 lv:aD W b3 3 #[vi lv]
 cb:aD W b4 82 #[cb]
 ok:aD W b5 4 #[acg ok]
 ge:n0<=b1/\n0<=b2/\n0<=b3/\n0<=b4/\n0<=b5
 ne:b1≠b5/\b2≠b5/\b3≠b5/\b4≠b5
def lZ.mk' (w:acL)(g:Nat)(fr lv:Int)(cb:acK):lZ w.heap.size w.heap.size (w.heap.size+1) (w.heap.size+1+1) (w.heap.size+1+1+1) (w.heap.size+1+1+1+1) g fr lv cb false (((((w.alloc (ach #[ptr g] 72)).alloc (ach #[vi fr] 3)).alloc (ach #[vi lv] 3)).alloc (ach #[cb] 82)).alloc (ach #[acg false] 4)):=by
 refine⟨?_,?_,?_,?_,?_,aa,aa⟩;exact((((aD.new w 72 #[ptr g]).alloc _).alloc _).alloc _).alloc _;have:=(((aD.new (w.alloc (ach #[ptr g] 72)) 3 #[vi fr]).alloc (ach #[vi lv] 3)).alloc (ach #[cb] 82)).alloc (ach #[acg false] 4);simpa using this;have:=((aD.new ((w.alloc (ach #[ptr g] 72)).alloc (ach #[vi fr] 3)) 3 #[vi lv]).alloc (ach #[cb] 82)).alloc (ach #[acg false] 4);simpa using this;have:=(aD.new (((w.alloc (ach #[ptr g] 72)).alloc (ach #[vi fr] 3)).alloc (ach #[vi lv] 3)) 82 #[cb]).alloc (ach #[acg false] 4);simpa using this;have:=aD.new ((((w.alloc (ach #[ptr g] 72)).alloc (ach #[vi fr] 3)).alloc (ach #[vi lv] 3)).alloc (ach #[cb] 82)) 4 #[acg false]
 simpa using this
section
variable{n0 b1 b2 b3 b4 b5 g:Nat}{fr lv:Int}{cb:acK}{ok:Bool}{W W':acL}
def lZ.old (h:lZ n0 b1 b2 b3 b4 b5 g fr lv cb ok W)(q:acN W.heap.size W W'):lZ n0 b1 b2 b3 b4 b5 g fr lv cb ok W':=⟨h.f.old q,h.fr.old q,h.lv.old q,h.cb.old q,h.ok.old q,h.ge,h.ne⟩
def lZ.done (h:lZ n0 b1 b2 b3 b4 b5 g fr lv cb ok W)(v:Bool):lZ n0 b1 b2 b3 b4 b5 g fr lv cb v (W.setCell ⟨b5,0,none⟩ (acg v)) :=
 have hst:aP (λn=>n=b5) W (W.setCell ⟨b5,0,none⟩ (acg v)):=aP.set (F:=λn=>n=b5) W (p:=⟨b5,0,none⟩) rfl _
 ⟨h.f.aJ hst h.ne.1,h.fr.aJ hst h.ne.2.1,h.lv.aJ hst h.ne.2.2.1,h.cb.aJ hst h.ne.2.2.2,h.ok.bB 0 (acg v),h.ge,h.ne⟩
def lZ.go (h:lZ n0 b1 b2 b3 b4 b5 g fr lv cb ok W)(q:mO B0 k F W F' W')(hF:∀n,F n->n<n0)(hk:k<n0):lZ n0 b1 b2 b3 b4 b5 g fr lv cb ok W':=by
 have key:∀b,n0<=b->¬F b/\b≠k:=λb hb=>⟨λe=>by have:=hF b e;omega,aa⟩
 have h1:=key b1 h.ge.1;have h2:=key b2 h.ge.2.1;have h3:=key b3 h.ge.2.2.1;have h4:=key b4 h.ge.2.2.2.1;have h5:=key b5 h.ge.2.2.2.2;exact⟨(q.keep h.f h1.1 h1.2).1,(q.keep h.fr h2.1 h2.2).1,(q.keep h.lv h3.1 h3.2).1,(q.keep h.cb h4.1 h4.2).1,(q.keep h.ok h5.1 h5.2).1,h.ge,h.ne⟩
end
section
variable{aA:Nat}{q g cf y:Nat}{p:Po}{K:Nat->Prop}{J:List It->(Nat->Prop)->acL->Prop}{Jx:List It->(Nat->Prop)->acL->Prop}{pre:List It}
def KL (T:zw aA q K p k B0 J)(X:IY B0 Jx)(hcf:∀(args:Array acK) (W:acL),(callFunc cf args).run prog W=.ok (.enter cf args) W)(C:Cb cf y k B0 J Jx)(hJ:J pre F w)(hB:B0<=w.heap.size)(aB fr:Nat)(hp:p.good aB)(hL:pre.length<2000) :
  ac4 prog 65 #[ptr g,vi aB,vi fr,vi 0,.func (.func cf) #[] #[ptr y]] w (Em k B0 J Jx (pre++p.items 0 aB fr) F w):=by
 go_in;go_upto_region 1 with fail;have HB1:Hid (acN w.heap.size w (((((w.alloc (ach #[ptr g] 72)).alloc (ach #[vi fr] 3)).alloc (ach #[vi 0] 3)).alloc (ach #[.func (.func cf) #[] #[ptr y]] 82)).alloc (ach #[acg false] 4))):=az (five w _ _ _ _ _).1;have lD:=az (lZ.mk' w g fr 0 (.func (.func cf) #[] #[ptr y]));change adW _ _ _ _ (((((w.alloc (ach #[ptr g] 72)).alloc (ach #[vi fr] 3)).alloc (ach #[vi 0] 3)).alloc (ach #[.func (.func cf) #[] #[ptr y]] 82)).alloc (ach #[acg false] 4));generalize (((((w.alloc (ach #[ptr g] 72)).alloc (ach #[vi fr] 3)).alloc (ach #[vi 0] 3)).alloc (ach #[.func (.func cf) #[] #[ptr y]] 82)).alloc (ach #[acg false] 4))=w1 at*
 obtain⟨n0,hn0⟩:∃n,n=w.heap.size:=⟨_,rfl⟩;have QZ:=az hn0;rw[<-hn0]at lD ⊢;clear hn0;obtain⟨b1,h1⟩:∃b,b=n0:=⟨_,rfl⟩;have jE:Hid (lZ n0 b1 (n0+1) (n0+1+1) (n0+1+1+1) (n0+1+1+1+1) g fr 0 (.func (.func cf) #[] #[ptr y]) false w1):=az (by rw[h1];exact lD.o);clear lD;generalize n0+1+1+1+1=b5 at*;generalize n0+1+1+1=b4 at*;generalize n0+1+1=b3 at*;generalize n0+1=b2 at*;rw[<-h1];clear h1;have FI:=az hJ;have HT:=az T;have HX:=az X;have D6:Hid (∀n,F n->n<n0):=az (λn e=>by rw[QZ.o];exact T.lt hJ n e);have jU:Hid (k<n0):=az (by
  rw[QZ.o]
  exact(T.pq hJ).lt _ ((T.pq hJ).pK (T.aW hJ)).1)
 have HB0:=az hB;clear hJ T X hB;by_cases hz:aB=0
 ·have Bv:Hid (p.items 0 aB fr=[]):=az (by unfold Po.items;rw[if_pos hz]);subst hz;have r0:w1.cell? ⟨b5,0,none⟩=some (acg false):=jE.o.ok.cell 0;have f0:=jE.o.ok.frozen 0;clear hcf C;go_wp2_with fail;have hb:=(jE.o.done true).ok;have hbl:acN w.heap.size w (w1.setCell ⟨b5,0,none⟩ (acg true)):=HB1.o.setCell (p:=⟨b5,0,none⟩) (by rw[<-QZ.o];exact jE.o.ge.2.2.2.2) _;refine bodyPost_ret (jh hb _ rfl) rfl ⟨F,mO.old hbl,ack ⟨rfl,?_⟩⟩;rw[Bv.o,adS];exact HT.o.old FI.o hbl
 have Bv:Hid (p.items 0 aB fr=[(fr,aB,0)]):=az (by unfold Po.items;rw[if_neg hz]);rw[Bv.o];have HCB:Hid (∀W,acN w.heap.size w W->ac4 prog cf #[vi fr,vi aB,vi 0,ptr y] W (Em k B0 J Jx (pre++[(fr,aB,0)]) F W)):=az (λW hb=>C pre (fr,aB,0) F W hL (Nat.zero_le _) (HT.o.old FI.o hb) (abX HB0.o hb.size));have x2:w1.cell? ⟨b2,0,none⟩=some (vi fr):=jE.o.fr.cell 0;have x3:w1.cell? ⟨b3,0,none⟩=some (vi 0):=jE.o.lv.cell 0;have x4:w1.cell? ⟨b4,0,none⟩=some (.func (.func cf) #[] #[ptr y]):=jE.o.cb.cell 0;have n0':¬(aB:Int)=0:=aa;clear C;go_upto_region 3 with fail
 go_wp2_with fail;refine(HCB.o _ HB1.o).mono ?_;rintro e w2 ⟨F2,hg2,h⟩;have lM:=az (jE.o.go hg2 D6.o jU.o);have HG2:=az (mO.ahead HB1.o hg2);have Zp:Hid (¬F2 b5):=az (hg2.keep jE.o.ok (λe=>by have h1:=D6.o _ e;have h2:=jE.o.ge.2.2.2.2;omega) (by have h1:=jU.o;have h2:=jE.o.ge.2.2.2.2;omega)).2;have zt:Hid (w.heap.size<=b5):=az (by rw[<-QZ.o];exact jE.o.ge.2.2.2.2);have y3:w2.cell? ⟨b3,0,none⟩=some (vi 0):=lM.o.lv.cell 0;have r0:w2.cell? ⟨b5,0,none⟩=some (acg false):=lM.o.ok.cell 0;have f0:=lM.o.ok.frozen 0;clear hg2 jE HCB x2 x3 x4;rcases h with⟨rfl,hj⟩|⟨rfl,its,hpre,hx⟩
 ·have HJ2:=az hj;clear hj;go_wp2_with fail;have hb:=(lM.o.done true).ok;have hst:aP (λn=>n=b5) w2 (w2.setCell ⟨b5,0,none⟩ (acg true)):=aP.set (F:=λn=>n=b5) w2 (p:=⟨b5,0,none⟩) rfl _;exact bodyPost_ret (jh hb _ rfl) rfl ⟨F2,HG2.o.jg lM.o.ok zt.o 0 _,ack ⟨rfl,by rw[Bv.o];exact HT.o.uh HJ2.o lM.o.ok ag (abX HB0.o zt.o) Zp.o hst⟩⟩
 have HJ2:=az hx;clear hx;go_wp2_with fail;have hb:=(lM.o.done false).ok;have hst:aP (λn=>n=b5) w2 (w2.setCell ⟨b5,0,none⟩ (acg false)):=aP.set (F:=λn=>n=b5) w2 (p:=⟨b5,0,none⟩) rfl _;exact bodyPost_ret (jh hb _ rfl) rfl ⟨F2,HG2.o.jg lM.o.ok zt.o 0 _,acm ⟨rfl,its,by rw[Bv.o];exact hpre,HX.o.uh HJ2.o lM.o.ok ag (abX HB0.o zt.o) Zp.o hst⟩⟩
end
attribute [local go_sem] Oper.semAt_some
def mO.grown {row:Option Nat}(h:mO B0 k F w F' w')(hg:w'.grownBy w'' row)(hr:∀r,row=some r->w.heap.size<=r):mO B0 k F w F' w'' :=
 ⟨h.aJ.grown hg (λr e=>acm (hr r e)),h.foot,⟨abX h.keeps.size hg.size,λj o hB ho hc=>(hg.block j (adN (aaz.1 ho).1 h.keeps.size) (λe=>by
  have h1:=hr j e.symm
  have h2:=(aaz.1 ho).1
  omega)).trans (h.keeps.same j o hB ho hc)⟩⟩
def KM {B B':Nat}(h:adY B w w')(hb:B<=B'):adY B' w w':=⟨h.size,λj o hj ho hc=>h.same j o (abX hb hj) ho hc⟩
def Po.told (p:Po)(lv fr:Nat)(bl:List Nat)(xs:List (Fin (PI.ptrs bl).length)):List It:=xs.flatMap λx=>p.items lv ((PI.ptrs bl)[x.1]).2 (fr+((PI.ptrs bl)[x.1]).1*stepOf (lv+1))
def Dn {P:Program}{f:FuncId}{args:Array acK}{R:Ending->acL->Prop}{l n:Nat}(h:ac4 P f args w R):CallsIn (Fence.wide.inRound l) n P f args w R:=(callsIn_wide (n:=n)).2 h
def pk (bl:List Nat)(x:Fin (PI.ptrs bl).length):Nat:=((PI.ptrs bl)[x.1]).1
def pv (bl:List Nat)(x:Fin (PI.ptrs bl).length):Nat:=((PI.ptrs bl)[x.1]).2
variable{α β:Type}
def Tw (l:List (α×β))(x:Fin l.length):((l[x.1]).1,(l[x.1]).2)∈l:=List.getElem_mem x.2
def M0 (bl:List Nat)(x:Fin (PI.ptrs bl).length):(pk bl x,pv bl x)∈PI.ptrs bl:=by
 unfold pk pv;exact Tw (PI.ptrs bl) x
def adT (bl:List Nat)(x:Fin (PI.ptrs bl).length):pk bl x<32:=by
 have h:=PI.Br bl 32 (M0 bl x);generalize pk bl x=a at*;generalize pv bl x=c at*;exact h.1
variable{bl:List Nat}
def Xk {P:Nat->Prop}(h:∀x∈PI.ptrs bl,P x.2)(x:Fin (PI.ptrs bl).length):P (pv bl x):=by
 have h:=h _ (M0 bl x);generalize pk bl x=a at*;generalize pv bl x=c at*;exact h
def Po.Tx (p:Po)(lv fr:Nat)(bl:List Nat)(xs:List (Fin (PI.ptrs bl).length))(x:Fin (PI.ptrs bl).length):p.told lv fr bl (xs++[x])=p.told lv fr bl xs++p.items lv (pv bl x) (fr+pk bl x*stepOf (lv+1)):=by
 unfold Po.told pv pk;rw[List.flatMap_append,List.flatMap_cons,List.flatMap_nil,adS]
def fin_flat (l:List α)(f:α->List β):((adK l.length).flatMap λx=>f l[x.1])=l.flatMap f:=by
 rw[<-List.flatMap_map (λx:Fin l.length=>l[x.1]) f];congr 1;refine List.ext_getElem ai λi h1 h2=>?_
 simp
def Po.IZ (p:Po)(lv fr:Nat)(bl:List Nat):p.told lv fr bl (adK _)=(PI.ptrs bl).flatMap λx=>p.items lv x.2 (fr+x.1*stepOf (lv+1)) :=
 fin_flat (PI.ptrs bl) (λx=>p.items lv x.2 (fr+x.1*stepOf (lv+1)))
def flat_len (l:List α)(f:α->List β)(n:Nat)(h:∀x∈l,(f x).length<=n):(l.flatMap f).length<=l.length*n:=by
 induction l with
 |nil=>simp
 |cons a l ih =>
  rw[List.flatMap_cons,acZ,adV,Nat.add_mul,Nat.one_mul];have h1:=h a (List.mem_cons_self ..);have h2:=ih (λx hx=>h x (List.mem_cons_of_mem _ hx));omega
def Po.xM (p:Po)(lv:Nat)(h:lv<=2)(aB fr:Nat):(p.items lv aB fr).length<=MZ lv:=by
 have h0:∀aB fr,(p.items 0 aB fr).length<=1:=λaB fr=>by
  unfold Po.items;split<;>simp
 have h1:∀aB fr,(p.items 1 aB fr).length<=33:=λaB fr=>by
  unfold Po.items;split;simp;rw[adV];have:=flat_len (PI.ptrs (p.get aB)) (λx=>p.items 0 x.2 (fr+x.1*stepOf (0+1))) 1 (λx _=>h0 _ _);have:(PI.ptrs (p.get aB)).length<=32:=PI.uS (p.get aB) 32;omega
 rcases (by omega:lv=0\/lv=1\/lv=2) with e|e|e<;>subst e;exact h0 aB fr;exact abX (h1 aB fr) ag;refine abX ?_ (show 33*33+1<=MZ 2 by decide);unfold Po.items;split;simp;rw[adV];have:=flat_len (PI.ptrs (p.get aB)) (λx=>p.items 1 x.2 (fr+x.1*stepOf (1+1))) 33 (λx _=>h1 _ _);have:(PI.ptrs (p.get aB)).length<=32:=PI.uS (p.get aB) 32;omega
def Po.Ty (p:Po)(lv fr:Nat)(h:lv<=1)(bl:List Nat)(xs:List (Fin (PI.ptrs bl).length))(hx:xs.length<33):(p.told lv fr bl xs).length<=32*MZ lv:=by
 have:=flat_len xs (λx=>p.items lv ((PI.ptrs bl)[x.1]).2 (fr+((PI.ptrs bl)[x.1]).1*stepOf (lv+1))) (MZ lv) (λx _=>p.xM lv aa _ _);exact abX this (Nat.mul_le_mul_right _ aa)
def KN (lv:Nat):1<=stepOf lv/\stepOf lv<=32:=by unfold stepOf;split<;>omega
def M8 (lv:Nat)(h:lv<=1):MZ (lv+1)=1+33*MZ lv+(if lv=0 then 0 else 77):=by
 rcases (by omega:lv=0\/lv=1) with e|e<;>subst e<;>rfl
def PQ.Xl {aA:Nat}{q:Nat}{K:Nat->Prop}{p:Po}(h:PQ aA w q K p)(hk:fF w q k):∃cs,aD w k 144 cs:=by
 obtain⟨Y,X,h,rfl⟩:=h;have:=hk.uniq h.iN;subst this;exact⟨_,h.ft.held.aW.aW⟩
variable{n0 b1 b2 b3 b4 b5:Nat}{fr lv:Int}{cb:acK}
def lZ.other {ok:Bool}{b:Nat}(h:lZ n0 b1 b2 b3 b4 b5 g fr lv cb ok W)(hst:aP (λn=>n=b) W W')(ne:b1≠b/\b2≠b/\b3≠b/\b4≠b/\b5≠b):lZ n0 b1 b2 b3 b4 b5 g fr lv cb ok W' :=
 ⟨h.f.aJ hst ne.1,h.fr.aJ hst ne.2.1,h.lv.aJ hst ne.2.2.1,h.cb.aJ hst ne.2.2.2.1,h.ok.aJ hst ne.2.2.2.2,h.ge,h.ne⟩
def lZ.lts {ok:Bool}(h:lZ n0 b1 b2 b3 b4 b5 g fr lv cb ok W):b1≠W.heap.size/\b2≠W.heap.size/\b3≠W.heap.size/\b4≠W.heap.size/\b5≠W.heap.size:=by
 have h1:=h.f.lt;have h2:=h.fr.lt;have h3:=h.lv.lt;have h4:=h.cb.lt;have h5:=h.ok.lt;omega
section
variable{aA:Nat}{q g cf y:Nat}{p:Po}{i:PI.bF}{K:Nat->Prop}{J:List It->(Nat->Prop)->acL->Prop}{Jx:List It->(Nat->Prop)->acL->Prop}{pre:List It}
def Lower (q:Nat)(p:Po)(i:PI.bF)(g k B0 cf y lv mx:Nat)(J:List It->(Nat->Prop)->acL->Prop)(Jx:List It->(Nat->Prop)->acL->Prop):Prop :=
 ∀(W:acL) (pre:List It) (F:Nat->Prop) (aB fr:Nat),J pre F W->B0<=W.heap.size->aD W g 74 (fileC q i)->¬F g->p.wB lv aB->pre.length+MZ lv<=2000->fr<=mx ->
  ac4 prog 65 #[ptr g,vi aB,vi fr,vi lv,.func (.func cf) #[] #[ptr y]] W (Em k B0 J Jx (pre++p.items lv aB fr) F W)
def RunT (k B0:Nat)(J:List It->(Nat->Prop)->acL->Prop)(p:Po)(pre:List It)(lv fr:Nat)(bl:List Nat)(F2:Nat->Prop)(w8:acL)(xs:List (Fin (PI.ptrs bl).length))(W:acL):Prop :=
 ∃F',mO B0 k F2 w8 F' W/\J (pre++p.told lv fr bl xs) F' W
variable{lv fr:Nat}{F2:Nat->Prop}{w8:acL}{xs:List (Fin (PI.ptrs bl).length)}
def O8 (h:RunT k B0 J p pre lv fr bl F2 w8 xs W)(hs:xs=adK _) :
  ∃F',mO B0 k F2 w8 F' W/\J (pre++(PI.ptrs bl).flatMap λx=>p.items lv x.2 (fr+x.1*stepOf (lv+1))) F' W:=by
 obtain⟨F',h1,h2⟩:=h;refine⟨F',h1,?_⟩;rw[hs,Po.IZ]at h2;exact h2
def Tz (k B0:Nat)(Jx:List It->(Nat->Prop)->acL->Prop)(p:Po)(pre:List It)(lv fr:Nat)(bl:List Nat)(F:Nat->Prop)(w:acL)(b5:Nat)(c:Code)(xs:List (Fin (PI.ptrs bl).length))(W:acL):Prop :=
 c=.ret/\∃F' its,mO B0 k F w F' W/\its <+: pre++p.told lv fr bl xs/\Jx its F' W/\aD W b5 4 #[acg false]
def Po.TE (h:∃j,xs=(adK _).take j):p.told lv fr bl xs <+: (PI.ptrs bl).flatMap λx=>p.items lv x.2 (fr+x.1*stepOf (lv+1)):=by
 obtain⟨j,rfl⟩:=h;rw[<-p.IZ lv fr bl];refine⟨p.told lv fr bl ((adK _).drop j),?_⟩;unfold Po.told;rw[<-List.flatMap_append,List.take_append_drop]
def runT_own (T:zw aA q K p k B0 J)(hB:B0<=w8.heap.size):OwnFrom w8.heap.size (RunT k B0 J p pre lv fr bl F2 w8):=by
 intro s W W' row hs hg hr;obtain⟨F',h1,h2⟩:=hs;exact⟨F',h1.grown hg (λr e=>(hr r e).1),T.own h2 hg (λr e=>⟨abX hB (hr r e).1,(hr r e).2⟩)⟩
def O9 (X:IY B0 Jx){B8:Nat}(hw:w.heap.size<=B8)(hB:B0<=B8)(c:Code):OwnFrom B8 (Tz k B0 Jx p pre lv fr bl F w b5 c):=by
 intro s W W' row hs hg hr;obtain⟨h0,F',its,h1,h4,h2,h3⟩:=hs;exact⟨h0,F',its,h1.grown hg (λr e=>abX hw (hr r e).1),h4,X.own h2 hg (λr e=>⟨abX hB (hr r e).1,(hr r e).2⟩),rQ h3 hg (λr e=>(hr r e).2)⟩
def lZ.go2 {fr lv:Int}{ok:Bool}(h:lZ n0 b1 b2 b3 b4 b5 g fr lv cb ok W)(q:mO B0 k F W F' W')(hF:¬F b1/\¬F b2/\¬F b3/\¬F b4/\¬F b5)(hk:k<n0):lZ n0 b1 b2 b3 b4 b5 g fr lv cb ok W'/\(¬F' b1/\¬F' b2/\¬F' b3/\¬F' b4/\¬F' b5):=by
 have g1:=h.ge;have h1:=q.keep h.f hF.1 aa;have h2:=q.keep h.fr hF.2.1 aa;have h3:=q.keep h.lv hF.2.2.1 aa;have h4:=q.keep h.cb hF.2.2.2.1 aa;have h5:=q.keep h.ok hF.2.2.2.2 aa;exact⟨⟨h1.1,h2.1,h3.1,h4.1,h5.1,h.ge,h.ne⟩,h1.2,h2.2,h3.2,h4.2,h5.2⟩
def Xm :OwnFrom (β:=Unit) w.heap.size (λ_ W=>mO B0 k F w F' W):=λ_ _ _ _ h hg hr=>h.grown hg (λr e=>(hr r e).1)
def TF (T:zw aA q K p k B0 J):OwnFrom (β:=Unit) B0 (λ_ W=>J pre F W):=λ_ _ _ _ h hg hr=>T.own h hg hr
def BF (T:zw aA q K p k B0 J)(X:IY B0 Jx)(hcf:∀(args:Array acK) (W:acL),(callFunc cf args).run prog W=.ok (.enter cf args) W)(C:Cb cf y k B0 J Jx)(Fe:g≠k)(lv:Nat)(hlv:lv<=1)(mx:Nat)(hmx:mx<=50000)(LO:Lower q p i g k B0 cf y lv (mx+1000) J Jx)
  (hi:i.direct.length=6) (hJ:J pre F w) (hB:B0<=w.heap.size) (hf:aD w g 74 (fileC q i)) (V9:¬F g) (aB fr:Nat) (hp:p.wB (lv+1) aB) (hL:pre.length+MZ (lv+1)<=2000) (hfr:fr<=mx) :
  ac4 prog 65 #[ptr g,vi aB,vi fr,vi ((lv+1:Nat):Int),.func (.func cf) #[] #[ptr y]] w (Em k B0 J Jx (pre++p.items (lv+1) aB fr) F w):=by
 obtain⟨lw,hlw⟩:∃l,l=lv+1:=⟨_,rfl⟩;have CU:=az hlw;rw[<-hlw];clear hlw;refine callsIn_wide.1 (callsIn_of_wp_marks (F:=Fence.wide) (n:=6) func65 rfl trivial (wpIn_wide.2 ?_) rfl);simp only[ntmps65,List.size_toArray,adV,List.length_nil,Nat.reduceAdd,Nat.reduceSub,Array.replicate_succ,Array.replicate_zero,List.push_toArray,List.append_toArray,List.nil_append,List.cons_append];go_upto_region 1 with fail;have HB1:Hid (acN w.heap.size w (((((w.alloc (ach #[ptr g] 72)).alloc (ach #[vi fr] 3)).alloc (ach #[vi lw] 3)).alloc (ach #[.func (.func cf) #[] #[ptr y]] 82)).alloc (ach #[acg false] 4))):=az (five w _ _ _ _ _).1
 have lD:=az (lZ.mk' w g fr lw (.func (.func cf) #[] #[ptr y]));change adW _ _ _ _ (((((w.alloc (ach #[ptr g] 72)).alloc (ach #[vi fr] 3)).alloc (ach #[vi lw] 3)).alloc (ach #[.func (.func cf) #[] #[ptr y]] 82)).alloc (ach #[acg false] 4));generalize (((((w.alloc (ach #[ptr g] 72)).alloc (ach #[vi fr] 3)).alloc (ach #[vi lw] 3)).alloc (ach #[.func (.func cf) #[] #[ptr y]] 82)).alloc (ach #[acg false] 4))=w1 at*;obtain⟨n0,hn0⟩:∃n,n=w.heap.size:=⟨_,rfl⟩;have QZ:=az hn0;rw[<-hn0]at lD ⊢;clear hn0;obtain⟨b1,h1⟩:∃b,b=n0:=⟨_,rfl⟩;have jE:Hid (lZ n0 b1 (n0+1) (n0+1+1) (n0+1+1+1) (n0+1+1+1+1) g fr lw (.func (.func cf) #[] #[ptr y]) false w1):=az (by rw[h1];exact lD.o)
 clear lD;generalize n0+1+1+1+1=b5 at*;generalize n0+1+1+1=b4 at*;generalize n0+1+1=b3 at*;generalize n0+1=b2 at*;rw[<-h1];clear h1;have FI:=az hJ;have HT:=az T;have HX:=az X;have D6:Hid (∀n,F n->n<n0):=az (λn e=>by rw[QZ.o];exact T.lt hJ n e);have jU:Hid (k<n0):=az (by
  rw[QZ.o]
  exact(T.pq hJ).lt _ ((T.pq hJ).pK (T.aW hJ)).1)
 have HB0:=az hB;have HF:=az hf;have HGF:=az V9;have Y6:=az Fe;have HLO:=az LO;have oC:=az hp;have je:=az hL;have Zq:=az hlv;clear hJ T X hB hf V9 Fe LO hp hL hlv;by_cases hz:aB=0
 ·have Bv:Hid (p.items (lv+1) aB fr=[]):=az (by unfold Po.items;rw[if_pos hz]);subst hz;have r0:w1.cell? ⟨b5,0,none⟩=some (acg false):=jE.o.ok.cell 0;have f0:=jE.o.ok.frozen 0;clear hcf C;go_wp2_with fail;have hb:=(jE.o.done true).ok;have hbl:acN w.heap.size w (w1.setCell ⟨b5,0,none⟩ (acg true)):=HB1.o.setCell (p:=⟨b5,0,none⟩) (by rw[<-QZ.o];exact jE.o.ge.2.2.2.2) _;refine⟨_,jh hb _ rfl,F,mO.old hbl,ack ⟨rfl,?_⟩⟩;rw[CU.o,Bv.o,adS];exact HT.o.old FI.o hbl
 have Bv:Hid (p.items (lv+1) aB fr=(fr,aB,lv+1)::(PI.ptrs (p.get aB)).flatMap λx=>p.items lv x.2 (fr+x.1*stepOf (lv+1))):=az (by rw[Po.items,if_neg hz]);have HCB:Hid (∀W,acN w.heap.size w W->ac4 prog cf #[vi fr,vi aB,vi lw,ptr y] W (Em k B0 J Jx (pre++[(fr,aB,lw)]) F W)):=az (λW hb=>C pre (fr,aB,lw) F W (by
  have h7:=je.o
  have h8:=M8 lv Zq.o
  omega) (by have:=Zq.o;have:=CU.o;show lw<=2;omega) (HT.o.old FI.o hb) (abX HB0.o hb.size))
 have x2:w1.cell? ⟨b2,0,none⟩=some (vi fr):=jE.o.fr.cell 0;have x3:w1.cell? ⟨b3,0,none⟩=some (vi lw):=jE.o.lv.cell 0;have x4:w1.cell? ⟨b4,0,none⟩=some (.func (.func cf) #[] #[ptr y]):=jE.o.cb.cell 0;have n0':¬(aB:Int)=0:=aa;clear C;go_upto_region 3 with fail;go_wp2_with fail;refine(HCB.o _ HB1.o).mono ?_;rintro e w2 ⟨F2,hg2,h⟩;have lM:=az (jE.o.go hg2 D6.o jU.o);have HG2:=az (mO.ahead HB1.o hg2);have vK:=az (HG2.o.keep HF.o HGF.o Y6.o);have WI:Hid (¬F2 b1/\¬F2 b2/\¬F2 b3/\¬F2 b4/\¬F2 b5):=az (by
  have key:∀n,n0<=n->n<w1.heap.size->¬F2 n:=λn h1 h2 e=>by
   rcases hg2.foot n e with h3|h3
   have:=D6.o _ h3;omega
   omega
  have g1:=jE.o.ge
  exact⟨key _ g1.1 jE.o.f.lt,key _ g1.2.1 jE.o.fr.lt,key _ g1.2.2.1 jE.o.lv.lt,key _ g1.2.2.2.1 jE.o.cb.lt,key _ g1.2.2.2.2 jE.o.ok.lt⟩)
 have zt:Hid (w.heap.size<=b5):=az (by rw[<-QZ.o];exact jE.o.ge.2.2.2.2);have y3:w2.cell? ⟨b3,0,none⟩=some (vi lw):=lM.o.lv.cell 0;have r0:w2.cell? ⟨b5,0,none⟩=some (acg false):=lM.o.ok.cell 0;have f0:=lM.o.ok.frozen 0;clear jE HCB x2 x3 x4;rcases h with⟨rfl,hj⟩|⟨rfl,hx⟩
 ·have HJ2:=az hj;clear hj hcf r0 f0;have l0:((lw:Int)==0)=false:=by have:=CU.o;simp;omega
  go_upto_region 8 with fail;have HB3:Hid (acN w2.heap.size w2 (w2.alloc (ach #[vi 1] 3))):=az ax;have Pb:=az (aD.new w2 3 #[vi 1]);have qF:=az (lM.o.old HB3.o);have QV:=az (HT.o.old HJ2.o HB3.o);have vZ:Hid (aD (w2.alloc (ach #[vi 1] 3)) g 74 (fileC q i)/\¬F2 g):=az ⟨vK.o.1.old HB3.o,vK.o.2⟩;have iR:=az (HG2.o.after HB3.o);have HF6:Hid (¬F2 w2.heap.size):=az (λe=>by have:=HT.o.lt HJ2.o _ e;omega);have Zr:Hid (w.heap.size<=w2.heap.size):=az HG2.o.aJ.size;have zx:=az lM.o.lts;have FJ:Hid (g≠w2.heap.size):=az (λe=>by have:=vK.o.1.lt;omega)
  change adW _ _ _ _ (w2.alloc (ach #[vi 1] 3));have HW2:Hid (w2.heap.size<(w2.alloc (ach #[vi 1] 3)).heap.size):=az ai;clear lM vK HG2 HJ2 y3 hg2 HB3;generalize w2.alloc (ach #[vi 1] 3)=w3 at*;generalize w2.heap.size=b6 at*;have x3:w3.cell? ⟨b3,0,none⟩=some (vi lw):=qF.o.lv.cell 0;go_upto_if 27 with fail;clear l0 n0';go_cut [27] from 27 to 33 (λ_ wx=>Hid (lZ n0 b1 b2 b3 b4 b5 g fr lw (.func (.func cf) #[] #[ptr y]) false wx)/\Hid (J (pre++[(fr,aB,lw)]) F2 wx)/\Hid (aD wx g 74 (fileC q i)/\¬F2 g)/\Hid (mO B0 k F w F2 wx)/\Hid (aD wx b6 3 #[vi (stepOf lw)])/\Hid (b6<wx.heap.size))
  case first =>
   by_cases h2:lw=2
   ·have h2':(lw:Int)=2:=aa;have c1:((lw:Int)==2)=true:=by simp[h2']
    have x1:w3.cell? ⟨b1,0,none⟩=some (ptr g):=qF.o.f.cell 0;have e0:w3.cell? ⟨g,0,none⟩=some (ptr q):=file_q hi vZ.o.1;have y6:w3.cell? ⟨b6,0,none⟩=some (vi 1):=Pb.o.cell 0;have z6:=Pb.o.frozen 0;have jS:=az (kR (HT.o.pq QV.o));have HL2:=az h2;clear h2;go_wp2_with fail;refine jS.o.mono ?_;rintro e w' ⟨rfl,rfl⟩;clear c1 h2';go_wp2;go_meet;have hst:aP (λn=>n=b6) w' (w'.setCell ⟨b6,0,none⟩ (vi 32)):=aP.set (F:=λn=>n=b6) w' (p:=⟨b6,0,none⟩) rfl _;exact⟨az (qF.o.other hst zx.o),az (HT.o.uh QV.o Pb.o ag (abX HB0.o Zr.o) HF6.o hst),az ⟨vZ.o.1.aJ hst FJ.o,vZ.o.2⟩,az (iR.o.jg Pb.o Zr.o 0 _),by rw[show stepOf lw=32 by unfold stepOf;rw[if_pos HL2.o]];exact az (Pb.o.bB 0 (vi 32)),az (adN HW2.o hst.size)⟩
   have c1:((lw:Int)==2)=false:=by simp;omega
   go_wp2;go_meet;exact⟨qF,QV,vZ,iR,by rw[show stepOf lw=1 by unfold stepOf;rw[if_neg h2]];exact Pb,HW2⟩
  case rest =>
   obtain⟨nJ,V7,OV,qK,HY4,Tg⟩:=hcut;clear qF QV vZ iR Pb x3 HW2;have x1:wc.cell? ⟨b1,0,none⟩=some (ptr g):=nJ.o.f.cell 0;have e0:wc.cell? ⟨g,0,none⟩=some (ptr q):=file_q hi OV.o.1;have IU:=az (sS (HT.o.pq V7.o) aB (by have:=oC.o.good.1;omega) (oC.o.good.2 hz));go_wp2_with fail;refine IU.o.mono ?_;rintro e w7 ⟨K7,g7,c7,rfl,Fw,yO,Tv,Xn,El⟩;have hln:=(HT.o.pq V7.o).len aB (oC.o.good.2 hz);have Ig:=az hln;have Bz:Hid (bE w7 (some ⟨g7,0,none⟩) (p.get aB)):=az (Own.zu Fw hln.1 hln.2);have hrw:=El.rd k (HT.o.aW V7.o);obtain⟨cs0,hck⟩:=(HT.o.pq V7.o).Xl (HT.o.aW V7.o)
   have aaV:mO B0 k F2 wc F2 w7:=mO.OW hck hrw;have HJ7:=az (HT.o.rd V7.o hrw);have BG:=az (nJ.o.other hrw.1 (by have:=nJ.o.ge;have:=jU.o;omega));have HF7:=az (aaV.keep OV.o.1 OV.o.2 Y6.o);have Dp:=az (qK.o.trans aaV);have HY7:Hid (aD w7 b6 3 #[vi (stepOf lw)]):=az (HY4.o.aJ hrw.1 (λe=>by have:=jU.o;have:=Zr.o;have:=QZ.o;omega));have HFG:Hid (¬F2 g7):=az (λe=>by have:=HT.o.lt V7.o _ e;omega);have HWC:Hid (w.heap.size<=wc.heap.size):=az qK.o.aJ.size;have HW7:Hid (b6<w7.heap.size/\g7<w7.heap.size/\wc.heap.size<=g7):=az ⟨adN Tg.o hrw.1.size,Tp Fw,yO⟩
   clear Fw El IU nJ V7 OV qK HY4 Tg aaV hck hrw yO hln e0 x1;go_wp2_with fail;refine(vY (some ⟨g7,0,none⟩) 64 c7).mono ?_;rintro e w8 ⟨rfl,rfl⟩;go_wp2_with fail;have wX:Hid (acN w7.heap.size w7 (w7.alloc (ach #[aco (some ⟨g7,0,none⟩) 64 c7] 23))):=az ax;have HZ8:=az (aD.new w7 23 #[aco (some ⟨g7,0,none⟩) 64 c7]);have Xh:Hid ((w7.alloc (ach #[aco (some ⟨g7,0,none⟩) 64 c7] 23)).heap.size=w7.heap.size+1):=az ai;have Ei:=az (Bz.o.below wX.o);have HJ8:=az (HT.o.old HJ7.o wX.o);have zP:=az (BG.o.old wX.o)
   have TG:Hid (aD (w7.alloc (ach #[aco (some ⟨g7,0,none⟩) 64 c7] 23)) g 74 (fileC q i)/\¬F2 g):=az ⟨HF7.o.1.old wX.o,HF7.o.2⟩;have C8:=az (Dp.o.after wX.o);have HY8:=az (HY7.o.old wX.o);have HFN:Hid (¬F2 b6/\¬F2 g7/\¬F2 w7.heap.size):=az ⟨HF6.o,HFG.o,λe=>by have:=HT.o.lt HJ7.o _ e;omega⟩;clear Bz HJ7 BG HF7 Dp HY7;change adW _ _ _ _ (w7.alloc (ach #[aco (some ⟨g7,0,none⟩) 64 c7] 23));generalize w7.alloc (ach #[aco (some ⟨g7,0,none⟩) 64 c7] 23)=w8 at*;generalize w7.heap.size=b7 at*;have ig:Hid (b7<w8.heap.size/\g7<w8.heap.size/\w.heap.size<=b7):=az (by have h1:=Xh.o;have h2:=HW7.o;have h3:=Zr.o;omega)
   have CY:Hid (w.heap.size<=w8.heap.size):=az C8.o.aJ.size;have HK7:Hid (b7≠k/\g7≠k/\b6≠k):=az (by have h1:=ig.o;have h2:=jU.o;have h3:=QZ.o;have h4:=HW7.o;have h5:=Zr.o;have h6:=HWC.o;omega);generalize hbl:p.get aB=bl at*;have lK:=az hbl;clear hbl;have HGL:Hid (∀x∈PI.ptrs bl,p.wB lv x.2):=az (by
    have h:=oC.o.2 hz
    rwa[lK.o]at h)
   have qL:=az Ig.o;have HSQ:=uA (w:=w8) 5 ag b7 g7 c7 bl (HZ8.o.cell 0) Ei.o qL.o.1;have Tq:=runT_own (pre:=pre++[(fr,aB,lw)]) (lv:=lv) (fr:=fr) (bl:=bl) (F2:=F2) HT.o (abX HB0.o CY.o);have HOX:=λc=>O9 (k:=k) (F:=F) (w:=w) (b5:=b5) (p:=p) (pre:=pre++[(fr,aB,lw)]) (lv:=lv) (fr:=fr) (bl:=bl) HX.o CY.o (abX HB0.o CY.o) c
   have HEG:=dI func130 ah rfl;refine(wpIn_wide (n:=6)).1 ?_;refine wpIn_rangeFunc_ownG_of_H (F:=Fence.wide) (n:=6) rfl aa (gf:=130) (lb:=#[adj (some ⟨b7,0,none⟩)]) ?g1 ?g2 HEG HSQ ?g4 ?g5 ?g6 ?g7 (RunT k B0 J p (pre++[(fr,aB,lw)]) lv fr bl F2 w8) (Tz k B0 Jx p (pre++[(fr,aB,lw)]) lv fr bl F w b5) Tq HOX ?g8
    (λx=>{tmps:=#[ptr g,vi aB,vi fr,vi lw,.func (.func cf) #[] #[ptr y],adj (some ⟨b1,0,none⟩),undef,adj (some ⟨b2,0,none⟩),adj (some ⟨b3,0,none⟩),adj (some ⟨b4,0,none⟩),adj (some ⟨b5,0,none⟩),adj (some ⟨b6,0,none⟩),aco (some ⟨g7,0,none⟩) 64 c7,vi 0,vi (pk bl x:Int),vi (pv bl x:Int),vi aB,acg false,.func (.func cf) #[] #[ptr y],vi fr,vi aB,vi lw,acg true,acg false,vi lw,acg false,vi lw,u27,u28,u29,u30,u31,u32,u33,adg #[aco (some ⟨g7,0,none⟩) 64 c7,vi 0],ptr g,adj (some ⟨g,0,none⟩),adj (some ⟨g,0,none⟩),ptr q,vi aB,adg #[aco (some ⟨g7,0,none⟩) 64 c7,vi 0],aco (some ⟨g7,0,none⟩) 64 c7,vi 0,aco (some ⟨g7,0,none⟩) 64 c7,.func (.func 130) #[] #[adj (some ⟨b7,0,none⟩)],vi (pk bl x:Int),vi (pv bl x:Int),undef,undef,undef,undef,undef,undef,undef,undef,undef,undef,undef,undef],defers:=[]}) ?_ ?_ ?_ ?_ ?g9
   case g1=>rfl
   case g2=>trivial
   case g4=>exact λh k=>lN.t h k
   case g5=>exact λW l o o' hl h _ _=>lN.b ig.o.1 ig.o.2.1 W l o o' hl h
   case g6=>exact ak
   case g7=>exact λ_=>rfl
   case g8=>exact⟨F2,mO.refl,by unfold Po.told;rw[List.flatMap_nil,adS];exact HJ8.o⟩
   case g9=>exact λW=>aP.refl _ _
   ·intro l x W K hK;have HK:=az hK;clear hK;dsimp only;gi_wp2;exact HK.o
   ·rintro l xs x W ⟨F',hgo,hjw⟩ hlen;have HJW:=az hjw;have Dq:=az (zP.o.go2 hgo WI.o jU.o);have KO:=az (hgo.keep TG.o.1 TG.o.2 Y6.o);have HYW:=az (hgo.keep HY8.o HFN.o.1 HK7.o.2.2);have HZW:Hid (¬F' b7/\¬F' g7):=az ⟨(hgo.keep HZ8.o HFN.o.2.2 HK7.o.1).2,λe=>by
     rcases hgo.foot _ e with h1|h1
     exact HFN.o.2.1 h1
     have:=ig.o;omega⟩
    have Tt:=az hgo;have hsw:w8.heap.size<=W.heap.size:=hgo.aJ.size;clear hjw hgo;have hp1:=adT bl x;have hgl:=Xk HGL.o x;have TH:=az (p.Tx lv fr bl xs x);have htl:=p.Ty lv fr Zq.o bl xs hlen;generalize pk bl x=a at*;generalize pv bl x=c at*;have hst:=KN lw;obtain⟨s,hs⟩:∃s,s=stepOf lw:=⟨_,rfl⟩;rw[<-CU.o,<-hs]at TH;rw[<-hs]at HYW hst;obtain⟨m,hm⟩:∃m,m=a*s:=⟨_,rfl⟩;rw[<-hm]at TH;obtain⟨f2,hf2⟩:∃f,f=fr+m:=⟨_,rfl⟩;rw[<-hf2]at TH;have Df:m<=31*32:=by rw[hm];exact Nat.mul_le_mul aa hst.2
    have r1:adk.wrap ((a:Int)*(s:Int))=(m:Int):=by rw[<-Int.natCast_mul,<-hm,adl _ aa]
    have r2:adk.wrap ((fr:Int)+(m:Int))=(f2:Int):=by rw[adl _ aa];omega
    have r3:adk.wrap ((lw:Int)-1)=(lv:Int):=by have:=CU.o;have:=Zq.o;rw[adl _ aa];omega
    have HLC:=az (HLO.o W (pre++[(fr,aB,lw)]++p.told lv fr bl xs) F' c f2 HJW.o (by have:=HB0.o;have:=CY.o;omega) KO.o.1 KO.o.2 hgl (by
     have h7:=je.o
     have h8:=M8 lv Zq.o
     rw[acZ,acZ,List.length_singleton]
     omega) aa)
    clear hs hm hf2 Df hst htl hp1 hgl;have y1:W.cell? ⟨b1,0,none⟩=some (ptr g):=Dq.o.1.f.cell 0;have y2:W.cell? ⟨b2,0,none⟩=some (vi fr):=Dq.o.1.fr.cell 0;have y3:W.cell? ⟨b3,0,none⟩=some (vi lw):=Dq.o.1.lv.cell 0;have y4:W.cell? ⟨b4,0,none⟩=some (.func (.func cf) #[] #[ptr y]):=Dq.o.1.cb.cell 0;have y6:W.cell? ⟨b6,0,none⟩=some (vi s):=HYW.o.1.cell 0;gi_wp2;refine⟨trivial,(Dn HLC.o).mono ?_⟩;rintro e w9 ⟨F9,TI,h⟩;have Ej:=az (Tt.o.trans TI);have HKE:Hid (adY w8.heap.size W w9):=az (KM TI.keeps (abX HB0.o CY.o));have HKR:Hid (lN b7 g7 W w9):=az (TI.aJ.mono (λn _ e=>by
     refine⟨λh1=>?_,λh1=>?_⟩<;>subst h1
     rcases e with e|e
     exact HZW.o.1 e
     exact HK7.o.1 e
     rcases e with e|e
     exact HZW.o.2 e
     exact HK7.o.2.1 e))
    have KP:=az (Dq.o.1.go2 TI Dq.o.2 jU.o);clear TI HLC Tt;rcases h with⟨rfl,hj⟩|⟨rfl,its,hpre,hx⟩
    ·have HJ9:=az hj;clear hj;gi_wp2;refine⟨HKE.o,HKR.o,F9,Ej.o,?_⟩;rw[TH.o,<-adM];exact HJ9.o
    have HJ9:=az hx;have TJ:=az hpre;clear hx hpre;have r0:w9.cell? ⟨b5,0,none⟩=some (acg false):=KP.o.1.ok.cell 0;have f0:=KP.o.1.ok.frozen 0;gi_wp2;have hst:aP (λn=>n=b5) w9 (w9.setCell ⟨b5,0,none⟩ (acg false)):=aP.set (F:=λn=>n=b5) w9 (p:=⟨b5,0,none⟩) rfl _;exact⟨HKE.o.trans (pO KP.o.1.ok 0 (acg false)),rfl,F9,its,(C8.o.trans Ej.o).jg KP.o.1.ok zt.o 0 _,by rw[TH.o,<-adM];exact TJ.o,HX.o.uh HJ9.o KP.o.1.ok ag (abX HB0.o zt.o) KP.o.2.2.2.2.2 hst,KP.o.1.ok.bB 0 (acg false)⟩
   ·intro D' xs W hD hS hI hK;obtain⟨F',hgo,hjw⟩:=O8 hI hS;clear hS hI;have HK:=az hK;have HD:=az hD;have Dq:=az (zP.o.go2 hgo WI.o jU.o);have Ej:=az (C8.o.trans hgo);have HJ9:Hid (J (pre++p.items lw aB fr) F' W):=az (by
     rw[adM,List.singleton_append]at hjw
     rw[CU.o,Bv.o]
     rw[CU.o]at hjw
     exact hjw)
    clear hK hD hgo hjw;have r0:W.cell? ⟨b5,0,none⟩=some (acg false):=Dq.o.1.ok.cell 0;have f0:=Dq.o.1.ok.frozen 0;go_wp2_with fail;have hst:aP (λn=>n=b5) W (W.setCell ⟨b5,0,none⟩ (acg true)):=aP.set (F:=λn=>n=b5) W (p:=⟨b5,0,none⟩) rfl _;have hk5:=di.Xd Dq.o.1.ok HK.o 0 (acg true);have hcp:=di.iB (Dq.o.1.ok.bB 0 (acg true)) hk5 (adL none);refine di.ji (v:=acg true) hk5 (jh hcp _ rfl) ⟨F',?_,ack ⟨rfl,?_⟩⟩;exact Xm.putObj (s:=()) _ (Ej.o.jg Dq.o.1.ok zt.o 0 _) (abX CY.o HD.o) hk5 rfl;exact(TF HT.o).putObj (s:=()) _ (HT.o.uh HJ9.o Dq.o.1.ok ag (abX HB0.o zt.o) Dq.o.2.2.2.2.2 hst) (abX HB0.o (abX CY.o HD.o)) hk5 rfl
   intro D' c' xs W hD hS hI hK;have hI':Tz k B0 Jx p (pre++[(fr,aB,lw)]) lv fr bl F w b5 c' xs W:=hI;have hP:=(HOX c').putObj (adL none) hI' hD hK rfl;have WQ:=az (p.TE (lv:=lv) (fr:=fr) hS);clear hS hI;obtain⟨rfl,F1,amX,hg1,_,hj1,hc1⟩:=hI';obtain⟨_,F',its,hgo,hpre,hjx,hc⟩:=hP;have TJ:Hid (its <+: pre++p.items lw aB fr):=az (by
    refine hpre.trans ?_
    rw[CU.o,Bv.o,adM,List.singleton_append]
    exact adU _ |>.2 (List.cons_prefix_cons.2 ⟨rfl,WQ.o⟩))
   clear hpre WQ;gi_wp2;exact di.ji (v:=acg false) hK (jh hc _ rfl) ⟨F',hgo,acm ⟨rfl,its,TJ.o,hjx⟩⟩
 obtain⟨its,hpre,hx⟩:=hx;have HJ2:=az hx;have TJ:Hid (its <+: pre++p.items lw aB fr):=az (by
  refine hpre.trans ?_
  rw[CU.o,Bv.o]
  exact(adU pre).2 (List.cons_prefix_cons.2 ⟨rfl,List.nil_prefix⟩))
 clear hx hcf hpre;go_wp2_with fail;have hb:=(lM.o.done false).ok;have hst:aP (λn=>n=b5) w2 (w2.setCell ⟨b5,0,none⟩ (acg false)):=aP.set (F:=λn=>n=b5) w2 (p:=⟨b5,0,none⟩) rfl _;exact⟨_,jh hb _ rfl,F2,HG2.o.jg lM.o.ok zt.o 0 _,acm ⟨rfl,its,TJ.o,HX.o.uh HJ2.o lM.o.ok ag (abX HB0.o zt.o) WI.o.2.2.2.2 hst⟩⟩
end
end po
namespace po
open RowKit mgr ft pl ino nd
def Po.jY (p:Po)(l:List Nat)(k:Nat):List It:=(List.range k).flatMap λj=>p.items 0 (l.getD j 0) j
def Po.jy (p:Po)(i:PI.bF):List It:=p.jY i.direct 6++p.items 1 i.single 6++p.items 2 i.double 38
def Po.xN (p:Po)(l:List Nat)(k:Nat):p.jY l (k+1)=p.jY l k++p.items 0 (l.getD k 0) k:=by
 unfold Po.jY;rw[List.range_succ,List.flatMap_append,List.flatMap_cons,List.flatMap_nil,adS]
def Po.En (p:Po)(l:List Nat)(k:Nat):∀d,p.jY l k <+: p.jY l (k+d)
 |0=>List.prefix_rfl
 |d+1=>by
  rw[<-Nat.add_assoc,Po.xN]
  exact(Po.En p l k d).trans (List.prefix_append _ _)
def xO {a b:List It}{Q:List It->Prop}(h:∃its,its <+: a/\Q its)(hab:a <+: b):∃its,its <+: b/\Q its :=
 h.imp λ_ h=>⟨h.1.trans hab,h.2⟩
def Po.Pf (p:Po)(l:List Nat)(k:Nat):(p.jY l k).length<=k:=by
 induction k with
 |zero=>simp[Po.jY]
 |succ k ih =>
  rw[Po.xN,acZ];have:=p.xM 0 aa (l.getD k 0) k;have h:MZ 0=1:=rfl;omega
def BH {l:List Nat}{x:Nat×Nat}(n:Nat)(h:x∈PI.ptrsTo l n):x.1<n/\x.2=PI.two l x.1:=⟨(PI.Br l n h).1,(PI.Br l n h).2.1⟩
def Po.wf.ah0 {p:Po}{i:PI.bF}(h:p.wf i):p.wB 1 i.single:=by
 refine⟨h.single,λhn x hx=>?_⟩;obtain⟨h1,h2⟩:=BH 32 hx;have:=h.one x.1 h1;unfold Po.ptr at this;rw[if_neg hn]at this;rw[h2];exact this
def Po.wf.ah1 {p:Po}{i:PI.bF}(h:p.wf i):p.wB 2 i.double:=by
 refine⟨h.double,λhn x hx=>?_⟩;obtain⟨h1,h2⟩:=BH 32 hx;have ht:=h.two x.1 h1;have hp:p.ptr i.double x.1=x.2:=by unfold Po.ptr;rw[if_neg hn,h2]
 rw[hp]at ht;refine⟨ht.1,λhm z hz=>?_⟩;obtain⟨h3,h4⟩:=BH 32 hz;have:=ht.2 z.1 h3;unfold Po.ptr at this;rw[if_neg hm]at this;rw[h4];exact this
section
variable{aA:Nat}{w w':acL}{q g k B0 cf y:Nat}{p:Po}{i:PI.bF}{K F:Nat->Prop}{J:List It->(Nat->Prop)->acL->Prop}{Jx:List It->(Nat->Prop)->acL->Prop}{pre:List It}
def M9 (T:zw aA q K p k B0 J)(X:IY B0 Jx)(hcf:∀(args:Array acK) (W:acL),(callFunc cf args).run prog W=.ok (.enter cf args) W)(C:Cb cf y k B0 J Jx)(mx:Nat):Lower q p i g k B0 cf y 0 mx J Jx :=
 λW pre F aB fr hJ hB hf V9 hp hL _=>KL T X hcf C hJ hB aB fr hp (by have h:MZ 0=1:=rfl;omega)
def Na (T:zw aA q K p k B0 J)(X:IY B0 Jx)(hcf:∀(args:Array acK) (W:acL),(callFunc cf args).run prog W=.ok (.enter cf args) W)(C:Cb cf y k B0 J Jx)(Fe:g≠k)(hi:i.direct.length=6)(mx:Nat)(hmx:mx<=50000):Lower q p i g k B0 cf y 1 mx J Jx :=
 λW pre F aB fr hJ hB hf V9 hp hL hfr=>BF T X hcf C Fe 0 aa mx hmx (M9 T X hcf C _) hi hJ hB hf V9 aB fr hp hL hfr
def Xo (T:zw aA q K p k B0 J)(X:IY B0 Jx)(hcf:∀(args:Array acK) (W:acL),(callFunc cf args).run prog W=.ok (.enter cf args) W)(C:Cb cf y k B0 J Jx)(Fe:g≠k)(hi:i.direct.length=6)(mx:Nat)(hmx:mx<=49000):Lower q p i g k B0 cf y 2 mx J Jx :=
 λW pre F aB fr hJ hB hf V9 hp hL hfr=>BF T X hcf C Fe 1 aa mx aa (Na T X hcf C Fe hi _ aa) hi hJ hB hf V9 aB fr hp hL hfr
def aaX (k B0:Nat)(J:List It->(Nat->Prop)->acL->Prop)(Jx:List It->(Nat->Prop)->acL->Prop)(all:List It)(F:Nat->Prop)(w:acL)(e:Ending)(w':acL):Prop :=
 e=ab4 (adg #[])/\∃F',mO B0 k F w F' w'/\(J all F' w'\/∃its,its <+: all/\Jx its F' w')
def ah2 (k B0:Nat)(J:List It->(Nat->Prop)->acL->Prop)(p:Po)(pre:List It)(l:List Nat)(F:Nat->Prop)(w:acL)(n:Nat)(W:acL):Prop:=∃F',mO B0 k F w F' W/\J (pre++p.jY l n) F' W
def Nb (T:zw aA q K p k B0 J)(X:IY B0 Jx)(hcf:∀(args:Array acK) (W:acL),(callFunc cf args).run prog W=.ok (.enter cf args) W)(C:Cb cf y k B0 J Jx)(Fe:g≠k)(hi:p.wf i)(hJ:J pre F w)(hB:B0<=w.heap.size)(hf:aD w g 74 (fileC q i))(V9:¬F g)(hL:pre.length<=700) :
  ac4 prog 37 #[ptr g,.func (.func cf) #[] #[ptr y]] w (aaX k B0 J Jx (pre++p.jy i) F w):=by
 have HL0:=az (M9 (i:=i) (g:=g) T X hcf C 10);have HL1:=az (Na T X hcf C Fe hi.len 10 aa);have HL2:=az (Xo T X hcf C Fe hi.len 100 aa);have HG0:Hid (∀n,n<6->p.wB 0 (i.direct.getD n 0)):=az hi.direct;have qI:=az hi.ah0;have HG2:=az hi.ah1;have HT:=az T;have HJ:=az hJ;have HB:=az hB;have HF:=az hf;have HGF:=az V9;have Y6:=az Fe;have je:=az hL;have HAI:Hid (p.jy i=p.jY i.direct 6++p.items 1 i.single 6++p.items 2 i.double 38):=az rfl;have ah3:Hid (∀n,n<6->p.jY i.direct (n+1) <+: p.jY i.direct 6):=az (λn hn=>by
  have h:=p.En i.direct (n+1) (5-n)
  rwa[show n+1+(5-n)=6 by omega]at h)
 have hil:=hi.len;clear T X hcf C Fe hi hJ hB hf V9 hL;generalize p.jy i=AI at*;obtain⟨kd,ln,sz,dl,sg,db⟩:=i;dsimp only at*;obtain⟨d0,d1,d2,d3,d4,d5,hdl⟩:=six (l:=dl) hil;clear hil;have HZ:Hid (∀(k:Nat),k<6->∀w:acL,(Instr.index 27 (.agg #[vi d0,vi d1,vi d2,vi d3,vi d4,vi d5]) (vi k)).run prog w=.ok (vi (dl.getD k 0)) w):=az (λk hk w=>by
  subst hdl
  obtain⟨x0,x1,x2,x3,x4,x5⟩:=OH d0 d1 d2 d3 d4 d5 w
  rcases (by omega:k=0\/k=1\/k=2\/k=3\/k=4\/k=5) with rfl|rfl|rfl|rfl|rfl|rfl
  exact x0
  exact x1
  exact x2
  exact x3
  exact x4
  exact x5)
 have HFC:Hid (fileC q ⟨kd,ln,sz,dl,sg,db⟩=#[ptr q,vi kd,vi ln,vi sz,vi d0,vi d1,vi d2,vi d3,vi d4,vi d5,vi sg,vi db]):=az (by subst hdl;rfl);clear hdl;generalize hC:fileC q ⟨kd,ln,sz,dl,sg,db⟩=FC at*;have HCC:=az hC;clear hC;have Nc:Hid (∀W,aD W g 74 FC->aD W g 74 #[ptr q,vi kd,vi ln,vi sz,vi d0,vi d1,vi d2,vi d3,vi d4,vi d5,vi sg,vi db]):=az (λW h=>by rw[<-HFC.o];exact h);have e4:w.cell? ⟨g,4,none⟩=some (vi d0):=(Nc.o _ HF.o).cell 4;have e5:w.cell? ⟨g,5,none⟩=some (vi d1):=(Nc.o _ HF.o).cell 5;have e6:w.cell? ⟨g,6,none⟩=some (vi d2):=(Nc.o _ HF.o).cell 6;have e7:w.cell? ⟨g,7,none⟩=some (vi d3):=(Nc.o _ HF.o).cell 7
 have e8:w.cell? ⟨g,8,none⟩=some (vi d4):=(Nc.o _ HF.o).cell 8;have e9:w.cell? ⟨g,9,none⟩=some (vi d5):=(Nc.o _ HF.o).cell 9;go_in;go_wp2_with fail;clear e4 e5 e6 e7 e8 e9;go_loopw [12] (λi wr=>∃n:Nat,n<=6/\i=vi n/\Hid (ah2 k B0 J p pre dl F w n wr)) (λi _=>6-(intOf i).toNat)
 case atStart=>exact⟨0,ag,rfl,az ⟨F,mO.refl,by
  have h0:p.jY dl 0=[]:=rfl
  rw[h0,adS]
  exact HJ.o⟩⟩
 case round =>
  obtain⟨n,hn6,rfl,hd⟩:=hrel;obtain⟨F1,hg1,hj1⟩:=hd.o;clear hd;have HG:=az hg1;have HJ1:=az hj1;have KO:=az (hg1.keep HF.o HGF.o Y6.o);have hsz:=hg1.aJ.size;clear hg1 hj1;have uz:Hid (B0<=wr.heap.size):=az (abX HB.o hsz);clear hsz;have vQ:=az (p.Pf dl n);by_cases h6:n<6
  ·have hz:=HZ.o n h6 wr;have n6:(n:Int)<6:=aa;have Zt:=az (HL0.o wr (pre++p.jY dl n) F1 (dl.getD n 0) n HJ1.o uz.o (by rw[HCC.o];exact KO.o.1) KO.o.2 (HG0.o n h6) (by
    have h1:=vQ.o
    have h2:=je.o
    have h:MZ 0=1:=rfl
    rw[acZ]
    omega) aa)
   have HDA:=az (p.xN dl n);generalize dl.getD n 0=dn at*;go_wp2_with fail;refine Zt.o.mono ?_;rintro e w2 ⟨F2,hg2,h⟩;have TK:=az (HG.o.trans hg2);clear hg2 Zt;rcases h with⟨rfl,hj⟩|⟨rfl,hx⟩
   ·have HJ2:=az hj;clear hj;go_wp2;go_roundw
    case rel=>exact⟨n+1,aa,by go_num,az ⟨F2,TK.o,by rw[HDA.o,<-adM];exact HJ2.o⟩⟩
    case measure=>simp[intOf];omega
   have HJ2:=az hx;clear hx;go_wp2_with fail;go_end0;refine⟨rfl,F2,TK.o,acm (xO HJ2.o ?_)⟩;rw[HAI.o,adM pre,<-HDA.o,adM];exact(adU _).2 ((ah3.o n h6).trans (List.prefix_append _ _))
  obtain rfl:n=6:=aa;have e0:wr.cell? ⟨g,0,none⟩=some (ptr q):=(Nc.o _ KO.o.1).cell 0;have e10:wr.cell? ⟨g,10,none⟩=some (vi sg):=(Nc.o _ KO.o.1).cell 10;have jS:=az (kR (HT.o.pq HJ1.o));have yx:=az (HL1.o wr (pre++p.jY dl 6) F1 sg 6 HJ1.o uz.o (by rw[HCC.o];exact KO.o.1) KO.o.2 qI.o (by
   have h1:=vQ.o
   have h2:=je.o
   have h:MZ 1=34:=rfl
   rw[acZ]
   omega) aa)
  go_wp2_with fail;refine jS.o.mono ?_;rintro e w2 ⟨rfl,rfl⟩;clear jS;go_wp2_with fail;refine yx.o.mono ?_;rintro e w3 ⟨F2,hg2,h⟩;have aaZ:=az (hg2.keep KO.o.1 KO.o.2 Y6.o);have ah6:Hid (B0<=w3.heap.size):=az (abX uz.o hg2.aJ.size);have TK:=az (HG.o.trans hg2);have ah7:=az (p.xM 1 aa sg 6);clear hg2 yx e0 e10;rcases h with⟨rfl,hj⟩|⟨rfl,hx⟩
  ·have HJ2:=az hj;clear hj;have e11:w3.cell? ⟨g,11,none⟩=some (vi db):=(Nc.o _ aaZ.o.1).cell 11;have JQ:=az (HL2.o w3 (pre++p.jY dl 6++p.items 1 sg 6) F2 db 38 HJ2.o ah6.o (by rw[HCC.o];exact aaZ.o.1) aaZ.o.2 HG2.o (by
    have h1:=vQ.o
    have h2:=je.o
    have h3:=ah7.o
    have h:MZ 1=34:=rfl
    have h':MZ 2=1200:=rfl
    rw[acZ,acZ]
    omega) aa)
   go_wp2_with fail;refine JQ.o.mono ?_;rintro e w4 ⟨F3,hg3,h⟩;have adZ:=az (TK.o.trans hg3);clear hg3 JQ e11;rcases h with⟨rfl,hj⟩|⟨rfl,hx⟩
   ·have QV:=az hj;clear hj;go_wp2_with fail;go_end0;refine⟨rfl,F3,adZ.o,ack ?_⟩;rw[HAI.o,<-adM,<-adM];exact QV.o
   have QV:=az hx;clear hx;go_wp2_with fail;go_end0;refine⟨rfl,F3,adZ.o,acm (xO QV.o ?_)⟩;rw[HAI.o,<-adM,<-adM];exact List.prefix_rfl
  have HJ2:=az hx;clear hx;go_wp2_with fail;go_end0;refine⟨rfl,F2,TK.o,acm (xO HJ2.o ?_)⟩;rw[HAI.o,<-adM,<-adM];exact List.prefix_append _ _
end
end po
end Go.Proofs.YtllmbcigmimgoaaGreat
