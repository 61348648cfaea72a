/-
  Lemmas for a law's proof, put together from several texts. No conditions of their own.
-/
import Derived.Test.YtllmbcigmimgoaaGreatZB02
import Derived.Test.YtllmbcigmimgoaaGreatZB03
import Derived.WalkMore
import Derived.Deep.LoopGhost
import Derived.Test.YtllmbcigmimgoaaGreatZB01
import Derived.Deep.CutBlock
import Derived.Laws.BitsAllLaws
import Derived.Deep.RegionLaw
import Derived.Deep.DeepCutAuto
set_option maxRecDepth 100000
set_option maxHeartbeats 20000000
set_option linter.all false
namespace Go.Proofs.YtllmbcigmimgoaaGreat
open _root_.Go.Proofs.Tryz
open _root_.Go renaming World->acL,Calls->ac4,Value->acK
open _root_.Go.Ending renaming returned->ab4
open _root_.Go.Exit renaming noGoto_ret->acY
open _root_.Go.Instr renaming index->ado
open _root_.Go.IntKind renaming i64->adk
open _root_.Go.IntWalk renaming i64_in->adl
open _root_.Go.RowKit renaming Below->acN
open _root_.Go.Value renaming slice->aco,bool->acg
open _root_.Go.World renaming cell?_setCell_other->ac6
open _root_.Or renaming inr->acm,inl->ack
namespace mgr
open RowKit
def zeroTo (l:List gcs.aD):Nat->List gcs.aD
 |0=>l
 |n+1=>(zeroTo l n).set n {(zeroTo l n).getD n default with r:=0}
def AU (G:iL)(P:Nat):Int×Int:=gcs.vG (if G.even then zeroTo G.l G.l.length else G.l) P (decide ((P:Int)<=bT G P))
def nO (l:List gcs.aD):∀n,(zeroTo l n).length=l.length
 |0=>rfl
 |n+1=>by unfold zeroTo;rw[List.length_set,nO l n]
variable{aA:Nat}{w:acL}{m:Nat}{G:iL}{M:dA}
def Ki (l:List gcs.aD):∀u∈l.flatMap gQ,u.oneCell'=true:=by
 intro u hu;obtain⟨x,_,hx⟩:=List.mem_flatMap.1 hu;simp[gQ]at hx;rcases hx with rfl|rfl|rfl|rfl<;>rfl
variable{l:List gcs.aD}
def WK {g c:Nat}(h:kY w 193 4 g l.length c (l.flatMap gQ)):gcs.Row w (aco (some ⟨g,0,none⟩) l.length c) l:=by
 obtain⟨cur,_,g1,g2,_⟩:=h.blk;refine⟨by unfold maxLen at g2;omega,_,_,rfl,acm ⟨g,0,rfl,λi hi=>?_⟩⟩;have hc:∀j,j<4->w.cell? ⟨g,i*4+j,none⟩=(gQ (l.getD i default))[j]?:=λj hj=>by
  rw[h.cell aa,flat_get gT default _ _ _ hi hj]
 rw[Nat.zero_add];exact⟨hc 0 ag,hc 1 ag,hc 2 ag,hc 3 ag⟩
structure Oz (w1:acL)(g c:Nat)(l:List gcs.aD)(wr:acL):Prop where
 below:acN w1.heap.size w1 wr
 arr:kY wr 193 4 g l.length c (l.flatMap gQ)
 low:w1.heap.size<=g
def Oz.zero {w1 wr:acL}{g c:Nat}(h:Oz w1 g c l wr){n:Nat}(hn:n<l.length):Oz w1 g c (l.set n {l.getD n default with r:=0}) (wr.setCell ⟨g,n*4+2,none⟩ (vi 0)):=by
 refine⟨h.below.setCell (p:=⟨g,n*4+2,none⟩) h.low _,?_,h.low⟩;rw[List.length_set,<-flat_set gT default l n 2 {l.getD n default with r:=0} (vi 0) hn ag rfl];exact h.arr.set _ _
def Aq (h:Held aA w m G M)(hf:G.fit M.P)(hl0:0<G.l.length):ac4 prog 171 #[ptr m] w λe w'=>e=ab4 (gcs.xu (AU G M.P))/\acN w.heap.size w w':=by
 have dN:Hid (AU G M.P=gcs.vG (if G.even then zeroTo G.l G.l.length else G.l) M.P (decide ((M.P:Int)<=bT G M.P))):=az rfl;have H:=az h;have HF:=az hf;have HZL:=az (nO G.l);have hlen:G.l.length<=128:=hf.1;have B0:=az (qX w (.cells #[vi 0,vi 0] 229));have R0:=az (aD.new w 229 #[vi 0,vi 0]);clear h hf;go_in;go_upto_region 1 with fail;generalize w.alloc (.cells #[vi 0,vi 0] 229)=w1 at*;generalize hrb:w.heap.size=rb at*;have vN:=az hrb;clear hrb;have H1:Hid (Held aA w1 m G M):=az (H.o.old (by rw[vN.o];exact B0.o));have c1:w1.cell? ⟨m,1,none⟩=some (aco (some ⟨G.gl,0,none⟩) G.l.length G.cl):=H1.o.cells.2.1
 go_wp2_with fail;have hown:=H1.o.mgr.row;refine(Kg (some ⟨G.gl,0,none⟩) G.l.length G.cl (G.l.flatMap gQ) _ (flat_length gT G.l) (λad had j u hu=>by
   injection had with had
   subst had
   rw[add_plain,Nat.zero_add,hown.cell (by rw[<-flat_length gT G.l];exact(List.getElem?_eq_some_iff.1 hu).1)]
   exact hu) (Ki _) ai aa).mono ?_
 rintro e w2 ⟨v2,rfl,ho2,hb2⟩;obtain⟨g,c,rfl,harr,hg⟩:=kY.Rm ho2 hl0;have HEL:Hid ((if G.even then zeroTo G.l 0 else G.l)=G.l):=az (by cases G.even<;>rfl);have ST:Hid (Oz w1 g c (if G.even then zeroTo G.l 0 else G.l) w2):=az (by rw[HEL.o];exact⟨hb2,harr,hg⟩);clear ho2 hb2 harr hg hown c1;go_wp2_with fail;go_loopw [15] (λi wr=>∃n:Nat,n<=G.l.length/\i=vi n/\Hid (Oz w1 g c (if G.even then zeroTo G.l n else G.l) wr)) (λi _=>G.l.length-(intOf i).toNat)
 case atStart=>exact⟨0,Nat.zero_le _,rfl,ST⟩
 case round =>
  clear ST;obtain⟨n,hn,rfl,st⟩:=hrel;by_cases hlt:n<G.l.length
  ·have c5:wr.cell? ⟨m,5,none⟩=some (acg G.even):=(H1.o.old st.o.below).cells.2.2.2.2.2;have hn0:(0:Int)<=(n:Int):=aa;have hn1:(n:Int)<(G.l.length:Int):=aa;generalize hev:G.even=ev at*;cases ev
   ·rw[if_neg ai]at st;go_wp2;go_roundw
    case rel=>exact⟨n+1,aa,by go_num,by rw[if_neg ai];exact st⟩
    case measure=>simp[intOf];omega
   rw[if_pos rfl]at st;have hnz:n<(zeroTo G.l n).length:=by rw[HZL.o];exact hlt
   have d2:wr.cell? ⟨g,n*4+2,none⟩=some (vi ((zeroTo G.l n).getD n default).r):=by
    rw[st.o.arr.cell aa,flat_get gT default _ _ _ hnz ag];rfl
   have z2:=st.o.arr.frozen (n*4+2);have S1:Hid (Oz w1 g c (zeroTo G.l (n+1)) (wr.setCell ⟨g,n*4+2,none⟩ (vi 0))):=az (st.o.zero hnz);generalize ((zeroTo G.l n).getD n default).r=rr at*;clear st hnz;go_wp2;go_roundw
   case rel=>exact⟨n+1,aa,by go_num,S1⟩
   case measure=>simp[intOf];omega
  obtain rfl:n=G.l.length:=aa;have Kj:Hid ((if G.even then zeroTo G.l G.l.length else G.l).length=G.l.length):=az (by split;exact HZL.o _;rfl);generalize (if G.even then zeroTo G.l G.l.length else G.l)=L at*;have H2:=az (H1.o.old st.o.below);have R2:=az (R0.o.old st.o.below);have RW:=az (WK st.o.arr);rw[Kj.o]at RW;have B2:Hid (acN w.heap.size w wr):=az (by rw[vN.o];exact B0.o.trans (st.o.below.mono (by rw[<-vN.o];exact B0.o.size)));clear st hn hlt hlen;go_wp2_with fail;refine(om H2.o.mgr H2.o.aW).mono ?_;rintro e w4 ⟨rfl,hb4⟩;have H4:=az (H2.o.old hb4)
  have R4:=az (R2.o.old hb4);have W4:=az (RW.o.below hb4);have B4:=az (B2.o.trans (hb4.mono B2.o.size));clear hb4;go_wp2_with fail;refine(fP H4.o.mgr H4.o.aW HF.o).mono ?_;rintro e w5 ⟨rfl,hb5⟩;have H5:=az (H4.o.old hb5);have R5:=az (R4.o.old hb5);have W5:=az (W4.o.below hb5);have B5:=az (B4.o.trans (hb5.mono B4.o.size));clear hb5;generalize bT G M.P=rm at*;go_wp2_with fail;refine(om H5.o.mgr H5.o.aW).mono ?_;rintro e w6 ⟨rfl,hb6⟩;have R6:=az (R5.o.old hb6);have W6:=az (W5.o.below hb6);have B6:=az (B5.o.trans (hb6.mono B5.o.size));clear hb6
  go_wp2_with fail;have HN:=az (gcs.Aq _ L M.P (decide ((M.P:Int)<=rm)) _ W6.o);refine HN.o.mono ?_;rintro e w7 ⟨rfl,tZ⟩;have R7:=az (R6.o.old tZ);have B7:=az (B6.o.trans (tZ.mono B6.o.size));clear tZ HN;generalize gcs.vG L M.P (decide ((M.P:Int)<=rm))=r at*;have c0:w7.cell? ⟨rb,0,none⟩=some (vi 0):=R7.o.cell 0;have c1:w7.cell? ⟨rb,1,none⟩=some (vi 0):=R7.o.cell 1;have z0:=R7.o.frozen 0;have z1:=R7.o.frozen 1;go_wp2_with fail;refine bodyPost_ret (v:=gcs.xu r) (by simp[results,results171,go_sem,c0,c1]) rfl ⟨by rw[dN.o],?_⟩;exact(B7.o.setCell (p:=⟨rb,0,none⟩) (by rw[vN.o];exact aj) _).setCell (p:=⟨rb,1,none⟩) (by rw[vN.o];exact aj) _
variable{w':acL}
def field_g2 (x y z:Int)(w:acL):(Instr.field 103 (.agg #[vi x,vi y,vi z]) 2).run prog w=.ok (vi z) w:=ah
def Fh {k:Nat}(h:aT aA w k M)(hok:M.view.ok)(j p:Int)(a:Option Addr)(l:List Nat)(c:Nat)(hr:dx aA w a l):ac4 prog 204 #[ptr k,vi j,vi p,aco a l.length c] w (dD aA w k M (NP.program M.view j p l)):=nC h hok j p a l c hr
def qh (aA:Nat)(w:acL)(m:Nat)(G:iL)(M:dA)(r:(Int×Int×Int)×NP.bX×Mg)(e:Ending)(w':acL):Prop :=
 ∃M',e=ab4 (.tuple #[vi r.1.1,vi r.1.2.1,vi r.1.2.2])/\bJ aA w m G M w' r.2.2 M'/\M'.view=r.2.1
def qh.mk {r:(Int×Int×Int)×NP.bX×Mg}{x y z:Int}{V:NP.bX}{g':Mg}(hr:r=((x,y,z),V,g')){M':dA}(hg:bJ aA w m G M w' g' M')(hv:M'.view=V):qh aA w m G M r (ab4 (.tuple #[vi x,vi y,vi z])) w' :=
 ⟨M',by rw[hr],by rw[hr];exact hg,by rw[hr];exact hv⟩
def Kk (c:NP.bX)(j p:Int)(b:List Nat):(NP.program c j p b).2.B=c.B/\(NP.program c j p b).2.P=c.P/\(NP.program c j p b).2.S=c.S:=by
 unfold NP.program;dsimp only;repeat (first|exact⟨rfl,rfl,rfl⟩|split)
def count_set (s:Int):∀(l:List gcs.aD) (i:Nat) (x:gcs.aD),i<l.length->aN s (l.set i x)+(if (l.getD i default).s=s then 1 else 0)=aN s l+(if x.s=s then 1 else 0)
 |y::l,0,x,_=>by
  unfold aN
  simp only[List.set_cons_zero,List.filter_cons,List.getD_cons_zero,beq_iff_eq]
  split<;>split<;>simp<;>omega
 |y::l,i+1,x,h=>by
  have ih:=count_set s l i x (by simpa using h)
  unfold aN at ih ⊢
  simp only[List.set_cons_succ,List.filter_cons,List.getD_cons_succ,beq_iff_eq]at ih ⊢
  by_cases hy:y.s=s
  rw[if_pos hy,if_pos hy];simp only[List.length_cons];omega
  rw[if_neg hy,if_neg hy];exact ih
def Mg.ready (g:Mg):Mg:=if g.at_= -1 then g.begun else g
def Mg.need (g:Mg):Nat:=aN 0 g.l+(if g.at_= -1 then 1 else 2)
def Mg.mI (b:List Nat)(n:Nat)(c:NP.bX)(g:Mg):(Int×Int×Int)×NP.bX×Mg :=
 if g.at_= -1 then ((0,0,40),c,g)
 else
  let i:=g.at_.toNat
  let x:=g.blk i
  let r:=NP.program c i x.n b
  if r.1=10 then Mg.progTo b n r.2 (g.close i)
  else if r.1=0 then
   let g1:=g.put i {x with n:=x.n+1,l:=x.l+1}
   ((i,x.n,0),r.2,if x.n+1=c.P then g1.close i else g1)
  else if r.1=11 then ((i,x.n,11),r.2,g.close i)
  else ((0,0,r.1),r.2,g)
def nE (b:List Nat)(n:Nat)(c:NP.bX)(g:Mg):Mg.progTo b (n+1) c g=Mg.mI b n c g.ready:=rfl
variable{g:Mg}{i:Nat}
def Mg.Kl (hi:i<g.l.length)(ha:g.at_=i)(hs:(g.blk i).s=1):(g.close i).need+1=aN 0 g.l+2:=by
 have h1:=count_set 0 g.l i (dH (g.blk i)) hi;have h2:(dH (g.blk i)).s≠0:=by unfold dH;dsimp only;split<;>decide
 have h3:¬(g.l.getD i default).s=0:=by
  have:(g.l.getD i default).s=1:=hs;omega
 rw[if_neg h2,if_neg h3]at h1;have h4:(g.close i).at_= -1:=by unfold Mg.close Mg.shut Mg.put;dsimp only;rw[if_pos ha.symm]
 have h5:(g.close i).l=g.l.set i (dH (g.blk i)):=rfl;unfold Mg.need;rw[h4,h5,if_pos rfl];omega
def Mg.Km (ha:g.ready.at_≠ -1):aN 0 g.ready.l+2<=g.need:=by
 unfold Mg.ready at ha ⊢;by_cases h0:g.at_= -1;rw[if_pos h0]at ha ⊢;unfold Mg.begun at ha ⊢;split;rename_i h1;rw[if_pos h1]at ha;exact absurd h0 ha;rename_i h1;have hi:g.freeI.toNat<g.l.length:=by have:=g.freeI_lt;omega
 have h2:=count_set 0 g.l g.freeI.toNat ⟨1,0,(g.blk g.freeI.toNat).r,0⟩ hi;have h3:(g.l.getD g.freeI.toNat default).s=0:=Mg.freeI_free aa;rw[if_pos h3,if_neg (show ¬(1:Int)=0 by decide)]at h2;unfold Mg.need;rw[if_pos h0];show aN 0 (g.l.set _ _)+2<=_;omega;rw[if_neg h0];unfold Mg.need;rw[if_neg h0];exact aj
def Mg.ok.ready {c:NP.bX}(h:g.ok c)(hP:0<c.P):g.ready.ok c:=by
 unfold Mg.ready;split;rename_i h0;exact h.begun hP h0;exact h
structure PSt (aA:Nat)(w:acL)(m:Nat)(G:iL)(M:dA)(l:List Nat)(R:(Int×Int×Int)×NP.bX×Mg)(k:Nat)(wr:acL)(g:Mg)(M':dA):Prop where
 goes:bJ aA w m G M wr g M'
 vok:M'.view.ok
 lL:g.ok M'.view
 eq:R=Mg.progTo l k M'.view g
 need:g.need<=k
 P:M'.P=M.P
def nC (h:Held aA w m G M)(hok:M.view.ok)(hg:G.view.ok M.view)(a:Option Addr)(l:List Nat)(c:Nat)(hr:dx aA w a l) :
  ac4 prog 173 #[ptr m,aco a l.length c] w (qh aA w m G M (G.view.program l M.view)):=by
 have dN:Hid (G.view.program l M.view=if M.down then ((0,0,4),M.view,G.view) else if l.length≠M.S+32 then ((0,0,1),M.view,G.view) else Mg.progTo l (aN 0 G.l+2) M.view G.view):=az rfl;have HR:=az (ou h);have H:=az h;have vM:=az hok;have Y6:=az hg;have HRW:=az hr;have hS:=(EY hok).1;obtain⟨c0,c1,c2,c3,c4,c5⟩:=h.cells;clear c1 c2 c3 c4 c5;by_cases hd:M.down=true
 ·rw[hd,if_pos rfl]at HR dN;clear h hok hg hr hd;go_in;go_wp2_with fail;go_step3;go_wp2_with fail;refine HR.o.mono ?_;rintro e w' ⟨rfl,rfl⟩;go_wp2_with fail;rw[acY];go_ret3;exact qh.mk dN.o (bJ.refl H.o) rfl
 have hd':M.down=false:=by simpa using hd
 rw[hd',if_neg ai]at HR dN;by_cases hl:l.length=M.S+32
 ·rw[if_neg (by simpa using hl)]at dN;have hq:((l.length:Int) != (M.S:Int)+32)=false:=by rw[hl];simp
  have hP4:Hid (4<=M.P/\M.P<=32):=az (by
   have:NP.bH M.B M.P M.S=true:=hok.right
   unfold NP.bH at this
   simp only[Bool.and_eq_true,decide_eq_true_eq]at this
   omega)
  clear h hok hg hr hd hd' hl;go_in;go_wp2_with fail;go_step3;go_wp2_with fail;refine HR.o.mono ?_;rintro e w' ⟨rfl,rfl⟩;go_wp2_with fail;refine(iZ H.o.aW).mono ?_;rintro e w1 ⟨rfl,hb1⟩;have hf:=field_g2;have hst:PSt aA w' m G M l (G.view.program l M.view) (aN 0 G.l+2) w1 G.view M:=⟨bJ.aX H.o hb1,vM.o,Y6.o,dN.o,by unfold Mg.need;split<;>simp,rfl⟩;have HST:=az hst;generalize G.view.program l M.view=R at*;clear hb1 c0 hst;go_wp2_with fail;clear hf;go_step3;go_wp2_with fail;go_loopg [8,9,10] (aN 0 G.l+2) (λn s8 s9 s10 wr=>∃(x y:Int) (g:Mg) (M':dA),s8=vi x/\s9=vi y/\s10=vi 40/\Hid (PSt aA w' m G M l R n wr g M'))
  case atStart=>exact⟨0,0,G.view,M,rfl,rfl,rfl,HST⟩
  case round =>
   clear HST;obtain⟨x,y,g,M',rfl,rfl,rfl,HST⟩:=hrel;obtain⟨n,rfl⟩:∃n,gk=n+1:=⟨gk-1,by have:=HST.o.need;unfold Mg.need at this;split at this<;>omega⟩;have k2:wr.cell? ⟨m,2,none⟩=some (vi g.at_):=HST.o.goes.at_.cells.2.2.1;have HE:=az HST.o.eq;rw[nE]at HE;have hg1:0<M'.view.P:=by have h1:=hP4.o;have h2:=HST.o.P;show 0<M'.P;omega
   have HGR:=az (HST.o.lL.ready hg1);have Sa:=az (λh=>Nat.le_trans (Mg.Km (g:=g) h) HST.o.need);have HVK:=az HST.o.vok;have AR:=az HST.o.P;clear hg1;go_upto_region 7 with fail;go_cut [35] from 27 to 94 (λv wx=>v=acg (g.ready.at_ != -1)/\Hid (bJ aA w' m G M wx g.ready M'))
   case first =>
    by_cases ha:g.at_= -1
    ·have haq:(g.at_ != -1)=false:=by simp[ha]
     have bK:Hid (g.ready=g.begun):=az (by unfold Mg.ready;rw[if_pos ha]);have yB:Hid (decide (0<=g.freeI)=(g.begun.at_ != -1)):=az (by
      unfold Mg.begun
      split
      rename_i h1
      rw[decide_eq_false aa,haq]
      rename_i h1
      rw[decide_eq_true aa]
      have:(g.gU g.freeI.toNat).at_=g.freeI.toNat:=rfl
      rw[this];simp only[Bool.true_eq,bne_iff_ne,ne_eq];omega)
     clear ha;go_wp2_with fail;refine(sH HST.o.goes.at_).mono ?_;rintro e wx ⟨rfl,hgx⟩;have HGX:=az (HST.o.goes.trans hgx);clear hgx;rw[show (iL.view (G.lay g)).freeI=g.freeI from rfl,yB.o];go_wp2;go_meet;exact⟨by rw[bK.o],by rw[bK.o];exact HGX⟩
    have haq:(g.at_ != -1)=true:=by simp[ha]
    have bK:Hid (g.ready=g):=az (by unfold Mg.ready;rw[if_neg ha]);clear ha;go_wp2;go_meet;exact⟨by rw[bK.o,haq],by rw[bK.o];exact az HST.o.goes⟩
   case rest =>
   obtain⟨rfl,HG2⟩:=hcut;clear k2 HST;generalize g.ready=g2 at*;by_cases ha:g2.at_= -1
   ·have haq:(g2.at_ != -1)=false:=by simp[ha]
    have HE2:Hid (R=((0,0,40),M'.view,g2)):=az (by rw[HE.o];unfold Mg.mI;rw[if_pos ha]);clear ha;go_wp2_with fail;rw[acY];go_ret3;exact qh.mk HE2.o HG2.o rfl
   have haq:(g2.at_ != -1)=true:=by simp[ha]
   rcases HGR.o.QP with e|⟨i,hat,hi,hsi⟩;exact absurd e ha;have hx:=HGR.o.open_ (g2.blk i) (dG hi) hsi;have hr:=HGR.o.QO (g2.blk i) (dG hi);have hE:R=Mg.mI l n M'.view g2:=HE.o;unfold Mg.mI at hE;dsimp only at hE;rw[if_neg ha,hat,Int.toNat_natCast]at hE;have hact:=NP.qP HVK.o (faults_small HG2.o.at_.aW.faults) (.program i (g2.blk i).n l) HRW.o.row.small;change (NP.program M'.view i (g2.blk i).n l).2.ok/\_ at hact;have hBP:=Kk M'.view i (g2.blk i).n l;have JS:Hid (∀w',bJ aA w' m (G.lay g2) M' w' g2 M'->dx aA w' a l->ac4 prog 204 #[ptr G.k,vi i,vi (g2.blk i).n,aco a l.length c] w' (dD aA w' G.k M' (NP.program M'.view i (g2.blk i).n l))):=az (λw' h hr=>Fh h.at_.aW HVK.o i _ a l c hr)
   have HNC:Hid ((g2.close i).need<=n):=az (by
    have h1:=Mg.Kl hi hat hsi
    have h2:=Sa.o ha
    omega)
   have Dj:Hid ((g2.close i).ok M'.view):=az (HGR.o.close hi);have yD:=az hi;have hP2:M'.view.P=M.P:=AR.o;have hP5:=hP4.o;rw[hP2]at hx hr hE;have k0:wc.cell? ⟨m,0,none⟩=some (ptr G.k):=HG2.o.at_.cells.1;have k1:wc.cell? ⟨m,1,none⟩=some (aco (some ⟨G.gl,0,none⟩) g2.l.length G.cl):=HG2.o.at_.cells.2.1;have k2:wc.cell? ⟨m,2,none⟩=some (vi i):=by have:=HG2.o.at_.cells.2.2.1;rw[<-hat];exact this
   obtain⟨d0,d1,d2,d3⟩:=HG2.o.at_.j3 (i:=i) hi;change _=some (vi (g2.blk i).n) at d3;have hi0:(0:Int)<=(i:Int):=aa;have hi1:(i:Int)<(g2.l.length:Int):=aa;generalize AV:g2.blk i=x at*;generalize hr1:(NP.program M'.view i x.n l).1=r1 at*;generalize hr2:(NP.program M'.view i x.n l).2=V2 at*;have HX:=az AV;have HR1:=az hr1;have HR2:=az hr2;have HE2:=az hE;have ahe:=az hact;have HBP:=az hBP;have HXB:=az hx;have vN:=az hr;clear ha hat hi hsi hx hr hE hact hBP hP2 AV hr1 hr2 d0 d1 d2 HE;obtain⟨xs,xl,xr,xn⟩:=x;dsimp only at*;go_wp2_with fail;refine(JS.o _ (bJ.refl HG2.o.at_) (HRW.o.aJ HG2.o.aJ H.o.mine)).mono ?_
   rintro e wd ⟨Md,rfl,hgd,hvd⟩;rw[HR1.o];rw[HR2.o]at hvd;have oC:=az (HG2.o.trans (HG2.o.at_.jG hgd));have V5:=az hvd;clear hgd hvd k0 k1 k2 d3;by_cases e10:r1=10
   ·subst e10;have WL:Hid (R=Mg.progTo l n V2 (g2.close i)):=az (by rw[HE2.o,if_pos rfl]);clear HE2;go_wp2_with fail;refine(xy oC.o.at_ i yD.o).mono ?_;rintro e we ⟨rfl,hge⟩;have AX:=az (oC.o.trans hge);clear hge;go_wp2_with fail;go_roundg n
    case measure=>omega
    case rel =>
     refine⟨i,xn,g2.close i,Md,rfl,rfl,rfl,az ⟨AX.o,by rw[V5.o];exact ahe.o.1,Dj.o.aW (by rw[V5.o];exact HBP.o.1) (by rw[V5.o];exact HBP.o.2.1),by rw[V5.o];exact WL.o,HNC.o,?_⟩⟩;have h1:Md.view.P=M'.view.P:=by rw[V5.o];exact HBP.o.2.1
     exact h1.trans AR.o
   have q10:(r1==10)=false:=beq_eq_false_iff_ne.2 e10;by_cases e0:r1=0
   ·subst e0;rw[if_neg ag,if_pos rfl]at HE2;have k0:wd.cell? ⟨m,0,none⟩=some (ptr G.k):=oC.o.at_.cells.1;obtain⟨d0,d1,d2,d3⟩:=oC.o.at_.j3 (i:=i) yD.o;change wd.cell? _=some (vi (g2.blk i).l) at d1;change wd.cell? _=some (vi (g2.blk i).n) at d3;rw[HX.o]at d1 d3;dsimp only at d1 d3;have z1:=oC.o.at_.mgr.row.frozen (i*4+1);have z3:=oC.o.at_.mgr.row.frozen (i*4+3);have hx:=HXB.o;have hr:=vN.o;have q1:adk.wrap (xn+1)=xn+1:=adl _ aa;have q2:adk.wrap (xl+1)=xl+1:=adl _ aa;have HY:Hid (bJ aA w' m G M ((wd.setCell ⟨G.gl,i*4+3,none⟩ (vi (xn+1))).setCell ⟨G.gl,i*4+1,none⟩ (vi (xl+1))) (g2.put i ⟨xs,xl+1,xr,xn+1⟩) Md):=az (by
     have hx2:(iL.lay G g2).l.getD i default=⟨xs,xl,xr,xn⟩:=HX.o
     have h1:=oC.o.at_.cell (i:=i) (j:=3) yD.o ag (vi (xn+1)) ⟨xs,xl,xr,xn+1⟩ (by rw[hx2];rfl)
     have h2:=h1.at_.cell (i:=i) (j:=1) (by simpa[Mg.put] using yD.o) ag (vi (xl+1)) ⟨xs,xl+1,xr,xn+1⟩ (by dsimp only[iL.lay,Mg.put,iL.view];rw[il _ _ _ _ yD.o,if_pos rfl];rfl)
     have h3:=oC.o.trans (h1.trans h2)
     simpa only[Mg.put,iL.view,iL.lay,List.set_set] using h3)
    have Oe:Hid (∀n:Sub ((wd.setCell ⟨G.gl,i*4+3,none⟩ (vi (xn+1))).setCell ⟨G.gl,i*4+1,none⟩ (vi (xl+1))),ac4 prog 201 #[ptr m] n.w λe w'=>e=ab4 (vi Md.P)/\acN n.w.heap.size n.w w'):=az (λn=>om (HY.o.at_.mgr.old n.below) (HY.o.at_.aW.old n.below));have hMP:Md.P=M.P:=by
     have h1:Md.view.P=M'.view.P:=by rw[V5.o];exact HBP.o.2.1
     exact h1.trans AR.o
    rw[hMP]at Oe;have HCI:=az (show i<(g2.put i ⟨xs,xl+1,xr,xn+1⟩).l.length by simpa[Mg.put] using yD.o);clear d0 d2 hMP e10;generalize g2.put i ⟨xs,xl+1,xr,xn+1⟩=g3 at*;go_upto_region 19 with fail;have e3:((wd.setCell ⟨G.gl,i*4+3,none⟩ (vi (xn+1))).setCell ⟨G.gl,i*4+1,none⟩ (vi (xl+1))).cell? ⟨G.gl,i*4+3,none⟩=some (vi (xn+1)):=by
     rw[ac6 _ _ _ _ (by intro e;injection e with _ e;omega)];go_simp
    generalize (wd.setCell ⟨G.gl,i*4+3,none⟩ (vi (xn+1))).setCell ⟨G.gl,i*4+1,none⟩ (vi (xl+1))=we at*;have e3:=Sub.cell e3;clear d1 d3 z1 z3 k0;refine aZ ah ah ?_;repeat (go_big_quiet_step (exact fM (Oe.o _)))
    refine wpQuiet_nil ?_;rintro _ ⟨nq,rfl⟩;have HZ:=az (HY.o.old nq.below);clear e3;by_cases hnp:xn+1=(M.P:Int)
    ·have hnq:(xn+1==(M.P:Int))=true:=beq_iff_eq.2 hnp;have WL:Hid (R=(((i:Int),xn,0),V2,g3.close i)):=az (by rw[HE2.o,if_pos hnp]);clear hnp HE2 hx hr;go_wp2_with fail;refine(xy HZ.o.at_ i HCI.o).mono ?_;rintro e wf ⟨rfl,hgf⟩;have HGF:=az (HZ.o.trans hgf);clear hgf;go_wp2_with fail;rw[acY];go_ret3;exact qh.mk WL.o HGF.o V5.o
    have hnq:(xn+1==(M.P:Int))=false:=beq_eq_false_iff_ne.2 hnp;have WL:Hid (R=(((i:Int),xn,0),V2,g3)):=az (by rw[HE2.o,if_neg hnp]);clear hnp HE2 hx hr;go_wp2_with fail;rw[acY];go_ret3;exact qh.mk WL.o HZ.o V5.o
   have q0:(r1==0)=false:=beq_eq_false_iff_ne.2 e0;have q0':(r1 != 0)=true:=by simp[e0]
   by_cases e11:r1=11
   ·subst e11;have WL:Hid (R=(((i:Int),xn,11),V2,g2.close i)):=az (by rw[HE2.o,if_neg ag,if_neg ag,if_pos rfl]);clear HE2;go_wp2_with fail;refine(xy oC.o.at_ i yD.o).mono ?_;rintro e we ⟨rfl,hge⟩;have AX:=az (oC.o.trans hge);clear hge;go_wp2_with fail;rw[acY];go_ret3;exact qh.mk WL.o AX.o V5.o
   have q11:(r1==11)=false:=beq_eq_false_iff_ne.2 e11;have amB:(r1 != 11)=true:=by simp[e11]
   have WL:Hid (R=((0,0,r1),V2,g2)):=az (by rw[HE2.o,if_neg e10,if_neg e0,if_neg e11]);clear HE2 e10 e0 e11;go_wp2_with fail;rw[acY];go_ret3;exact qh.mk WL.o oC.o V5.o
 have HD2:Hid (G.view.program l M.view=((0,0,1),M.view,G.view)):=az (by rw[dN.o,if_pos hl]);have hq:((l.length:Int) != (M.S:Int)+32)=true:=by simp only[bne_iff_ne,ne_eq];omega
 clear h hok hg hr hd hd' hl dN;go_in;go_wp2_with fail;go_step3;go_wp2_with fail;refine HR.o.mono ?_;rintro e w' ⟨rfl,rfl⟩;go_wp2_with fail;refine(iZ H.o.aW).mono ?_;rintro e w1 ⟨rfl,hb1⟩;have hf:=field_g2;have qI:=az (bJ.aX H.o hb1);clear hb1 c0;go_wp2_with fail;rw[acY];go_ret3;exact qh.mk HD2.o qI.o rfl
def Mg.bV (c:NP.bX)(g1:Mg)(i:Nat)(e:Int):Int×NP.bX×Mg :=
 if e=0 then (0,c,(g1.put i ⟨0,0,NP.bC c i,0⟩).shut i)
 else if e=11 then (11,(Mg.gone c g1 i).2)
 else (e,c,g1)
def OA {c:NP.bX}{k:Int}(hz:g.idle c k=0):∃i:Nat,k=i/\i<g.l.length:=by
 unfold Mg.idle at hz;split at hz;simp at hz;split at hz;simp at hz;rename_i h1 h2;obtain⟨i,h3,h4,_⟩:=xC (k:=k) (g:=g) (by
  cases ht:g.there k
  exact absurd (ack ht) h2
  rfl)
 exact⟨i,h3,h4⟩
def Kn {k:Nat}(h:aT aA w k M)(hok:M.view.ok)(j:Int):ac4 prog 86 #[ptr k,vi j] w (dD aA w k M (NP.erase M.view j)):=sJ h hok j
def Sb {V:NP.bX}{M':dA}(hv:M'.view=V)(hok:V.ok)(j:Int):vI M' j=NP.bC V j:=by rw[uN M' (by rw[hv];exact hok),hv]
def sJ (h:Held aA w m G M)(hok:M.view.ok)(k:Int):ac4 prog 217 #[ptr m,vi k] w (ow aA w m G M (G.view.erase M.view k)):=by
 have HI:=az (RZ h k);have H:=az h;by_cases hz:G.view.idle M.view k=0
 ·obtain⟨i,rfl,hi⟩:=OA hz;have hi0:(0:Int)<=(i:Int):=aa;have hi1:(i:Int)<(G.l.length:Int):=by
   have:i<G.l.length:=hi;omega
  have yD:Hid (i<G.l.length):=az hi;obtain⟨c0,c1,c2,c3,c4,c5⟩:=h.cells;obtain⟨d0,d1,d2,d3⟩:=h.j3 hi;have dN:Hid (G.view.erase M.view i=if (G.l.getD i default).s=1/\0<(G.l.getD i default).n then (1,M.view,G.view) else
    Mg.bV (NP.erase M.view i).2 (G.view.put i {G.l.getD i default with r:=NP.bC (NP.erase M.view i).2 i}) i (NP.erase M.view i).1):=az (by
   unfold Mg.erase Mg.bV
   dsimp only
   rw[hz,if_neg ai,Int.toNat_natCast])
  rw[hz]at HI;by_cases ho:(G.l.getD i default).s=1/\0<(G.l.getD i default).n
  ·rw[if_pos ho]at dN;have hs:((G.l.getD i default).s==1)=true:=beq_iff_eq.2 ho.1;have hn:=ho.2;generalize (G.l.getD i default).s=xs at*;generalize (G.l.getD i default).n=xn at*;clear h hok hz hi d1 d2 c0 c2 c3 c4 c5 ho;go_in;go_wp2_with fail;refine HI.o.mono ?_;rintro e w' ⟨rfl,rfl⟩;go_wp2;go_ret;exact ow.mk dN.o (bJ.refl H.o) rfl
  rw[if_neg ho]at dN;have hact:=(NP.qP hok (faults_small h.aW.faults) (.erase i) trivial).1;change (NP.erase M.view i).2.ok at hact;have HE:=az (Kn h.aW hok i);generalize hr1:(NP.erase M.view i).1=r1 at*;generalize hr2:(NP.erase M.view i).2=V2 at*;have WH:=az hact;have HE2:Hid (ac4 prog 86 #[ptr G.k,vi i] w λe w'=>∃M',e=ab4 (vi r1)/\Goes aA w G.k M w' M'/\M'.view=V2):=az (HE.o.mono (by
   rintro e w' ⟨M',he,hg,hv⟩
   exact⟨M',by rw[he,hr1],hg,by rw[hv,hr2]⟩))
  clear hr1 hr2 hact HE h hok hz hi c2 c3 c4 c5 d1 d2;have hdec:((G.l.getD i default).s==1)=false\/(((G.l.getD i default).s==1)=true/\¬0<(G.l.getD i default).n):=by
   by_cases hs:(G.l.getD i default).s=1;exact acm ⟨beq_iff_eq.2 hs,λhn=>ho ⟨hs,hn⟩⟩;exact ack (beq_eq_false_iff_ne.2 hs)
  clear ho;generalize (G.l.getD i default).s=xs at d0 hdec;generalize (G.l.getD i default).n=xn at d3 hdec;have OB:=az hdec;clear hdec;go_in;go_wp2_with fail;refine HI.o.mono ?_;rintro e w' ⟨rfl,rfl⟩;go_upto_region 4 with fail;go_cut [32] from 13 to 32 (λv wx=>v=acg false/\wx=w')
  case first =>
   rcases OB.o with hs|⟨hs,hn⟩
   ·go_wp2;go_meet;exact⟨rfl,rfl⟩
   have hn':decide (0<xn)=false:=decide_eq_false aa;go_wp2;go_meet;exact⟨rfl,rfl⟩
  case rest =>
  obtain⟨rfl,rfl⟩:=hcut;clear OB d0 d3;go_wp2_with fail;refine HE2.o.mono ?_;rintro e w1 ⟨M',rfl,hg,hv⟩;have qI:=az (H.o.jG hg);have HV:=az hv;have HW:=az (λw' (hc:aT aA w' G.k M')=>Aw hc i);rw[Sb hv WH.o]at HW;clear hg hv c0 c1;have k0:w1.cell? ⟨m,0,none⟩=some (ptr G.k):=qI.o.at_.cells.1;have k1:w1.cell? ⟨m,1,none⟩=some (aco (some ⟨G.gl,0,none⟩) G.l.length G.cl):=qI.o.at_.cells.2.1;have d2:=(qI.o.at_.j3 yD.o).2.2.1;have z2:=qI.o.at_.mgr.row.frozen (i*4+2);have hne:Hid (G.gl≠m):=az (λe=>H.o.ne e.symm);have hne1:¬G.gl=m:=hne.o;have HS:Hid (w1.drew.cell? ⟨m,0,none⟩=some (ptr G.k)/\w1.drew.cell? ⟨m,1,none⟩=some (aco (some ⟨G.gl,0,none⟩) G.l.length G.cl)):=az ⟨k0,k1⟩
  have Om:Hid (∀o j,(⟨G.gl,o,none⟩:Addr)≠⟨m,j,none⟩):=az (λo j e=>hne.o (by injection e));have V4:=az (HW.o _ (qI.o.at_.aW.old au));have HG2:Hid (bJ aA wc m G M (w1.setCell ⟨G.gl,i*4+2,none⟩ (vi (NP.bC V2 i))).drew (G.view.put i {G.l.getD i default with r:=NP.bC V2 i}) M'):=az
   ((qI.o.trans (qI.o.at_.cell (i:=i) (j:=2) yD.o ag (vi (NP.bC V2 i)) {G.l.getD i default with r:=NP.bC V2 i} rfl)).old au)
  have Kj:Hid ((G.view.put i {G.l.getD i default with r:=NP.bC V2 i}).l.length=G.l.length):=az (by simp[Mg.put]);generalize G.view.put i {G.l.getD i default with r:=NP.bC V2 i}=g1 at*;generalize (G.l.getD i default).r=xr at*;go_upto_region 7 with fail;go_region_held3 (λw'=>w'.cell? ⟨m,0,none⟩=some (ptr G.k)/\w'.cell? ⟨m,1,none⟩=some (aco (some ⟨G.gl,0,none⟩) G.l.length G.cl))
   (first
    |exact HS.o
    |exact⟨(ac6 _ _ _ _ (Om.o _ _)).trans HS.o.1,(ac6 _ _ _ _ (Om.o _ _)).trans HS.o.2⟩)
   (first|(go_at_call 123;refine V4.o.mono ?_;rintro e w' ⟨rfl,rfl⟩))
  change Exit.then _ _ _ _ (w1.setCell ⟨G.gl,i*4+2,none⟩ (vi (NP.bC V2 i))).drew;clear k0 k1 d2 z2 HS V4 qI;generalize (w1.setCell ⟨G.gl,i*4+2,none⟩ (vi (NP.bC V2 i))).drew=w2 at*;have ahg:Hid (M'.view.ok):=az (by rw[HV.o];exact WH.o);by_cases h0:r1=0
  ·subst h0;have yE:Hid (G.view.erase M.view i=(0,V2,(g1.put i ⟨0,0,NP.bC V2 i,0⟩).shut i)):=az (by rw[dN.o];rfl);have k0:w2.cell? ⟨m,0,none⟩=some (ptr G.k):=HG2.o.at_.cells.1;have k1:w2.cell? ⟨m,1,none⟩=some (aco (some ⟨G.gl,0,none⟩) G.l.length G.cl):=by
    rw[<-Kj.o];exact HG2.o.at_.cells.2.1
   have hi3:i<g1.l.length:=by rw[Kj.o];exact yD.o
   obtain⟨d0,d1,d2,d3⟩:=HG2.o.at_.j3 hi3;have z:=λj=>HG2.o.at_.mgr.row.frozen j
   have zz0:=z (i*4);have zz1:=z (i*4+1);have zz2:=z (i*4+2);have zz3:=z (i*4+3);have HS:Hid (w2.drew.cell? ⟨m,0,none⟩=some (ptr G.k)/\w2.drew.cell? ⟨m,1,none⟩=some (aco (some ⟨G.gl,0,none⟩) G.l.length G.cl)):=az ⟨k0,k1⟩;have V4:=az (HW.o _ (HG2.o.at_.aW.old au));have uO:Hid (bJ aA wc m G M ((((w2.setCell ⟨G.gl,i*4,none⟩ (vi 0)).setCell ⟨G.gl,i*4+1,none⟩ (vi 0)).setCell ⟨G.gl,i*4+2,none⟩ (vi (NP.bC V2 i))).setCell ⟨G.gl,i*4+3,none⟩ (vi 0)).drew (g1.put i ⟨0,0,NP.bC V2 i,0⟩) M'):=az
    ((HG2.o.trans (HG2.o.at_.block (i:=i) hi3 ⟨0,0,NP.bC V2 i,0⟩)).old au)
   dsimp only[iL.lay]at d0 d1 d2 d3;generalize (g1.l.getD i default).s=y0 at*;generalize (g1.l.getD i default).l=y1 at*;generalize (g1.l.getD i default).r=y2 at*;generalize (g1.l.getD i default).n=y3 at*;clear z HW hi3 dN;go_upto_region 11 with fail;go_region_held3 (λw'=>w'.cell? ⟨m,0,none⟩=some (ptr G.k)/\w'.cell? ⟨m,1,none⟩=some (aco (some ⟨G.gl,0,none⟩) G.l.length G.cl))
    (first
     |exact HS.o
     |exact⟨(Ff hne.o).trans HS.o.1,(Ff hne.o).trans HS.o.2⟩)
    (first|(go_at_call 123;refine V4.o.mono ?_;rintro e w' ⟨rfl,rfl⟩))
   change Exit.then _ _ _ _ ((((w2.setCell ⟨G.gl,i*4,none⟩ (vi 0)).setCell ⟨G.gl,i*4+1,none⟩ (vi 0)).setCell ⟨G.gl,i*4+2,none⟩ (vi (NP.bC V2 i))).setCell ⟨G.gl,i*4+3,none⟩ (vi 0)).drew;clear k0 k1 d0 d1 d2 d3 zz0 zz1 zz2 zz3 HS V4 HG2;generalize ((((w2.setCell ⟨G.gl,i*4,none⟩ (vi 0)).setCell ⟨G.gl,i*4+1,none⟩ (vi 0)).setCell ⟨G.gl,i*4+2,none⟩ (vi (NP.bC V2 i))).setCell ⟨G.gl,i*4+3,none⟩ (vi 0)).drew=w3 at*;have k2:w3.cell? ⟨m,2,none⟩=some (vi g1.at_):=uO.o.at_.cells.2.2.1;have z2:=uO.o.at_.mgr.mgr.frozen 2;by_cases ha:(i:Int)=g1.at_
   ·have hq:((i:Int)==g1.at_)=true:=beq_iff_eq.2 ha;have HE:=az (uO.o.shut (i:=i) ha);clear ha;go_wp2;go_ret;exact ow.mk yE.o HE.o HV.o
   have hq:((i:Int)==g1.at_)=false:=beq_eq_false_iff_ne.2 ha;have HE:=az (uO.o.EU (i:=i) ha);clear ha;go_wp2;go_ret;exact ow.mk yE.o HE.o HV.o
  have hq0:(r1==0)=false:=beq_eq_false_iff_ne.2 h0;by_cases h11:r1=11
  ·subst h11;have yE:Hid (G.view.erase M.view i=(11,(Mg.gone V2 g1 i).2)):=az (by rw[dN.o];rfl);clear hq0 h0 dN;go_wp2_with fail;refine(R3 HG2.o.at_ ahg.o i (by dsimp only[iL.lay];rw[Kj.o];exact yD.o)).mono ?_;rintro e w3 ⟨M3,rfl,hg3,hv3⟩;rw[HV.o]at hg3 hv3;have iR:=az (HG2.o.trans hg3);have CV:=az hv3;clear hg3 hv3;rw[HV.o];change Hid (bJ aA wc m G M w3 (Mg.gone V2 g1 i).2.2 M3) at iR;change Hid (M3.view=(Mg.gone V2 g1 i).2.1) at CV;generalize Mg.gone V2 (iL.lay G g1).view i=X at*;go_wp2;go_ret;exact⟨M3,bS (by rw[yE.o]),by rw[yE.o];exact iR.o,by rw[yE.o];exact CV.o⟩
  have hq1:(r1==11)=false:=beq_eq_false_iff_ne.2 h11;have yE:Hid (G.view.erase M.view i=(r1,V2,g1)):=az (by rw[dN.o];unfold Mg.bV;rw[if_neg h0,if_neg h11]);clear h0 h11 dN;go_wp2;go_ret;exact ow.mk yE.o HG2.o HV.o
 have dN:Hid (G.view.erase M.view k=(G.view.idle M.view k,M.view,G.view)):=az (by unfold Mg.erase;dsimp only;rw[if_pos hz]);generalize G.view.idle M.view k=n at*;have hzq:(n != 0)=true:=by simp[hz]
 clear h hok hz;go_in;go_wp2_with fail;refine HI.o.mono ?_;rintro e w' ⟨rfl,rfl⟩;go_wp2;go_ret;exact ow.mk dN.o (bJ.refl H.o) rfl
structure gW (c:NP.bX):Prop where
 ok:c.ok
 small:NP.small c.fs
 order:c.order
def gW.act {c:NP.bX}(h:gW c)(a:NP.Act)(ha:a.fine):gW (NP.act c a):=by
 obtain⟨h1,h2⟩:=NP.qP h.ok h.small a ha;exact⟨h1,h2,NP.N7 h.ok h.order a⟩
def OC {b p s:Int}{bad:List Int}{d:NP.bX}(e:NP.new b p s bad=some d):gW d:=by
 obtain⟨h1,h2,h3,_⟩:=NP.aal e;exact⟨h1,(by rw[h3];exact λf hf=>by cases hf),h2⟩
def Mg.jD (g:Mg):iL:=⟨0,g.l,0,0,g.at_,g.aC,g.bad,g.even⟩
def Mg.ok.fit {c:NP.bX}(h:g.ok c)(hB:c.B<=128)(hP:c.P<=32):g.jD.fit c.P:=by
 refine⟨by have:=h.len;show g.l.length<=128;omega,hP,?_⟩;rcases h.QP with e|⟨i,e,hi,hs⟩;exact ack e;have h1:=h.open_ _ (dG hi) hs;have h2:=h.QO _ (dG hi);exact acm ⟨i,e,hi,h2.2.2.2.2.1,h2.2.2.2.2.2⟩
def iL.fit_of {P:Nat}(hv:G.view=g)(h:g.jD.fit P):G.fit P:=by subst hv;exact h
def Sc (hv:G.view=g)(P:Nat):AU G P=AU g.jD P:=by subst hv;rfl
inductive fI (E:Int->Prop)(c:NP.bX):NP.bX->Prop where
 |refl:fI E c c
 |step {c':NP.bX} (a:NP.Act):fI E c c'->a.fine->(∀k,a=.erase k->E k)->fI E c (NP.act c' a)
def sK (c:NP.bX)(a:NP.Act):(NP.act c a).B=c.B/\(NP.act c a).P=c.P/\(NP.act c a).S=c.S:=by
 cases a with
 |program k p b =>
  unfold NP.act NP.program;dsimp only;repeat (first|exact⟨rfl,rfl,rfl⟩|split)
 |erase k =>
  unfold NP.act NP.erase;dsimp only;repeat (first|exact⟨rfl,rfl,rfl⟩|split)
 |mark k =>
  unfold NP.act NP.mark;dsimp only;repeat (first|exact⟨rfl,rfl,rfl⟩|split)
 |read k p =>
  unfold NP.act NP.bQ;dsimp only;repeat (first|exact⟨rfl,rfl,rfl⟩|split)
 |Wv=>exact⟨rfl,rfl,rfl⟩
 |start=>exact⟨rfl,rfl,rfl⟩
 |none=>exact⟨rfl,rfl,rfl⟩
 |script l =>
  show (NP.script c l).2.B=c.B/\(NP.script c l).2.P=c.P/\(NP.script c l).2.S=c.S;unfold NP.script;split<;>exact⟨rfl,rfl,rfl⟩
section
variable{E E':Int->Prop}{c c' c'':NP.bX}
def fI.trans (h:fI E c c')(q:fI E c' c''):fI E c c'':=by
 induction q with
 |refl=>exact h
 |step a _ h2 h3 ih=>exact .step a ih h2 h3
def fI.mono (h:fI E c c')(hE:∀k,E k->E' k):fI E' c c':=by
 induction h with
 |refl=>exact .refl
 |step a _ h2 h3 ih=>exact .step a ih h2 (λk e=>hE k (h3 k e))
def fI.good (h:fI E c c')(hg:gW c):gW c':=by
 induction h with
 |refl=>exact hg
 |step a _ h2 _ ih=>exact ih.act a h2
def fI.bI (h:fI E c c'):c'.B=c.B/\c'.P=c.P/\c'.S=c.S:=by
 induction h with
 |refl=>exact⟨rfl,rfl,rfl⟩
 |step a _ _ _ ih =>
  exact⟨(sK _ a).1.trans ih.1,(sK _ a).2.1.trans ih.2.1,(sK _ a).2.2.trans ih.2.2⟩
def fI.one (a:NP.Act)(h2:a.fine)(h3:∀k,a=.erase k->E k):fI E c (NP.act c a):=.step a .refl h2 h3
def Mg.ok.acts (h:g.ok c)(q:fI E c c'):g.ok c':=h.aW q.bI.1 q.bI.2.1
def sM (h:c.ok):8<=c.B/\c.B<=128/\4<=c.P/\c.P<=32/\64<=c.S:=by
 have:NP.bH c.B c.P c.S=true:=h.right;unfold NP.bH at this;simp only[Bool.and_eq_true,decide_eq_true_eq,Bool.or_eq_true,beq_iff_eq]at this;omega
end
section
variable{c:NP.bX}{g:Mg}{b:List Nat}
def yF (hb:∀y∈b,y<256):∀(n:Nat) (c:NP.bX) (g:Mg),fI (λ_=>False) c (Mg.progTo b n c g).2.1
 |0,c,g=>.refl
 |n+1,c,g=>by
  rw[nE]
  unfold Mg.mI
  dsimp only
  generalize g.ready=g
  split
  exact .refl
  have h1:fI (λ_=>False) c (NP.program c g.at_.toNat (g.blk g.at_.toNat).n b).2:=.one (.program g.at_.toNat (g.blk g.at_.toNat).n b) hb (λk e=>by cases e)
  split
  exact h1.trans (yF hb n _ _)
  split
  exact h1
  split<;>exact h1
def kC (hb:∀y∈b,y<256):fI (λ_=>False) c (Mg.program b c g).2.1:=by
 unfold Mg.program;split;exact .refl;split;exact .refl;exact yF hb _ _ _
def Mg.ok.more (h:g.ok c)(hi:i<g.l.length)(ha:g.at_=i)(hs:(g.blk i).s=1) :
  (if (g.blk i).n+1=c.P then (g.put i {g.blk i with n:=(g.blk i).n+1,l:=(g.blk i).l+1}).close i else g.put i {g.blk i with n:=(g.blk i).n+1,l:=(g.blk i).l+1}).ok c:=by
 obtain⟨h1,h2,h3,h4,h5,h6⟩:=h.QO (g.blk i) (dG hi);obtain⟨h7,h8⟩:=h.open_ (g.blk i) (dG hi) hs;split;rename_i e;have e1:(g.put i {g.blk i with n:=(g.blk i).n+1,l:=(g.blk i).l+1}).close i={g with l:=g.l.set i (dH {g.blk i with n:=(g.blk i).n+1,l:=(g.blk i).l+1}),at_:=if (i:Int)=g.at_ then -1 else g.at_}:=by
  unfold Mg.close Mg.shut Mg.put Mg.blk;dsimp only;rw[il _ _ _ _ hi,if_pos rfl,List.set_set]
 rw[e1];refine h.lay hi _ ?_ ?_ ?_ _ ?_ (λ_=>rfl);unfold dH;dsimp only;split<;>omega;unfold dH;dsimp only;split<;>omega;unfold dH;dsimp only;split<;>omega;unfold dH;dsimp only;split<;>omega;have e1:g.put i {g.blk i with n:=(g.blk i).n+1,l:=(g.blk i).l+1}={g with l:=g.l.set i {g.blk i with n:=(g.blk i).n+1,l:=(g.blk i).l+1},at_:=i}:=by
  unfold Mg.put;rw[<-ha]
 rw[e1];refine h.lay hi _ ?_ ?_ ?_ _ ?_ ?_;dsimp only;omega;dsimp only;intro e;exact absurd hs e;dsimp only;omega;intro _;exact⟨acm ha,rfl⟩;dsimp only;intro e;exact absurd hs e
def vO (hb:∀y∈b,y<256):∀(n:Nat) (c:NP.bX) (g:Mg),c.ok->gW c->g.ok c->(Mg.progTo b n c g).2.2.ok (Mg.progTo b n c g).2.1
 |0,c,g,_,_,h=>h
 |n+1,c,g,hc,hG,h=>by
  rw[nE]
  unfold Mg.mI
  dsimp only
  have hr:=h.ready (by have:=sM hc;omega)
  generalize g.ready=g at*
  split
  exact hr
  rename_i ha
  rcases hr.QP with e|⟨i,e,hi,hs⟩
  exact absurd e ha
  rw[e,Int.toNat_natCast]
  have h1:fI (λ_=>False) c (NP.program c i (g.blk i).n b).2:=.one (.program i (g.blk i).n b) hb (λk e=>by cases e)
  split
  exact vO hb n _ _ (h1.good hG).ok (h1.good hG) ((hr.close hi).acts h1)
  split
  exact(hr.more hi e hs).acts h1
  split
  exact(hr.close hi).acts h1
  exact hr.acts h1
def nP (hb:∀y∈b,y<256)(hG:gW c)(h:g.ok c):(Mg.program b c g).2.2.ok (Mg.program b c g).2.1:=by
 unfold Mg.program;split;exact h;split;exact h;exact vO hb _ _ _ hG.ok hG h
def Fj {k:Int}(h:g.there k=true):0<=k/\k.toNat<g.l.length:=by
 unfold Mg.there at h;simp only[Bool.and_eq_true,decide_eq_true_eq]at h;omega
def uQ (h:g.ok c)(k:Int):(g.drop k).2.ok c:=by
 unfold Mg.drop;dsimp only;split;exact h;rename_i hn;simp only[not_or,Bool.not_eq_false]at hn;obtain⟨h0,hi⟩:=Fj hn.1;obtain⟨h1,h2,h3,h4,h5,h6⟩:=h.QO (g.blk k.toNat) (dG hi);have h7:=h.none_ (g.blk k.toNat) (dG hi);have h8:=h.open_ (g.blk k.toNat) (dG hi);have h9:=h.at2 k.toNat hi;have HA:=az h.QP;refine h.lay hi _ ?_ ?_ ?_ g.at_ ?_ ?_;dsimp only;split<;>omega;dsimp only;split<;>omega;dsimp only;split<;>omega;dsimp only;intro e;split at e;omega;have:=h9 e;exact⟨acm this,this⟩;dsimp only;intro e;split;rename_i e2;rcases HA.o with e3|⟨i,e3,hi2,hs⟩;omega;obtain rfl:i=k.toNat:=aa
 rw[if_neg aa]at e;exact absurd hs e;rfl
def Mg.ok.done (h:g.ok c)(hi:i<g.l.length)(s r:Int)(h0:s=0\/s=4):((g.put i ⟨s,0,r,0⟩).shut i).ok c:=by
 refine h.lay hi ⟨s,0,r,0⟩ ?_ ?_ ?_ _ ?_ (λ_=>rfl);dsimp only;omega;dsimp only;omega;dsimp only;omega;dsimp only;omega
def Mg.ok.adr (h:g.ok c)(hi:i<g.l.length)(r:Int):(g.put i {g.blk i with r:=r}).ok c:=by
 have h1:=h.QO (g.blk i) (dG hi);have h7:=h.none_ (g.blk i) (dG hi);have h8:=h.open_ (g.blk i) (dG hi);have h9:=h.at2 i hi;have HA:=az h.QP;refine h.lay hi {g.blk i with r:=r} h1 h7 h8 g.at_ ?_ ?_;intro e;exact⟨acm (h9 e),h9 e⟩;dsimp only;intro e;split;rename_i e2;rcases HA.o with e3|⟨j,e3,hi2,hs⟩;omega;obtain rfl:j=i:=aa;exact absurd hs e;rfl
def OD (k:Nat):fI (λ_=>False) c (Mg.gone c g k).2.1:=by
 unfold Mg.gone;dsimp only;have h1:fI (λ_=>False) c (NP.mark c k).2:=.one (.mark k) trivial (λk e=>by cases e);split<;>exact h1
def aaC {k:Int}(h:g.idle c k=0):0<=k/\k.toNat<g.l.length:=by
 unfold Mg.idle at h;split at h;cases h;split at h;cases h;rename_i hn;simp only[not_or,Bool.not_eq_false]at hn;exact Fj hn.1
def yG (k:Int):fI (λj=>j=k) c (Mg.erase c g k).2.1:=by
 unfold Mg.erase;dsimp only;have h1:fI (λj=>j=k) c (NP.erase c k).2:=.one (.erase k) trivial (λj e=>by injection e with e;exact e.symm);split;exact .refl;split;exact .refl;split;exact h1;split;refine h1.trans ?_;exact(OD _).mono (λ_ e=>e.elim);exact h1
def erase_right (h:g.ok c)(k:Int):(Mg.erase c g k).2.2.ok (Mg.erase c g k).2.1:=by
 refine Mg.ok.acts ?_ (yG (c:=c) (g:=g) k);unfold Mg.erase;dsimp only;split;exact h;rename_i hz;obtain⟨h0,hi⟩:=aaC (by simpa using hz);split;exact h;have hw:=h.adr hi (NP.bC (NP.erase c k).2 k);have hil:k.toNat<(g.put k.toNat {g.blk k.toNat with r:=NP.bC (NP.erase c k).2 k}).l.length:=by
  show k.toNat<(g.l.set _ _).length;rw[List.length_set];exact hi
 split;exact hw.done hil 0 _ (ack rfl);split;dsimp only;unfold Mg.gone;dsimp only;split;exact hw.done hil 4 _ (acm rfl);exact hw;exact hw
end
end mgr
namespace FP
open mgr
structure cB where
 block:Int
 aB:Int
deriving DecidableEq
instance:Inhabited cB:=⟨⟨0,0⟩⟩
structure Ft where
 c:NP.bX
 g:Mg
 aC:Int
 bad:Int
 text:List Nat
 bD:Mp cB
 now:Mp cB
 gone:Mp cB
 seq:Nat
 aM:Nat
 later:List Bool
 over:Bool
def Il (B:Nat)(aC bad:Int):Int:=(B:Int)-bad-aC-1
def Ft.cap (f:Ft):Int:=Il f.c.B f.aC f.bad*f.c.P-2
def Ft.used (f:Ft):Int:=f.bD.length+f.now.length
def left (g:Mg):Int:=g.aC-((aN 4 g.l:Nat)-g.bad)
def Ft.shut (f:Ft):Bool:=f.over||decide (left f.g<0)
def Ft.ready (f:Ft):Int:=if f.c.down then 4 else 0
def Ft.logical (f:Ft)(aB:Nat):Int:=if f.c.down then 4 else if aB=0\/f.cap<=aB then 1 else 0
def Ft.at_ (f:Ft)(aB:Nat):Option cB:=match MP.get f.now aB with
 |some p=>some p
 |none=>if MP.has f.gone aB then none else MP.get f.bD aB
def Ft.aW (f:Ft)(c:NP.bX):Ft:={f with c:=c}
def Ft.read (f:Ft)(aB:Nat):(List Nat×Int)×Ft :=
 let e:=f.logical aB
 if e≠0 then (([],e),f)
 else match f.at_ aB with
  |none=>(([],60),f)
  |some p =>
   let r:=NP.bQ f.c p.block p.aB
   if r.1.2≠0 then (([],r.1.2),f.aW r.2)
   else
    let t:=TP.read r.1.1
    if t.2.2≠0 then (([],21),f.aW r.2) else ((t.2.1,0),f.aW r.2)
def enough (g:Mg)(P:Nat):Bool :=
 let want:=left g+1
 let free:Int:=(aN 0 g.l:Nat)
 decide ((if bT g.jD P=free*P then want+1 else want)<=free)
def Ft.put (f:Ft)(aL:Int)(aB:Nat)(b:List Nat):Option (cB×Ft) :=
 if f.later.all (λx=> !x)&&enough f.g f.c.P then
  let r:=TP.write ⟨aL,aB,f.seq,f.aM⟩ b
  if r.2=0 then
   let q:=Mg.program r.1 f.c f.g
   if q.1.2.2=0 then some (⟨q.1.1,q.1.2.1⟩,{f with c:=q.2.1,g:=q.2.2,seq:=f.seq+1}) else none
  else none
 else none
def Ft.write (f:Ft)(aB:Nat)(b:List Nat):Option (Int×Ft) :=
 let e:=f.logical aB
 if e≠0 then some (e,f)
 else if b.length≠f.c.S then some (1,f)
 else if f.shut then some (41,f)
 else if MP.has f.now aB=false/\f.cap<=f.used then some (40,f)
 else match f.put 1 aB b with
  |none=>none
  |some (p,f1) =>
   let g:=match MP.get f1.now aB with
    |some old=>(f1.g.drop old.block).2
    |none=>f1.g
   some (0,{f1 with g:=g,now:=MP.put f1.now aB p,gone:=MP.del f1.gone aB})
def Ft.drop (f:Ft)(aB:Nat):Int×Ft :=
 let e:=f.logical aB
 if e≠0 then (e,f)
 else
  let f1:=match MP.get f.now aB with
   |some p=>{f with g:=(f.g.drop p.block).2,now:=MP.del f.now aB}
   |none=>f
  match MP.get f1.bD aB with
  |some p=>(0,{f1 with gone:=MP.put f1.gone aB p})
  |none=>(0,f1)
def jJ (aC bad:Int)(text:List Nat):List Nat :=
 [(aC%256).toNat,(aC/256%256).toNat,(bad%256).toNat,(bad/256%256).toNat,0,0,0,0]++text
structure Sl where
 g:Mg
 bD:Mp cB
 gone:Mp cB
def Sl.take (s:Sl)(x:Int×cB):Sl :=
 ⟨(match MP.get s.bD x.1 with|some old=>(s.g.drop old.block).2|none=>s.g),MP.put s.bD x.1 x.2,MP.del s.gone x.1⟩
def Sl.strike (s:Sl)(x:Int×cB):Sl :=
 ⟨(s.g.drop ((MP.get s.bD x.1).getD default).block).2,MP.del s.bD x.1,s.gone⟩
def badTo (c:NP.bX):Nat->Int
 |0=>0
 |k+1=>badTo c k+(if NP.qO c k then 1 else 0)
def gX (c:NP.bX):Int:=badTo c c.B
structure Sn where
 tag:TP.Tag
 at_:cB
instance:Inhabited Sn:=⟨⟨default,default⟩⟩
end FP
open RowKit
def Loose (aA:Nat)(w:acL)(n:Nat):Prop:=aA<=n/\∀t cur,aD w n t cur->qQ t=false
variable{F:Nat->Prop}{aA:Nat}{w w':acL}{k m:Nat}{M:dA}
def bY {g:Nat}{t t':TypeId}{cs cs':Array acK}(h:aD w g t cs)(h':aD w g t' cs'):t'=t:=by
 unfold aD at h h';rw[h]at h';injection h' with h';injection h' with _ h';exact h'.symm
variable{n:Nat}
def Mine.loose (h:Mine aA w n):Loose aA w n:=by
 obtain⟨h1,t,cur,ht,hb⟩:=h;exact⟨h1,λt' cur' hb'=>by rw[bY hb hb'];exact ht⟩
def Loose.blk {t:TypeId}{cs:Array acK}(hb:aA<=n)(h:aD w n t cs)(ht:qQ t=false:=by decide):Loose aA w n:=⟨hb,λt' cur' hb'=>by rw[bY h hb'];exact ht⟩
def Loose.map {α:Type}{K:IntKind}{enc:α->acK}{m:Mp α}(hb:aA<=n)(h:bz w n K enc m):Loose aA w n:=⟨hb,λ_ _ hb'=>(h.dM hb' rfl).elim⟩
def Safe.no' {t:TypeId}{b:Nat}(h:Safe t aA w b)(m:Loose aA w b)(ht:qQ t=true:=by decide):False:=by
 rcases h with h|⟨cur',hb'⟩;have:=m.1;omega;rw[m.2 _ _ hb']at ht;cases ht
def Safe.fD {t:TypeId}{b:Nat}(h:Safe t aA w b)(q:aP F w w')(hF:∀k,F k->Loose aA w k)(ht:qQ t=true:=by decide):Safe t aA w' b:=by
 rcases h with h|⟨cur,hb⟩;exact ack h;exact acm ⟨cur,hb.aJ q (λe=>Safe.no' (t:=t) (acm ⟨cur,hb⟩) (hF b e) ht)⟩
variable{a:Option Addr}
def dx.fD {l:List Nat}(h:dx aA w a l)(q:aP F w w')(hF:∀k,F k->Loose aA w k):dx aA w' a l:=by
 rcases h.safe with rfl|⟨b,o,rfl,hs⟩;exact⟨bE.nil _ _,ack rfl⟩;refine⟨⟨h.row.small,?_⟩,acm ⟨b,o,rfl,hs.fD q hF⟩⟩;rcases h.row.at_ with h0|⟨b',o',he,h1⟩;exact ack h0;injection he with he;injection he with hb ho;subst hb ho;exact acm ⟨b,o,rfl,λi hi=>q.cell (h1 i hi) (λe=>hs.no' (hF b e))⟩
def sD.ok.fD {p:sD}(h:p.ok aA w)(q:aP F w w')(hF:∀k,F k->Loose aA w k):p.ok aA w':=⟨h.row.fD q hF,h.len,h.cap,h.nil⟩
def uM.fD {fs:List tY}(h:uM aA w a fs)(q:aP F w w')(hF:∀k,F k->Loose aA w k):uM aA w' a fs:=by
 refine⟨?_,λf hf=>⟨(h.data f hf).1.fD q hF,(h.data f hf).2⟩,h.len⟩;rcases h.at_ with h0|⟨b,o,rfl,hs,h1⟩;exact ack h0;exact acm ⟨b,o,rfl,hs.fD q hF,λi hi j u hu=>q.cell (h1 i hi j u hu) (λe=>hs.no' (hF b e))⟩
def aT.fD (h:aT aA w k M)(q:aP F w w')(hF:∀n,F n->Loose aA w n)(hn:∀n,M.foot k n->¬F n):aT aA w' k M :=
 ⟨h.aW.aJ q (hn _ (ack rfl)),h.blocks.aJ q (hn _ (acm (ack rfl))),λx hx=>(h.pages x hx).aJ q (hn _ (acm (acm (List.mem_map_of_mem hx)))),h.nodup,
  λx hx p hp=>(h.rows x hx p hp).fD q hF,h.faults.fD q hF,h.low⟩
section
open mgr
variable{G:iL}
def mgr.Held.fD (h:Held aA w m G M)(q:aP F w w')(hF:∀n,F n->Loose aA w n)(hn:∀n,foot1 m G M n->¬F n):Held aA w' m G M :=
 ⟨h.mgr.aJ q (λn e=>hn n (ack e)),h.aW.fD q hF (λn e=>hn n (acm e))⟩
def mgr.Held.type (h:Held aA w m G M)(hn:foot1 m G M n):∃t cs,aD w n t cs/\(t=191\/t=193\/t=144\/t=140\/t=23):=by
 rcases hn with (rfl|rfl)|(rfl|rfl|hn);exact⟨_,_,h.mgr.mgr,ack rfl⟩;obtain⟨cur,hb,_⟩:=h.mgr.row.blk;exact⟨_,_,hb,acm (ack rfl)⟩;exact⟨_,_,h.aW.aW,acm (acm (ack rfl))⟩;obtain⟨cur,hb,_⟩:=h.aW.blocks.blk;exact⟨_,_,hb,acm (acm (acm (ack rfl)))⟩;obtain⟨x,hx,rfl⟩:=List.mem_map.1 hn;obtain⟨cur,hb,_⟩:=(h.aW.pages x hx).blk;exact⟨_,_,hb,acm (acm (acm (acm rfl)))⟩
end
namespace ft
open mgr
abbrev dz (p:FP.cB):acK:=.agg #[vi p.block,vi p.aB]
structure dm where
 m:Nat
 G:iL
 M:dA
 aC:Int
 bad:Int
 ta:Option Addr
 tx:List Nat
 tc:Nat
 bs:Nat
 bn:Nat
 bg:Nat
 S:Mp FP.cB
 N:Mp FP.cB
 D:Mp FP.cB
 seq:Nat
 aM:Nat
 lg:Nat
 lc:Nat
 later:List Bool
 over:Bool
abbrev dm.cs (X:dm):Array acK:=#[ptr X.G.k,ptr X.m,vi X.aC,vi X.bad,aco X.ta X.tx.length X.tc,.map (some X.bs),.map (some X.bn),.map (some X.bg),vq X.seq,vq X.aM,aco (some ⟨X.lg,0,none⟩) X.later.length X.lc,acg X.over]
abbrev dm.view (X:dm):FP.Ft:=⟨X.M.view,X.G.view,X.aC,X.bad,X.tx,X.S,X.N,X.D,X.seq,X.aM,X.later,X.over⟩
def dm.foot (X:dm)(f n:Nat):Prop:=n=f\/n=X.bs\/n=X.bn\/n=X.bg\/n=X.lg\/foot1 X.m X.G X.M n
structure bP (aA:Nat)(w:acL)(f:Nat)(X:dm):Prop where
 obj:aD w f 153 X.cs
 held:Held aA w X.m X.G X.M
 text:dx aA w X.ta X.tx
 lC:X.tx.length<=X.tc/\X.tc<=maxLen
 bD:bz w X.bs .u32 dz X.S
 now:bz w X.bn .u32 dz X.N
 gone:bz w X.bg .u32 dz X.D
 later:kY w 4 1 X.lg X.later.length X.lc (X.later.map acg)
 low:aA<=f/\aA<=X.bs/\aA<=X.bn/\aA<=X.bg/\aA<=X.lg
 ne:X.bs≠X.bn/\X.bs≠X.bg/\X.bn≠X.bg
structure aQ (aA:Nat)(w:acL)(f:Nat)(X:dm)(w':acL)(X':dm):Prop where
 at_:bP aA w' f X'
 aJ:aP (X.foot f) w w'
 foot:∀n,X'.foot f n->X.foot f n\/w.heap.size<=n
 key:X'.G.k=X.G.k/\X'.m=X.m
variable{w'':acL}{f:Nat}{X X' X'':dm}
def bP.loose (h:bP aA w f X):∀n,X.foot f n->Loose aA w n:=by
 intro n hn;rcases hn with rfl|rfl|rfl|rfl|rfl|hn;exact Loose.blk h.low.1 h.obj;exact Loose.map h.low.2.1 h.bD;exact Loose.map h.low.2.2.1 h.now;exact Loose.map h.low.2.2.2.1 h.gone;obtain⟨cur,hb,_⟩:=h.later.blk;exact Loose.blk h.low.2.2.2.2 hb;exact(h.held.mine n hn).loose
def bP.lt (h:bP aA w f X):∀n,X.foot f n->n<w.heap.size:=by
 intro n hn;rcases hn with rfl|rfl|rfl|rfl|rfl|hn;exact h.obj.lt;exact h.bD.lt;exact h.now.lt;exact h.gone.lt;exact h.later.lt;exact h.held.lt n hn
def bP.nQ (h:bP aA w f X):f≠X.bs/\f≠X.bn/\f≠X.bg/\f≠X.lg/\¬foot1 X.m X.G X.M f:=by
 refine⟨λe=>h.bD.dM h.obj e.symm,λe=>h.now.dM h.obj e.symm,λe=>h.gone.dM h.obj e.symm,λe=>h.later.dM h.obj ag e.symm,λe=>?_⟩;obtain⟨t,cs,hb,ht⟩:=h.held.type e;have:=bY hb h.obj;rcases ht with ht|ht|ht|ht|ht<;>rw[ht]at this<;>exact absurd this ag
def bP.gY {b:Nat}{K:IntKind}{α:Type}{enc:α->acK}{m:Mp α}(h:bP aA w f X)(hm:bz w b K enc m):b≠f/\b≠X.lg/\¬foot1 X.m X.G X.M b:=by
 refine⟨hm.dM h.obj,?_,λe=>?_⟩;obtain⟨cur,hb,_⟩:=h.later.blk;exact hm.dM hb;obtain⟨t,cs,hb,ht⟩:=h.held.type e;exact hm.dM hb rfl
def bP.Im (h:bP aA w f X):¬foot1 X.m X.G X.M X.lg:=by
 intro e;obtain⟨t,cs,hb,ht⟩:=h.held.type e;obtain⟨cur,hb',_⟩:=h.later.blk;have:=bY hb hb';rcases ht with ht|ht|ht|ht|ht<;>rw[ht]at this<;>exact absurd this ag
def bP.aJ (h:bP aA w f X)(q:aP F w w')(hF:∀n,F n->Loose aA w n)(hn:∀n,X.foot f n->¬F n):bP aA w' f X :=
 ⟨h.obj.aJ q (hn _ (ack rfl)),h.held.fD q hF (λn e=>hn n (acm (acm (acm (acm (acm e)))))),h.text.fD q hF,h.lC,h.bD.aJ q (hn _ (acm (ack rfl))),h.now.aJ q (hn _ (acm (acm (ack rfl)))),
  h.gone.aJ q (hn _ (acm (acm (acm (ack rfl))))),h.later.aJ q (hn _ (acm (acm (acm (acm (ack rfl)))))),h.low,h.ne⟩
def bP.old (h:bP aA w f X)(q:acN w.heap.size w w'):bP aA w' f X:=h.aJ (F:=λ_=>False) (aP.of_below q) (λ_ e=>e.elim) (λ_ _ e=>e)
def aQ.refl (h:bP aA w f X):aQ aA w f X w X:=⟨h,aP.refl _ _,λ_ e=>ack e,rfl,rfl⟩
def aQ.trans (h:aQ aA w f X w' X')(q:aQ aA w' f X' w'' X''):aQ aA w f X w'' X'':=by
 refine⟨q.at_,h.aJ.trans q.aJ λn hn e=>?_,λn hn=>?_,q.key.1.trans h.key.1,q.key.2.trans h.key.2⟩;rcases h.foot n e with h1|h1;exact h1;omega;rcases q.foot n hn with h1|h1;exact h.foot n h1;exact acm (Nat.le_trans h.aJ.size h1)
def aQ.old (h:aQ aA w f X w' X')(q:acN w'.heap.size w' w''):aQ aA w f X w'' X':=⟨h.at_.old q,h.aJ.below q,h.foot,h.key⟩
def aQ.aX (h:bP aA w f X)(q:acN w.heap.size w w'):aQ aA w f X w' X:=(aQ.refl h).old q
def aQ.size (h:aQ aA w f X w' X'):w.heap.size<=w'.heap.size:=h.aJ.size
variable{M':dA}
def bP.goes (h:bP aA w f X){g':Mg}(q:bJ aA w X.m X.G X.M w' g' M'):aQ aA w f X w' {X with G:=X.G.lay g',M:=M'}:=by
 have hm:∀n,foot1 X.m X.G X.M n->Loose aA w n:=λn e=>(h.held.mine n e).loose
 have hf:∀n,foot1 X.m (X.G.lay g') M' n->foot1 X.m X.G X.M n\/w.heap.size<=n:=by
  intro n e;rcases e with e|e;exact ack (ack e);rcases q.foot n e with e|e;exact ack (acm e);exact acm e
 refine⟨⟨h.obj.aJ q.aJ h.nQ.2.2.2.2,q.at_,h.text.fD q.aJ hm,h.lC,h.bD.aJ q.aJ (h.gY h.bD).2.2,h.now.aJ q.aJ (h.gY h.now).2.2,h.gone.aJ q.aJ (h.gY h.gone).2.2,h.later.aJ q.aJ h.Im,h.low,h.ne⟩,
  q.aJ.mono (λn _ e=>acm (acm (acm (acm (acm e))))),?_,rfl,rfl⟩
 intro n e;rcases e with e|e|e|e|e|e;exact ack (ack e);exact ack (acm (ack e));exact ack (acm (acm (ack e)));exact ack (acm (acm (acm (ack e))));exact ack (acm (acm (acm (acm (ack e)))));rcases hf n e with e|e;exact ack (acm (acm (acm (acm (acm e)))));exact acm e
def bP.jG (h:bP aA w f X)(q:Goes aA w X.G.k X.M w' M'):aQ aA w f X w' {X with M:=M'}:=h.goes (h.held.jG q)
def bP.MK (h:bP aA w f X){S':Mp FP.cB}(g:w.grownBy w' (some X.bs))(hm:bz w' X.bs .u32 dz S'):aQ aA w f X w' {X with S:=S'}:=by
 have q:aP (λn=>n=X.bs) w w':=(aP.refl _ w).grown g (λk e=>by injection e with e;exact ack e.symm);have hl:∀n,n=X.bs->Loose aA w n:=λn e=>h.loose n (acm (ack e))
 exact⟨⟨h.obj.aJ q (h.gY h.bD).1.symm,h.held.fD q hl (λn e e2=>(h.gY h.bD).2.2 (e2▸e)),h.text.fD q hl,h.lC,hm,h.now.aJ q h.ne.1.symm,h.gone.aJ q h.ne.2.1.symm,h.later.aJ q (h.gY h.bD).2.1.symm,h.low,h.ne⟩,
  q.mono (λn _ e=>acm (ack e)),λn e=>ack e,rfl,rfl⟩
def bP.Fp (h:bP aA w f X){N':Mp FP.cB}(g:w.grownBy w' (some X.bn))(hm:bz w' X.bn .u32 dz N'):aQ aA w f X w' {X with N:=N'}:=by
 have q:aP (λn=>n=X.bn) w w':=(aP.refl _ w).grown g (λk e=>by injection e with e;exact ack e.symm);have hl:∀n,n=X.bn->Loose aA w n:=λn e=>h.loose n (acm (acm (ack e)))
 exact⟨⟨h.obj.aJ q (h.gY h.now).1.symm,h.held.fD q hl (λn e e2=>(h.gY h.now).2.2 (e2▸e)),h.text.fD q hl,h.lC,h.bD.aJ q h.ne.1,hm,h.gone.aJ q h.ne.2.2.symm,h.later.aJ q (h.gY h.now).2.1.symm,h.low,h.ne⟩,
  q.mono (λn _ e=>acm (acm (ack e))),λn e=>ack e,rfl,rfl⟩
def bP.zM (h:bP aA w f X){D':Mp FP.cB}(g:w.grownBy w' (some X.bg))(hm:bz w' X.bg .u32 dz D'):aQ aA w f X w' {X with D:=D'}:=by
 have q:aP (λn=>n=X.bg) w w':=(aP.refl _ w).grown g (λk e=>by injection e with e;exact ack e.symm);have hl:∀n,n=X.bg->Loose aA w n:=λn e=>h.loose n (acm (acm (acm (ack e))))
 exact⟨⟨h.obj.aJ q (h.gY h.gone).1.symm,h.held.fD q hl (λn e e2=>(h.gY h.gone).2.2 (e2▸e)),h.text.fD q hl,h.lC,h.bD.aJ q h.ne.2.1,h.now.aJ q h.ne.2.2,hm,h.later.aJ q (h.gY h.gone).2.1.symm,h.low,h.ne⟩,
  q.mono (λn _ e=>acm (acm (acm (ack e)))),λn e=>ack e,rfl,rfl⟩
def bP.fields (h:bP aA w f X)(q:aP (λn=>n=f) w w')(hb:aD w' f 153 X'.cs)(h1:X'.m=X.m/\X'.G=X.G/\X'.M=X.M)(h2:dx aA w' X'.ta X'.tx/\X'.tx.length<=X'.tc/\X'.tc<=maxLen)
  (h3:X'.bs=X.bs/\X'.S=X.S) (h4:bz w' X'.bn .u32 dz X'.N/\(X'.bn=X.bn\/w.heap.size<=X'.bn)) (h5:bz w' X'.bg .u32 dz X'.D/\(X'.bg=X.bg\/w.heap.size<=X'.bg)) (h6:X'.lg=X.lg/\X'.lc=X.lc/\X'.later=X.later) (h7:X'.bn≠X'.bg)
  (hbase:aA<=w.heap.size):aQ aA w f X w' X':=by
 have hl:∀n,n=f->Loose aA w n:=λn e=>h.loose n (ack e)
 have hlt:=h.bD.lt;refine⟨⟨hb,?_,h2.1,h2.2,?_,h4.1,h5.1,?_,?_,?_⟩,q.mono (λn _ e=>ack e),?_,by rw[h1.2.1],h1.1⟩;rw[h1.1,h1.2.1,h1.2.2];exact h.held.fD q hl (λn e e2=>h.nQ.2.2.2.2 (e2▸e));rw[h3.1,h3.2];exact h.bD.aJ q h.nQ.1.symm;rw[h6.1,h6.2.1,h6.2.2];exact h.later.aJ q h.nQ.2.2.2.1.symm;rw[h3.1,h6.1];refine⟨h.low.1,h.low.2.1,?_,?_,h.low.2.2.2.2⟩;rcases h4.2 with e|e;rw[e];exact h.low.2.2.1;omega;rcases h5.2 with e|e;rw[e];exact h.low.2.2.2.1;omega;rw[h3.1];refine⟨?_,?_,h7⟩;rcases h4.2 with e|e;rw[e];exact h.ne.1;omega;rcases h5.2 with e|e;rw[e];exact h.ne.2.1
 omega;intro n e;unfold dm.foot at e;rw[h1.1,h1.2.1,h1.2.2,h3.1,h6.1]at e;rcases e with e|e|e|e|e|e;exact ack (ack e);exact ack (acm (ack e));rcases h4.2 with e2|e2;exact ack (acm (acm (ack (e.trans e2))));exact acm aa;rcases h5.2 with e2|e2;exact ack (acm (acm (acm (ack (e.trans e2)))));exact acm aa;exact ack (acm (acm (acm (acm (ack e)))));exact ack (acm (acm (acm (acm (acm e)))))
def bP.field (h:bP aA w f X)(j:Nat)(v:acK)(hc:X'.cs=X.cs.setIfInBounds j v)(h1:X'.m=X.m/\X'.G=X.G/\X'.M=X.M)(h2:dx aA w X'.ta X'.tx/\X'.tx.length<=X'.tc/\X'.tc<=maxLen)
  (h3:X'.bs=X.bs/\X'.S=X.S) (h4:X'.bn=X.bn/\X'.N=X.N) (h5:X'.bg=X.bg/\X'.D=X.D) (h6:X'.lg=X.lg/\X'.lc=X.lc/\X'.later=X.later) (hbase:aA<=w.heap.size):aQ aA w f X (w.setCell ⟨f,j,none⟩ v) X':=by
 have q:aP (λn=>n=f) w (w.setCell ⟨f,j,none⟩ v):=aP.set (F:=λn=>n=f) w (p:=⟨f,j,none⟩) rfl v;have hl:∀n,n=f->Loose aA w n:=λn e=>h.loose n (ack e)
 refine h.fields q (by rw[hc];exact h.obj.bB j v) h1 ⟨h2.1.fD q hl,h2.2⟩ h3 ?_ ?_ h6 ?_ hbase;rw[h4.1,h4.2];exact⟨h.now.aJ q h.nQ.2.1.symm,ack rfl⟩;rw[h5.1,h5.2];exact⟨h.gone.aJ q h.nQ.2.2.1.symm,ack rfl⟩;rw[h4.1,h5.1];exact h.ne.2.2
def bP.cells (h:bP aA w f X):w.cell? ⟨f,0,none⟩=some (ptr X.G.k)/\w.cell? ⟨f,1,none⟩=some (ptr X.m)/\w.cell? ⟨f,2,none⟩=some (vi X.aC)/\w.cell? ⟨f,3,none⟩=some (vi X.bad)/\w.cell? ⟨f,4,none⟩=some (aco X.ta X.tx.length X.tc) /\
  w.cell? ⟨f,5,none⟩=some (.map (some X.bs))/\w.cell? ⟨f,6,none⟩=some (.map (some X.bn))/\w.cell? ⟨f,7,none⟩=some (.map (some X.bg))/\w.cell? ⟨f,8,none⟩=some (vq X.seq)/\w.cell? ⟨f,9,none⟩=some (vq X.aM) /\
  w.cell? ⟨f,10,none⟩=some (aco (some ⟨X.lg,0,none⟩) X.later.length X.lc)/\w.cell? ⟨f,11,none⟩=some (acg X.over) :=
 ⟨h.obj.cell 0,h.obj.cell 1,h.obj.cell 2,h.obj.cell 3,h.obj.cell 4,h.obj.cell 5,h.obj.cell 6,h.obj.cell 7,h.obj.cell 8,h.obj.cell 9,h.obj.cell 10,h.obj.cell 11⟩
structure JU (aA:Nat)(w:acL)(f:Nat)(X:dm)(w':acL)(X':dm):Prop where
 goes:aQ aA w f X w' X'
 aW:Goes aA w X.G.k X.M w' X'.M
def JU.trans (h:JU aA w f X w' X')(q:JU aA w' f X' w'' X''):JU aA w f X w'' X'':=⟨h.goes.trans q.goes,h.aW.trans (by have:=q.aW;rw[h.goes.key.1]at this;exact this)⟩
def JU.old (h:JU aA w f X w' X')(q:acN w'.heap.size w' w''):JU aA w f X w'' X':=⟨h.goes.old q,h.aW.old q⟩
def JU.aX (h:bP aA w f X)(q:acN w.heap.size w w'):JU aA w f X w' X:=⟨aQ.aX h q,Goes.aX h.held.aW q⟩
def bP.Sd (h:bP aA w f X)(q:Goes aA w X.G.k X.M w' M'):JU aA w f X w' {X with M:=M'}:=⟨h.jG q,q⟩
end ft
namespace lw
open ChangeShapes WideShapes ChangeAt RowKit Deep
structure eQ where
 aL:Int
 file:Int
 aF:Int
 n:Int
 ba:Option Addr
 b:List Nat
 bc:Nat
instance:Inhabited eQ:=⟨⟨0,0,0,0,none,[],0⟩⟩
abbrev eQ.cs (o:eQ):List acK:=[vi o.aL,vi o.file,vi o.aF,vi o.n,aco o.ba o.b.length o.bc]
def I64 (n:Int):Prop:= -9223372036854775808<=n/\n<=9223372036854775807
structure eQ.ok (o:eQ)(aA:Nat)(w:acL):Prop where
 row:dx aA w o.ba o.b
 len:o.b.length<=o.bc
 cap:o.bc<=maxLen
 most:o.b.length<=140737488355328
 nums:I64 o.aL/\I64 o.file/\I64 o.aF/\I64 o.n
structure fe (aA:Nat)(w:acL)(a:Option Addr)(l:List eQ):Prop where
 at_:l=[]\/∃b o,a=some ⟨b,o,none⟩/\b<aA/\∀i,i<l.length->∀j u,(l.getD i default).cs[j]?=some u->w.cell? ⟨b,o+i*5+j,none⟩=some u
 good:∀o∈l,o.ok aA w
 len:l.length<=140737488355328
def eQ.ok.aJ {o:eQ}(h:o.ok aA w)(q:aP F w w')(hF:∀k,F k->Loose aA w k):o.ok aA w':=⟨dx.fD h.row q hF,h.len,h.cap,h.most,h.nums⟩
variable{l:List eQ}
def fe.aJ (h:fe aA w a l)(q:aP F w w')(hF:∀k,F k->Loose aA w k):fe aA w' a l:=by
 refine⟨?_,λo ho=>(h.good o ho).aJ q hF,h.len⟩;rcases h.at_ with h0|⟨b,o,rfl,hb,hc⟩;exact ack h0;exact acm ⟨b,o,rfl,hb,λi hi j u hu=>q.cell (hc i hi j u hu) (λe=>by have:=(hF b e).1;omega)⟩
def eQ.ok.old {o:eQ}(h:o.ok aA w)(q:acN w.heap.size w w'):o.ok aA w':=h.aJ (F:=λ_=>False) (aP.of_below q) (λ_ e=>e.elim)
def fe.old (h:fe aA w a l)(q:acN w.heap.size w w'):fe aA w' a l:=h.aJ (F:=λ_=>False) (aP.of_below q) (λ_ e=>e.elim)
section
variable{H:Type}{enc:TypeId×acK->H}{W:acL}
def xE:eZ enc prog W 3 1 (λn:Int=>[vi n]) I64:=eZ.int underlying3 ah
def Ko:eZ enc prog W 5 1 (λn:Nat=>[vb n]) (λn=>n<256):=eZ.byte underlying5 ah
def Fq (W:acL)(m:Nat){E:Type}[Inhabited E](cs:E->List acK)(good:E->Prop)(bytes:Nat)(r:qB E):Prop:=Rb W m cs good r/\r.l.length*bytes<=reachBytes
def yH:eZ enc prog W 23 1 (λr:qB Nat=>[r.v]) (Fq W 1 (λn:Nat=>[vb n]) (λn=>n<256) 1):=eZ.row Ko ag underlying23 ah (bytes:=1) ah
def ML {good:Nat->Prop}{r:qB Nat}(h:Rb W 1 (λn:Nat=>[vb n]) good r)(hs:∀x∈r.l,x<256):dx W.heap.size W r.a r.l:=by
 rcases h.at_ with h0|⟨b,o,ha,hb,hc⟩;rw[h0];exact dx.nil _ _ _;refine⟨⟨hs,acm ⟨b,o,ha,λi hi=>?_⟩⟩,acm ⟨b,o,ha,ack hb⟩⟩;have:=hc i hi 0 (vb (r.l.getD i default)) rfl;simpa using this
def yI:∃f0 f1 f2 f3 f4:Field,prog.underlying 48=some (.struct #[f0,f1,f2,f3,f4])/\(f0.type=3/\f0.offset=0)/\(f1.type=3/\f1.offset=1)/\(prog.underlying f2.type=some (.int .i64)/\prog.cellsOf f2.type=1/\f2.offset=2)/\(f3.type=3/\f3.offset=3)/\(f4.type=23/\f4.offset=4) :=
 ⟨_,_,_,_,_,underlying48,⟨rfl,rfl⟩,⟨rfl,rfl⟩,⟨ah,ah,rfl⟩,⟨rfl,rfl⟩,⟨rfl,rfl⟩⟩
def AY:eZ enc prog W 48 5 (λo:eQ=>o.cs) (λo=>o.ok W.heap.size W):=by
 obtain⟨f0,f1,f2,f3,f4,hs,t0,t1,t2,t3,t4⟩:=yI;have h:=eZ.agT (enc:=enc) (P:=prog) (W:=W) (T:=48) hs ah (by rw[t0.1];exact xE) t0.2 (by rw[t1.1];exact xE) t1.2 (eZ.int t2.1 t2.2.1) t2.2.2 (by rw[t3.1];exact xE) t3.2 (by rw[t4.1];exact yH) t4.2;refine h.map (λe=>⟨e.1,e.2.1,e.2.2.1,e.2.2.2.1,e.2.2.2.2.a,e.2.2.2.2.l,e.2.2.2.2.c⟩) (λ_=>rfl) (λ_=>rfl) ?_;rintro⟨x,y,z,u,r⟩ ⟨h0,h1,h2,h3,hr,hl⟩;have:=Aa;dsimp only at hl hr ⊢;exact⟨ML hr hr.good,hr.len,hr.cap,by show r.l.length<=_;omega,h0,h1,h2,h3⟩
def Io:eZ enc prog W 22 1 (λr:qB eQ=>[r.v]) (Fq W 5 (λo:eQ=>o.cs) (λo=>o.ok W.heap.size W) 56):=eZ.row AY ag underlying22 ah (bytes:=56) ah
def Sg {r:qB eQ}(h:Fq W 5 (λo:eQ=>o.cs) (λo=>o.ok W.heap.size W) 56 r):fe W.heap.size W r.a r.l:=by
 obtain⟨h,hl⟩:=h;have:=Aa;refine⟨?_,h.good,aa⟩;rcases h.at_ with h0|⟨b,o,ha,hb,hc⟩;exact ack h0;exact acm ⟨b,o,ha,hb,λi hi j u hu=>hc i hi j u hu⟩
variable{r:Reach}{n:Nat}{v:acK}{d:DataW H}{p:List MemPlace}
def Si (h:DataW.Trod enc prog W 0 (λ_=>true) true 48 v d p)(hv:acK.okWide prog W r n 48 v)(hw:∀n∈d.weights prog 48,n<=reachBytes):∃o:eQ,v=.agg o.cs.toArray/\o.ok W.heap.size W:=by
 obtain⟨f0,f1,f2,f3,f4,hs,_⟩:=yI;obtain⟨cs,rfl,_⟩:=okWide_struct hs hv;obtain⟨fuel,hf⟩:=h;obtain⟨o,he,ho⟩:=AY.elem _ _ _ hf hw;refine⟨o,?_,ho⟩;have:cs.toList=o.cs:=he;rw[<-Array.toArray_toList (xs:=cs),this]
def sN (h:DataW.Trod enc prog W 0 (λ_=>true) true 22 v d p)(hv:acK.okWide prog W r n 22 v)(hw:∀n∈d.weights prog 22,n<=reachBytes):∃(x:qB eQ),v=x.v/\fe W.heap.size W x.a x.l:=by
 obtain⟨a,len,cap,rfl⟩:=okWide_slice underlying22 hv;obtain⟨fuel,hf⟩:=h;obtain⟨x,he,hx⟩:=Io.elem _ _ _ hf hw;refine⟨x,?_,Sg hx⟩;simpa[acK.cells] using he
def Ip (h:DataW.Trod enc prog W 0 (λ_=>true) true 23 v d p)(hv:acK.okWide prog W r n 23 v)(hw:∀n∈d.weights prog 23,n<=reachBytes):∃(x:qB Nat),v=x.v/\dx W.heap.size W x.a x.l/\x.l.length<=x.c/\x.c<=maxLen/\x.l.length<=140737488355328:=by
 obtain⟨a,len,cap,rfl⟩:=okWide_slice underlying23 hv;obtain⟨fuel,hf⟩:=h;obtain⟨x,he,hx,hl⟩:=yH.elem _ _ _ hf hw;have:=Aa;refine⟨x,?_,ML hx hx.good,hx.len,hx.cap,aa⟩;simpa[acK.cells] using he
end
def Sj (k n:Int)(hn:0<n):(0<=k.tmod n->k.tmod n=k%n)/\(k.tmod n<0->k.tmod n+n=k%n)/\ -n<k.tmod n/\k.tmod n<n:=by
 have h1:=Int.lt_tmod_of_pos k hn;have h2:=Int.tmod_lt_of_pos k hn;have h3:(k.tmod n)%n=k%n:=by rw[Int.tmod_def,Int.sub_mul_emod_self_left]
 refine⟨λh=>?_,λh=>?_,h1,h2⟩;rw[<-h3,Int.emod_eq_of_lt h h2];have h4:(k.tmod n+n)%n=k%n:=by rw[Int.add_emod_right,h3]
 rw[<-h4,Int.emod_eq_of_lt aa aa]
def mf (k n:Int)(w:acL)(hn:1<=n)(hn':n<=4096) :
  ac4 prog 16 #[vi k,vi n] w λe w'=>e=ab4 (vi (k%n))/\w'=w:=by
 obtain⟨h1,h2,h3,h4⟩:=Sj k n aa;have H1:=az h1;have H2:=az h2;clear h1 h2;have n1:¬n<1:=aa;have w1:adk.wrap (k.tmod n)=k.tmod n:=adl _ aa;have w2:adk.wrap (k.tmod n+n)=k.tmod n+n:=adl _ aa;go_in;by_cases h0:0<=k.tmod n
 ·have h0':¬k.tmod n<0:=aa;go_wp2;go_ret;exact⟨bS (H1.o h0),rfl⟩
 have h0':k.tmod n<0:=aa;go_wp2;go_ret;exact⟨bS (H2.o h0'),rfl⟩
def file3 (k:Int):Nat:=(k%3).toNat
def file3_lt (k:Int):file3 k<3/\k%3=(file3 k:Int):=by unfold file3;omega
def owt:List eQ->Nat
 |[]=>0
 |o::l=>40+o.b.length+owt l
def AZ:∀(l m:List eQ),owt (l++m)=owt l+owt m
 |[],m=>by simp[owt]
 |f::l,m=>by simp only[List.cons_append,owt,AZ l m];omega
def Sk {i:Nat}(h:i<l.length):owt (l.take (i+1))=owt (l.take i)+(40+(l.getD i default).b.length):=by
 rw[List.take_succ_eq_append_getElem h,AZ,List.getD_eq_getElem?_getD,List.getElem?_eq_getElem h];simp[owt]
def Fu:∀(l:List eQ),40*l.length<=owt l
 |[]=>ai
 |o::l=>by simp only[List.length_cons,owt];have:=Fu l;omega
def fe.lookup (h:fe aA w a l){i:Nat}(hi:i<l.length):∃b o,a=some ⟨b,o,none⟩/\b<aA/\(∀j u,(l.getD i default).cs[j]?=some u->w.cell? ⟨b,o+i*5+j,none⟩=some u)/\(l.getD i default).ok aA w:=by
 rcases h.at_ with rfl|⟨b,o,rfl,hb,h1⟩;simp at hi;refine⟨b,o,rfl,hb,h1 i hi,h.good _ ?_⟩;have:l.getD i default=l[i]:=by simp[List.getD,hi]
 rw[this];exact List.getElem_mem hi
def Y8 (l:List eQ)(w:acL)(e:Ending)(w':acL):Prop:=∃t,e=ab4 (acg t)/\w'=w/\(t=false->owt l<=20000)
def ru (c:Nat)(h:fe aA w a l):ac4 prog 9 #[aco a l.length c] w (Y8 l w):=by
 have HR:=az h;have hll:=h.len;clear h;go_in;go_wp2_with fail;go_loopw [3,4] (λn i wr=>∃(k N:Nat),n=vi N/\i=vi k/\k<=l.length/\N<=140737488375400/\wr=w/\Hid (N=owt (l.take k))) (λ_ i _=>l.length-(intOf i).toNat)
 case atStart=>exact⟨0,0,rfl,rfl,Nat.zero_le _,Nat.zero_le _,rfl,az (by rw[List.take_zero];rfl)⟩
 case round =>
  obtain⟨k,N,rfl,rfl,hk,hN,rfl,hw⟩:=hrel;by_cases h1:k<l.length
  ·by_cases h2:N<=20000
   ·have n1:(k:Int)<(l.length:Int):=aa;have n2:(N:Int)<=20000:=aa;obtain⟨b,o,rfl,hb,hc,hok⟩:=HR.o.lookup h1;have HW:=az (Sk h1);have hm:=hok.most;have c4:wr.cell? ⟨b,o+k*5+4,none⟩=some (aco (l.getD k default).ba (l.getD k default).b.length (l.getD k default).bc):=hc 4 _ rfl;obtain⟨L,hL⟩:∃L,(l.getD k default).b.length=L:=⟨_,rfl⟩;rw[hL]at c4 HW hm;generalize (l.getD k default).ba=ba at*;generalize (l.getD k default).bc=bc at*;obtain⟨N2,hN2⟩:∃m,m=N+40:=⟨_,rfl⟩;obtain⟨N3,hN3⟩:∃m,m=N2+L:=⟨_,rfl⟩;have r1:adk.wrap ((N:Int)+40)=(N2:Int):=by rw[adl _ aa];omega
    have r2:adk.wrap ((N2:Int)+(L:Int))=(N3:Int):=by rw[adl _ aa];omega
    have Y9:Hid (N3=N+(40+L)):=az aa;have r3:adk.wrap ((k:Int)+1)=((k+1:Nat):Int):=by rw[adl _ aa];omega
    have jU:=az h1;have GK:Hid (N3<=140737488375400):=az aa;clear hb hc hok hL h1 hk hN h2 hm hll hN2 hN3;go_wp2;go_roundw
    case rel=>exact⟨k+1,N3,by first|rfl|trivial|go_num|(congr 1;omega),by first|rfl|trivial|go_num|(congr 1;omega),jU.o,GK.o,by first|rfl|trivial,az (by rw[HW.o,<-hw.o,Y9.o])⟩
    case measure=>have:=jU.o;simp[intOf];omega
   have n1:(k:Int)<(l.length:Int):=aa;have n2:¬(N:Int)<=20000:=aa;have n3:(20000:Int)<(N:Int):=aa;go_wp2;go_ret;exact⟨true,rfl,rfl,λe=>by cases e⟩
  have n1:¬(k:Int)<(l.length:Int):=aa;have hkl:k=l.length:=aa;have hw2:N=owt l:=by have:=hw.o;rw[hkl,List.take_length]at this;exact this
  by_cases h2:N<=20000
  ·have n3:¬(20000:Int)<(N:Int):=aa;have Kq:Hid (owt l<=20000):=az aa;clear hw2 hkl h2;go_wp2;go_ret;exact⟨false,rfl,rfl,λ_=>Kq.o⟩
  have n3:(20000:Int)<(N:Int):=aa;clear hw2 hkl h2;go_wp2;go_ret;exact⟨true,rfl,rfl,λe=>by cases e⟩
def Sq {b:Option Addr}{l:List Int}(ca cb:Nat)(ha:jC w a l)(hb:jC w b l)(hl:l.length<=100000):ac4 prog 46 #[aco a l.length ca,aco b l.length cb] w λe w'=>e=ab4 (acg true)/\acN w.heap.size w w':=by
 have HA:=az ha;have HB:=az hb;clear ha hb;have hne:((l.length:Int) != (l.length:Int))=false:=ai;go_in;go_wp2_with fail;go_loopw [5] (λi wr=>∃k:Nat,i=vi k/\k<=l.length/\Hid (acN w.heap.size w wr)) (λi _=>l.length-(intOf i).toNat)
 case atStart=>exact⟨0,rfl,Nat.zero_le _,az ak⟩
 case round =>
  obtain⟨k,rfl,hk,hbw⟩:=hrel;by_cases h1:k<l.length
  ·have n1:(k:Int)<(l.length:Int):=aa;obtain⟨b1,o1,rfl,c1⟩:=(HA.o.below hbw.o).lookup h1;obtain⟨b2,o2,rfl,c2⟩:=(HB.o.below hbw.o).lookup h1;have r3:adk.wrap ((k:Int)+1)=((k+1:Nat):Int):=by rw[adl _ aa];omega
   generalize l.getD k 0=x at*;have jU:=az h1;have nR:=az hbw.o.drew;have AV:(x != x)=false:=ai;clear hbw h1 hk;go_upto_region 6 with fail;go_region;go_wp2;go_roundw
   case rel=>exact⟨k+1,by first|rfl|trivial,jU.o,nR⟩
   case measure=>have:=jU.o;simp[intOf];omega
  have n1:¬(k:Int)<(l.length:Int):=aa;have nR:=az hbw.o;clear hbw h1;go_wp2;go_ret;exact⟨rfl,nR.o⟩
end lw
namespace PI
structure bF where
 aL:Nat
 links:Nat
 size:Nat
 direct:List Nat
 single:Nat
 double:Nat
deriving DecidableEq
def none_:bF:=⟨0,0,0,[0,0,0,0,0,0],0,0⟩
instance:Inhabited bF:=⟨none_⟩
def aB (p:Nat):Bool:=decide (p<8192)
def right (i:bF):Bool :=
 if i.aL=0 then decide (i=none_)
 else i.direct.all aB&&(decide (i.aL=1)||decide (i.aL=2))&&decide (i.links<=1000)&&decide (i.size<=2147483647)&&aB i.single&&aB i.double
def bytes (i:bF):List Nat:=[i.aL%256,0]++HP.le 2 i.links++HP.le 4 i.size++i.direct.flatMap (HP.le 2)++HP.le 2 i.single++HP.le 2 i.double
def take (b:List Nat)(at_ n:Nat):Nat:=HP.num ((b.drop at_).take n)
def ofBytes (b:List Nat):bF:=⟨take b 0 1,take b 2 2,take b 4 4,[take b 8 2,take b 10 2,take b 12 2,take b 14 2,take b 16 2,take b 18 2],take b 20 2,take b 22 2⟩
def read (b:List Nat):bF×Int :=
 if b.length≠24 then (none_,1)
 else if b.getD 1 0≠0\/right (ofBytes b)=false then (none_,51)
 else (ofBytes b,0)
def WM (size:Int):Int:=if size=64\/size=128\/size=256\/size=512 then size/24 else 0
def there (b:List Nat)(k:Int):Bool:=decide (0<=k)&&decide (k<WM b.length)
def get (b:List Nat)(k:Nat):bF×Int:=if there b k then read ((b.drop (k*24)).take 24) else (none_,1)
def lay (b:List Nat)(k:Nat)(i:bF):List Nat:=b.take (k*24)++bytes i++b.drop (k*24+24)
end PI
def Fv (a b:Nat)(ha:a<4294967296)(hb:b<4294967296):bits .xor .u32 (a:Int) (b:Int)=((a ^^^ b:Nat):Int):=u32_xor_nat a b ha hb
def Sr (a:Nat)(ha:a<4294967296):bits .and .u32 (a:Int) 1=((a%2:Nat):Int):=by
 have:=u32_and_nat a 1 ha ag;rw[nat_mask1]at this;exact this
def WN (z:Nat)(h:z<4294967296):bits .xor .u32 IntKind.u32.max (z:Int)=((4294967295-z:Nat):Int):=by
 have:=Fv 4294967295 z ag h;rw[show 4294967295 ^^^ z=4294967295-z by
  have:=HP.GZ (x:=4294967295-z) (y:=4294967295 ^^^ z) (by
   rw[<-Nat.xor_assoc,Nat.xor_comm (4294967295-z),Nat.xor_assoc,Nat.xor_comm (4294967295-z),HP.xor_not h,Nat.xor_self])
  exact this.symm]at this
 exact this
def Su (z:Nat)(h:z<4294967296):bits .xor .u32 ((z:Int)/2) 3988292384=((z/2 ^^^ 3988292384:Nat):Int):=Fv (z/2) 3988292384 aa aa
def Sv (r b:Nat)(w:acL)(hr:r<4294967296)(hb:b<256) :
  ac4 prog 183 #[vw r,vb b] w λe w'=>e=ab4 (vw (HP.put r b))/\w'=w:=by
 have hx:=Fv r b hr aa;have hxl:r ^^^ b<4294967296:=HP.J4 hr aa;go_in;go_wp2_with fail;go_loop [0,9] (λy i=>∃j z:Nat,j<=8/\i=vi j/\y=vw z/\Hid (z=HP.steps j (r ^^^ b))/\z<4294967296) (λ_ i=>8-(intOf i).toNat)
 case atStart=>exact⟨0,r ^^^ b,aa,rfl,rfl,az rfl,hxl⟩
 case round =>
  obtain⟨j,z,hj,rfl,rfl,hz,hzl⟩:=hrel;have h1:=Sr z hzl;have h2:=Su z hzl;have hstep:HP.steps (j+1) (r ^^^ b)=HP.step z:=by rw[HP.steps,hz.o]
  have hlt':=HP.Mr hzl;have HS:=az hstep;clear hstep;by_cases hlt:j<8
  ·rcases Nat.mod_two_eq_zero_or_one z with hm|hm
   ·have Hs:Hid (HP.step z=z/2):=az (by rw[HP.step,if_neg aa]);clear hlt';rw[hm]at h1;have Hm:=az hm;clear hm;go_wp2_with fail;go_round
    case rel=>exact⟨j+1,z/2,aa,by go_num,by go_num,az (by rw[HS.o,Hs.o]),aa⟩
    case measure=>simp[intOf];omega
   have Hs:Hid (HP.step z=z/2 ^^^ 3988292384):=az (by rw[HP.step,if_pos hm]);have hlt2:z/2 ^^^ 3988292384<4294967296:=HP.J4 aa aa;clear hlt';rw[hm]at h1;have Hm:=az hm;clear hm;go_wp2_with fail;go_round
   case rel=>exact⟨j+1,z/2 ^^^ 3988292384,aa,by go_num,rfl,az (by rw[HS.o,Hs.o]),hlt2⟩
   case measure=>simp[intOf];omega
  obtain rfl:j=8:=aa;have Hz:=hz;go_wp2;go_ret;exact⟨by rw[Hz.o];rfl,rfl⟩
def OE (a:Option Addr)(l:List Nat)(c:Nat)(w:acL)(h:bE w a l)(hl:l.length<=9000000) :
  ac4 prog 164 #[vw 0,aco a l.length c] w λe w'=>e=ab4 (vw (HP.sum l))/\w'=w:=by
 have HR:=az h;have hs:=HP.Rf l (r:=4294967295) aa h.small;clear h;go_in;go_wp2_with fail;go_loop [5,12] (λy i=>∃k z:Nat,k<=l.length/\i=vi k/\y=vw z/\Hid (z=HP.reg 4294967295 (l.take k))/\z<4294967296) (λ_ i=>l.length-(intOf i).toNat)
 case atStart=>exact⟨0,4294967295,aa,rfl,rfl,az rfl,aa⟩
 case round =>
  obtain⟨k,z,hk,rfl,rfl,hz,hzl⟩:=hrel;by_cases hlt:k<l.length
  ·obtain⟨b,o,rfl,hc,hsm⟩:=HR.o.lookup hlt;have HS:=az (show HP.reg 4294967295 (l.take (k+1))=HP.put z (l.getD k 0) by
    rw[List.take_succ_eq_append_getElem hlt,HP.J5,<-hz.o]
    simp[HP.reg,List.getD,hlt])
   have hp:=HP.Re hzl hsm;generalize l.getD k 0=x at hc hsm HS hp;go_wp2_with (go_at_call 183;refine(Sv _ _ _ hzl hsm).mono ?_;rintro e w1 ⟨rfl,rfl⟩);go_round
   case rel=>exact⟨k+1,HP.put z x,aa,by go_num,rfl,az (by rw[HS.o]),hp⟩
   case measure=>simp[intOf];omega
  obtain rfl:k=l.length:=aa;have Hz:=hz;go_wp2;go_ret;refine⟨congrArg (λx=>Ending.returned (acK.int .u32 x)) ?_,rfl⟩;have hz':=hz.o;rw[List.take_length]at hz';rw[WN z hzl,hz'];rfl
def Iq (a:Option Addr)(l:List Nat)(c:Nat)(w:acL)(h:bE w a l)(hl:l.length<=9000000) :
  ac4 prog 137 #[aco a l.length c] w λe w'=>e=ab4 (vw (HP.sum l))/\w'=w:=by
 have HR:=az h;clear h;go_in;go_wp2_with (go_at_call 164;refine(OE _ _ _ _ HR.o hl).mono ?_;rintro e w1 ⟨rfl,rfl⟩);go_ret;exact⟨rfl,rfl⟩
def OG {wr:acL}{j x y:Nat}{m:acK}{l:List Nat}(hy:y=x/256 ^ j)(hown:Own wr aA m (l++HP.le j x))(hb:aA<=wr.heap.size)(hB:Stp aA w wr)(hn:l.length+j+1<=1000000) :
  ∃v' w',(Builtin.append_ #[23,23] 23 #[m,aco (some ⟨wr.heap.size,0,none⟩) 1 1]).run prog (wr.alloc (.cells #[.int .u8 ((y:Int)%256)] 5))=.ok v' w' /\
   Own w' aA v' (l++HP.le (j+1) x)/\aA<=w'.heap.size/\Stp aA w w':=by
 subst hy;obtain⟨v',w',hrun,ho,hg⟩:=ik (c:=1) (hown.old ax) (Ra wr (x/256 ^ j%256) aa) (by simp[HP.eU];omega) (by simp;omega);have hst:=(hB.alloc hb _).trans hg;refine⟨v',w',hrun,?_,by have:=hg.size;simp at this;omega,hst⟩;rw[HP.Ms,<-List.append_assoc];exact ho
def Sy {x y j:Nat}(h:y=x/256 ^ j):y/256=x/256 ^ (j+1):=by
 rw[h,Nat.div_div_eq_div_mul,Nat.pow_succ]
def ry (aA:Nat)(v:acK)(l:List Nat)(x k:Nat)(w:acL)(hown:Own w aA v l)(hb:aA<=w.heap.size)(hx:x<18446744073709551616)(hn:l.length+k<=1000000)(hk:k<=8) :
  ac4 prog 172 #[v,vq x,vi k] w λe w'=>∃v',e=ab4 v'/\Own w' aA v' (l++HP.le k x)/\Stp aA w w':=by
 have HO:=az hown;clear hown;go_in;go_wp2_with fail;go_loopw [0,1,8] (λm y i wr=>∃j z:Nat,j<=k/\i=vi j/\y=vq z/\Hid (z=x/256 ^ j)/\z<18446744073709551616/\Hid (Own wr aA m (l++HP.le j x))/\Hid (aA<=wr.heap.size/\Stp aA w wr)) (λ_ _ i _=>k-(intOf i).toNat)
 case atStart=>exact⟨0,x,Nat.zero_le _,rfl,rfl,az ai,hx,az (by simpa[HP.le] using HO.o),az ⟨hb,Stp.refl _ _⟩⟩
 case round =>
  obtain⟨j,y,hj,rfl,rfl,hy,hyl,ho,hB⟩:=hrel;by_cases hlt:j<k
  ·obtain⟨v',w',hrun,ho',hb',hB'⟩:=OG hy.o ho.o hB.o.1 hB.o.2 aa;have Og:=az hrun;have yz:=az ho';have HB2:=az (And.intro hb' hB');clear hrun ho' hb' hB' ho hB;go_wp2_with (at_builtin;refine wpList_append_run rfl (.tmp 10) (.tmp 13) rfl rfl rfl Og.o ?_);go_roundw
   case rel=>exact⟨j+1,y/256,aa,rfl,rfl,az (Sy hy.o),aa,yz,HB2⟩
   case measure=>simp[intOf];omega
  obtain rfl:j=k:=aa;have HB2:=hB;have yz:=ho;go_wp2;go_ret;exact⟨_,rfl,yz.o,HB2.o.2⟩
def D8 (n:Int)(w:acL):ac4 prog 133 #[vi n] w λe w'=>e=ab4 (acg (TP.sized n))/\w'=w:=by
 unfold TP.sized;go_in;by_cases h1:n=64
 ·subst h1;go_wp2;go_ret;exact⟨rfl,rfl⟩
 have q1:(n==64)=false:=beq_eq_false_iff_ne.2 h1;by_cases h2:n=128
 ·subst h2;go_wp2;go_ret;exact⟨rfl,rfl⟩
 have q2:(n==128)=false:=beq_eq_false_iff_ne.2 h2;by_cases h3:n=256
 ·subst h3;go_wp2;go_ret;exact⟨rfl,rfl⟩
 have q3:(n==256)=false:=beq_eq_false_iff_ne.2 h3;by_cases h4:n=512
 ·subst h4;go_wp2;go_ret;exact⟨rfl,rfl⟩
 have q4:(n==512)=false:=beq_eq_false_iff_ne.2 h4;go_wp2;go_ret;exact⟨by rw[q1,q2,q3,q4];rfl,rfl⟩
abbrev aaD (t:TP.Tag):acK:=.agg #[vi t.aL,vw t.aB,vq t.seq,vq t.aM]
def Ir {t:TP.Tag}:acN w.heap.size w (w.alloc (.cells #[vi t.aL,vw t.aB,vq t.seq,vq t.aM] 170)):=ax
def A7 (t:TP.Tag)(w:acL):ac4 prog 136 #[aaD t] w λe w'=>e=ab4 (acg (TP.right t))/\acN w.heap.size w w':=by
 obtain⟨kd,pg,sq,ep⟩:=t;have HB:=az (Ir (w:=w) (t:=⟨kd,pg,sq,ep⟩));have HD:Hid (TP.right ⟨kd,pg,sq,ep⟩=((kd==1||kd==2)&&decide (pg<8192)&&decide (1<=sq)&&decide (sq<4611686018427387904)&&decide (1<=ep)&&decide (ep<4611686018427387904))):=az rfl;rw[HD.o];clear HD;go_in;have key:∀b:Bool,(kd==1||kd==2)=b->(b=false->(kd==1)=false/\(kd==2)=false)/\(b=true->kd=1\/(kd=2/\(kd==1)=false)):=by
  intro b hb;subst hb;refine⟨λh=>by simpa using h,λh=>?_⟩;by_cases h1:kd=1;exact ack h1;simp[h1]at h;exact acm ⟨h,beq_eq_false_iff_ne.2 h1⟩
 cases hk:(kd==1||kd==2)
 ·obtain⟨q1,q2⟩:=(key _ hk).1 rfl;clear hk key;go_wp2;go_ret;exact⟨ai,HB.o⟩
 have hk2:=(key _ hk).2 rfl;clear hk key;by_cases p1:pg<8192
 ·have p1':(pg:Int)<8192:=aa;by_cases p2:1<=sq
  ·have p2':(1:Int)<=sq:=aa;by_cases p3:sq<4611686018427387904
   ·have p3':(sq:Int)<4611686018427387904:=aa;by_cases p4:1<=ep
    ·have p4':(1:Int)<=ep:=aa;by_cases p5:ep<4611686018427387904
     ·have p5':(ep:Int)<4611686018427387904:=aa;rcases hk2 with rfl|⟨rfl,q1⟩;all_goals
       go_wp2;go_ret;exact⟨by first|rfl|simp,HB.o⟩
     have p5':¬(ep:Int)<4611686018427387904:=aa;rcases hk2 with rfl|⟨rfl,q1⟩;all_goals
      go_wp2;go_ret;exact⟨by first|rfl|simp,HB.o⟩
    have p4':¬(1:Int)<=ep:=aa;rcases hk2 with rfl|⟨rfl,q1⟩;all_goals
     go_wp2;go_ret;exact⟨by first|rfl|simp,HB.o⟩
   have p3':¬(sq:Int)<4611686018427387904:=aa;rcases hk2 with rfl|⟨rfl,q1⟩;all_goals
    go_wp2;go_ret;exact⟨by first|rfl|simp,HB.o⟩
  have p2':¬(1:Int)<=sq:=aa;rcases hk2 with rfl|⟨rfl,q1⟩;all_goals
   go_wp2;go_ret;exact⟨by first|rfl|simp,HB.o⟩
 have p1':¬(pg:Int)<8192:=aa;rcases hk2 with rfl|⟨rfl,q1⟩;all_goals
  go_wp2;go_ret;exact⟨by first|rfl|simp,HB.o⟩
def Kr (a:Option Addr)(l:List Nat)(c:Nat)(w:acL)(h:bE w a l)(hl:l.length<=9000000) :
  ac4 prog 134 #[aco a l.length c] w λe w'=>e=ab4 (acg (TP.ones l))/\w'=w:=by
 have HR:=az h;clear h;have HD:Hid (TP.ones l=l.all (·==255)):=az rfl;go_in;go_wp2_with fail;go_loop [7] (λi=>∃k:Nat,k<=l.length/\i=vi k/\Hid (∀j,j<k->l.getD j 0=255)) (λi=>l.length-(intOf i).toNat)
 case atStart=>exact⟨0,aa,rfl,az aa⟩
 case round =>
  obtain⟨k,hk,rfl,hall⟩:=hrel;by_cases hlt:k<l.length
  ·obtain⟨b,o,rfl,hc,hsm⟩:=HR.o.lookup hlt;have HX:Hid (l.getD k 0∈l):=az (NP.bL hlt);have HN:Hid (∀j,j<k+1->l.getD j 0=255\/j=k):=az (λj hj=>by
    by_cases e:j=k
    exact acm e
    exact ack (hall.o j aa))
   by_cases hx:l.getD k 0=255
   ·have Kq:Hid (∀j,j<k+1->l.getD j 0=255):=az (λj hj=>by
     rcases HN.o j hj with e|e
     exact e
     rw[e];exact hx)
    rw[hx]at hc;clear HN HX hsm hx;go_wp2_with fail;go_round
    case rel=>exact⟨k+1,aa,by go_num,Kq⟩
    case measure=>simp[intOf];omega
   have HF:Hid (l.all (·==255)=false):=az (List.all_eq_false.2 ⟨_,HX.o,by simpa using hx⟩);generalize l.getD k 0=x at hc hsm hx;have hq:((x:Int) != 255)=true:=by simp;omega
   clear HN HX hall;go_wp2;go_ret;exact⟨by rw[HD.o,HF.o];rfl,rfl⟩
  obtain rfl:k=l.length:=aa;have HT:Hid (l.all (·==255)=true):=az (List.all_eq_true.2 λx hx=>by
   obtain⟨j,hj,rfl⟩:=List.mem_iff_getElem.1 hx
   have:=hall.o j hj
   rw[List.getD_eq_getElem?_getD,List.getElem?_eq_getElem hj]at this
   simpa using this)
  clear hall;go_wp2;go_ret;exact⟨by rw[HD.o,HT.o];rfl,rfl⟩
namespace ino
open RowKit
abbrev j4:PI.bF->Array acK
 |⟨kd,ln,sz,[d0,d1,d2,d3,d4,d5],sg,db⟩=>#[vi kd,vi ln,vi sz,vi d0,vi d1,vi d2,vi d3,vi d4,vi d5,vi sg,vi db]
 |_=>#[]
abbrev dS (i:PI.bF):acK:=.agg (j4 i)
def six {l:List Nat}(h:l.length=6):∃d0 d1 d2 d3 d4 d5,l=[d0,d1,d2,d3,d4,d5]:=by
 match l,h with
 |[d0,d1,d2,d3,d4,d5],_=>exact⟨d0,d1,d2,d3,d4,d5,rfl⟩
def oD:ac4 prog 52 #[vi 64] w λe w'=>e=ab4 (acg true)/\w'=w:=by
 go_in;go_wp2;go_ret;exact⟨rfl,rfl⟩
def Kt:ac4 prog 91 #[vi 64] w λe w'=>e=ab4 (vi 2)/\w'=w:=by
 go_in;go_wp2_with fail;refine oD.mono ?_;rintro e w' ⟨rfl,rfl⟩;go_wp2;go_ret;exact⟨rfl,rfl⟩
def OH (d0 d1 d2 d3 d4 d5:Int)(w:acL):(ado 27 (.agg #[vi d0,vi d1,vi d2,vi d3,vi d4,vi d5]) (vi 0)).run prog w=.ok (vi d0) w/\(ado 27 (.agg #[vi d0,vi d1,vi d2,vi d3,vi d4,vi d5]) (vi 1)).run prog w=.ok (vi d1) w /\
  (ado 27 (.agg #[vi d0,vi d1,vi d2,vi d3,vi d4,vi d5]) (vi 2)).run prog w=.ok (vi d2) w/\(ado 27 (.agg #[vi d0,vi d1,vi d2,vi d3,vi d4,vi d5]) (vi 3)).run prog w=.ok (vi d3) w /\
  (ado 27 (.agg #[vi d0,vi d1,vi d2,vi d3,vi d4,vi d5]) (vi 4)).run prog w=.ok (vi d4) w/\(ado 27 (.agg #[vi d0,vi d1,vi d2,vi d3,vi d4,vi d5]) (vi 5)).run prog w=.ok (vi d5) w:=by
 refine⟨?_,?_,?_,?_,?_,?_⟩<;>kernel_rfl
end ino
end Go.Proofs.YtllmbcigmimgoaaGreat
