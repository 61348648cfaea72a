/-
  Lemmas for a law's proof, put together from several texts. No conditions of their own.
-/
import Derived.Test.YtllmbcigmimgoaaGreatZC04
import Derived.Test.YtllmbcigmimgoaaGreatZC03
import Derived.Test.YtllmbcigmimgoaaGreatZC01
set_option maxRecDepth 100000
set_option maxHeartbeats 20000000
set_option linter.all false
namespace Go.Proofs.YtllmbcigmimgoaaGreat
open _root_.Go.Proofs.Tryz
open _root_.Array renaming getElem?_eq_some_iff->aaz
open _root_.Go renaming World->acL,Value->acK
open _root_.Go.Ending renaming returned->ab4
open _root_.Go.Obj renaming cells->ach,deferred->adL
open _root_.Go.Value renaming bool->acg,slice->aco,pointer->adj
open _root_.List renaming append_assoc->adM,length_append->acZ,prefix_append_right_inj->adU,length_cons->adV,append_nil->adS,finRange->adK
open _root_.Nat renaming le_trans->abX
open _root_.Or renaming inr->acm,inl->ack
namespace po
open RowKit mgr ft pl ino nd
attribute [local go_sem] Oper.semAt_some
variable{F':Nat->Prop}{w w':acL}
def mO.grown {B0 k:Nat}{F:Nat->Prop}{w'':acL}{row:Option Nat}(h:mO B0 k F w F' w')(hg:w'.grownBy w'' row)(hr:∀r,row=some r->w.heap.size<=r):mO B0 k F w F' w'' :=
 ⟨h.aJ.grown hg (λr e=>acm (hr r e)),h.foot,⟨abX h.keeps.size hg.size,λj o hB ho hc=>(hg.block j (Nat.lt_of_lt_of_le (aaz.1 ho).1 h.keeps.size) (λe=>by
  have h1:=hr j e.symm
  have h2:=(aaz.1 ho).1
  omega)).trans (h.keeps.same j o hB ho hc)⟩⟩
def KM {B B':Nat}(h:KeepsFrom B w w')(hb:B<=B'):KeepsFrom B' w w':=⟨h.size,λj o hj ho hc=>h.same j o (abX hb hj) ho hc⟩
def Po.told (p:Po)(lv fr:Nat)(bl:List Nat)(xs:List (Fin (PI.ptrs bl).length)):List It:=xs.flatMap λx=>p.items lv ((PI.ptrs bl)[x.1]).2 (fr+((PI.ptrs bl)[x.1]).1*stepOf (lv+1))
def Dn {P:Program}{f:FuncId}{args:Array acK}{R:Ending->acL->Prop}{l n:Nat}(h:Calls P f args w R):CallsIn (Fence.wide.inRound l) n P f args w R:=(callsIn_wide (n:=n)).2 h
def pk (bl:List Nat)(x:Fin (PI.ptrs bl).length):Nat:=((PI.ptrs bl)[x.1]).1
def pv (bl:List Nat)(x:Fin (PI.ptrs bl).length):Nat:=((PI.ptrs bl)[x.1]).2
variable{α β:Type}
def Tw (l:List (α×β))(x:Fin l.length):((l[x.1]).1,(l[x.1]).2)∈l:=List.getElem_mem x.2
def M0 (bl:List Nat)(x:Fin (PI.ptrs bl).length):(pk bl x,pv bl x)∈PI.ptrs bl:=by
 unfold pk pv;exact Tw (PI.ptrs bl) x
def adT (bl:List Nat)(x:Fin (PI.ptrs bl).length):pk bl x<32:=by
 have h:=PI.Br bl 32 (M0 bl x);generalize pk bl x=a at*;generalize pv bl x=c at*;exact h.1
variable{bl:List Nat}
def Xk {P:Nat->Prop}(h:∀x∈PI.ptrs bl,P x.2)(x:Fin (PI.ptrs bl).length):P (pv bl x):=by
 have h:=h _ (M0 bl x);generalize pk bl x=a at*;generalize pv bl x=c at*;exact h
def Po.Tx (p:Po)(lv fr:Nat)(bl:List Nat)(xs:List (Fin (PI.ptrs bl).length))(x:Fin (PI.ptrs bl).length):p.told lv fr bl (xs++[x])=p.told lv fr bl xs++p.items lv (pv bl x) (fr+pk bl x*stepOf (lv+1)):=by
 unfold Po.told pv pk;rw[List.flatMap_append,List.flatMap_cons,List.flatMap_nil,adS]
def fin_flat (l:List α)(f:α->List β):((adK l.length).flatMap λx=>f l[x.1])=l.flatMap f:=by
 rw[<-List.flatMap_map (λx:Fin l.length=>l[x.1]) f];congr 1;refine List.ext_getElem ai λi h1 h2=>?_
 simp
def Po.IZ (p:Po)(lv fr:Nat)(bl:List Nat):p.told lv fr bl (adK _)=(PI.ptrs bl).flatMap λx=>p.items lv x.2 (fr+x.1*stepOf (lv+1)) :=
 fin_flat (PI.ptrs bl) (λx=>p.items lv x.2 (fr+x.1*stepOf (lv+1)))
def flat_len (l:List α)(f:α->List β)(n:Nat)(h:∀x∈l,(f x).length<=n):(l.flatMap f).length<=l.length*n:=by
 induction l with
 |nil=>simp
 |cons a l ih =>
  rw[List.flatMap_cons,acZ,adV,Nat.add_mul,Nat.one_mul];have h1:=h a (List.mem_cons_self ..);have h2:=ih (λx hx=>h x (List.mem_cons_of_mem _ hx));omega
def Po.xM (p:Po)(lv:Nat)(h:lv<=2)(aB fr:Nat):(p.items lv aB fr).length<=MZ lv:=by
 have h0:∀aB fr,(p.items 0 aB fr).length<=1:=λaB fr=>by
  unfold Po.items;split<;>simp
 have h1:∀aB fr,(p.items 1 aB fr).length<=33:=λaB fr=>by
  unfold Po.items;split;simp;rw[adV];have:=flat_len (PI.ptrs (p.get aB)) (λx=>p.items 0 x.2 (fr+x.1*stepOf (0+1))) 1 (λx _=>h0 _ _);have:(PI.ptrs (p.get aB)).length<=32:=PI.uS (p.get aB) 32;omega
 rcases (by omega:lv=0\/lv=1\/lv=2) with e|e|e<;>subst e;exact h0 aB fr;exact abX (h1 aB fr) ag;refine abX ?_ (show 33*33+1<=MZ 2 by decide);unfold Po.items;split;simp;rw[adV];have:=flat_len (PI.ptrs (p.get aB)) (λx=>p.items 1 x.2 (fr+x.1*stepOf (1+1))) 33 (λx _=>h1 _ _);have:(PI.ptrs (p.get aB)).length<=32:=PI.uS (p.get aB) 32;omega
def Po.Ty (p:Po)(lv fr:Nat)(h:lv<=1)(bl:List Nat)(xs:List (Fin (PI.ptrs bl).length))(hx:xs.length<33):(p.told lv fr bl xs).length<=32*MZ lv:=by
 have:=flat_len xs (λx=>p.items lv ((PI.ptrs bl)[x.1]).2 (fr+((PI.ptrs bl)[x.1]).1*stepOf (lv+1))) (MZ lv) (λx _=>p.xM lv aa _ _);exact abX this (Nat.mul_le_mul_right _ aa)
def KN (lv:Nat):1<=stepOf lv/\stepOf lv<=32:=by unfold stepOf;split<;>omega
def M8 (lv:Nat)(h:lv<=1):MZ (lv+1)=1+33*MZ lv+(if lv=0 then 0 else 77):=by
 rcases (by omega:lv=0\/lv=1) with e|e<;>subst e<;>rfl
def PQ.Xl {aA:Nat}{q k:Nat}{K:Nat->Prop}{p:Po}(h:PQ aA w q K p)(hk:fF w q k):∃cs,aD w k 144 cs:=by
 obtain⟨Y,X,h,rfl⟩:=h;have:=hk.uniq h.iN;subst this;exact⟨_,h.ft.held.aW.aW⟩
variable{n0 b1 b2 b3 b4 b5 g:Nat}{fr lv:Int}{cb:acK}{W W':acL}
def lZ.other {ok:Bool}{b:Nat}(h:lZ n0 b1 b2 b3 b4 b5 g fr lv cb ok W)(hst:aP (λn=>n=b) W W')(ne:b1≠b/\b2≠b/\b3≠b/\b4≠b/\b5≠b):lZ n0 b1 b2 b3 b4 b5 g fr lv cb ok W' :=
 ⟨h.f.aJ hst ne.1,h.fr.aJ hst ne.2.1,h.lv.aJ hst ne.2.2.1,h.cb.aJ hst ne.2.2.2.1,h.ok.aJ hst ne.2.2.2.2,h.ge,h.ne⟩
def lZ.lts {ok:Bool}(h:lZ n0 b1 b2 b3 b4 b5 g fr lv cb ok W):b1≠W.heap.size/\b2≠W.heap.size/\b3≠W.heap.size/\b4≠W.heap.size/\b5≠W.heap.size:=by
 have h1:=h.f.lt;have h2:=h.fr.lt;have h3:=h.lv.lt;have h4:=h.cb.lt;have h5:=h.ok.lt;omega
section
variable{aA:Nat}{w w':acL}{q g k B0 cf y:Nat}{p:Po}{i:PI.bF}{K F:Nat->Prop}{J:List It->(Nat->Prop)->acL->Prop}{Jx:List It->(Nat->Prop)->acL->Prop}{pre:List It}
def Lower (q:Nat)(p:Po)(i:PI.bF)(g k B0 cf y lv mx:Nat)(J:List It->(Nat->Prop)->acL->Prop)(Jx:List It->(Nat->Prop)->acL->Prop):Prop :=
 ∀(W:acL) (pre:List It) (F:Nat->Prop) (aB fr:Nat),J pre F W->B0<=W.heap.size->aD W g 74 (fileC q i)->¬F g->p.agz lv aB->pre.length+MZ lv<=2000->fr<=mx ->
  Calls prog 65 #[ptr g,vi aB,vi fr,vi lv,.func (.func cf) #[] #[ptr y]] W (Em k B0 J Jx (pre++p.items lv aB fr) F W)
def RunT (k B0:Nat)(J:List It->(Nat->Prop)->acL->Prop)(p:Po)(pre:List It)(lv fr:Nat)(bl:List Nat)(F2:Nat->Prop)(w8:acL)(xs:List (Fin (PI.ptrs bl).length))(W:acL):Prop :=
 ∃F',mO B0 k F2 w8 F' W/\J (pre++p.told lv fr bl xs) F' W
variable{lv fr:Nat}{F2:Nat->Prop}{w8:acL}{xs:List (Fin (PI.ptrs bl).length)}
def O8 (h:RunT k B0 J p pre lv fr bl F2 w8 xs W)(hs:xs=adK _) :
  ∃F',mO B0 k F2 w8 F' W/\J (pre++(PI.ptrs bl).flatMap λx=>p.items lv x.2 (fr+x.1*stepOf (lv+1))) F' W:=by
 obtain⟨F',h1,h2⟩:=h;refine⟨F',h1,?_⟩;rw[hs,Po.IZ]at h2;exact h2
def Tz (k B0:Nat)(Jx:List It->(Nat->Prop)->acL->Prop)(p:Po)(pre:List It)(lv fr:Nat)(bl:List Nat)(F:Nat->Prop)(w:acL)(b5:Nat)(c:Code)(xs:List (Fin (PI.ptrs bl).length))(W:acL):Prop :=
 c=.ret/\∃F' its,mO B0 k F w F' W/\its <+: pre++p.told lv fr bl xs/\Jx its F' W/\aD W b5 4 #[acg false]
def Po.TE (h:∃j,xs=(adK _).take j):p.told lv fr bl xs <+: (PI.ptrs bl).flatMap λx=>p.items lv x.2 (fr+x.1*stepOf (lv+1)):=by
 obtain⟨j,rfl⟩:=h;rw[<-p.IZ lv fr bl];refine⟨p.told lv fr bl ((adK _).drop j),?_⟩;unfold Po.told;rw[<-List.flatMap_append,List.take_append_drop]
def runT_own (T:zw aA q K p k B0 J)(hB:B0<=w8.heap.size):OwnFrom w8.heap.size (RunT k B0 J p pre lv fr bl F2 w8):=by
 intro s W W' row hs hg hr;obtain⟨F',h1,h2⟩:=hs;exact⟨F',h1.grown hg (λr e=>(hr r e).1),T.own h2 hg (λr e=>⟨abX hB (hr r e).1,(hr r e).2⟩)⟩
def O9 (X:IY B0 Jx){B8:Nat}(hw:w.heap.size<=B8)(hB:B0<=B8)(c:Code):OwnFrom B8 (Tz k B0 Jx p pre lv fr bl F w b5 c):=by
 intro s W W' row hs hg hr;obtain⟨h0,F',its,h1,h4,h2,h3⟩:=hs;exact⟨h0,F',its,h1.grown hg (λr e=>abX hw (hr r e).1),h4,X.own h2 hg (λr e=>⟨abX hB (hr r e).1,(hr r e).2⟩),rQ h3 hg (λr e=>(hr r e).2)⟩
def lZ.go2 {fr lv:Int}{ok:Bool}(h:lZ n0 b1 b2 b3 b4 b5 g fr lv cb ok W)(q:mO B0 k F W F' W')(hF:¬F b1/\¬F b2/\¬F b3/\¬F b4/\¬F b5)(hk:k<n0):lZ n0 b1 b2 b3 b4 b5 g fr lv cb ok W'/\(¬F' b1/\¬F' b2/\¬F' b3/\¬F' b4/\¬F' b5):=by
 have g1:=h.ge;have h1:=q.keep h.f hF.1 aa;have h2:=q.keep h.fr hF.2.1 aa;have h3:=q.keep h.lv hF.2.2.1 aa;have h4:=q.keep h.cb hF.2.2.2.1 aa;have h5:=q.keep h.ok hF.2.2.2.2 aa;exact⟨⟨h1.1,h2.1,h3.1,h4.1,h5.1,h.ge,h.ne⟩,h1.2,h2.2,h3.2,h4.2,h5.2⟩
def Xm :OwnFrom (β:=Unit) w.heap.size (λ_ W=>mO B0 k F w F' W):=λ_ _ _ _ h hg hr=>h.grown hg (λr e=>(hr r e).1)
def TF (T:zw aA q K p k B0 J):OwnFrom (β:=Unit) B0 (λ_ W=>J pre F W):=λ_ _ _ _ h hg hr=>T.own h hg hr
def BF (T:zw aA q K p k B0 J)(X:IY B0 Jx)(hcf:∀(args:Array acK) (W:acL),(callFunc cf args).run prog W=.ok (.enter cf args) W)(C:Cb cf y k B0 J Jx)(Fe:g≠k)(lv:Nat)(hlv:lv<=1)(mx:Nat)(hmx:mx<=50000)(LO:Lower q p i g k B0 cf y lv (mx+1000) J Jx)
  (hi:i.direct.length=6) (hJ:J pre F w) (hB:B0<=w.heap.size) (hf:aD w g 74 (fileC q i)) (V9:¬F g) (aB fr:Nat) (hp:p.agz (lv+1) aB) (hL:pre.length+MZ (lv+1)<=2000) (hfr:fr<=mx) :
  Calls prog 65 #[ptr g,vi aB,vi fr,vi ((lv+1:Nat):Int),.func (.func cf) #[] #[ptr y]] w (Em k B0 J Jx (pre++p.items (lv+1) aB fr) F w):=by
 obtain⟨lw,hlw⟩:∃l,l=lv+1:=⟨_,rfl⟩;have CU:=az hlw;rw[<-hlw];clear hlw;refine callsIn_wide.1 (callsIn_of_wp_marks (F:=Fence.wide) (n:=6) func65 rfl trivial (wpIn_wide.2 ?_) rfl);simp only[ntmps65,List.size_toArray,adV,List.length_nil,Nat.reduceAdd,Nat.reduceSub,Array.replicate_succ,Array.replicate_zero,List.push_toArray,List.append_toArray,List.nil_append,List.cons_append];go_upto_region 1 with fail;have HB1:Hid (Below w.heap.size w (((((w.alloc (ach #[ptr g] 72)).alloc (ach #[vi fr] 3)).alloc (ach #[vi lw] 3)).alloc (ach #[.func (.func cf) #[] #[ptr y]] 82)).alloc (ach #[acg false] 4))):=az (five w _ _ _ _ _).1
 have lD:=az (lZ.mk' w g fr lw (.func (.func cf) #[] #[ptr y]));change Code.wp _ _ _ _ (((((w.alloc (ach #[ptr g] 72)).alloc (ach #[vi fr] 3)).alloc (ach #[vi lw] 3)).alloc (ach #[.func (.func cf) #[] #[ptr y]] 82)).alloc (ach #[acg false] 4));generalize (((((w.alloc (ach #[ptr g] 72)).alloc (ach #[vi fr] 3)).alloc (ach #[vi lw] 3)).alloc (ach #[.func (.func cf) #[] #[ptr y]] 82)).alloc (ach #[acg false] 4))=w1 at*;obtain⟨n0,hn0⟩:∃n,n=w.heap.size:=⟨_,rfl⟩;have QZ:=az hn0;rw[<-hn0]at lD ⊢;clear hn0;obtain⟨b1,h1⟩:∃b,b=n0:=⟨_,rfl⟩;have jE:Hid (lZ n0 b1 (n0+1) (n0+1+1) (n0+1+1+1) (n0+1+1+1+1) g fr lw (.func (.func cf) #[] #[ptr y]) false w1):=az (by rw[h1];exact lD.o)
 clear lD;generalize n0+1+1+1+1=b5 at*;generalize n0+1+1+1=b4 at*;generalize n0+1+1=b3 at*;generalize n0+1=b2 at*;rw[<-h1];clear h1;have FI:=az hJ;have HT:=az T;have HX:=az X;have D6:Hid (∀n,F n->n<n0):=az (λn e=>by rw[QZ.o];exact T.lt hJ n e);have jU:Hid (k<n0):=az (by
  rw[QZ.o]
  exact(T.pq hJ).lt _ ((T.pq hJ).pK (T.aW hJ)).1)
 have HB0:=az hB;have HF:=az hf;have HGF:=az V9;have Y6:=az Fe;have HLO:=az LO;have oC:=az hp;have je:=az hL;have Zq:=az hlv;clear hJ T X hB hf V9 Fe LO hp hL hlv;by_cases hz:aB=0
 ·have Bv:Hid (p.items (lv+1) aB fr=[]):=az (by unfold Po.items;rw[if_pos hz]);subst hz;have r0:w1.cell? ⟨b5,0,none⟩=some (acg false):=jE.o.ok.cell 0;have f0:=jE.o.ok.frozen 0;clear hcf C;go_wp2_with fail;have hb:=(jE.o.done true).ok;have hbl:Below w.heap.size w (w1.setCell ⟨b5,0,none⟩ (acg true)):=HB1.o.setCell (p:=⟨b5,0,none⟩) (by rw[<-QZ.o];exact jE.o.ge.2.2.2.2) _;refine⟨_,jh hb _ rfl,F,mO.old hbl,ack ⟨rfl,?_⟩⟩;rw[CU.o,Bv.o,adS];exact HT.o.old FI.o hbl
 have Bv:Hid (p.items (lv+1) aB fr=(fr,aB,lv+1)::(PI.ptrs (p.get aB)).flatMap λx=>p.items lv x.2 (fr+x.1*stepOf (lv+1))):=az (by rw[Po.items,if_neg hz]);have HCB:Hid (∀W,Below w.heap.size w W->Calls prog cf #[vi fr,vi aB,vi lw,ptr y] W (Em k B0 J Jx (pre++[(fr,aB,lw)]) F W)):=az (λW hb=>C pre (fr,aB,lw) F W (by
  have h7:=je.o
  have h8:=M8 lv Zq.o
  omega) (by have:=Zq.o;have:=CU.o;show lw<=2;omega) (HT.o.old FI.o hb) (abX HB0.o hb.size))
 have x2:w1.cell? ⟨b2,0,none⟩=some (vi fr):=jE.o.fr.cell 0;have x3:w1.cell? ⟨b3,0,none⟩=some (vi lw):=jE.o.lv.cell 0;have x4:w1.cell? ⟨b4,0,none⟩=some (.func (.func cf) #[] #[ptr y]):=jE.o.cb.cell 0;have n0':¬(aB:Int)=0:=aa;clear C;go_upto_region 3 with fail;go_wp2_with fail;refine(HCB.o _ HB1.o).mono ?_;rintro e w2 ⟨F2,hg2,h⟩;have lM:=az (jE.o.go hg2 D6.o jU.o);have HG2:=az (mO.ahead HB1.o hg2);have vK:=az (HG2.o.keep HF.o HGF.o Y6.o);have WI:Hid (¬F2 b1/\¬F2 b2/\¬F2 b3/\¬F2 b4/\¬F2 b5):=az (by
  have key:∀n,n0<=n->n<w1.heap.size->¬F2 n:=λn h1 h2 e=>by
   rcases hg2.foot n e with h3|h3
   have:=D6.o _ h3;omega
   omega
  have g1:=jE.o.ge
  exact⟨key _ g1.1 jE.o.f.lt,key _ g1.2.1 jE.o.fr.lt,key _ g1.2.2.1 jE.o.lv.lt,key _ g1.2.2.2.1 jE.o.cb.lt,key _ g1.2.2.2.2 jE.o.ok.lt⟩)
 have zt:Hid (w.heap.size<=b5):=az (by rw[<-QZ.o];exact jE.o.ge.2.2.2.2);have y3:w2.cell? ⟨b3,0,none⟩=some (vi lw):=lM.o.lv.cell 0;have r0:w2.cell? ⟨b5,0,none⟩=some (acg false):=lM.o.ok.cell 0;have f0:=lM.o.ok.frozen 0;clear jE HCB x2 x3 x4;rcases h with⟨rfl,hj⟩|⟨rfl,hx⟩
 ·have HJ2:=az hj;clear hj hcf r0 f0;have l0:((lw:Int)==0)=false:=by have:=CU.o;simp;omega
  go_upto_region 8 with fail;have HB3:Hid (Below w2.heap.size w2 (w2.alloc (ach #[vi 1] 3))):=az ax;have Pb:=az (aD.new w2 3 #[vi 1]);have qF:=az (lM.o.old HB3.o);have QV:=az (HT.o.old HJ2.o HB3.o);have vZ:Hid (aD (w2.alloc (ach #[vi 1] 3)) g 74 (fileC q i)/\¬F2 g):=az ⟨vK.o.1.old HB3.o,vK.o.2⟩;have iR:=az (HG2.o.after HB3.o);have HF6:Hid (¬F2 w2.heap.size):=az (λe=>by have:=HT.o.lt HJ2.o _ e;omega);have Zr:Hid (w.heap.size<=w2.heap.size):=az HG2.o.aJ.size;have zx:=az lM.o.lts;have FJ:Hid (g≠w2.heap.size):=az (λe=>by have:=vK.o.1.lt;omega)
  change Code.wp _ _ _ _ (w2.alloc (ach #[vi 1] 3));have HW2:Hid (w2.heap.size<(w2.alloc (ach #[vi 1] 3)).heap.size):=az ai;clear lM vK HG2 HJ2 y3 hg2 HB3;generalize w2.alloc (ach #[vi 1] 3)=w3 at*;generalize w2.heap.size=b6 at*;have x3:w3.cell? ⟨b3,0,none⟩=some (vi lw):=qF.o.lv.cell 0;go_upto_if 27 with fail;clear l0 n0';go_cut [27] from 27 to 33 (λ_ wx=>Hid (lZ n0 b1 b2 b3 b4 b5 g fr lw (.func (.func cf) #[] #[ptr y]) false wx)/\Hid (J (pre++[(fr,aB,lw)]) F2 wx)/\Hid (aD wx g 74 (fileC q i)/\¬F2 g)/\Hid (mO B0 k F w F2 wx)/\Hid (aD wx b6 3 #[vi (stepOf lw)])/\Hid (b6<wx.heap.size))
  case first =>
   by_cases h2:lw=2
   ·have h2':(lw:Int)=2:=aa;have c1:((lw:Int)==2)=true:=by simp[h2']
    have x1:w3.cell? ⟨b1,0,none⟩=some (ptr g):=qF.o.f.cell 0;have e0:w3.cell? ⟨g,0,none⟩=some (ptr q):=file_q hi vZ.o.1;have y6:w3.cell? ⟨b6,0,none⟩=some (vi 1):=Pb.o.cell 0;have z6:=Pb.o.frozen 0;have jS:=az (kR (HT.o.pq QV.o));have HL2:=az h2;clear h2;go_wp2_with fail;refine jS.o.mono ?_;rintro e w' ⟨rfl,rfl⟩;clear c1 h2';go_wp2;go_meet;have hst:aP (λn=>n=b6) w' (w'.setCell ⟨b6,0,none⟩ (vi 32)):=aP.set (F:=λn=>n=b6) w' (p:=⟨b6,0,none⟩) rfl _;exact⟨az (qF.o.other hst zx.o),az (HT.o.uh QV.o Pb.o ag (abX HB0.o Zr.o) HF6.o hst),az ⟨vZ.o.1.aJ hst FJ.o,vZ.o.2⟩,az (iR.o.jg Pb.o Zr.o 0 _),by rw[show stepOf lw=32 by unfold stepOf;rw[if_pos HL2.o]];exact az (Pb.o.bB 0 (vi 32)),az (Nat.lt_of_lt_of_le HW2.o hst.size)⟩
   have c1:((lw:Int)==2)=false:=by simp;omega
   go_wp2;go_meet;exact⟨qF,QV,vZ,iR,by rw[show stepOf lw=1 by unfold stepOf;rw[if_neg h2]];exact Pb,HW2⟩
  case rest =>
   obtain⟨nJ,V7,OV,qK,HY4,Tg⟩:=hcut;clear qF QV vZ iR Pb x3 HW2;have x1:wc.cell? ⟨b1,0,none⟩=some (ptr g):=nJ.o.f.cell 0;have e0:wc.cell? ⟨g,0,none⟩=some (ptr q):=file_q hi OV.o.1;have IU:=az (sS (HT.o.pq V7.o) aB (by have:=oC.o.good.1;omega) (oC.o.good.2 hz));go_wp2_with fail;refine IU.o.mono ?_;rintro e w7 ⟨K7,g7,c7,rfl,Fw,yO,Tv,Xn,El⟩;have hln:=(HT.o.pq V7.o).len aB (oC.o.good.2 hz);have Ig:=az hln;have Bz:Hid (bE w7 (some ⟨g7,0,none⟩) (p.get aB)):=az (Own.zu Fw hln.1 hln.2);have hrw:=El.rd k (HT.o.aW V7.o);obtain⟨cs0,hck⟩:=(HT.o.pq V7.o).Xl (HT.o.aW V7.o)
   have aaV:mO B0 k F2 wc F2 w7:=mO.OW hck hrw;have HJ7:=az (HT.o.rd V7.o hrw);have BG:=az (nJ.o.other hrw.1 (by have:=nJ.o.ge;have:=jU.o;omega));have HF7:=az (aaV.keep OV.o.1 OV.o.2 Y6.o);have Dp:=az (qK.o.trans aaV);have HY7:Hid (aD w7 b6 3 #[vi (stepOf lw)]):=az (HY4.o.aJ hrw.1 (λe=>by have:=jU.o;have:=Zr.o;have:=QZ.o;omega));have HFG:Hid (¬F2 g7):=az (λe=>by have:=HT.o.lt V7.o _ e;omega);have HWC:Hid (w.heap.size<=wc.heap.size):=az qK.o.aJ.size;have HW7:Hid (b6<w7.heap.size/\g7<w7.heap.size/\wc.heap.size<=g7):=az ⟨Nat.lt_of_lt_of_le Tg.o hrw.1.size,Tp Fw,yO⟩
   clear Fw El IU nJ V7 OV qK HY4 Tg aaV hck hrw yO hln e0 x1;go_wp2_with fail;refine(vY (some ⟨g7,0,none⟩) 64 c7).mono ?_;rintro e w8 ⟨rfl,rfl⟩;go_wp2_with fail;have wX:Hid (Below w7.heap.size w7 (w7.alloc (ach #[aco (some ⟨g7,0,none⟩) 64 c7] 23))):=az ax;have HZ8:=az (aD.new w7 23 #[aco (some ⟨g7,0,none⟩) 64 c7]);have Xh:Hid ((w7.alloc (ach #[aco (some ⟨g7,0,none⟩) 64 c7] 23)).heap.size=w7.heap.size+1):=az ai;have Ei:=az (Bz.o.below wX.o);have HJ8:=az (HT.o.old HJ7.o wX.o);have zP:=az (BG.o.old wX.o)
   have TG:Hid (aD (w7.alloc (ach #[aco (some ⟨g7,0,none⟩) 64 c7] 23)) g 74 (fileC q i)/\¬F2 g):=az ⟨HF7.o.1.old wX.o,HF7.o.2⟩;have C8:=az (Dp.o.after wX.o);have HY8:=az (HY7.o.old wX.o);have HFN:Hid (¬F2 b6/\¬F2 g7/\¬F2 w7.heap.size):=az ⟨HF6.o,HFG.o,λe=>by have:=HT.o.lt HJ7.o _ e;omega⟩;clear Bz HJ7 BG HF7 Dp HY7;change Code.wp _ _ _ _ (w7.alloc (ach #[aco (some ⟨g7,0,none⟩) 64 c7] 23));generalize w7.alloc (ach #[aco (some ⟨g7,0,none⟩) 64 c7] 23)=w8 at*;generalize w7.heap.size=b7 at*;have ig:Hid (b7<w8.heap.size/\g7<w8.heap.size/\w.heap.size<=b7):=az (by have h1:=Xh.o;have h2:=HW7.o;have h3:=Zr.o;omega)
   have CY:Hid (w.heap.size<=w8.heap.size):=az C8.o.aJ.size;have HK7:Hid (b7≠k/\g7≠k/\b6≠k):=az (by have h1:=ig.o;have h2:=jU.o;have h3:=QZ.o;have h4:=HW7.o;have h5:=Zr.o;have h6:=HWC.o;omega);generalize hbl:p.get aB=bl at*;have lK:=az hbl;clear hbl;have HGL:Hid (∀x∈PI.ptrs bl,p.agz lv x.2):=az (by
    have h:=oC.o.2 hz
    rwa[lK.o]at h)
   have qL:=az Ig.o;have HSQ:=uA (w:=w8) 5 ag b7 g7 c7 bl (HZ8.o.cell 0) Ei.o qL.o.1;have Tq:=runT_own (pre:=pre++[(fr,aB,lw)]) (lv:=lv) (fr:=fr) (bl:=bl) (F2:=F2) HT.o (abX HB0.o CY.o);have HOX:=λc=>O9 (k:=k) (F:=F) (w:=w) (b5:=b5) (p:=p) (pre:=pre++[(fr,aB,lw)]) (lv:=lv) (fr:=fr) (bl:=bl) HX.o CY.o (abX HB0.o CY.o) c
   have HEG:=dI func130 ah rfl;refine(wpIn_wide (n:=6)).1 ?_;refine wpIn_rangeFunc_ownG_of_H (F:=Fence.wide) (n:=6) rfl aa (gf:=130) (lb:=#[adj (some ⟨b7,0,none⟩)]) ?g1 ?g2 HEG HSQ ?g4 ?g5 ?g6 ?g7 (RunT k B0 J p (pre++[(fr,aB,lw)]) lv fr bl F2 w8) (Tz k B0 Jx p (pre++[(fr,aB,lw)]) lv fr bl F w b5) Tq HOX ?g8
    (λx=>{tmps:=#[ptr g,vi aB,vi fr,vi lw,.func (.func cf) #[] #[ptr y],adj (some ⟨b1,0,none⟩),undef,adj (some ⟨b2,0,none⟩),adj (some ⟨b3,0,none⟩),adj (some ⟨b4,0,none⟩),adj (some ⟨b5,0,none⟩),adj (some ⟨b6,0,none⟩),aco (some ⟨g7,0,none⟩) 64 c7,vi 0,vi (pk bl x:Int),vi (pv bl x:Int),vi aB,acg false,.func (.func cf) #[] #[ptr y],vi fr,vi aB,vi lw,acg true,acg false,vi lw,acg false,vi lw,u27,u28,u29,u30,u31,u32,u33,.tuple #[aco (some ⟨g7,0,none⟩) 64 c7,vi 0],ptr g,adj (some ⟨g,0,none⟩),adj (some ⟨g,0,none⟩),ptr q,vi aB,.tuple #[aco (some ⟨g7,0,none⟩) 64 c7,vi 0],aco (some ⟨g7,0,none⟩) 64 c7,vi 0,aco (some ⟨g7,0,none⟩) 64 c7,.func (.func 130) #[] #[adj (some ⟨b7,0,none⟩)],vi (pk bl x:Int),vi (pv bl x:Int),undef,undef,undef,undef,undef,undef,undef,undef,undef,undef,undef,undef],defers:=[]}) ?_ ?_ ?_ ?_ ?g9
   case g1=>rfl
   case g2=>trivial
   case g4=>exact λh k=>lN.t h k
   case g5=>exact λW l o o' hl h _ _=>lN.b ig.o.1 ig.o.2.1 W l o o' hl h
   case g6=>exact ak
   case g7=>exact λ_=>rfl
   case g8=>exact⟨F2,mO.refl,by unfold Po.told;rw[List.flatMap_nil,adS];exact HJ8.o⟩
   case g9=>exact λW=>aP.refl _ _
   ·intro l x W K hK;have HK:=az hK;clear hK;dsimp only;gi_wp2;exact HK.o
   ·rintro l xs x W ⟨F',hgo,hjw⟩ hlen;have HJW:=az hjw;have Dq:=az (zP.o.go2 hgo WI.o jU.o);have KO:=az (hgo.keep TG.o.1 TG.o.2 Y6.o);have HYW:=az (hgo.keep HY8.o HFN.o.1 HK7.o.2.2);have HZW:Hid (¬F' b7/\¬F' g7):=az ⟨(hgo.keep HZ8.o HFN.o.2.2 HK7.o.1).2,λe=>by
     rcases hgo.foot _ e with h1|h1
     exact HFN.o.2.1 h1
     have:=ig.o;omega⟩
    have Tt:=az hgo;have hsw:w8.heap.size<=W.heap.size:=hgo.aJ.size;clear hjw hgo;have hp1:=adT bl x;have hgl:=Xk HGL.o x;have TH:=az (p.Tx lv fr bl xs x);have htl:=p.Ty lv fr Zq.o bl xs hlen;generalize pk bl x=a at*;generalize pv bl x=c at*;have hst:=KN lw;obtain⟨s,hs⟩:∃s,s=stepOf lw:=⟨_,rfl⟩;rw[<-CU.o,<-hs]at TH;rw[<-hs]at HYW hst;obtain⟨m,hm⟩:∃m,m=a*s:=⟨_,rfl⟩;rw[<-hm]at TH;obtain⟨f2,hf2⟩:∃f,f=fr+m:=⟨_,rfl⟩;rw[<-hf2]at TH;have Df:m<=31*32:=by rw[hm];exact Nat.mul_le_mul aa hst.2
    have r1:IntKind.i64.wrap ((a:Int)*(s:Int))=(m:Int):=by rw[<-Int.natCast_mul,<-hm,IntWalk.i64_in _ aa]
    have r2:IntKind.i64.wrap ((fr:Int)+(m:Int))=(f2:Int):=by rw[IntWalk.i64_in _ aa];omega
    have r3:IntKind.i64.wrap ((lw:Int)-1)=(lv:Int):=by have:=CU.o;have:=Zq.o;rw[IntWalk.i64_in _ aa];omega
    have HLC:=az (HLO.o W (pre++[(fr,aB,lw)]++p.told lv fr bl xs) F' c f2 HJW.o (by have:=HB0.o;have:=CY.o;omega) KO.o.1 KO.o.2 hgl (by
     have h7:=je.o
     have h8:=M8 lv Zq.o
     rw[acZ,acZ,List.length_singleton]
     omega) aa)
    clear hs hm hf2 Df hst htl hp1 hgl;have y1:W.cell? ⟨b1,0,none⟩=some (ptr g):=Dq.o.1.f.cell 0;have y2:W.cell? ⟨b2,0,none⟩=some (vi fr):=Dq.o.1.fr.cell 0;have y3:W.cell? ⟨b3,0,none⟩=some (vi lw):=Dq.o.1.lv.cell 0;have y4:W.cell? ⟨b4,0,none⟩=some (.func (.func cf) #[] #[ptr y]):=Dq.o.1.cb.cell 0;have y6:W.cell? ⟨b6,0,none⟩=some (vi s):=HYW.o.1.cell 0;gi_wp2;refine⟨trivial,(Dn HLC.o).mono ?_⟩;rintro e w9 ⟨F9,TI,h⟩;have Ej:=az (Tt.o.trans TI);have HKE:Hid (KeepsFrom w8.heap.size W w9):=az (KM TI.keeps (abX HB0.o CY.o));have HKR:Hid (lN b7 g7 W w9):=az (TI.aJ.mono (λn _ e=>by
     refine⟨λh1=>?_,λh1=>?_⟩<;>subst h1
     rcases e with e|e
     exact HZW.o.1 e
     exact HK7.o.1 e
     rcases e with e|e
     exact HZW.o.2 e
     exact HK7.o.2.1 e))
    have KP:=az (Dq.o.1.go2 TI Dq.o.2 jU.o);clear TI HLC Tt;rcases h with⟨rfl,hj⟩|⟨rfl,its,hpre,hx⟩
    ·have HJ9:=az hj;clear hj;gi_wp2;refine⟨HKE.o,HKR.o,F9,Ej.o,?_⟩;rw[TH.o,<-adM];exact HJ9.o
    have HJ9:=az hx;have TJ:=az hpre;clear hx hpre;have r0:w9.cell? ⟨b5,0,none⟩=some (acg false):=KP.o.1.ok.cell 0;have f0:=KP.o.1.ok.frozen 0;gi_wp2;have hst:aP (λn=>n=b5) w9 (w9.setCell ⟨b5,0,none⟩ (acg false)):=aP.set (F:=λn=>n=b5) w9 (p:=⟨b5,0,none⟩) rfl _;exact⟨HKE.o.trans (pO KP.o.1.ok 0 (acg false)),rfl,F9,its,(C8.o.trans Ej.o).jg KP.o.1.ok zt.o 0 _,by rw[TH.o,<-adM];exact TJ.o,HX.o.uh HJ9.o KP.o.1.ok ag (abX HB0.o zt.o) KP.o.2.2.2.2.2 hst,KP.o.1.ok.bB 0 (acg false)⟩
   ·intro D' xs W hD hS hI hK;obtain⟨F',hgo,hjw⟩:=O8 hI hS;clear hS hI;have HK:=az hK;have HD:=az hD;have Dq:=az (zP.o.go2 hgo WI.o jU.o);have Ej:=az (C8.o.trans hgo);have HJ9:Hid (J (pre++p.items lw aB fr) F' W):=az (by
     rw[adM,List.singleton_append]at hjw
     rw[CU.o,Bv.o]
     rw[CU.o]at hjw
     exact hjw)
    clear hK hD hgo hjw;have r0:W.cell? ⟨b5,0,none⟩=some (acg false):=Dq.o.1.ok.cell 0;have f0:=Dq.o.1.ok.frozen 0;go_wp2_with fail;have hst:aP (λn=>n=b5) W (W.setCell ⟨b5,0,none⟩ (acg true)):=aP.set (F:=λn=>n=b5) W (p:=⟨b5,0,none⟩) rfl _;have hk5:=di.Xd Dq.o.1.ok HK.o 0 (acg true);have hcp:=di.iB (Dq.o.1.ok.bB 0 (acg true)) hk5 (adL none);refine di.ji (v:=acg true) hk5 (jh hcp _ rfl) ⟨F',?_,ack ⟨rfl,?_⟩⟩;exact Xm.putObj (s:=()) _ (Ej.o.jg Dq.o.1.ok zt.o 0 _) (abX CY.o HD.o) hk5 rfl;exact(TF HT.o).putObj (s:=()) _ (HT.o.uh HJ9.o Dq.o.1.ok ag (abX HB0.o zt.o) Dq.o.2.2.2.2.2 hst) (abX HB0.o (abX CY.o HD.o)) hk5 rfl
   intro D' c' xs W hD hS hI hK;have hI':Tz k B0 Jx p (pre++[(fr,aB,lw)]) lv fr bl F w b5 c' xs W:=hI;have hP:=(HOX c').putObj (adL none) hI' hD hK rfl;have WQ:=az (p.TE (lv:=lv) (fr:=fr) hS);clear hS hI;obtain⟨rfl,F1,amX,hg1,_,hj1,hc1⟩:=hI';obtain⟨_,F',its,hgo,hpre,hjx,hc⟩:=hP;have TJ:Hid (its <+: pre++p.items lw aB fr):=az (by
    refine hpre.trans ?_
    rw[CU.o,Bv.o,adM,List.singleton_append]
    exact adU _ |>.2 (List.cons_prefix_cons.2 ⟨rfl,WQ.o⟩))
   clear hpre WQ;gi_wp2;exact di.ji (v:=acg false) hK (jh hc _ rfl) ⟨F',hgo,acm ⟨rfl,its,TJ.o,hjx⟩⟩
 obtain⟨its,hpre,hx⟩:=hx;have HJ2:=az hx;have TJ:Hid (its <+: pre++p.items lw aB fr):=az (by
  refine hpre.trans ?_
  rw[CU.o,Bv.o]
  exact(adU pre).2 (List.cons_prefix_cons.2 ⟨rfl,List.nil_prefix⟩))
 clear hx hcf hpre;go_wp2_with fail;have hb:=(lM.o.done false).ok;have hst:aP (λn=>n=b5) w2 (w2.setCell ⟨b5,0,none⟩ (acg false)):=aP.set (F:=λn=>n=b5) w2 (p:=⟨b5,0,none⟩) rfl _;exact⟨_,jh hb _ rfl,F2,HG2.o.jg lM.o.ok zt.o 0 _,acm ⟨rfl,its,TJ.o,HX.o.uh HJ2.o lM.o.ok ag (abX HB0.o zt.o) WI.o.2.2.2.2 hst⟩⟩
end
end po
namespace po
open RowKit mgr ft pl ino nd
def Po.jY (p:Po)(l:List Nat)(k:Nat):List It:=(List.range k).flatMap λj=>p.items 0 (l.getD j 0) j
def Po.jy (p:Po)(i:PI.bF):List It:=p.jY i.direct 6++p.items 1 i.single 6++p.items 2 i.double 38
def Po.xN (p:Po)(l:List Nat)(k:Nat):p.jY l (k+1)=p.jY l k++p.items 0 (l.getD k 0) k:=by
 unfold Po.jY;rw[List.range_succ,List.flatMap_append,List.flatMap_cons,List.flatMap_nil,adS]
def Po.En (p:Po)(l:List Nat)(k:Nat):∀d,p.jY l k <+: p.jY l (k+d)
 |0=>List.prefix_rfl
 |d+1=>by
  rw[<-Nat.add_assoc,Po.xN]
  exact(Po.En p l k d).trans (List.prefix_append _ _)
def xO {a b:List It}{Q:List It->Prop}(h:∃its,its <+: a/\Q its)(hab:a <+: b):∃its,its <+: b/\Q its :=
 h.imp λ_ h=>⟨h.1.trans hab,h.2⟩
def Po.Pf (p:Po)(l:List Nat)(k:Nat):(p.jY l k).length<=k:=by
 induction k with
 |zero=>simp[Po.jY]
 |succ k ih =>
  rw[Po.xN,acZ];have:=p.xM 0 aa (l.getD k 0) k;have h:MZ 0=1:=rfl;omega
def BH {l:List Nat}{x:Nat×Nat}(n:Nat)(h:x∈PI.ptrsTo l n):x.1<n/\x.2=PI.two l x.1:=⟨(PI.Br l n h).1,(PI.Br l n h).2.1⟩
def Po.wf.ah0 {p:Po}{i:PI.bF}(h:p.wf i):p.agz 1 i.single:=by
 refine⟨h.single,λhn x hx=>?_⟩;obtain⟨h1,h2⟩:=BH 32 hx;have:=h.one x.1 h1;unfold Po.ptr at this;rw[if_neg hn]at this;rw[h2];exact this
def Po.wf.ah1 {p:Po}{i:PI.bF}(h:p.wf i):p.agz 2 i.double:=by
 refine⟨h.double,λhn x hx=>?_⟩;obtain⟨h1,h2⟩:=BH 32 hx;have ht:=h.two x.1 h1;have hp:p.ptr i.double x.1=x.2:=by unfold Po.ptr;rw[if_neg hn,h2]
 rw[hp]at ht;refine⟨ht.1,λhm z hz=>?_⟩;obtain⟨h3,h4⟩:=BH 32 hz;have:=ht.2 z.1 h3;unfold Po.ptr at this;rw[if_neg hm]at this;rw[h4];exact this
section
variable{aA:Nat}{w w':acL}{q g k B0 cf y:Nat}{p:Po}{i:PI.bF}{K F:Nat->Prop}{J:List It->(Nat->Prop)->acL->Prop}{Jx:List It->(Nat->Prop)->acL->Prop}{pre:List It}
def M9 (T:zw aA q K p k B0 J)(X:IY B0 Jx)(hcf:∀(args:Array acK) (W:acL),(callFunc cf args).run prog W=.ok (.enter cf args) W)(C:Cb cf y k B0 J Jx)(mx:Nat):Lower q p i g k B0 cf y 0 mx J Jx :=
 λW pre F aB fr hJ hB hf V9 hp hL _=>KL T X hcf C hJ hB aB fr hp (by have h:MZ 0=1:=rfl;omega)
def Na (T:zw aA q K p k B0 J)(X:IY B0 Jx)(hcf:∀(args:Array acK) (W:acL),(callFunc cf args).run prog W=.ok (.enter cf args) W)(C:Cb cf y k B0 J Jx)(Fe:g≠k)(hi:i.direct.length=6)(mx:Nat)(hmx:mx<=50000):Lower q p i g k B0 cf y 1 mx J Jx :=
 λW pre F aB fr hJ hB hf V9 hp hL hfr=>BF T X hcf C Fe 0 aa mx hmx (M9 T X hcf C _) hi hJ hB hf V9 aB fr hp hL hfr
def Xo (T:zw aA q K p k B0 J)(X:IY B0 Jx)(hcf:∀(args:Array acK) (W:acL),(callFunc cf args).run prog W=.ok (.enter cf args) W)(C:Cb cf y k B0 J Jx)(Fe:g≠k)(hi:i.direct.length=6)(mx:Nat)(hmx:mx<=49000):Lower q p i g k B0 cf y 2 mx J Jx :=
 λW pre F aB fr hJ hB hf V9 hp hL hfr=>BF T X hcf C Fe 1 aa mx aa (Na T X hcf C Fe hi _ aa) hi hJ hB hf V9 aB fr hp hL hfr
def aaX (k B0:Nat)(J:List It->(Nat->Prop)->acL->Prop)(Jx:List It->(Nat->Prop)->acL->Prop)(all:List It)(F:Nat->Prop)(w:acL)(e:Ending)(w':acL):Prop :=
 e=ab4 (.tuple #[])/\∃F',mO B0 k F w F' w'/\(J all F' w'\/∃its,its <+: all/\Jx its F' w')
def ah2 (k B0:Nat)(J:List It->(Nat->Prop)->acL->Prop)(p:Po)(pre:List It)(l:List Nat)(F:Nat->Prop)(w:acL)(n:Nat)(W:acL):Prop:=∃F',mO B0 k F w F' W/\J (pre++p.jY l n) F' W
def Nb (T:zw aA q K p k B0 J)(X:IY B0 Jx)(hcf:∀(args:Array acK) (W:acL),(callFunc cf args).run prog W=.ok (.enter cf args) W)(C:Cb cf y k B0 J Jx)(Fe:g≠k)(hi:p.wf i)(hJ:J pre F w)(hB:B0<=w.heap.size)(hf:aD w g 74 (fileC q i))(V9:¬F g)(hL:pre.length<=700) :
  Calls prog 37 #[ptr g,.func (.func cf) #[] #[ptr y]] w (aaX k B0 J Jx (pre++p.jy i) F w):=by
 have HL0:=az (M9 (i:=i) (g:=g) T X hcf C 10);have HL1:=az (Na T X hcf C Fe hi.len 10 aa);have HL2:=az (Xo T X hcf C Fe hi.len 100 aa);have HG0:Hid (∀n,n<6->p.agz 0 (i.direct.getD n 0)):=az hi.direct;have qI:=az hi.ah0;have HG2:=az hi.ah1;have HT:=az T;have HJ:=az hJ;have HB:=az hB;have HF:=az hf;have HGF:=az V9;have Y6:=az Fe;have je:=az hL;have HAI:Hid (p.jy i=p.jY i.direct 6++p.items 1 i.single 6++p.items 2 i.double 38):=az rfl;have ah3:Hid (∀n,n<6->p.jY i.direct (n+1) <+: p.jY i.direct 6):=az (λn hn=>by
  have h:=p.En i.direct (n+1) (5-n)
  rwa[show n+1+(5-n)=6 by omega]at h)
 have hil:=hi.len;clear T X hcf C Fe hi hJ hB hf V9 hL;generalize p.jy i=AI at*;obtain⟨kd,ln,sz,dl,sg,db⟩:=i;dsimp only at*;obtain⟨d0,d1,d2,d3,d4,d5,hdl⟩:=six (l:=dl) hil;clear hil;have HZ:Hid (∀(k:Nat),k<6->∀w:acL,(Instr.index 27 (.agg #[vi d0,vi d1,vi d2,vi d3,vi d4,vi d5]) (vi k)).run prog w=.ok (vi (dl.getD k 0)) w):=az (λk hk w=>by
  subst hdl
  obtain⟨x0,x1,x2,x3,x4,x5⟩:=OH d0 d1 d2 d3 d4 d5 w
  rcases (by omega:k=0\/k=1\/k=2\/k=3\/k=4\/k=5) with rfl|rfl|rfl|rfl|rfl|rfl
  exact x0
  exact x1
  exact x2
  exact x3
  exact x4
  exact x5)
 have HFC:Hid (fileC q ⟨kd,ln,sz,dl,sg,db⟩=#[ptr q,vi kd,vi ln,vi sz,vi d0,vi d1,vi d2,vi d3,vi d4,vi d5,vi sg,vi db]):=az (by subst hdl;rfl);clear hdl;generalize hC:fileC q ⟨kd,ln,sz,dl,sg,db⟩=FC at*;have HCC:=az hC;clear hC;have Nc:Hid (∀W,aD W g 74 FC->aD W g 74 #[ptr q,vi kd,vi ln,vi sz,vi d0,vi d1,vi d2,vi d3,vi d4,vi d5,vi sg,vi db]):=az (λW h=>by rw[<-HFC.o];exact h);have e4:w.cell? ⟨g,4,none⟩=some (vi d0):=(Nc.o _ HF.o).cell 4;have e5:w.cell? ⟨g,5,none⟩=some (vi d1):=(Nc.o _ HF.o).cell 5;have e6:w.cell? ⟨g,6,none⟩=some (vi d2):=(Nc.o _ HF.o).cell 6;have e7:w.cell? ⟨g,7,none⟩=some (vi d3):=(Nc.o _ HF.o).cell 7
 have e8:w.cell? ⟨g,8,none⟩=some (vi d4):=(Nc.o _ HF.o).cell 8;have e9:w.cell? ⟨g,9,none⟩=some (vi d5):=(Nc.o _ HF.o).cell 9;go_in;go_wp2_with fail;clear e4 e5 e6 e7 e8 e9;go_loopw [12] (λi wr=>∃n:Nat,n<=6/\i=vi n/\Hid (ah2 k B0 J p pre dl F w n wr)) (λi _=>6-(intOf i).toNat)
 case atStart=>exact⟨0,ag,rfl,az ⟨F,mO.refl,by
  have h0:p.jY dl 0=[]:=rfl
  rw[h0,adS]
  exact HJ.o⟩⟩
 case round =>
  obtain⟨n,hn6,rfl,hd⟩:=hrel;obtain⟨F1,hg1,hj1⟩:=hd.o;clear hd;have HG:=az hg1;have HJ1:=az hj1;have KO:=az (hg1.keep HF.o HGF.o Y6.o);have hsz:=hg1.aJ.size;clear hg1 hj1;have uz:Hid (B0<=wr.heap.size):=az (abX HB.o hsz);clear hsz;have vQ:=az (p.Pf dl n);by_cases h6:n<6
  ·have hz:=HZ.o n h6 wr;have n6:(n:Int)<6:=aa;have Zt:=az (HL0.o wr (pre++p.jY dl n) F1 (dl.getD n 0) n HJ1.o uz.o (by rw[HCC.o];exact KO.o.1) KO.o.2 (HG0.o n h6) (by
    have h1:=vQ.o
    have h2:=je.o
    have h:MZ 0=1:=rfl
    rw[acZ]
    omega) aa)
   have HDA:=az (p.xN dl n);generalize dl.getD n 0=dn at*;go_wp2_with fail;refine Zt.o.mono ?_;rintro e w2 ⟨F2,hg2,h⟩;have TK:=az (HG.o.trans hg2);clear hg2 Zt;rcases h with⟨rfl,hj⟩|⟨rfl,hx⟩
   ·have HJ2:=az hj;clear hj;go_wp2;go_roundw
    case rel=>exact⟨n+1,aa,by go_num,az ⟨F2,TK.o,by rw[HDA.o,<-adM];exact HJ2.o⟩⟩
    case measure=>simp[intOf];omega
   have HJ2:=az hx;clear hx;go_wp2_with fail;go_end0;refine⟨rfl,F2,TK.o,acm (xO HJ2.o ?_)⟩;rw[HAI.o,adM pre,<-HDA.o,adM];exact(adU _).2 ((ah3.o n h6).trans (List.prefix_append _ _))
  obtain rfl:n=6:=aa;have e0:wr.cell? ⟨g,0,none⟩=some (ptr q):=(Nc.o _ KO.o.1).cell 0;have e10:wr.cell? ⟨g,10,none⟩=some (vi sg):=(Nc.o _ KO.o.1).cell 10;have jS:=az (kR (HT.o.pq HJ1.o));have yx:=az (HL1.o wr (pre++p.jY dl 6) F1 sg 6 HJ1.o uz.o (by rw[HCC.o];exact KO.o.1) KO.o.2 qI.o (by
   have h1:=vQ.o
   have h2:=je.o
   have h:MZ 1=34:=rfl
   rw[acZ]
   omega) aa)
  go_wp2_with fail;refine jS.o.mono ?_;rintro e w2 ⟨rfl,rfl⟩;clear jS;go_wp2_with fail;refine yx.o.mono ?_;rintro e w3 ⟨F2,hg2,h⟩;have aaZ:=az (hg2.keep KO.o.1 KO.o.2 Y6.o);have ah6:Hid (B0<=w3.heap.size):=az (abX uz.o hg2.aJ.size);have TK:=az (HG.o.trans hg2);have ah7:=az (p.xM 1 aa sg 6);clear hg2 yx e0 e10;rcases h with⟨rfl,hj⟩|⟨rfl,hx⟩
  ·have HJ2:=az hj;clear hj;have e11:w3.cell? ⟨g,11,none⟩=some (vi db):=(Nc.o _ aaZ.o.1).cell 11;have JQ:=az (HL2.o w3 (pre++p.jY dl 6++p.items 1 sg 6) F2 db 38 HJ2.o ah6.o (by rw[HCC.o];exact aaZ.o.1) aaZ.o.2 HG2.o (by
    have h1:=vQ.o
    have h2:=je.o
    have h3:=ah7.o
    have h:MZ 1=34:=rfl
    have h':MZ 2=1200:=rfl
    rw[acZ,acZ]
    omega) aa)
   go_wp2_with fail;refine JQ.o.mono ?_;rintro e w4 ⟨F3,hg3,h⟩;have adZ:=az (TK.o.trans hg3);clear hg3 JQ e11;rcases h with⟨rfl,hj⟩|⟨rfl,hx⟩
   ·have QV:=az hj;clear hj;go_wp2_with fail;go_end0;refine⟨rfl,F3,adZ.o,ack ?_⟩;rw[HAI.o,<-adM,<-adM];exact QV.o
   have QV:=az hx;clear hx;go_wp2_with fail;go_end0;refine⟨rfl,F3,adZ.o,acm (xO QV.o ?_)⟩;rw[HAI.o,<-adM,<-adM];exact List.prefix_rfl
  have HJ2:=az hx;clear hx;go_wp2_with fail;go_end0;refine⟨rfl,F2,TK.o,acm (xO HJ2.o ?_)⟩;rw[HAI.o,<-adM,<-adM];exact List.prefix_append _ _
end
end po
open RowKit mgr ft pl ino nd po
def gD.far {k:Nat}{w w' w0:acL}(h:gD k w0 w)(q:aP (λn=>w0.heap.size<=n) w w')(hk:k<w0.heap.size):gD k w0 w':=by
 refine⟨h.1.trans q (λn hn e=>aa),λcs hb=>?_⟩;rcases h.2 cs hb with h1|⟨n,h1⟩;exact ack (h1.aJ q aa);exact acm ⟨n,h1.aJ q aa⟩
namespace po
open RowKit mgr ft pl ino nd
def jI:(prog.info? 3).map (λi=>(i.zero,i.size,i.bytes))=some (some (vi 0),1,8):=ah
abbrev dZ (w:acL)(b:Nat)(v:acK)(l:List Int):Prop:=w.ownsRow b 3 1 v l.length (l.map vi)
section
variable{w w':acL}{b0:Nat}{v:acK}{l:List Int}
def dZ.kept {row:Option Nat}(h:dZ w b0 v l)(hg:w.grownBy w' row)(hn:∀r,row=some r->v.ownBlock≠some r):dZ w' b0 v l :=
 acL.ownsRow.kept h hg (by
  cases hv:v.ownBlock with
  |none=>exact ack rfl
  |some g =>
   refine acm (λe=>?_)
   exact hn g e.symm hv)
def dZ.old (h:dZ w b0 v l)(hb:Below w.heap.size w w'):dZ w' b0 v l :=
 h.kept (row:=none) (mP hb) (λr e=>by cases e)
def dZ.lt (h:dZ w b0 v l){g:Nat}(hg:v.ownBlock=some g):g<w.heap.size/\b0<=g/\∃cur,aD w g 3 cur:=by
 rcases h.2 with⟨rfl,_⟩|⟨g',cap,cur,rfl,hb,hh,_⟩;simp[acK.ownBlock]at hg;have:g'=g:=by simpa[acK.ownBlock] using hg
 subst this;have hb':aD w g' 3 cur:=hh;exact⟨hb'.lt,hb,cur,hb'⟩
def dZ.aJ {F:Nat->Prop}(h:dZ w b0 v l)(q:aP F w w')(hn:∀g,v.ownBlock=some g->¬F g):dZ w' b0 v l:=by
 refine⟨h.1,?_⟩;rcases h.2 with h1|⟨g,cap,cur,hv,hb,hg,h1⟩;exact ack h1;have hl:g<w.heap.size:=by
  have:aD w g 3 cur:=hg;exact this.lt
 exact acm ⟨g,cap,cur,hv,hb,(q.block g hl (hn g (by rw[hv];rfl))).trans hg,h1⟩
def dZ.form (h:dZ w b0 v l):∃a n c,v=aco a n c:=by
 rcases h.2 with⟨rfl,_⟩|⟨g,cap,cur,rfl,_⟩;exact⟨_,_,_,rfl⟩;exact⟨_,_,_,rfl⟩
def uT (hown:dZ w b0 v l)(x:Int)(hn:l.length+1<=1000000)(hb:b0<=w.heap.size) :
  ∃v' w',eH 31 31 31 v (.slice (some ⟨w.heap.size,0,none⟩) 1 1) (w.alloc (.cells #[vi x] 3)) v' w'/\dZ w' b0 v' (l++[x])/\(w.alloc (.cells #[vi x] 3)).grownBy w' v.ownBlock /\
   (v'.ownBlock=v.ownBlock\/v'.ownBlock=some (w.heap.size+1)):=by
 obtain⟨i0,hi,hz0,hz1,hz2⟩:=info_parts jI;have hown':=hown.old ((Below.refl _ w).alloc aj (.cells #[vi x] 3));obtain⟨v',w',h1,h2,h3,_,h5⟩:=run_append_own_at (P:=prog) (w.alloc (.cells #[vi x] 3)) b0 31 31 3 i0 _ 1 8 underlying31 hi hz0 hz1 hz2 rfl aa v l.length (l.map vi) hown'
  ⟨w.heap.size,0,none⟩ 1 1 [vi x] rfl (λj u hu=>by
   have hj:j=0:=by
    have:=(List.getElem?_eq_some_iff.1 hu).1
    simpa using this
   subst hj
   rw[add_plain,Nat.zero_add,(aD.new w 3 #[vi x]).cell]
   exact hu) (by intro u hu;simp at hu;rw[hu];rfl)
   (by unfold maxLen;omega) aa (by simp;omega)
 refine⟨v',w',⟨h1⟩,?_,h3,by rw[size_alloc]at h5;exact h5⟩;unfold dZ;rw[acZ,List.map_append];simpa using h2
end
def nums (its:List It):List Int:=(its.filter λx=>x.2.2=0).map λx=>(x.1:Int)
def TL (its:List It):(nums its).length<=its.length:=by
 unfold nums;rw[List.length_map];exact List.length_filter_le _ _
structure PgJ (w0:acL)(k y:Nat)(its:List It)(F:Nat->Prop)(W:acL):Prop where
 rd:gD k w0 W
 ex:∃v,aD W y 31 #[v]/\dZ W w0.heap.size v (nums its)/\∀n,F n↔n=y\/v.ownBlock=some n
section
variable{aA:Nat}{w0 w w':acL}{q g k B0 y:Nat}{p:Po}{i:PI.bF}{K:Nat->Prop}
def I1 {W:acL}{t:TypeId}{cs:Array acK}(h:aD W g t cs){o:Obj}(ho:W.heap[g]?=some o):o.isCells=true:=by
 unfold aD at h;rw[h]at ho;injection ho with ho;rw[<-ho];rfl
def TM (h:PQ aA w0 q K p)(hk:fF w0 q k)(hy:w0.heap.size<=y)(hB:w0.heap.size<=B0):zw aA q K p k B0 (PgJ w0 k y):=by
 have hkl:k<w0.heap.size:=h.lt _ (h.pK hk).1;refine⟨λhj=>h.OW hk hj.rd,λhj=>h.j6 hk hj.rd,λhj n hn=>?_,λhj hr=>?_,λhj hg hr=>?_,λhj hb _ hB0 hnf hc=>?_⟩;obtain⟨v,h1,h2,h3⟩:=hj.ex;rcases (h3 n).1 hn with e|e;rw[e];exact h1.lt;exact(h2.lt e).1;obtain⟨v,h1,h2,h3⟩:=hj.ex;exact⟨hj.rd.trans hr,v,h1.aJ hr.1 aa,h2.aJ hr.1 (λg e=>by have:=(h2.lt e).2.1;omega),h3⟩;obtain⟨v,h1,h2,h3⟩:=hj.ex;refine⟨hj.rd.far ⟨hg.os,hg.tape,hg.output,hg.size,λn hn e=>hg.block n hn (λe2=>?_)⟩ hkl,v,rQ h1 hg (λr e=>(hr r e).2),h2.kept hg (λr e e2=>?_),h3⟩
 have:=(hr n e2.symm).1;omega;obtain⟨_,o,ho,hc⟩:=hr r e;obtain⟨_,_,cur,hb⟩:=h2.lt e2;rw[I1 hb ho]at hc;cases hc;obtain⟨v,h1,h2,h3⟩:=hj.ex;refine⟨hj.rd.far (hc.mono (λn _ e=>aa)) hkl,v,h1.aJ hc (λe=>hnf ((h3 _).2 (ack e.symm))),h2.aJ hc (λg e e2=>hnf ((h3 _).2 (acm (by rw[<-e2];exact e)))),h3⟩
def false_stay:IY B0 (λ_ _ _=>False):=⟨λh _ _=>h,λh _ _ _ _ _=>h⟩
def Pg (hkl:k<w0.heap.size)(hy:w0.heap.size<=y):Cb 56 y k B0 (PgJ w0 k y) (λ_ _ _=>False):=by
 intro pre x F W hlen _ hJ hB;obtain⟨n,at',lv⟩:=x;dsimp only;obtain⟨hrd,v,h1,h2,h3⟩:=hJ;by_cases hl:lv=0
 ·have TN:nums (pre++[(n,at',lv)])=nums pre++[(n:Int)]:=by
   unfold nums;rw[List.filter_append,List.map_append,hl];rfl
  have hnl:=TL pre;obtain⟨v',w5,hrun,jT,hg5,hor⟩:=uT h2 (n:Int) aa hrd.1.size;have RA:=az hrun;obtain⟨a5,n5,c5,hv5⟩:=jT.form;have h1a:aD (W.alloc (ach #[vi n] 3)) y 31 #[v]:=h1.alloc _;have JX:aD w5 y 31 #[v]:=h1a.grown hg5 (bU h2 h1 ag);have hbl:Below W.heap.size W (W.alloc (ach #[vi n] 3)):=ax;have hFy:F y:=(h3 y).2 (ack rfl);have HTG:Hid (mO B0 k F W (λm=>m=y\/v'.ownBlock=some m) (w5.setCell ⟨y,0,none⟩ v')):=az (by
   refine⟨(((aP.of_below hbl).grown hg5 (λr e=>?_)).setCell (p:=⟨y,0,none⟩) (ack (ack hFy)) v'),λm e=>?_,?_⟩
   exact ack (ack ((h3 r).2 (acm e)))
   rcases e with e|e
   exact ack (by rw[e];exact hFy)
   rcases hor with e2|e2
   exact ack ((h3 m).2 (acm (by rw[<-e2];exact e)))
   rw[e2]at e
   injection e with e
   exact acm aa
   refine((yP hbl).trans ⟨hg5.size,λj o _ ho hc=>(hg5.block j (aaz.1 ho).1 (λe=>?_)).trans ho⟩).trans (pO JX 0 v')
   obtain⟨_,_,cur,hb⟩:=(h2.old hbl).lt e.symm
   rw[I1 hb ho]at hc
   cases hc)
  have HJ2:Hid (PgJ w0 k y (pre++[(n,at',lv)]) (λm=>m=y\/v'.ownBlock=some m) (w5.setCell ⟨y,0,none⟩ v')):=az (by
   refine⟨hrd.far (((aP.of_below hbl).grown hg5 (λr e=>ack (h2.lt e).2.1)).setCell (p:=⟨y,0,none⟩) (ack hy) v') hkl,v',JX.bB 0 v',?_,λ_=>Iff.rfl⟩
   rw[TN]
   refine jT.aJ (F:=λn=>n=y) (aP.set (F:=λn=>n=y) w5 (p:=⟨y,0,none⟩) rfl v') (λg e e2=>?_)
   obtain⟨_,_,cur,hb⟩:=jT.lt e
   rw[e2]at hb
   have:=bY hb JX
   revert this
   decide)
  have c0:W.cell? ⟨y,0,none⟩=some v:=h1.cell 0;have z0:=JX.frozen 0;have z1:=JX.cell 0;subst hl;clear hrun jT hg5 hor h1 h2 h3 h1a JX hbl hFy TN hnl hrd;subst hv5;go_enter func56,ntmps56;go_wp2_with (at_builtin;refine wpList_append_run rfl (.tmp 10) (.tmp 12) rfl rfl rfl RA.o.run ?_);go_ret;exact⟨_,HTG.o,ack ⟨rfl,HJ2.o⟩⟩
 have TN:nums (pre++[(n,at',lv)])=nums pre:=by
  unfold nums;rw[List.filter_append,List.map_append];simp[hl]
 have HJ2:Hid (PgJ w0 k y (pre++[(n,at',lv)]) F W):=az ⟨hrd,v,h1,by rw[TN];exact h2,h3⟩;have c1:((lv:Int)==0)=false:=by simp;omega
 clear h1 h2 h3 TN hrd hl;go_enter func56,ntmps56;go_wp2;go_ret;exact⟨_,mO.refl,ack ⟨rfl,HJ2.o⟩⟩
def oI (h:PQ aA w q K p)(hk:fF w q k)(i:PI.bF)(hi:p.wf i) :
  Calls prog 30 #[ptr q,dS i] w λe w'=>∃v,e=ab4 v/\dZ w' w.heap.size v (nums (p.jy i))/\gD k w w':=by
 have H:=az h;have HK:=az hk;have HI:=az hi;have jU:Hid (k<w.heap.size):=az (h.lt _ (h.pK hk).1);have hil:=hi.len;clear h hk hi;obtain⟨kd,ln,sz,dl,sg,db⟩:=i;obtain⟨d0,d1,d2,d3,d4,d5,hdl⟩:=six (l:=dl) hil;clear hil;subst hdl;simp only[dS,j4];go_in;go_upto_region 1 with fail;refine mD λw1 HB1 lD=>?_
 obtain⟨x,hx⟩:∃x,x=w.heap.size:=⟨_,rfl⟩;rw[<-hx]at lD ⊢;clear hx;go_upto_region 4 with fail;have HB2:Hid (Below w.heap.size w (w1.alloc (ach #[aco none 0 0] 31))):=az (HB1.o.alloc HB1.o.size _);have lM:=az (lD.o.alloc (ach #[aco none 0 0] 31));have HY2:=az (aD.new w1 31 #[aco none 0 0]);have HYW:Hid (w.heap.size<=w1.heap.size):=az HB1.o.size;change Code.wp _ _ _ _ (w1.alloc (ach #[aco none 0 0] 31));generalize w1.alloc (ach #[aco none 0 0] 31)=w2 at*;generalize w1.heap.size=y at*;obtain⟨x0,x1,x2,x3,x4,x5,x6,x7,x8,x9,JW⟩:=nT lM.o;have HB3:Hid (Below w.heap.size w (w2.alloc (ach #[ptr q,vi kd,vi ln,vi sz,vi d0,vi d1,vi d2,vi d3,vi d4,vi d5,vi sg,vi db] 74))):=az (HB2.o.alloc HB2.o.size _)
 have GN:Hid (Calls prog 37 #[ptr w2.heap.size,.func (.func 56) #[] #[ptr y]] (w2.alloc (ach #[ptr q,vi kd,vi ln,vi sz,vi d0,vi d1,vi d2,vi d3,vi d4,vi d5,vi sg,vi db] 74)) (aaX k w.heap.size (PgJ w k y) (λ_ _ _=>False) ([]++p.jy ⟨kd,ln,sz,[d0,d1,d2,d3,d4,d5],sg,db⟩) (λn=>n=y) (w2.alloc (ach #[ptr q,vi kd,vi ln,vi sz,vi d0,vi d1,vi d2,vi d3,vi d4,vi d5,vi sg,vi db] 74)))):=az (by
  have h1:=HB2.o.size
  have h2:=HY2.o.lt
  refine Nb (TM H.o HK.o HYW.o aj) false_stay (dI func56 ah rfl) (Pg jU.o HYW.o) (by have:=jU.o;omega) HI.o ?_ HB3.o.size (aD.new w2 _ _) aa (Nat.zero_le _)
  exact⟨gD.of_below HB3.o,_,HY2.o.alloc _,acL.ownsRow_nil _ _ _ _,λn=>by simp[acK.ownBlock]⟩)
 clear lD lM HY2 HB1 HB2;go_wp2_with fail;refine GN.o.mono ?_;rintro e w4 ⟨rfl,F',hg,hj⟩;have hj2:PgJ w k y (p.jy ⟨kd,ln,sz,[d0,d1,d2,d3,d4,d5],sg,db⟩) F' w4:=by
  rcases hj with hj|hj;exact hj;exact hj.elim λ_ h=>h.2.elim
 obtain⟨hrd,v,h1,h2,h3⟩:=hj2;have HE:=az (And.intro h2 hrd);have y0:w4.cell? ⟨y,0,none⟩=some v:=h1.cell 0;clear hg hj GN HB3 x0 x1 x2 x3 x4 x5 x6 x7 x8 x9 JW h1 h2 h3 hrd;go_wp2;go_ret;exact⟨v,rfl,HE.o.1,HE.o.2⟩
end
variable{w w':acL}{q l:Nat}{i:PI.bF}
def Qg (q:Nat)(i:PI.bF)(hi:i.direct.length=6):Calls prog 15 #[ptr q,dS i] w λe w'=>e=ab4 (.func (.func 36) #[] #[ptr w.heap.size,ptr (w.heap.size+1)])/\w'=(w.alloc (ach #[ptr q] 26)).alloc (ach (j4 i) 29):=by
 obtain⟨kd,ln,sz,dl,sg,db⟩:=i;obtain⟨d0,d1,d2,d3,d4,d5,hdl⟩:=six (l:=dl) hi;clear hi;subst hdl;simp only[dS,j4];go_in;go_wp2;go_ret;exact⟨ai,rfl⟩
structure agA (w0:acL)(D l:Nat)(I:List It->(Nat->Prop)->acL->Prop):Prop where
 lt:∀{its G W},I its G W->∀n,G n->w0.heap.size<=n/\n≠D/\n≠l/\∃t cs,aD W n t cs
 aJ:∀{its G W W'} {H:Nat->Prop},I its G W->aP H W W'->(∀n,G n->¬H n)->I its G W'
structure TkG (w0:acL)(k l D y:Nat)(ro:Obj)(I:List It->(Nat->Prop)->acL->Prop)(its:List It)(F:Nat->Prop)(W:acL):Prop where
 rd:gD k w0 W
 inv:∃G,I its G W/\(∀m,G m->m≠y)/\(∀m,F m↔G m\/m=l\/m=y)
 box:aD W y 80 #[.func (.yield l) #[] #[]]
 lJ:W.heap[l]?=some ro
 nW:W.heap[D]?=some (adL (some []))
def ahT (w0:acL)(k l:Nat)(ro:Obj)(Pr:Obj->Prop)(I Ix:List It->(Nat->Prop)->acL->Prop):Prop :=
 ∀(its:List It) (x:It) (G:Nat->Prop) (W:acL),its.length<2000->x.2.2<=2->gD k w0 W->I its G W->W.heap[l]?=some ro->YieldAt Fence.wide 2 prog l #[vi x.2.1,vi x.2.2] W λe W' =>
  aP (λm=>G m\/m=l) W W'/\((e=ab4 (acg true)/\W'.heap[l]?=some ro/\∃G',I (its++[x]) G' W'/\∀m,G' m->G m\/W.heap.size<=m) \/
   (e=ab4 (acg false)/\∃ro2,Pr ro2/\W'.heap[l]?=some ro2/\∃G',Ix (its++[x]) G' W'/\∀m,G' m->G m\/W.heap.size<=m))
def aiS (w0:acL)(k l D y:Nat)(Pr:Obj->Prop)(Ix:List It->(Nat->Prop)->acL->Prop)(its:List It)(F:Nat->Prop)(W:acL):Prop:=∃ro2,Pr ro2/\TkG w0 k l D y ro2 Ix its F W
section
variable{aA:Nat}{w0:acL}{g k D y:Nat}{ro:Obj}{p:Po}{K:Nat->Prop}{I Ix:List It->(Nat->Prop)->acL->Prop}{Pr:Obj->Prop}{W:acL}{o:Obj}
def eT (h:W.heap[g]?=some o):g<W.heap.size:=(aaz.1 h).1
def agw {n:Nat}{t:TypeId}{cs:Array acK}(h:aD W n t cs)(ho:W.heap[n]?=some o)(hc:o.isCells=false):False:=by
 have:W.heap[n]?=some (ach cs t):=h;rw[ho]at this;injection this with this;rw[this]at hc;cases hc
def agI (h:PQ aA w0 q K p)(hk:fF w0 q k)(V:agA w0 D l I)(hD:w0.heap.size<=D/\D<l)(hy:l<y):zw aA q K p k (l+1) (TkG w0 k l D y ro I):=by
 have hkl:k<w0.heap.size:=h.lt _ (h.pK hk).1;refine⟨λhj=>h.OW hk hj.rd,λhj=>h.j6 hk hj.rd,λhj n hn=>?_,λhj hr=>?_,λhj hg hr=>?_,λhj hb _ hB0 hnf hc=>?_⟩;obtain⟨G,h1,_,h2⟩:=hj.inv;rcases (h2 n).1 hn with e|e|e;obtain⟨_,_,_,_,_,hb⟩:=V.lt h1 n e;exact hb.lt;rw[e];exact eT hj.lJ;rw[e];exact hj.box.lt;obtain⟨G,h1,h0,h2⟩:=hj.inv;exact⟨hj.rd.trans hr,⟨G,V.aJ h1 hr.1 (λn e e2=>by have:=(V.lt h1 n e).1;omega),h0,h2⟩,hj.box.aJ hr.1 aa,(hr.1.block l (eT hj.lJ) aa).trans hj.lJ,(hr.1.block D (eT hj.nW) aa).trans hj.nW⟩
 obtain⟨G,h1,h0,h2⟩:=hj.inv;rename_i pre F W W' row;have hc:aP (λn=>row=some n) W W':=(aP.refl _ _).grown hg (λk e=>ack e);refine⟨hj.rd.far ⟨hg.os,hg.tape,hg.output,hg.size,λn hn e=>hg.block n hn (λe2=>?_)⟩ hkl,⟨G,V.aJ h1 hc (λn e e2=>?_),h0,h2⟩,rQ hj.box hg (λr e=>(hr r e).2),(hg.block l (eT hj.lJ) (λe=>?_)).trans hj.lJ,(hg.block D (eT hj.nW) (λe=>?_)).trans hj.nW⟩;have:=(hr n e2.symm).1;omega;obtain⟨_,o,ho,hcl⟩:=hr n e2;obtain⟨_,_,_,_,_,hb⟩:=V.lt h1 n e;exact agw hb ho hcl;have:=(hr l e.symm).1;omega;have:=(hr D e.symm).1;omega
 obtain⟨G,h1,h0,h2⟩:=hj.inv;exact⟨hj.rd.far (hc.mono (λn _ e=>aa)) hkl,⟨G,V.aJ h1 hc (λn e e2=>hnf ((h2 _).2 (ack (by rw[<-e2];exact e)))),h0,h2⟩,hj.box.aJ hc (λe=>hnf ((h2 _).2 (acm (acm e.symm)))),(hc.block l (eT hj.lJ) aa).trans hj.lJ,(hc.block D (eT hj.nW) aa).trans hj.nW⟩
def ahf (h:PQ aA w0 q K p)(hk:fF w0 q k)(V:agA w0 D l Ix)(hD:w0.heap.size<=D/\D<l)(hy:l<y):IY (l+1) (aiS w0 k l D y Pr Ix):=by
 refine⟨λhj hg hr=>?_,λhj hb h1 h2 h3 h4=>?_⟩;obtain⟨ro2,hp,hj⟩:=hj;exact⟨ro2,hp,(agI h hk V hD hy).own hj hg hr⟩;obtain⟨ro2,hp,hj⟩:=hj;exact⟨ro2,hp,(agI h hk V hD hy).uh hj hb h1 h2 h3 h4⟩
def ahz {G G' F:Nat->Prop}{W':acL}{pre its:List It}{I':List It->(Nat->Prop)->acL->Prop}{ro':Obj}(hkl:k<w0.heap.size)(V:agA w0 D l I)(hD:w0.heap.size<=D/\D<l)(hy:l<y)
  (hj:TkG w0 k l D y ro I pre F W) (hI:I pre G W) (hGy:∀m,G m->m≠y) (hF:∀m,F m↔G m\/m=l\/m=y) (h4:aP (λm=>G m\/m=l) W W') (h1:I' its G' W') (h2:∀m,G' m->G m\/W.heap.size<=m) (h3:W'.heap[l]?=some ro') :
  mO (l+1) k F W (λm=>G' m\/m=l\/m=y) W'/\TkG w0 k l D y ro' I' its (λm=>G' m\/m=l\/m=y) W':=by
 have Ik:∀m,G m->w0.heap.size<=m/\m≠D/\m≠l:=λm e=>⟨(V.lt hI m e).1,(V.lt hI m e).2.1,(V.lt hI m e).2.2.1⟩
 have HYL:y<W.heap.size:=hj.box.lt;refine⟨⟨h4.mono (λm _ e=>ack ((hF m).2 (by rcases e with e|e;exact ack e;exact acm (ack e)))),λm e=>?_,⟨h4.size,λj o hj' ho hc=>(h4.block j (eT ho) (λe=>?_)).trans ho⟩⟩,
  hj.rd.far (h4.mono (λm _ e=>?_)) hkl,⟨G',h1,λm e e2=>?_,λ_=>Iff.rfl⟩,hj.box.aJ h4 (λe=>?_),h3,(h4.block D (eT hj.nW) (λe=>?_)).trans hj.nW⟩
 rcases e with e|e|e;exact(h2 m e).imp (λe=>(hF m).2 (ack e)) id;exact ack ((hF m).2 (acm (ack e)));exact ack ((hF m).2 (acm (acm e)));rcases e with e|e;obtain⟨_,_,_,_,_,hb⟩:=V.lt hI j e;exact agw hb ho hc;omega;rcases e with e|e;exact(Ik m e).1;omega;rcases h2 m e with h|h;exact hGy m h e2;omega;rcases e with e|e;exact hGy y e rfl;omega;rcases e with e|e;exact(Ik D e).2.1 rfl;omega
def ahi (hkl:k<w0.heap.size)(V:agA w0 D l I)(hD:w0.heap.size<=D/\D<l)(hy:l<y)(R:ahT w0 k l ro Pr I Ix):Cb 38 y k (l+1) (TkG w0 k l D y ro I) (aiS w0 k l D y Pr Ix):=by
 intro pre x F W hlen hx2 hJ hB;obtain⟨G,hI,hGy,hF⟩:=hJ.inv;have HST:=az (λ(G':Nat->Prop) (W':acL) (its:List It) (I':List It->(Nat->Prop)->acL->Prop) (ro':Obj)=>ahz (G':=G') (W':=W') (its:=its) (I':=I') (ro':=ro') hkl V hD hy hJ hI hGy hF);obtain⟨fn,tmps,assign,body,hyd,hR⟩:=R pre x G W hlen hx2 hJ.rd hI hJ.lJ;have HRR:=az hR;have c0:W.cell? ⟨y,0,none⟩=some (.func (.yield l) #[] #[]):=hJ.box.cell 0;have HX:Hid (∃u,u=pre++[x]):=az ⟨_,rfl⟩;obtain⟨u,hu⟩:=HX.o;rw[<-hu]at HRR ⊢;clear hu;obtain⟨n,at',lv⟩:=x;dsimp only at hyd ⊢;clear hR hJ hlen hI hGy hF HX hx2;refine callsIn_wide.1 (callsIn_of_wp (F:=Fence.wide) (n:=3) func38 rfl trivial ?_ rfl)
 simp only[ntmps38,List.size_toArray,adV,List.length_nil,Nat.reduceAdd,Nat.reduceSub,Array.replicate_succ,Array.replicate_zero,List.push_toArray,List.append_toArray,List.nil_append,List.cons_append];gi_wp2;refine HRR.o.mono ?_;rintro e W' ⟨h4,⟨rfl,h3,G',h1,h2⟩|⟨rfl,ro2,hp,h3,G',h1,h2⟩⟩
 ·have HE:=az (HST.o _ _ _ _ _ h4 h1 h2 h3);clear h1 h2 h3 h4 hyd HRR c0 HST;gi_wp2;go_ret;exact⟨_,HE.o.1,ack ⟨rfl,HE.o.2⟩⟩
 have HE:=az (HST.o _ _ _ _ _ h4 h1 h2 h3);have AR:=az hp;clear h1 h2 h3 h4 hyd HRR c0 HST hp;gi_wp2;go_ret;exact⟨_,HE.o.1,acm ⟨rfl,u,List.prefix_rfl,ro2,AR.o,HE.o.2⟩⟩
def agJ (h:PQ aA w0 q K p)(hk:fF w0 q k)(hi:p.wf i)(V:agA w0 D l I)(Vx:agA w0 D l Ix)(hD:w0.heap.size<=D/\D<l)(R:ahT w0 k l ro Pr I Ix){G:Nat->Prop}{pb ib:Nat}(hb:gD k w0 w)(hpb:aD w pb 26 #[ptr q])(hib:aD w ib 29 (j4 i))
  (hn:I [] G w) (hl:w.heap[l]?=some ro) (hd:w.heap[D]?=some (adL (some []))) :
  Calls prog 36 #[.func (.yield l) #[] #[],ptr pb,ptr ib] w λe W=>e=ab4 (.tuple #[])/\gD k w0 W/\aP (λn=>G n\/n=l\/n=k) w W/\W.heap[D]?=some (adL (some []))/\((W.heap[l]?=some ro/\∃G',I (p.jy i) G' W)\/∃its ro2 G',its <+: p.jy i/\Pr ro2/\W.heap[l]?=some ro2/\Ix its G' W):=by
 have H:=az h;have HK:=az hk;have HI:=az hi;have YA:=az hD;have HV:=az V;have HVX:=az Vx;have HR:=az R;have HB:=az hb;have KI:=az hpb;have HN:=az hn;have HLG:Hid (∀n,G n->n<w.heap.size):=az (λn e=>by
  obtain⟨_,_,_,_,_,hb⟩:=V.lt hn n e
  exact hb.lt)
 have HL:=az hl;have HD:=az hd;have jU:Hid (k<w0.heap.size):=az (h.lt _ (h.pK hk).1);have hil:=hi.len;clear h hk hi hD V Vx R hb hpb hn hl hd;obtain⟨kd,ln,sz,dl,sg,db⟩:=i;obtain⟨d0,d1,d2,d3,d4,d5,hdl⟩:=six (l:=dl) hil;clear hil;subst hdl;simp only[j4]at hib;have HIB:=az hib;clear hib;go_in;go_upto_region 1 with fail;refine mD λw1 HB1 NL=>?_
 have HLY:Hid (l<w.heap.size):=az (aaz.1 HL.o).1;have afc:=az (KI.o.old HB1.o);have afd:=az (HIB.o.old HB1.o);obtain⟨y,hy⟩:∃y,y=w.heap.size:=⟨_,rfl⟩;rw[<-hy]at NL HLY ⊢;have HSY:=az hy;clear hy;have p0:w1.cell? ⟨pb,0,none⟩=some (ptr q):=afc.o.cell 0;obtain⟨x0,x1,x2,x3,x4,x5,x6,x7,x8,x9,JW⟩:=nT afd.o;have HB3:Hid (Below w.heap.size w (w1.alloc (ach #[ptr q,vi kd,vi ln,vi sz,vi d0,vi d1,vi d2,vi d3,vi d4,vi d5,vi sg,vi db] 74))):=az (HB1.o.alloc HB1.o.size _);have GN:Hid (Calls prog 37 #[ptr w1.heap.size,.func (.func 38) #[] #[ptr y]] (w1.alloc (ach #[ptr q,vi kd,vi ln,vi sz,vi d0,vi d1,vi d2,vi d3,vi d4,vi d5,vi sg,vi db] 74)) (aaX k (l+1) (TkG w0 k l D y ro I) (aiS w0 k l D y Pr Ix) ([]++p.jy ⟨kd,ln,sz,[d0,d1,d2,d3,d4,d5],sg,db⟩) (λm=>G m\/m=l\/m=y) (w1.alloc (ach #[ptr q,vi kd,vi ln,vi sz,vi d0,vi d1,vi d2,vi d3,vi d4,vi d5,vi sg,vi db] 74)))):=az (by
  have h1:=NL.o.lt
  have h2:=HB1.o.size
  have h3:=HB.o.1.size
  have h4:=YA.o
  have h5:=jU.o
  have h6:=HLY.o
  have h7:=HB3.o.size
  have h8:=HSY.o
  refine Nb (agI H.o HK.o HV.o YA.o HLY.o) (ahf H.o HK.o HVX.o YA.o HLY.o) (dI func38 ah rfl) (ahi jU.o HV.o YA.o HLY.o HR.o) aa HI.o ?_ aa (aD.new w1 _ _) (λe=>?_) (Nat.zero_le _)
  exact⟨HB.o.trans (gD.of_below HB3.o),⟨G,HV.o.aJ HN.o (aP.of_below HB3.o) (λ_ _ e=>e),λm e=>by have:=HLG.o m e;omega,λ_=>Iff.rfl⟩,NL.o.alloc _,(HB3.o.block l (aaz.1 HL.o).1).trans HL.o,(HB3.o.block D (aaz.1 HD.o).1).trans HD.o⟩
  rcases e with e|e|e
  have:=HLG.o _ e
  omega
  omega
  omega)
 clear HB1 NL afc afd;go_wp2_with fail;refine GN.o.mono ?_;rintro e w4 ⟨rfl,F',hg,hj⟩;have HE:=az hj;have P9:Hid (aP (λn=>G n\/n=l\/n=k) w w4):=az ((aP.of_below HB3.o).trans hg.aJ (λn hn e=>by
  rcases e with (e|e|e)|e
  exact ack e
  exact acm (ack e)
  have:=HSY.o;omega
  exact acm (acm e)))
 clear hg hj GN HB3 p0 x0 x1 x2 x3 x4 x5 x6 x7 x8 x9 JW;go_wp2_with fail;go_end0;rcases HE.o with h|⟨its,hp,ro2,hr,h⟩;exact⟨rfl,h.rd,P9.o,h.nW,ack ⟨h.lJ,h.inv.imp (λG h=>h.1)⟩⟩;obtain⟨G',h1,_⟩:=h.inv;exact⟨rfl,h.rd,P9.o,h.nW,acm ⟨its,ro2,G',hp,hr,h.lJ,h1⟩⟩
end
end po
end Go.Proofs.YtllmbcigmimgoaaGreat
