/-
  Lemmas for a law's proof, put together from several texts. No conditions of their own.
-/
import Derived.Test.YtllmbcigmimgoaaGreatZB13
import Derived.Test.YtllmbcigmimgoaaGreatZB14
import Derived.Test.YtllmbcigmimgoaaGreatZB06
import Derived.Test.YtllmbcigmimgoaaGreatZB08
import Derived.Test.YtllmbcigmimgoaaGreatZB11
import Derived.Test.YtllmbcigmimgoaaGreatZB10
set_option maxRecDepth 100000
set_option maxHeartbeats 20000000
set_option linter.all false
namespace Go.Proofs.YtllmbcigmimgoaaGreat
open _root_.Go.Proofs.Tryz
open _root_.Array renaming getElem?_eq_some_iff->aaz
open _root_.Go renaming Value->acK,World->acL,Calls->ac4,bodyPost_ret->ac5
open _root_.Go.Ending renaming returned->ab4
open _root_.Go.IntKind renaming i64->adk
open _root_.Go.IntWalk renaming i64_in->adl
open _root_.Go.Obj renaming deferred->adL,cells->ach
open _root_.Go.RowKit renaming Below->acN
open _root_.Go.Value renaming slice->aco,tuple->adg
open _root_.Go.World renaming putObj_heap_other->af4,putObj->af6
open _root_.Nat renaming le_trans->abX,lt_of_lt_of_le->adN
open _root_.Or renaming inl->ack,inr->acm
open _root_.Prod renaming fst->af5
namespace FP
open mgr ft
structure GG (t a e:Nat)(F:Ft):Prop where
 sound:Sound F
 wJ:yh F
 seq:1<=F.seq/\F.seq<=a
 aM:1<=F.aM/\F.aM<=e
 size:F.c.S=64
 log:∀n:Nat,1<=n->n<=t->F.logical n=0
 seen:∀n:Nat,n≠0->F.see n≠none->F.logical n=0
section
variable{t a e:Nat}{F F':Ft}
def GG.mono {a' e':Nat}(h:GG t a e F)(ha:a<=a')(he:e<=e'):GG t a' e' F:=⟨h.sound,h.wJ,⟨h.seq.1,abX h.seq.2 ha⟩,⟨h.aM.1,abX h.aM.2 he⟩,h.size,h.log,h.seen⟩
def GG.still (e0:F'.still=F.still)(h:GG t a e F):GG t a e F':=by
 obtain⟨c,g,r,b,tx,s,n,d,sq,ep,la,ov⟩:=F;obtain⟨c',g',r',b',tx',s',n',d',sq',ep',la',ov'⟩:=F';unfold Ft.still at e0;injection e0 with e1 e2 e3 e4 e5 e6 e7 e8 e9 e10 e11 e12;dsimp only at e1 e2 e3 e4 e5 e6 e7 e8 e9 e10 e11 e12;subst e2 e3 e4 e5 e6 e7 e8 e9 e10 e11 e12;obtain⟨B,P,S,bs,fs,si,dn,st,rd⟩:=c;obtain⟨B',P',S',bs',fs',si',dn',st',rd'⟩:=c';injection e1 with a1 a2 a3 a4 a5 a6 a7 a8;subst a1 a2 a3 a4 a5 a6 a7 a8;have hf:=po.fit_still (F:=⟨⟨B',P',S',bs',fs',si',dn',st',rd⟩,g',r',b',tx',s',n',d',sq',ep',la',ov'⟩) (F':=⟨⟨B',P',S',bs',fs',si',dn',st',rd'⟩,g',r',b',tx',s',n',d',sq',ep',la',ov'⟩) h.sound.fit rfl
 have hc:=h.sound.cg;exact⟨⟨hf,⟨hf.good,hf.lL,hc.fs,hc.up,hc.whole,hc.J2,hc.n1,hc.n0⟩,h.sound.over,h.sound.later,λs n p hp=>by
  have:=h.sound.place s n p hp
  exact⟨this.b0,this.b1,this.p0,this.p1⟩,h.sound.inj,h.sound.live,h.sound.gone⟩,h.wJ,h.seq,h.aM,h.size,h.log,h.seen⟩
def GG.like (h:GG t a e F)(H':Sound F')(h0:yh F')(L:l7 F F'){a' e':Nat}(hs:1<=F'.seq/\F'.seq<=a')(he:1<=F'.aM/\F'.aM<=e')(hn:∀n:Nat,n≠0->F'.see n≠none->F.logical n=0):GG t a' e' F' :=
 ⟨H',h0,hs,he,by rw[L.bI.2.2];exact h.size,λn h1 h2=>by rw[L.logical h.sound H'];exact h.log n h1 h2,λn h1 h2=>by rw[L.logical h.sound H'];exact hn n h1 h2⟩
def VE (F:Ft)(n:Nat)(h:F.here n=true):n≠0/\F.see n≠none:=by
 unfold Ft.here at h;simp only[Bool.and_eq_true,Bool.or_eq_true,bne_iff_ne,ne_eq]at h;refine⟨by have:=h.1;omega,?_⟩;unfold Ft.see Ft.at_;cases hg:MP.get F.now n with
 |some p=>simp
 |none =>
  have h1:MP.has F.now n=false:=by unfold MP.has;rw[hg];rfl
  rw[h1]at h;have h2:=h.2;simp only[Bool.false_eq_true,false_or,Bool.not_eq_eq_eq_not,Bool.not_true]at h2;dsimp only;rw[h2.2];have h3:=h2.1;unfold MP.has at h3;obtain⟨p,hp⟩:=Option.isSome_iff_exists.1 h3;simp[hp]
def GG.drop (h:GG t a e F)(n:Nat)(h1:n≠0)(h2:F.see n≠none):(F.drop n).1=0/\GG t a e (F.drop n).2/\(∀m,m≠n->(F.drop n).2.see m=F.see m)/\(F.drop n).2.see n=none:=by
 obtain⟨h3,h4⟩:=Yi h.sound n (h.seen n h1 h2);refine⟨h3,h.like h4.sound (h4.wJ h.wJ) h4.like (by rw[h4.seq.1];exact h.seq) (by rw[h4.seq.2.1];exact h.aM) (λm hm hs=>?_),h4.uh,h4.see⟩;by_cases e:m=n;rw[e];exact h.seen n h1 h2;rw[h4.uh m e]at hs;exact h.seen m hm hs
def GG.keep (h:GG t a e F)(H':Sound F')(k:jl F F'):GG t a e F' :=
 h.like H' (k.wJ h.wJ) k.like (by rw[k.num.2.2.2.1];exact h.seq) (by rw[k.num.2.2.2.2];exact h.aM) (λm hm hs=>by rw[k.see]at hs;exact h.seen m hm hs)
variable{n:Nat}
def GG.write (h:GG t a e F)(ha:a<4611686018427387904)(he:e<4611686018427387904)(h1:1<=n)(h2:n<=t){b:List Nat}(hl:b.length=64)(hb:∀y∈b,y<256) :
  ∃r,F.Cg n b=some r/\((r.1=0/\GG t (a+1) e r.2/\(∀m,m≠n->r.2.see m=F.see m)/\r.2.see n=some (TP.bytes ⟨1,n,F.seq,F.aM⟩ b))\/(r.1=40/\GG t a e r.2/\∀m,r.2.see m=F.see m)):=by
 have hq:=h.seq;have hp:=h.aM;have VF:=h.log n h1 h2;obtain⟨r,h3,h4,h5⟩:=PX h.sound n ⟨hq.1,aa⟩ ⟨hp.1,aa⟩ hb;refine⟨r,h3,?_⟩;rcases h5 with⟨h6,h7⟩|⟨h6,h7⟩;refine ack ⟨h6,h.like h4 (h7.wJ h.wJ) h7.like (by rw[h7.seq.1];omega) (by rw[h7.seq.2.1];exact hp) (λm hm hs=>?_),h7.uh,h7.see⟩;by_cases e:m=n;rw[e];exact VF;rw[h7.uh m e]at hs;exact h.seen m hm hs;refine acm ⟨?_,h.keep h4 h7,λm=>h7.see m⟩;rcases h6 with h6|h6|h6;exact h6;exact absurd (hl.trans h.size.symm) h6.2;exact absurd VF h6.2
def GG.ajt (h:GG t a e F)(ha:a<4611686018427387904)(he:e<4611686018427387904){tx:List Nat}(hl:tx.length=56)(hb:∀y∈tx,y<256) :
  ∃r,F.p8 tx=some r/\GG t (a+1) (e+1) r.2/\(r.1=0\/r.1=40)/\∀m,m≠0->r.2.see m=F.see m:=by
 have hq:=h.seq;have hp:=h.aM;have hz:=h.size;obtain⟨r,h3,h4,h5⟩:=Ck h.sound h.wJ (text:=tx) ⟨hq.1,aa⟩ ⟨hp.1,aa⟩ hb;refine⟨r,h3,?_⟩;rcases h5 with⟨h6,h7⟩|⟨h6,h7⟩;refine⟨h.like h4 (by unfold yh;rw[h7.now.1];rfl) h7.like (by rw[h7.seq.1];omega) (by rw[h7.seq.2.1];omega) (λm hm hs=>?_),ack h6,h7.see⟩;rw[h7.see m hm]at hs;exact h.seen m hm hs;refine⟨(h.keep h4 h7).mono (Nat.le_succ _) (Nat.le_succ _),acm ?_,λm _=>h7.see m⟩;rcases h6 with h6|h6;exact h6;exact absurd aa h6.2
def zX (H:Sound F)(H':Sound F')(h1:F.logical n=0)(h2:F'.logical n=0)(hs:F'.see n=F.see n){l:List Nat}(h:po.Has F n l):po.Has F' n l:=by
 have e:(F'.read n).1=(F.read n).1:=by
  rw[H.read,H'.read,h1,h2,hs]
 unfold po.Has;rw[e];exact h
def Qk (H':Sound F'){s p:Nat}(h2:F'.logical n=0)(hs:1<=s/\s<4611686018427387904)(hp:1<=p/\p<4611686018427387904)(hn:n<8192){l:List Nat}(hl:l.length=64)(hb:∀y∈l,y<256)(acf:F'.see n=some (TP.bytes ⟨1,n,s,p⟩ l)):po.Has F' n l:=by
 refine⟨hl,hb,acm ?_⟩;rw[H'.read,if_neg (by simp[h2]),acf];dsimp only;rw[TP.LB (by unfold TP.right;simp;omega) (by unfold TP.sized;simp[hl])];rfl
end
end FP
namespace uj
open RowKit us mgr ft po nd
attribute [local go_sem] Oper.semAt_some
def Gives (gf:Nat)(lb:Array acK)(N:Nat)(S:List Int->Prop)(w0:acL):Prop :=
 ∀(l:Nat) (J:(Nat->Prop)->List Int->acL->Prop) (K:Nat->Prop) (W:acL),acN w0.heap.size w0 W ->
  (∀K ss W,J K ss W->∀n,K n->n<W.heap.size/\w0.heap.size<=n) ->
  (∀K ss W W' F,J K ss W->aP F W W'->(∀n,F n->¬K n)->(∀n,F n->w0.heap.size<=n)->J K ss W') ->
  (∀K ss x W,J K ss W->ss.length<N->YieldAt Fence.wide 4 prog l #[vi x] W λe W'=>e=ab4 (.bool true)/\∃K',J K' (ss++[x]) W'/\aP K W W'/\∀n,K' n->K n\/W.heap.size<=n) ->
  J K [] W->ac4 prog gf (#[.func (.yield l) #[] #[]]++lb) W λe W'=>(∃v,e=ab4 v)/\∃K' ss,S ss/\J K' ss W'
structure Vu (w0:acL)(bs l D:Nat)(ro:Obj)(K:Nat->Prop)(ss:List Int)(W:acL):Prop where
 below:acN w0.heap.size w0 W
 box:∃v,aD W bs 31 #[v]/\dZ W w0.heap.size v ss/\∀n,K n↔n=bs\/n=l\/n=D\/v.ownBlock=some n
 lJ:W.heap[l]?=some ro
 nW:W.heap[D]?=some (adL (some []))
section
variable{w0:acL}{bs l D:Nat}{ro:Obj}
def Ct {K:Nat->Prop}{ss:List Int}{W:acL}(h1:w0.heap.size<=bs/\w0.heap.size<=l/\w0.heap.size<=D)(h:Vu w0 bs l D ro K ss W):∀n,K n->n<W.heap.size/\w0.heap.size<=n:=by
 intro n hn;obtain⟨v,h2,h3,h4⟩:=h.box;rcases (h4 n).1 hn with e|e|e|e;rw[e];exact⟨h2.lt,h1.1⟩;rw[e];exact⟨(aaz.1 h.lJ).1,h1.2.1⟩;rw[e];exact⟨(aaz.1 h.nW).1,h1.2.2⟩;exact⟨(h3.lt e).1,(h3.lt e).2.1⟩
def Gw {K:Nat->Prop}{ss:List Int}{W W':acL}{F:Nat->Prop}(h:Vu w0 bs l D ro K ss W)(q:aP F W W')(hn:∀n,F n->¬K n)(h0:∀n,F n->w0.heap.size<=n):Vu w0 bs l D ro K ss W':=by
 obtain⟨v,h2,h3,h4⟩:=h.box;have hs:=h.below.size;refine⟨⟨q.os.trans h.below.os,q.tape.trans h.below.tape,q.output.trans h.below.output,abX hs q.size,λk hk=>(q.block k (adN hk hs) (λe=>by have:=h0 k e;omega)).trans (h.below.block k hk)⟩,
  ⟨v,h2.aJ q (λe=>hn _ e ((h4 _).2 (ack rfl))),h3.aJ q (λg e e2=>hn _ e2 ((h4 _).2 (acm (acm (acm e))))),h4⟩,?_,?_⟩
 exact(q.block l (aaz.1 h.lJ).1 (λe=>hn _ e ((h4 _).2 (acm (ack rfl))))).trans h.lJ;exact(q.block D (aaz.1 h.nW).1 (λe=>hn _ e ((h4 _).2 (acm (acm (ack rfl)))))).trans h.nW
end
def uZ {w':acL}{v0:acK}(tmps:Array acK)(h2:tmps[4]?=some v0):(results Tryz.f141 tmps).run prog w'=.ok v0 w':=by
 simp only[results,results141];simp[go_sem,h2]
variable{w:acL}
def Gx {gf:Nat}{lb:Array acK}{N:Nat}{S:List Int->Prop}(hN:N<=900000)(eg:∀args w,(callFunc gf args).run prog w=.ok (.enter gf args) w)(hg:Gives gf lb N S w) :
  ac4 prog 141 #[aco none 0 0,.func (.func gf) #[] lb] w λe w'=>∃v ss,e=ab4 v/\S ss/\dZ w' w.heap.size v ss/\acN w.heap.size w w':=by
 have HG:=az hg;clear hg;refine callsIn_wide.1 (callsIn_of_wp_marks (F:=Fence.wide) (n:=6) func141 rfl trivial (wpIn_wide.2 ?_) rfl);simp only[ntmps141,List.size_toArray,List.length_cons,List.length_nil,Nat.reduceAdd,Nat.reduceSub,Array.replicate_succ,Array.replicate_zero,List.push_toArray,List.append_toArray,List.nil_append,List.cons_append];go_upto_region 1 with fail;have HB1:Hid (acN w.heap.size w (w.alloc (ach #[aco none 0 0] 31))):=az ax;have lD:=az (aD.new w 31 #[aco none 0 0]);have fV:Hid ((w.alloc (ach #[aco none 0 0] 31)).heap.size=w.heap.size+1):=az ai
 obtain⟨x,hx⟩:∃x,x=w.heap.size:=⟨_,rfl⟩;rw[<-hx]at lD ⊢;have HX:=az hx;clear hx;change Code.wp _ _ _ _ (w.alloc (ach #[aco none 0 0] 31));generalize w.alloc (ach #[aco none 0 0] 31)=w1 at*;go_wp2_with fail;refine(wpIn_wide (n:=6)).1 ?_;refine ic (n:=6) aa (gf:=gf) (lb:=lb) rfl eg (λW=>∃v ss,S ss/\aD W x 31 #[v]/\dZ W w.heap.size v ss/\acN w.heap.size w W) ?hc ?hd
 case hc =>
  intro fn;generalize hro:Obj.loop (ja fn _ _ _ _ _ _ _)=ro at*;have hb4:acN w1.heap.size w1 ((w1.alloc (adL (some []))).alloc ro):=ax.alloc ai _;have hl4:((w1.alloc (adL (some []))).alloc ro).heap[w1.heap.size+1]?=some ro:=by
   have h:=acL.alloc_heap_new (w1.alloc (adL (some []))) ro;rwa[acL.size_alloc]at h
  have hd4:((w1.alloc (adL (some []))).alloc ro).heap[w1.heap.size]?=some (adL (some [])):=(acN.heap_alloc _ _ _ ai).trans (acL.alloc_heap_new w1 _);have hsz:=fV.o;have AV:=HX.o;have FI:Vu w x (w1.heap.size+1) w1.heap.size ro (λn=>n=x\/n=w1.heap.size+1\/n=w1.heap.size\/(aco none 0 0).ownBlock=some n) [] ((w1.alloc (adL (some []))).alloc ro) :=
   ⟨HB1.o.trans (hb4.mono HB1.o.size),⟨aco none 0 0,lD.o.old hb4,acL.ownsRow_nil _ _ _ _,λ_=>Iff.rfl⟩,hl4,hd4⟩
  refine(HG.o (w1.heap.size+1) (Vu w x (w1.heap.size+1) w1.heap.size ro) _ _ FI.below (λK ss W h=>Ct ⟨aa,aa,aa⟩ h) (λK ss W W' F h=>Gw h) ?_ FI).mono ?_
  ·clear FI hl4 hd4 hb4;intro K ss n W hJ hlen;have HJ:=az hJ;subst hro;refine rY hJ.lJ rfl rfl rfl ?_;obtain⟨v,h1,h2,h3⟩:=hJ.box;have HL:=az hJ.lJ;have HD:=az hJ.nW;have FU:Hid (x≠w1.heap.size+1/\x≠w1.heap.size):=az aa;have ig:Hid (w1.heap.size+1<W.heap.size/\w.heap.size<=W.heap.size):=az ⟨(aaz.1 hJ.lJ).1,hJ.below.size⟩;have ZF:=az h1;have Jr:=az h2;have CV:=az h3;have HLEN:Hid (ss.length+1<=1000000):=az aa;clear hJ h1 h2 h3 hlen hsz AV;unfold ja at HL ⊢;dsimp only at HL ⊢;gi_wp2;refine⟨HL.o,?_⟩;have GQ:Hid (∀g,v.ownBlock=some g->g≠w1.heap.size):=az (λg e e2=>by
    obtain⟨_,_,cur,hb⟩:=Jr.o.lt e
    have h1:=HD.o
    rw[<-e2]at h1
    unfold aD at hb
    rw[hb]at h1
    cases h1)
   have HNV:Hid (∀g,v.ownBlock=some g->g≠w1.heap.size+1):=az (λg e e2=>by
    obtain⟨_,_,cur,hb⟩:=Jr.o.lt e
    have h1:=HL.o
    rw[<-e2]at h1
    unfold aD at hb
    rw[hb]at h1
    cases h1)
   generalize Dx:Obj.loop {state:=LoopState.busy,pending:=none,fn:=fn,tmps:=_,params:=_,assign:=_,body:=_,defers:=_}=ob;generalize hor:Obj.loop {state:=LoopState.ready,pending:=none,fn:=fn,tmps:=_,params:=_,assign:=_,body:=_,defers:=_}=od at*;have HB2:Hid (aD (W.putObj (w1.heap.size+1) ob) x 31 #[v]):=az ((af4 FU.o.1).trans ZF.o);have yK:Hid ((W.putObj (w1.heap.size+1) ob).heap[w1.heap.size+1]?=some ob):=az (acL.putObj_heap_same ig.o.1);have yx:Hid (aP (λm=>m=w1.heap.size+1) W (W.putObj (w1.heap.size+1) ob)):=az ⟨rfl,rfl,rfl,by simp[af6],λm hm e=>af4 (λe2=>e e2)⟩
   have II:Hid (dZ (W.putObj (w1.heap.size+1) ob) w.heap.size v ss):=az (Jr.o.aJ yx.o (λg e e2=>HNV.o g e e2));have jS:Hid ((W.putObj (w1.heap.size+1) ob).heap.size=W.heap.size):=az (by simp[af6]);have HTY:Hid (∀cs t z,ob≠ ach cs t z):=az (λcs t z e=>by rw[<-Dx]at e;cases e);clear Dx;generalize W.putObj (w1.heap.size+1) ob=W1 at*;have Vv:=az (uT II.o n (by have:=HLEN.o;omega) (by have:=jS.o;have:=ig.o;omega));obtain⟨v',w5,hrun,jT,hg5,Vw⟩:=Vv.o;obtain⟨a5,n5,c5,hv5⟩:=jT.form;subst hv5;have RA:=az hrun;have hbl:acN W1.heap.size W1 (W1.alloc (ach #[vi n] 3)):=ax
   have JX:aD w5 x 31 #[v]:=(HB2.o.alloc _).grown hg5 (bU II.o HB2.o ag);have RN:Hid (w5.heap[w1.heap.size+1]?=some ob):=az ((hg5.block _ (by have:=jS.o;have:=ig.o;simp;omega) (λe=>HNV.o _ e.symm rfl)).trans ((hbl.block _ (by have:=jS.o;have:=ig.o;omega)).trans yK.o));have HD5:Hid (w5.heap[w1.heap.size]?=some (adL (some []))):=az ((hg5.block _ (by have:=jS.o;have:=ig.o;simp;omega) (λe=>GQ.o _ e.symm rfl)).trans ((hbl.block _ (by have:=jS.o;have:=ig.o;omega)).trans ((yx.o.block _ (by have:=ig.o;omega) aa).trans HD.o)));have P9:Hid (aP K W w5):=az ((yx.o.mono (λm _ e=>(CV.o m).2 (acm (ack e)))).trans ((aP.of_below (F:=K) hbl).grown hg5 (λr e=>ack ((CV.o r).2 (acm (acm (acm e)))))) (λ_ _ e=>e))
   have Bl:=az JX;have Dk:=az jT;have ql:=az Vw;have y0:W1.cell? ⟨x,0,none⟩=some v:=HB2.o.cell 0;have z0:=JX.frozen 0;have z1:=JX.cell 0;clear hrun jT hg5 Vw JX hbl Vv;gi_wp2_with (gi_at_builtin;refine lS rfl (.tmp 8) (.tmp 10) rfl rfl rfl RA.o.run ?_);have YB:aP (λm=>m=x) w5 (w5.setCell ⟨x,0,none⟩ (aco a5 n5 c5)):=aP.set (F:=λm=>m=x) w5 (p:=⟨x,0,none⟩) rfl _;have hL6:(w5.setCell ⟨x,0,none⟩ (aco a5 n5 c5)).heap[w1.heap.size+1]?=some ob:=(YB.block _ (aaz.1 RN.o).1 (λe=>FU.o.1 e.symm)).trans RN.o;have hD6:(w5.setCell ⟨x,0,none⟩ (aco a5 n5 c5)).heap[w1.heap.size]?=some (adL (some [])):=(YB.block _ (aaz.1 HD5.o).1 (λe=>FU.o.2 e.symm)).trans HD5.o
   have hU6:dZ (w5.setCell ⟨x,0,none⟩ (aco a5 n5 c5)) w.heap.size (aco a5 n5 c5) (ss++[n]):=Dk.o.aJ YB (λg e e2=>by
    obtain⟨_,_,cur,hb⟩:=Dk.o.lt e
    rw[e2]at hb
    have:=bY hb Bl.o
    revert this
    decide)
   have hB6:aD (w5.setCell ⟨x,0,none⟩ (aco a5 n5 c5)) x 31 #[aco a5 n5 c5]:=Bl.o.bB 0 _;have hC:=P9.o.trans YB (λm _ e=>(CV.o m).2 (ack e));clear y0 z0 z1 RA;generalize w5.setCell ⟨x,0,none⟩ (aco a5 n5 c5)=w6 at*;have YC:aP (λm=>m=w1.heap.size+1) w6 (w6.putObj (w1.heap.size+1) od):=⟨rfl,rfl,rfl,by simp[af6],λm hm e=>af4 (λe2=>e e2)⟩;have hC8:aP K W (w6.putObj (w1.heap.size+1) od):=hC.trans YC (λm _ e=>(CV.o m).2 (acm (ack e)));refine⟨hL6,λm=>m=x\/m=w1.heap.size+1\/m=w1.heap.size\/(aco a5 n5 c5).ownBlock=some m,⟨eY HJ.o.below hC8 (λm e=>(Ct ⟨by have:=HX.o;omega,by have:=HX.o;have:=fV.o;omega,by have:=HX.o;have:=fV.o;omega⟩ HJ.o m e).2),⟨_,?_,?_,λ_=>Iff.rfl⟩,?_,?_⟩,hC8,λm e=>?_⟩
   exact hB6.aJ YC (by have:=FU.o;omega);refine hU6.aJ YC (λg e e2=>?_);obtain⟨_,_,cur,hb⟩:=hU6.lt e;have h1:=HTY.o;rw[e2]at hb;unfold aD at hb;rw[hb]at hL6;injection hL6 with hL6;rw[<-hL6]at h1;exact h1 _ _ _ rfl;exact acL.putObj_heap_same (aaz.1 hL6).1;exact(YC.block _ (aaz.1 hD6).1 aa).trans hD6;rcases e with e|e|e|e;exact ack ((CV.o m).2 (ack e));exact ack ((CV.o m).2 (acm (ack e)));exact ack ((CV.o m).2 (acm (acm (ack e))));rcases ql.o with e2|e2;exact ack ((CV.o m).2 (acm (acm (acm (by rw[<-e2];exact e)))))
   rw[e2]at e;injection e with e;exact acm (by have:=jS.o;omega)
  rintro e W ⟨⟨v,rfl⟩,K',ss,hS,hJ⟩;obtain⟨v2,h1,h2,h3⟩:=hJ.box;exact⟨⟨_,rfl⟩,hJ.lJ,hJ.nW,v2,ss,hS,h1,h2,hJ.below⟩
 case hd =>
  intro W o r hR hD hl;obtain⟨v,ss,hS,h1,h2,h3⟩:=hR;have hC:aP (λm=>m=w1.heap.size+1) W (W.putObj (w1.heap.size+1) o):=⟨rfl,rfl,rfl,by simp[af6],λm hm e=>af4 (λe2=>e e2)⟩;have hne:x≠w1.heap.size+1:=by have:=HX.o;have:=fV.o;omega
  have HB:=az (h1.aJ hC hne);have HU:=az (h2.aJ hC (λg e e2=>by
   obtain⟨_,_,cur,hb⟩:=h2.lt e
   rw[e2]at hb
   unfold aD at hb
   rw[hb]at hl
   cases hl))
  have HD:=az ((hC.block w1.heap.size (aaz.1 hD).1 aa).trans hD);have lK:=az (eY h3 hC (λm e=>by rw[e];have:=HB1.o.size;omega));have DC:=az hS;clear h1 h2 h3 hS hD hl hC;dsimp only;generalize W.putObj (w1.heap.size+1) o=W2 at*;have y0:W2.cell? ⟨x,0,none⟩=some v:=HB.o.cell 0;go_wp2_with fail;refine di.ji (v:=v) HD.o (uZ _ rfl) ⟨v,ss,rfl,DC.o,?_,?_⟩;refine HU.o.aJ (F:=λm=>m=w1.heap.size) ⟨rfl,rfl,rfl,by simp[af6],λm hm e=>af4 (λe2=>e e2)⟩ (λg e e2=>?_);obtain⟨_,_,cur,hb⟩:=HU.o.lt e
  have h1:=HD.o;rw[e2]at hb;unfold aD at hb;rw[hb]at h1;cases h1;exact eY lK.o (F:=λm=>m=w1.heap.size) ⟨rfl,rfl,rfl,by simp[af6],λm hm e=>af4 (λe2=>e e2)⟩ (λm e=>by rw[e];have:=HB1.o.size;omega)
end uj
namespace uj
open RowKit Go.Sort us mgr ft po nd
attribute [local go_sem] Oper.semAt_some
variable{w:acL}{lb:Array acK}{N:Nat}{S:List Int->Prop}
def wO {gf:Nat}(hN:N<=900000)(eg:∀args w,(callFunc gf args).run prog w=.ok (.enter gf args) w)(hg:Gives gf lb N S w) :
  ac4 prog 110 #[.func (.func gf) #[] lb] w λe w'=>∃v ss,e=ab4 v/\S ss/\dZ w' w.heap.size v ss/\acN w.heap.size w w':=by
 have HG:=az hg;clear hg;go_in;go_wp2_with (go_at_call 141;refine(Gx hN eg HG.o).mono ?_;rintro e w2 ⟨v,ss,rfl,hS,h1,h2⟩;have H1:=az h1;have H2:=az h2;have HS:=az hS;clear h1 h2 hS);go_ret;exact⟨v,ss,rfl,HS.o,H1.o,H2.o⟩
def ve {gf:Nat}(hN:N<=900000)(hS:∀ss,S ss->ss.length<1000000)(eg:∀args w,(callFunc gf args).run prog w=.ok (.enter gf args) w)(hg:Gives gf lb N S w) :
  ac4 prog 73 #[.func (.func gf) #[] lb] w λe w'=>∃v ss l',e=ab4 v/\S ss/\l'.Perm ss/\dZ w' w.heap.size v l'/\acN w.heap.size w w':=by
 have HG:=az hg;have HN:=az hS;clear hg hS;go_in;go_upto_region 2 with (go_at_call 110;refine(wO hN eg HG.o).mono ?_;rintro e w2 ⟨v,ss,rfl,hS,h1,h2⟩;have H1:=az h1;have H2:=az h2;have HS:=az hS;clear h1 h2 hS);obtain⟨a,n,c,hv⟩:=H1.o.form;subst hv;go_wp2_with (go_at_call 94;refine(Eo H1.o (Nat.le_of_lt (HN.o _ HS.o))).mono ?_;rintro e w3 ⟨rfl,h1,h2⟩;have H3:=az h1;have H4:=az h2;clear h1 h2);go_ret;exact⟨_,ss,_,rfl,HS.o,List.mergeSort_perm _ _,H3.o,eY H2.o H4.o (λm e=>(H1.o.lt e).2.1)⟩
def Cu (b:Nat):ac4 prog 74 #[.map (some b)] w λe w'=>e=ab4 (.func (.func 111) #[] #[ptr w.heap.size])/\w'=w.alloc (ach #[.map (some b)] 94):=by
 go_in;go_wp2;go_ret;exact⟨ai,rfl⟩
def keys_gives {b bx:Nat}{M:Mp acK}(hm:bz w b .i64 (λv:acK=>v) M)(hbx:aD w bx 94 #[.map (some b)])(hN:M.length<=N) :
  Gives 111 #[ptr bx] N (λss=>ss.Perm (M.map af5)) w:=by
 intro l J K W hW hlt hA hY h0;have hbl:=hm.lt;have hmW:bz W b .i64 (λv:acK=>v) M:=hm.of_heap (hW.block b hbl);have c0:W.cell? ⟨bx,0,none⟩=some (.map (some b)):=(hbx.below hW hbx.lt).cell 0;obtain⟨w1,hrun,hit,hb1,_⟩:=hmW.range (P:=prog) underlying94;have Da:Hid (xk 94 (.map (some b)) (.pointer (some ⟨W.heap.size,0,none⟩)) W w1):=az ⟨hrun⟩;have hJ1:J K [] w1:=hA K [] W w1 (λ_=>False) h0 (aP.of_below hb1) (λ_ e=>e.elim) (λ_ e=>e.elim);have ig:=az hlt;have HA:=az hA;have HY:=az hY;have HN:=az hN;have HWS:=az hW.size;have lK:=az hbl;have zi:Hid (J K [] w1/\gL w1 W.heap.size b .i64 (λv:acK=>v) M/\(([]:List Int)++M.map af5).Perm (M.map af5)/\([]:List Int).length+M.length=M.length/\¬K W.heap.size) :=
  az ⟨hJ1,hit,List.Perm.refl _,ai,λe=>by have:=(hlt _ _ _ h0 _ e).1;omega⟩
 clear hlt hA hY hN hW hbl hm hbx h0 hrun hit hb1 hJ1 hmW;refine callsIn_wide.1 (callsIn_of_wp (F:=Fence.wide) (n:=5) func111 rfl trivial ?_ rfl);simp only[ntmps111,List.size_toArray,List.length_cons,List.length_nil,Nat.reduceAdd,Nat.reduceSub,Array.replicate_succ,Array.replicate_zero,List.push_toArray,List.append_toArray,List.nil_append,List.cons_append];gi_wp2_with (gi_at_range;refine jm rfl (.tmp 4) rfl rfl Da.o.run ?_);go_frame;clear Da c0;generalize W.heap.size=r at*;gi_loopg [3] M.length (λk _ wr=>∃(K:Nat->Prop) (ss:List Int) (left:Mp acK),left.length<=k/\Hid (J K ss wr/\gL wr r b .i64 (λv:acK=>v) left/\(ss++left.map af5).Perm (M.map af5)/\ss.length+left.length=M.length/\¬K r))
 case atStart=>exact⟨K,[],M,aj,zi⟩
 case round =>
  clear zi;obtain⟨K,ss,left,hlk,hrd⟩:=hrel;have bK:=az hrd.o;clear hrd;rcases bK.o.2.1.next (P:=prog) with⟨hnil,hnx⟩|⟨⟨kk,pv⟩,w2,hmem,hnx,hit2,hc2,hs2,hen⟩
  ·have iH:Hid (kZ (.pointer (some ⟨r,0,none⟩)) (.tuple #[.bool false]) wr wr):=az ⟨hnx⟩;have HP:=az bK.o.2.2.1;subst hnil;clear hnx;gi_wp2_with (gi_at_next;refine eD rfl (.tmp 5) rfl rfl (iH.o.run _) ?_);go_end0;exact⟨⟨_,rfl⟩,K,ss,by simpa using HP.o,bK.o.1⟩
  obtain⟨n,hkn⟩:∃n:Int,n=kk:=⟨kk,rfl⟩;subst hkn;have hok:MP.Ok left:=by obtain⟨_,_,_,_,_,_,_,_,_,_,_,_,hok⟩:=bK.o.2.1;exact hok
  have hdl:(MP.del left n).length+1=left.length:=MP.o8 (MP.dR hok hmem);have hpd:=MP.fO (MP.dR hok hmem);have hrl:=bK.o.2.1.lt.1;have iH:Hid (kZ (.pointer (some ⟨r,0,none⟩)) (.tuple #[.bool true,.int .i64 n,pv]) wr w2):=az ⟨hnx⟩;have hJ2:J K ss w2:=HA.o K ss wr w2 (λm=>m=r) bK.o.1 hc2 (λm e e2=>bK.o.2.2.2.2 (by rw[<-e];exact e2)) (λm e=>by have:=HWS.o;omega);obtain⟨fn,tmps,assign,body,hy,hR⟩:=HY.o K ss n w2 hJ2 (by have:=bK.o.2.2.2.1;have:=HN.o;omega);have HR:=az hR;have ace:Hid (∀K':Nat->Prop,(∀m,K' m->K m\/w2.heap.size<=m)->¬K' r):=az (λK' h e=>by
   rcases h r e with e2|e2
   exact bK.o.2.2.2.2 e2
   omega)
  have HIT:Hid (gL w2 r b .i64 (λv:acK=>v) (MP.del left n)/\¬K r/\¬K b):=az ⟨hit2,bK.o.2.2.2.2,λe=>by have:=(ig.o _ _ _ hJ2 _ e).2;have:=lK.o;omega⟩;have AR:Hid (((ss++[n])++(MP.del left n).map af5).Perm (M.map af5)):=az (by
   refine List.Perm.trans ?_ bK.o.2.2.1
   rw[List.append_assoc]
   refine List.Perm.append_left _ ?_
   have:=hpd.symm.map af5
   simpa using this)
  have Kj:Hid ((ss++[n]).length+(MP.del left n).length=M.length):=az (by have:=bK.o.2.2.2.1;rw[List.length_append];simp;omega);clear hnx hit2 hc2 hR hJ2 hmem hpd hok;gi_wp2_with (gi_at_next;refine eD rfl (.tmp 5) rfl rfl (iH.o.run _) ?_);refine HR.o.mono ?_;rintro e W4 ⟨rfl,K',Tm,YF,hsub⟩;have Vz:Hid (J K' (ss++[n]) W4/\gL W4 r b .i64 (λv:acK=>v) (MP.del left n)/\((ss++[n])++(MP.del left n).map af5).Perm (M.map af5)/\(ss++[n]).length+(MP.del left n).length=M.length/\¬K' r) :=
   az ⟨Tm,HIT.o.1.aJ YF HIT.o.2.2 HIT.o.2.1,AR.o,Kj.o,ace.o K' hsub⟩
  clear Tm YF hsub hy;gi_wp2;gi_roundg (MP.del left n).length
  case measure=>omega
  case rel=>exact⟨K',ss++[n],MP.del left n,aj,Vz⟩
end uj
namespace po
open RowKit mgr ft pl us
structure VG (aA:Nat)(w:acL)(q:Nat)(K:Nat->Prop)(w':acL)(K':Nat->Prop)(p':Po):Prop where
 at_:PQ aA w' q K' p'
 aJ:aP (λn=>K n\/n=q) w w'
 foot:∀n,K' n->K n\/w.heap.size<=n
variable{w:acL}
def bG.co {aA:Nat}{w':acL}{q:Nat}{K K':Nat->Prop}{p':Po}(h:bG aA w q K w' K' p'):VG aA w q K w' K' p':=⟨h.at_,h.aJ.mono (λ_ _ e=>ack e),h.foot⟩
def CoP (aA:Nat)(w:acL)(q:Nat)(K:Nat->Prop)(p:Po)(G:FP.Ft->Prop)(e0:Ending)(w':acL):Prop :=
 ∃(er:Int) (K':Nat->Prop),e0=ab4 (vi er)/\((er=0/\VG aA w q K w' K' {p with M:=[],B:=p.get,G:=G})\/(er=40/\VG aA w q K w' K' {p with G:=G}))
structure Cm (aA:Nat)(w:acL)(f:Nat)(X:dm)(t a e:Nat)(p:Po)(wr:acL)(X':dm):Prop where
 goes:aQ aA w f X wr X'
 gg:FP.GG t a e X'.view
 see:∀m:Nat,m≠0->p.there m=true->MP.has p.M m=false->X'.view.see m=X.view.see m
variable{b0 n:Nat}{l:List Int}{i:Nat}
def Ql {a:Option Addr}{c:Nat}(h:dZ w b0 (aco a n c) l)(hi:i<l.length):∃g,a=.some ⟨g,0,.none⟩:=by
 rcases h.2 with⟨_,h0⟩|⟨g,cap,cur,e,_⟩;omega;injection e with e;exact⟨g,e⟩
def Qm {g cap:Nat}(h:dZ w b0 (aco (some ⟨g,0,none⟩) l.length cap) l)(hi:i<l.length):w.cell? ⟨g,i,none⟩=some (vi (l.getD i 0)):=by
 have hc:=acL.ownsRow.cellAt h i aa;rw[hc];simp[List.getD,hi]
def LW {v:acK}(h:dZ w b0 v l):∃a c,v=aco a l.length c:=by
 rcases h.2 with⟨rfl,h0⟩|⟨g,cap,cur,rfl,_⟩;exact⟨none,0,by rw[h0]⟩;exact⟨_,_,rfl⟩
section
variable{aA:Nat}{w wr w':acL}{f q:Nat}{X X':dm}{Y:Bi}{p:Po}{t a e:Nat}{K:Nat->Prop}
def Cm.old (h:Cm aA w f X t a e p wr X')(k:acN wr.heap.size wr w'):Cm aA w f X t a e p w' X':=⟨h.goes.old k,h.gg,h.see⟩
def Cm.fit (h:Cm aA w f X t a e p wr X'):X'.Fit:=h.gg.sound.fit
def Cm.drop (h:Cm aA w f X t a e p wr X'){X2:dm}(hg:aQ aA wr f X' w' X2)(hv:X2.view=(X'.view.drop n).2)(h1:n≠0)(h2:X'.view.see n≠none)(ht:p.there n=false) :
  Cm aA w f X t a e p w' X2/\(X'.view.drop n).1=0/\∀m,m≠n->X2.view.see m=X'.view.see m:=by
 obtain⟨k1,k2,k3,_⟩:=h.gg.drop n h1 h2;refine⟨⟨h.goes.trans hg,by rw[hv];exact k2,λm hm0 hm hd=>?_⟩,k1,λm hm=>by rw[hv];exact k3 m hm⟩;rw[hv,k3 m (λe=>by rw[e,ht]at hm;cases hm)];exact h.see m hm0 hm hd
def iy.Gz (h:iy aA w q Y X p)(g:aQ aA w Y.f X wr X'):fE wr q Y:=h.pl.aJ g.aJ h.OT
def VH:∀{α:Type} (m:Mp α) (x y:Int),x<=y->m.Pairwise (λu v=>u.1<v.1)->(∀z∈m,x<=z.1/\z.1<y)->(m.length:Int)<=y-x
 |_,[],x,y,h,_,_=>by simp;omega
 |_,z::m,x,y,h,hp,hb=>by
  obtain⟨h1,h2⟩:=List.pairwise_cons.1 hp
  have hx:=hb z ai
  have:=VH m (z.1+1) y aa h2 (λu hu=>⟨by have:=h1 u hu;omega,(hb u (List.mem_cons_of_mem _ hu)).2⟩)
  simp only[List.length_cons]
  omega
def tO (h:p.ok){n:Int}(hn:p.there n=true):1<=n/\n<=p.T+p.P:=by
 have hd:=h.bI;rcases Po.cz.1 hn with h1|h1;omega;have:=Po.dF.1 (h.jf n h1);omega
def iy.row (h:iy aA w q Y X p){n:Int}(hn:MP.has Y.D n=true):∃g c l,MP.get Y.D n=some (aco (some ⟨g,0,none⟩) 64 c)/\MP.get p.M n=some l/\l.length=64/\dx aA w (some ⟨g,0,none⟩) l/\p.there n=true:=by
 rcases h.rows n with⟨h1,_⟩|⟨g,c,l,h1,h2,h3,_,_,h6⟩;unfold MP.has at hn;rw[h1]at hn;cases hn;exact⟨g,c,l,h1,h2,h3,h6,h.ok.Bp n (by unfold MP.has;rw[h2];rfl)⟩
def iy.aju (h:iy aA w q Y X p):Y.D.length<=8191:=by
 have hd:=h.ok.bI;have:=VH Y.D 1 (p.T+p.P+1) aa h.pl.iI.ok (λz hz=>by
  have h1:MP.has Y.D z.1=true:=by unfold MP.has;rw[MP.dR h.pl.iI.ok hz];rfl
  obtain⟨_,_,_,_,_,_,_,h2⟩:=h.row h1
  have:=tO h.ok h2
  omega)
 omega
def iy.cm (h:iy aA w q Y X p){a0 e0 A E:Nat}(hG:p.G=FP.GG t a0 e0)(ht:p.T+p.P<=t)(hc:Cm aA w Y.f X t a e p wr X')(hA:FP.GG t A E X'.view) :
  bG aA w q (foot Y X) wr (foot Y X') {p with G:=FP.GG t A E}:=by
 have hg0:=h.gh;rw[hG]at hg0;have hlo:=h.ft.loose;refine⟨⟨Y,X',⟨h.Gz hc.goes,hc.goes.at_,hc.fit,λn e1 e2=>?_,h.low,h.lay,h.used,λn=>(h.rows n).aJ hc.goes.aJ hlo,λn h1 h2=>?_,⟨h.ok.bI,h.ok.MQ,h.ok.V6,h.ok.jf,h.ok.Bp,h.ok.len,λF F' e1 h1=>h1.still e1⟩,hA⟩,rfl⟩,hc.goes.aJ.mono (λn _ e1=>acm (acm e1)),λn e1=>?_⟩;rcases hc.goes.foot n e2 with e3|e3;exact h.OT n e1 e3;have:=h.pl.lt n e1;omega;have h3:=tO h.ok h1;have h4:1<=n/\n<=t:=aa;exact FP.zX hg0.sound hA.sound (hg0.log n h4.1 h4.2) (hA.log n h4.1 h4.2) (hc.see n aa h1 h2) (h.holds n h1 h2)
 rcases e1 with e1|e1|e1;exact ack (ack e1);exact ack (acm (ack e1));rcases hc.goes.foot n e1 with e3|e3;exact ack (acm (acm e3));exact acm e3
def iy.done {w5:acL}{X2:dm}{A E:Nat}(h:iy aA w q Y X p)(hg:aQ aA w Y.f X w5 X2)(hA:FP.GG t A E X2.view)(hall:∀n:Nat,p.there n=true->Has X2.view n (p.get n)) :
  VG aA w q (foot Y X) ((w5.alloc (.map #[] 0)).setCell ⟨q,7,none⟩ (.map (some w5.heap.size))) (foot {Y with bd:=w5.heap.size,D:=[]} X2) {p with M:=[],B:=p.get,G:=FP.GG t A E}:=by
 have hp5:=h.Gz hg;have hb6:acN w5.heap.size w5 (w5.alloc (.map #[] 0)):=ax;have hmd:bz (w5.alloc (.map #[] 0)) w5.heap.size .i64 (λv:acK=>v) []:=bz.made w5 .i64 (λv:acK=>v);have hC:aP (λn=>n=q) (w5.alloc (.map #[] 0)) ((w5.alloc (.map #[] 0)).setCell ⟨q,7,none⟩ (.map (some w5.heap.size))):=aP.set (F:=λn=>n=q) _ (p:=⟨q,7,none⟩) rfl _;have Dx:=(hp5.obj.old hb6).bB 7 (.map (some w5.heap.size));have MI:=hp5.obj.lt;have hul:=hp5.used.lt;have hqw:=h.pl.obj.lt;have huw:=h.pl.used.lt;have hsz:=hg.size;have OZ:∀n,(n=q\/n=Y.bu)->¬X2.foot Y.f n:=λn e1 e2=>by
  rcases hg.foot n e2 with e3|e3;refine h.OT n ?_ e3;rcases e1 with e1|e1;exact ack e1;exact acm (ack e1);rcases e1 with e1|e1<;>omega
 have hft:=(hg.at_.old hb6).aJ hC (λn e1=>by rw[e1];exact Loose.blk h.low.2.2 (hp5.obj.old hb6)) (λn e1 e2=>OZ n (ack e2) e1);refine⟨⟨{Y with bd:=w5.heap.size,D:=[]},X2,⟨⟨Dx,(hp5.used.old hb6).aJ hC (λe1=>hp5.used.dM hp5.obj e1),hmd.aJ hC aa,by dsimp only;omega⟩,hft,hA.sound.fit,λn e1 e2=>?_,⟨h.low.1,by have:=h.low.2.2;dsimp only;omega,h.low.2.2⟩,h.lay,h.used,λn=>ack ⟨rfl,rfl⟩,λn h1 _=>hall n h1,⟨h.ok.bI,h.ok.MQ,List.Pairwise.nil,h.ok.jf,λn h1=>(by cases h1),λn l h1=>(by cases h1),λF F' e1 h1=>h1.still e1⟩,hA⟩,rfl⟩,?_,λn e1=>?_⟩;rcases e1 with e1|e1|e1
 exact OZ n (ack e1) e2;exact OZ n (acm e1) e2;have:=hg.at_.lt n e2;dsimp only at e1;omega;exact((hg.aJ.mono (F':=λn=>foot Y X n\/n=q) (λn _ e1=>ack (acm (acm e1)))).below hb6).trans hC (λn _ e1=>acm e1);rcases e1 with e1|e1|e1;exact ack (ack e1);dsimp only at e1;exact acm aa;rcases hg.foot n e1 with e3|e3;exact ack (acm (acm e3));exact acm e3
def LX (h0:PQ aA w q K p)(hG:p.G=FP.GG t a e)(ht:p.T+p.P<=t)(ha:a<1000000000000)(he:e<1000000000000)(at0:Option Addr)(l:List Nat)(c:Nat)(hr:dx aA w at0 l)(hl:l.length=56) :
  ac4 prog 44 #[ptr q,.slice at0 l.length c] w (CoP aA w q K p (FP.GG t (a+9000) (e+1))):=by
 obtain⟨Y,X,h,rfl⟩:=h0;have H:=az h;have HR:=az hr;have Zt:Hid (Cm aA w Y.f X t a e p w X):=az ⟨aQ.refl h.ft,by have:=h.gh;rwa[hG]at this,λ_ _ _ _=>rfl⟩;have AX:=az hG;have HT:=az ht;have lX:=az hr.row.small;have c0:w.cell? ⟨q,0,none⟩=some (ptr Y.f):=h.pl.obj.cell 0;have c5:w.cell? ⟨q,5,none⟩=some (vi 64):=by
  have h1:w.cell? ⟨q,5,none⟩=some (vi Y.sz):=h.pl.obj.cell 5;rwa[h.lay.2.2.2.2]at h1
 clear h hr hG ht;rw[hl];have HL:=az hl;clear hl;go_in;go_wp2_with (first
  |(go_at_call 71;refine(us.oI).mono ?_;rintro e w1 ⟨rfl,hw1⟩
    have HB1:Hid (acN w.heap.size w w1):=az (by rw[hw1];exact ax)
    have lD:Hid (aD w1 w.heap.size 92 #[ptr Y.f]):=az (by rw[hw1];exact aD.new _ _ _)
    have yx:=az (Zt.o.old HB1.o)
    have Tk:=az (us.Gy yx.o.goes.at_ yx.o.fit lD.o)
    clear hw1)
  |(go_at_call 70;refine(us.wO aa (dI func105 ah rfl) Tk.o).mono ?_;rintro e w2 ⟨v,ss,rfl,hS,hu,hb2⟩
    obtain⟨a2,c2,hv⟩:=us.gB.form2 hu
    obtain⟨n2,hn2⟩:∃n2,ss.length=n2:=⟨_,rfl⟩
    have Kq:=az hn2
    rw[hn2]at hv
    subst hv
    have hn8:n2<=8192:=by rw[<-hn2];exact hS.2.1
    clear hn2
    have DC:=az hS
    have II:=az hu
    have JQ:=az (yx.o.old hb2)
    clear hS hu hb2))
 have Nc:Hid (∀n,X.foot Y.f n->n<w.heap.size):=az H.o.ft.lt;have zi:Hid (Cm aA w Y.f X t a e p w2 X/\(∀n∈ss.drop 0,n≠0/\X.view.see n≠none)/\us.gB w2 w1.heap.size (.slice a2 n2 c2) ss/\(∀g,(aco a2 n2 c2).ownBlock=some g->¬X.foot Y.f g/\g<w2.heap.size)) :=
  az ⟨JQ.o,λn hn=>FP.VE X.view n (DC.o.2.2 n (by simpa using hn)),II.o,λg eg=>⟨λe2=>by
   have h1:=Nc.o g e2
   have h2:=(II.o.lt eg).2.1
   have h3:=HB1.o.size
   omega,(II.o.lt eg).1⟩⟩
 have GQ:=az DC.o.1;clear Tk lD yx JQ II DC c0 c5;go_loopg [6,29] n2 (λk _ v29 wr=>∃(X':dm) (j:Nat),v29=vi j/\j<=n2/\n2-j<=k/\Hid (Cm aA w Y.f X t a e p wr X'/\(∀n∈ss.drop j,n≠0/\X'.view.see n≠none)/\us.gB wr w1.heap.size (.slice a2 n2 c2) ss/\(∀g,(aco a2 n2 c2).ownBlock=some g->¬X'.foot Y.f g/\g<wr.heap.size)))
 case atStart=>exact⟨X,0,rfl,Nat.zero_le _,aa,zi⟩
 case round =>
  clear zi;obtain⟨X',j,rfl,hj,hjk,hrd⟩:=hrel;have bK:=az hrd.o;clear hrd;by_cases hlt:j<n2
  ·obtain⟨x,hx⟩:∃x,ss.getD j 0=x:=⟨_,rfl⟩;have hlt2:j<ss.length:=by rw[Kq.o];exact hlt
   have hdr:ss.drop j=x::ss.drop (j+1):=by
    rw[List.drop_eq_getElem_cons hlt2,<-hx];simp[List.getD,hlt2]
   have hxs:=bK.o.2.1 x (by rw[hdr];simp);have VF:=bK.o.1.gg.seen x hxs.1 hxs.2;have hx8:x<8192:=by have:=(bK.o.1.gg.sound.fit.aB VF).2;omega
   obtain⟨g,hg⟩:=us.gB.some bK.o.2.2.1 hlt2;have c3:wr.cell? ⟨g,j,none⟩=some (vw x):=by
    have h1:=bK.o.2.2.1;rw[hg,<-Kq.o]at h1;rw[<-hx];exact h1.ur.cell hlt2
   subst hg;have q1:(j:Int)<(n2:Int):=aa;have q2:adk.wrap ((j:Int)+1)=(j:Int)+1:=adl _ aa;have q3:adk.wrap (x:Int)=(x:Int):=adl _ aa;have qL:=az (H.o.Gz bK.o.1.goes);have HDR:=az hdr;have HXS:=az hxs;have hte:=H.o.mM x;have c0:wr.cell? ⟨q,0,none⟩=some (ptr Y.f):=qL.o.obj.cell 0;have TH:=az (pl.dP qL.o x);rw[hte]at TH;clear hx hdr hxs VF hte;cases hpt:p.there x with
   |true =>
    rw[hpt]at TH;clear hpt;go_wp2_with (go_at_call 60;refine TH.o.mono ?_;rintro e w3 ⟨rfl,rfl⟩);go_roundg (n2-(j+1))
    case measure=>omega
    case rel=>exact⟨X',j+1,by first|rfl|go_num|(congr 1;omega),aa,aa,az ⟨bK.o.1,λn hn=>bK.o.2.1 n (by rw[HDR.o];exact List.mem_cons_of_mem _ hn),bK.o.2.2⟩⟩
   |false =>
    rw[hpt]at TH;have Bq:=az hpt;clear hpt;have HDA:=az (ft.rq bK.o.1.goes.at_ bK.o.1.fit x aa);go_wp2_with (first
     |(go_at_call 60;refine TH.o.mono ?_;rintro e w3 ⟨rfl,rfl⟩)
     |(go_at_call 72;refine HDA.o.mono ?_;rintro e w4 ⟨X2,rfl,hg4,hv4⟩
       obtain⟨k1,k2,k3⟩:=bK.o.1.drop hg4 hv4 HXS.o.1 HXS.o.2 Bq.o
       dsimp only
       rw[k2]
       have HR4:Hid (Cm aA w Y.f X t a e p w4 X2/\(∀n∈ss.drop (j+1),n≠0/\X2.view.see n≠none)/\us.gB w4 w1.heap.size (.slice (some ⟨g,0,none⟩) n2 c2) ss/\(∀g',(aco (some ⟨g,0,none⟩) n2 c2).ownBlock=some g'->¬X2.foot Y.f g'/\g'<w4.heap.size)) :=
        az ⟨k1,λn hn=>by
         have h1:=bK.o.2.1 n (by rw[HDR.o];exact List.mem_cons_of_mem _ hn)
         have h2:n≠x:=λe2=>by
          have h3:(ss.drop j).Nodup:=(List.drop_sublist j ss).nodup GQ.o
          rw[HDR.o]at h3
          exact(List.nodup_cons.1 h3).1 (by rw[<-e2];exact hn)
         exact⟨h1.1,by rw[k3 n h2];exact h1.2⟩,bK.o.2.2.1.aJ hg4.aJ (λg' e2=>(bK.o.2.2.2 g' e2).1),λg' e2=>⟨λe3=>by
          rcases hg4.foot _ e3 with e4|e4
          exact(bK.o.2.2.2 g' e2).1 e4
          have:=(bK.o.2.2.2 g' e2).2;omega,by have:=(bK.o.2.2.2 g' e2).2;have:=hg4.size;omega⟩⟩
       clear hg4 hv4 k1 k2 k3))
    go_roundg (n2-(j+1))
    case measure=>omega
    case rel=>exact⟨X2,j+1,by first|rfl|go_num|(congr 1;omega),aa,aa,HR4⟩
  obtain rfl:j=n2:=aa;have qL:=az (H.o.Gz bK.o.1.goes);have HDM:=az (H.o.aju);have c0:wr.cell? ⟨q,7,none⟩=some (.map (some Y.bd)):=qL.o.obj.cell 7;have Ij:=az bK.o.1;clear hlt hj hjk bK Kq GQ hn8;go_wp2_with (first
   |(go_at_call 74;refine(uj.Cu Y.bd).mono ?_;rintro e w3 ⟨rfl,hw3⟩
     have HB3:Hid (acN wr.heap.size wr w3):=az (by rw[hw3];exact ax)
     have qF:Hid (aD w3 wr.heap.size 94 #[.map (some Y.bd)]):=az (by rw[hw3];exact aD.new _ _ _)
     have HKG:=az (uj.keys_gives (N:=20000) (qL.o.iI.old HB3.o) qF.o (by have:=HDM.o;omega))
     have jU:Hid (∀ss:List Int,ss.Perm (Y.D.map af5)->ss.length<1000000):=az (λss h=>by
      have h1:=h.length_eq
      rw[List.length_map]at h1
      have:=HDM.o
      omega)
     clear hw3)
   |(go_at_call 73;refine(uj.ve aa jU.o (dI func111 ah rfl) HKG.o).mono ?_;rintro e w4 ⟨v,ss2,l2,rfl,hS,hp2,hu,hb4⟩
     obtain⟨a3,c3,hv⟩:=LW hu
     obtain⟨n3,Y1⟩:∃n3,l2.length=n3:=⟨_,rfl⟩
     have Y9:=az Y1
     rw[Y1]at hv
     subst hv
     have Lj:Hid (l2.Perm (Y.D.map af5)):=az (hp2.trans hS)
     have hn8:n3<=8191:=by
      have h1:=Lj.o.length_eq
      rw[List.length_map]at h1
      have:=HDM.o
      omega
     clear Y1
     have HU4:=az hu
     have QW:=az (Ij.o.old (HB3.o.trans (hb4.mono HB3.o.size)))
     have Tg:Hid (w.heap.size<=w3.heap.size/\wr.heap.size<=w3.heap.size):=az ⟨abX Ij.o.goes.size HB3.o.size,HB3.o.size⟩
     have OV:Hid (∀n,X'.foot Y.f n->n<wr.heap.size):=az Ij.o.goes.at_.lt
     clear hS hp2 hu hb4))
  have HR1:Hid (Cm aA w Y.f X t (a+0) e p w4 X'/\(∀n:Nat,(n:Int)∈l2.take 0->(1<=n/\n<=t)/\Has X'.view n (p.get n))/\dZ w4 w3.heap.size (.slice a3 n3 c3) l2/\(∀g,(aco a3 n3 c3).ownBlock=some g->¬X'.foot Y.f g/\g<w4.heap.size)) :=
   az ⟨QW.o,λn hn=>by simp at hn,HU4.o,λg eg=>⟨λe2=>by
    have h1:=OV.o g e2
    have h2:=(HU4.o.lt eg).2.1
    have h3:=Tg.o.2
    omega,(HU4.o.lt eg).1⟩⟩
  clear HKG jU qF QW HU4 OV qL Ij c0 HB3;go_loopg [9,54] n3 (λk _ v54 wr=>∃(X':dm) (j:Nat),v54=vi j/\j<=n3/\n3-j<=k/\Hid (Cm aA w Y.f X t (a+j) e p wr X'/\(∀n:Nat,(n:Int)∈l2.take j->(1<=n/\n<=t)/\Has X'.view n (p.get n))/\dZ wr w3.heap.size (.slice a3 n3 c3) l2/\(∀g,(aco a3 n3 c3).ownBlock=some g->¬X'.foot Y.f g/\g<wr.heap.size)))
  case atStart=>exact⟨X',0,rfl,Nat.zero_le _,aa,HR1⟩
  case round =>
   clear HR1;obtain⟨X',j,rfl,hj,hjk,hrd⟩:=hrel;have bK:=az hrd.o;clear hrd;by_cases hlt:j<n3
   ·have hlt2:j<l2.length:=by rw[Y9.o];exact hlt
    obtain⟨xi,hx⟩:∃x,l2.getD j 0=x:=⟨_,rfl⟩;have hmem:xi∈Y.D.map af5:=Lj.o.subset (by rw[<-hx];simp only[List.getD,List.getElem?_eq_getElem hlt2,Option.getD_some];exact List.getElem_mem hlt2);have hhas:MP.has Y.D xi=true:=by
     obtain⟨z,hz,ez⟩:=List.mem_map.1 hmem;rw[<-ez];unfold MP.has;rw[MP.dR H.o.pl.iI.ok hz];rfl
    obtain⟨gb,cb,lb,hgd,hgm,hlb,hsr,hth⟩:=H.o.row hhas;have DJ:=tO H.o.ok hth;obtain⟨n,rfl⟩:∃n:Nat,xi=n:=⟨xi.toNat,aa⟩;have hdm:=H.o.ok.bI;have hnt:1<=n/\n<=t/\n<8192:=by have:=HT.o;omega
    obtain⟨r,hwq,hwe⟩:=bK.o.1.gg.write aa aa hnt.1 hnt.2.1 hlb hsr.row.small;obtain⟨g,hg⟩:=Ql bK.o.2.2.1 hlt2;have c3':wr.cell? ⟨g,j,none⟩=some (vi n):=by
     have h1:=bK.o.2.2.1;rw[hg,<-Y9.o]at h1;rw[<-hx];exact Qm h1 hlt2
    subst hg;have q1:(j:Int)<(n3:Int):=aa;have q2:adk.wrap ((j:Int)+1)=(j:Int)+1:=adl _ aa;have q3:IntKind.u32.wrap (n:Int)=(n:Int):=by simp[IntKind.wrap,IntKind.bits,IntKind.signed];omega
    have qL:=az (H.o.Gz bK.o.1.goes);have Q7:=az hnt;have HWE:=az hwe;have O0:=az hgm;have Ig:=az hlb;have HXJ:Hid (l2.take (j+1)=l2.take j++[(n:Int)]):=az (by
     rw[List.take_succ_eq_append_getElem hlt2,<-hx]
     simp[List.getD,hlt2])
    have HSW:Hid (FP.Sound X'.view):=az bK.o.1.gg.sound;have hbw:aA<=wr.heap.size:=by have:=H.o.low;have:=qL.o.obj.lt;omega
    have HFD:=az (bK.o.1.goes.old au);have MJ:=az (ft.oM (w:=wr.drew) HFD.o.at_ HSW.o hbw n aa (some ⟨gb,0,none⟩) lb cb ((hsr.fD bK.o.1.goes.aJ H.o.ft.loose).old au) aa r hwq);rw[hlb]at MJ;have HLK:Hid ((Instr.lookup 94 (.map (some Y.bd)) (vi n) false).run prog wr.drew=.ok (.slice (some ⟨gb,0,none⟩) 64 cb) wr.drew):=az (by
     have h1:=(qL.o.old au).iI.lookup (P:=prog) (w:=wr.drew) underlying94 underlying3 (Bj _) (n:Int)
     rw[hgd]at h1
     exact h1)
    clear hx hmem hhas hgd hgm hlb hsr hth DJ hdm hnt hwq hwe hlt2;go_upto_region 16 with fail;have d0:wr.cell? ⟨q,0,none⟩=some (ptr Y.f):=qL.o.obj.cell 0;have d7:wr.cell? ⟨q,7,none⟩=some (.map (some Y.bd)):=qL.o.obj.cell 7;have HS:Hid (wr.drew.cell? ⟨q,0,none⟩=some (ptr Y.f)/\wr.drew.cell? ⟨q,7,none⟩=some (.map (some Y.bd))):=az ⟨d0,d7⟩;have nS:Hid (∀W X2,aQ aA wr.drew Y.f X' W X2->(W.cell? ⟨q,0,none⟩=some (ptr Y.f)/\W.cell? ⟨q,7,none⟩=some (.map (some Y.bd)))) :=
     az (λW X2 k=>⟨(H.o.Gz (HFD.o.trans k)).obj.cell 0,(H.o.Gz (HFD.o.trans k)).obj.cell 7⟩)
    have hlk:=HLK.o;go_cut [10,54] from 54 to 74 (λv10 v54 wx=>∃X2,v10=vi r.1/\v54=vi j/\Hid (aQ aA wr Y.f X' wx X2/\X2.view=r.2))
    case first =>
     go_region_held3 (λw'=>w'.cell? ⟨q,0,none⟩=some (ptr Y.f)/\w'.cell? ⟨q,7,none⟩=some (.map (some Y.bd)))
      (first|exact HS.o|exact nS.o _ _ (by assumption))
      (first|(go_at_call 75;refine MJ.o.mono ?_;rintro e w5 ⟨X2,rfl,hg5,hv5⟩))
     all_goals
      go_wp2;go_meet;exact⟨X2,rfl,rfl,az ⟨(aQ.aX bK.o.1.goes.at_ au).trans hg5,hv5⟩⟩
    case rest =>
    obtain⟨X2,rfl,rfl,hcut⟩:=hcut;have HG2:=az hcut.o.1;have Jr:=az hcut.o.2;clear hcut HS nS hlk d0 d7 MJ HLK HFD c3';generalize wc=w5 at*;have HOW:Hid (dZ w5 w3.heap.size (.slice (some ⟨g,0,none⟩) n3 c3) l2/\(∀g',(aco (some ⟨g,0,none⟩) n3 c3).ownBlock=some g'->¬X2.foot Y.f g'/\g'<w5.heap.size)) :=
     az ⟨bK.o.2.2.1.aJ HG2.o.aJ (λg' e2=>(bK.o.2.2.2 g' e2).1),λg' e2=>⟨λe3=>by
      rcases HG2.o.foot _ e3 with e4|e4
      exact(bK.o.2.2.2 g' e2).1 e4
      have:=(bK.o.2.2.2 g' e2).2;omega,by have:=(bK.o.2.2.2 g' e2).2;have:=HG2.o.size;omega⟩⟩
    rcases HWE.o with⟨r0,rg,ro,rs⟩|⟨r0,rg,ro⟩
    ·have ql:Hid (Cm aA w Y.f X t (a+(j+1)) e p w5 X2/\(∀m:Nat,(m:Int)∈l2.take (j+1)->(1<=m/\m<=t)/\Has X2.view m (p.get m))/\dZ w5 w3.heap.size (.slice (some ⟨g,0,none⟩) n3 c3) l2/\(∀g',(aco (some ⟨g,0,none⟩) n3 c3).ownBlock=some g'->¬X2.foot Y.f g'/\g'<w5.heap.size)):=az (by
      have hg:=bK.o.1.gg
      have hgn:p.get n=lb:=by unfold Po.get;rw[O0.o];rfl
      have hsm:∀y∈lb,y<256:=(H.o.ok.len n lb O0.o).2
      rw[<-Jr.o]at rg ro rs
      refine⟨⟨bK.o.1.goes.trans HG2.o,rg,λm hm0 hm1 hm2=>?_⟩,λm hm=>?_,HOW.o⟩
      have hne:m≠n:=λe2=>by
       rw[e2]at hm2
       unfold MP.has at hm2
       rw[O0.o]at hm2
       cases hm2
      rw[ro m hne]
      exact bK.o.1.see m hm0 hm1 hm2
      by_cases e2:m=n
      subst e2
      rw[hgn]
      exact⟨⟨Q7.o.1,Q7.o.2.1⟩,FP.Qk rg.sound (rg.log m Q7.o.1 Q7.o.2.1) ⟨hg.seq.1,by have:=hg.seq.2;omega⟩ ⟨hg.aM.1,by have:=hg.aM.2;omega⟩ Q7.o.2.2 Ig.o hsm rs⟩
      rw[HXJ.o]at hm
      rcases List.mem_append.1 hm with hm|hm
      obtain⟨h1,h2⟩:=bK.o.2.1 m hm
      exact⟨h1,FP.zX hg.sound rg.sound (hg.log m h1.1 h1.2) (rg.log m h1.1 h1.2) (ro m e2) h2⟩
      simp at hm
      omega)
     clear rg ro rs bK;rw[r0];clear r0;go_wp2_with fail;go_roundg (n3-(j+1))
     case measure=>omega
     case rel=>exact⟨X2,j+1,by first|rfl|go_num|(congr 1;omega),aa,aa,ql⟩
    have HCM:Hid (Cm aA w Y.f X t (a+j) e p w5 X2):=az ⟨bK.o.1.goes.trans HG2.o,by rw[Jr.o];exact rg,λm hm0 hm1 hm2=>by rw[Jr.o,ro m];exact bK.o.1.see m hm0 hm1 hm2⟩;clear rg ro bK;rw[r0];clear r0;go_wp2;go_ret;exact⟨40,foot Y X2,rfl,.inr ⟨rfl,(H.o.cm AX.o HT.o HCM.o (HCM.o.gg.mono aa aa)).co⟩⟩
   obtain rfl:j=n3:=aa;have qL:=az (H.o.Gz bK.o.1.goes);have d0:wr.cell? ⟨q,0,none⟩=some (ptr Y.f):=qL.o.obj.cell 0;have hbw:aA<=wr.heap.size:=by have:=H.o.low;have:=qL.o.obj.lt;omega
   obtain⟨r,QQ,hsg,hse,hss⟩:=bK.o.1.gg.ajt aa aa HL.o lX.o;have HSL:=az (ft.Seal_any bK.o.1.goes.at_ bK.o.1.gg.sound hbw at0 l c (HR.o.fD bK.o.1.goes.aJ H.o.ft.loose) (by have:=HL.o;omega) r QQ);rw[HL.o]at HSL;have HSG:=az hsg;have DC:=az hss;clear QQ hsg hss;go_upto_region 21 with (go_at_call 76;refine HSL.o.mono ?_;rintro e w5 ⟨X2,rfl,hg5,hv5⟩);have HG2:=az hg5;have Jr:=az hv5;clear hg5 hv5 HSL;have HCM:Hid (Cm aA w Y.f X t (a+j+1) (e+1) p w5 X2):=az ⟨bK.o.1.goes.trans HG2.o,by rw[Jr.o];exact HSG.o,λm hm0 hm1 hm2=>by rw[Jr.o,DC.o m hm0];exact bK.o.1.see m hm0 hm1 hm2⟩
   rcases hse with r0|r0
   ·have zq:Hid (∀n:Nat,p.there n=true->Has X2.view n (p.get n)):=az (λn hn=>by
     have hr:=tO H.o.ok hn
     have hr2:1<=n/\n<=t:=by have:=HT.o;omega
     have hg:=bK.o.1.gg
     have hg2:=HCM.o.gg
     have acf:X2.view.see n=X'.view.see n:=by rw[Jr.o];exact DC.o n aa
     cases hm:MP.has p.M n with
     |true =>
      have hD:MP.has Y.D n=true:=by
       rcases H.o.rows n with⟨_,h2⟩|⟨_,_,_,h1,_⟩
       unfold MP.has at hm;rw[h2]at hm;cases hm
       unfold MP.has;rw[h1];rfl
      have hmem:(n:Int)∈l2:=Lj.o.symm.subset (by
       unfold MP.has at hD
       obtain⟨v,hv⟩:=Option.isSome_iff_exists.1 hD
       exact List.mem_map.2 ⟨_,MP.get_mem hv,rfl⟩)
      obtain⟨_,h2⟩:=bK.o.2.1 n (by rw[<-Y9.o,List.take_length];exact hmem)
      exact FP.zX hg.sound hg2.sound (hg.log n hr2.1 hr2.2) (hg2.log n hr2.1 hr2.2) acf h2
     |false =>
      have hB:p.get n=p.B n:=by
       unfold MP.has at hm
       unfold Po.get
       cases hq:MP.get p.M n with
       |none=>rfl
       |some _=>rw[hq]at hm;cases hm
      have hg0:=H.o.gh
      rw[AX.o]at hg0
      rw[hB]
      exact FP.zX hg0.sound hg2.sound (hg0.log n hr2.1 hr2.2) (hg2.log n hr2.1 hr2.2) (HCM.o.see n aa hn hm) (H.o.holds n hn hm))
    have HP5:=az (H.o.Gz HCM.o.goes);have GN:Hid (acN w5.heap.size w5 (w5.alloc (.map #[] 0))):=az ax;have f7:=(HP5.o.obj.old GN.o).frozen 7;have c7:(w5.alloc (.map #[] 0)).cell? ⟨q,7,none⟩=some (.map (some Y.bd)):=(HP5.o.obj.old GN.o).cell 7;have hmk:(Instr.makeMap 94 none).run prog w5=.ok (.map (some w5.heap.size)) (w5.alloc (.map #[] 0)):=ah;have HDN:=az (H.o.done HCM.o.goes (HCM.o.gg.mono (a':=a+9000) (e':=e+1) aa aa) zq.o);rw[r0];clear r0 d0 bK HSG DC zq qL;go_wp2;go_ret;exact⟨0,_,rfl,.inl ⟨rfl,HDN.o⟩⟩
   rw[r0];clear r0 d0 bK HSG DC qL;go_wp2;go_ret;exact⟨40,foot Y X2,rfl,.inr ⟨rfl,(H.o.cm AX.o HT.o HCM.o (HCM.o.gg.mono aa aa)).co⟩⟩
end
end po
namespace lw
open RowKit mgr ft ino po df
def Cv {aA:Nat}{w:acL}{q:Nat}{K:Nat->Prop}{p:Po}(h:PQ aA w q K p):ac4 prog 24 #[ptr q] w λe w'=>e=ab4 (.agg #[vi p.T,vi (p.T+1),vi p.P,vi p.I])/\acN w.heap.size w w':=by
 obtain⟨Y,X,h,rfl⟩:=h;have HB:Hid (acN w.heap.size w (w.alloc (ach #[vi 0,vi 0,vi 0,vi 0] 65))):=az ax;have HF:=az (aD.new w 65 #[vi 0,vi 0,vi 0,vi 0]);have HP:=az (h.pl.old HB.o);obtain⟨h1,h2,h3,h4,_⟩:=h.lay;obtain⟨F1,hF1⟩:∃F,F=p.T+1:=⟨_,rfl⟩;rw[<-hF1]at h2 ⊢;clear hF1;go_in;go_upto_region 1 with fail;change Code.wp _ _ _ _ (w.alloc (ach #[vi 0,vi 0,vi 0,vi 0] 65));generalize w.alloc (ach #[vi 0,vi 0,vi 0,vi 0] 65)=w1 at*;have e1:w1.cell? ⟨q,1,none⟩=some (vi p.T):=by have e:=HP.o.obj.cell 1;change w1.cell? ⟨q,1,none⟩=some (vi Y.T) at e;rwa[h1]at e
 have e2:w1.cell? ⟨q,2,none⟩=some (vi F1):=by have e:=HP.o.obj.cell 2;change w1.cell? ⟨q,2,none⟩=some (vi Y.F) at e;rwa[h2]at e
 have e3:w1.cell? ⟨q,3,none⟩=some (vi p.P):=by have e:=HP.o.obj.cell 3;change w1.cell? ⟨q,3,none⟩=some (vi Y.P) at e;rwa[h3]at e
 have e4:w1.cell? ⟨q,4,none⟩=some (vi p.I):=by have e:=HP.o.obj.cell 4;change w1.cell? ⟨q,4,none⟩=some (vi Y.I) at e;rwa[h4]at e
 obtain⟨⟨r0,r1,r2,r3⟩,f0,f1,f2,f3⟩:=lG HF.o;clear h h1 h2 h3 h4;go_wp2_with fail;obtain⟨hf,hw⟩:=pl.Td (vi p.T) (vi F1) (vi p.P) (vi p.I) HF.o HB.o aj;exact ac5 (pl.KA hf _ rfl) rfl ⟨rfl,hw⟩
def field_l2 (a b c d:Int)(w:acL):(Instr.field 65 (.agg #[vi a,vi b,vi c,vi d]) 2).run prog w=.ok (vi c) w:=ah
abbrev KQ (K:Nat->Prop)(q:Nat):Nat->Prop:=λn=>K n\/n=q
abbrev KZ (K:Nat->Prop)(q:Nat)(Z:Nat->Prop):Nat->Prop:=λn=>KQ K q n\/Z n
structure dL (aA:Nat)(w:acL)(q:Nat)(K:Nat->Prop)(p:Po)(is:Nat->PI.bF)(Fs:Nat->DF)(D:Nat->RF)(t a e:Nat)(Z:Nat->Prop):Prop where
 pq:PQ aA w q K p
 fl:Fl p 3 is Fs
 gg:p.G=FP.GG t a e/\p.T+p.P<=t
 df:∀k,k<3->pU w (KZ K q Z) (Fs k) (D k).ap (D k).N (D k).cp (D k).ab (D k).cb/\(D k).s=(Fs k).size
 ino:∀k,k<3->(is k).aL=1/\(is k).links=k
 zlt:∀n,Z n->n<w.heap.size
section
variable{aA:Nat}{w w':acL}{q:Nat}{K:Nat->Prop}{p:Po}{is:Nat->PI.bF}{Fs:Nat->DF}{D:Nat->RF}{t a e:Nat}{Z:Nat->Prop}
def dL.old (h:dL aA w q K p is Fs D t a e Z)(hb:acN w.heap.size w w'):dL aA w' q K p is Fs D t a e Z:=⟨h.pq.old hb,h.fl,h.gg,λk hk=>⟨(h.df k hk).1.old hb,(h.df k hk).2⟩,h.ino,λn e=>adN (h.zlt n e) hb.size⟩
def dL.ZW (h:dL aA w q K p is Fs D t a e Z):∀n,KQ K q n->n<w.heap.size:=λn e=>by
 rcases e with e|e
 exact h.pq.lt n e
 rw[e];exact h.pq.JV
def dL.loose (h:dL aA w q K p is Fs D t a e Z):∀n,KQ K q n->Loose aA w n:=λn e=>by
 rcases e with e|e
 exact h.pq.loose n e
 obtain⟨Y,X,hp,_⟩:=h.pq
 rw[e]
 exact Loose.blk hp.low.2.2 hp.pl.obj
def freeN (p:Po)(Fs:Nat->DF):Int:=p.P-aH (Fs 0).z-aH (Fs 1).z-aH (Fs 2).z
def dL.free (h:dL aA w q K p is Fs D t a e Z):p.aK=freeN p Fs:=by
 rw[h.fl.aK];unfold freeN;have:((List.range 3).map λj=>aH (Fs j).z).sum=aH (Fs 0).z+(aH (Fs 1).z+(aH (Fs 2).z+0)):=rfl;rw[this];omega
def JF {W:acL}{x:Nat}(h:aD W x 37 (aI (aO q is D)))(k:Nat)(hk:k<3):W.cell? ⟨x,34+k*4,none⟩=some (vi 64)/\W.cell? ⟨x,34+k*4+1,none⟩=some (vi (D k).s)/\W.cell? ⟨x,34+k*4+2,none⟩=some (aco (D k).ap (D k).N (D k).cp)/\W.cell? ⟨x,34+k*4+3,none⟩=some (aco (D k).ab (D k).N (D k).cb):=by
 have h1:=(gu h).1;rcases (by omega:k=0\/k=1\/k=2) with rfl|rfl|rfl;exact⟨h1 34 aa,h1 35 aa,h1 36 aa,h1 37 aa⟩;exact⟨h1 38 aa,h1 39 aa,h1 40 aa,h1 41 aa⟩;exact⟨h1 42 aa,h1 43 aa,h1 44 aa,h1 45 aa⟩
def leftN (P:Int)(Fs:Nat->DF):Nat->Int
 |0=>P
 |k+1=>leftN P Fs k-aH (Fs k).z
def zg (P:Int)(h:0<=P/\P<=8192)(Fs:Nat->DF):∀k:Nat,k<=3-> -(1096*(k:Int))<=leftN P Fs k/\leftN P Fs k<=8192
 |0,_=>by unfold leftN;omega
 |k+1,hk=>by
  have h1:=zg P h Fs k aa
  have h2:=kg (Fs k).z
  unfold leftN
  omega
def free_any {K2:Nat->Prop}(hq:PQ aA w q K p)(hdf:∀k,k<3->pU w K2 (Fs k) (D k).ap (D k).N (D k).cp (D k).ab (D k).cb/\(D k).s=(Fs k).size):ac4 prog 40 #[.agg (aI (aO q is D))] w λe w'=>e=ab4 (vi (freeN p Fs))/\acN w.heap.size w w':=by
 have HQ:=az hq;have Px:=az hdf;have hd:=hq.ok.bI;have Ig:=az (zg p.P aa Fs);have hf2:=field_l2;clear hq hdf hd;go_in;go_upto_region 1 with fail;refine mD λw1 HB1 lD=>?_
 generalize w.heap.size=x at lD ⊢;have c0:w1.cell? ⟨x,0,none⟩=some (ptr q):=(gu lD.o).1 0 aa;have HL:=az (Cv (HQ.o.old HB1.o));go_wp2_with fail;refine HL.o.mono ?_;rintro e' w2 ⟨rfl,hb2⟩;have HB2:=az (HB1.o.trans (hb2.mono HB1.o.size));have lM:=az (lD.o.old hb2);clear hb2 HL c0 lD;go_wp2_with fail;go_loopw [3,4] (λv3 v4 wr=>∃k:Nat,v4=vi k/\k<=3/\v3=vi (leftN p.P Fs k)/\Hid (acN w.heap.size w wr/\aD wr x 37 (aI (aO q is D)))) (λ_ k _=>3-(intOf k).toNat)
 case atStart=>exact⟨0,rfl,aa,rfl,az ⟨HB2.o,lM.o⟩⟩
 case round =>
  obtain⟨k,rfl,hk3,rfl,hin⟩:=hrel;have eX:=az hin.o;clear hin;by_cases hk:k<3
  ·have n1:(k:Int)<3:=aa;obtain⟨d0,d1,d2,d3⟩:=JF eX.o.2 k hk;obtain⟨hdf,hs⟩:=Px.o k hk;have zQ:=az (mi (hdf.old eX.o.1));rw[<-hs]at zQ;unfold qm at zQ;have hb:=Ig.o k aa;have ht:=kg (Fs k).z;have r1:adk.wrap (leftN p.P Fs k-(aH (Fs k).z:Int))=leftN p.P Fs (k+1):=by rw[adl _ aa];rfl
   have r2:adk.wrap ((k:Int)+1)=((k+1:Nat):Int):=by rw[adl _ aa];omega
   have HKK:=az hk;generalize leftN p.P Fs k=L at*;obtain⟨L2,hL2⟩:∃L,leftN p.P Fs (k+1)=L:=⟨_,rfl⟩;have HL2:=az hL2;rw[hL2]at r1;clear hL2;clear hdf hs hb ht hk hk3;go_wp2_with fail;refine zQ.o.mono ?_;rintro e' w3 ⟨rfl,hb3⟩;have ajx:Hid (acN w.heap.size w w3/\aD w3 x 37 (aI (aO q is D))):=az ⟨eX.o.1.trans (hb3.mono eX.o.1.size),eX.o.2.old hb3⟩;clear hb3 d0 d1 d2 d3 zQ;go_wp2;go_roundw
   case rel=>exact⟨k+1,by first|rfl|trivial|go_num|(congr 1;omega),HKK.o,by rw[HL2.o];first|done|rfl,ajx⟩
   case measure=>have:=HKK.o;simp[intOf];omega
  obtain rfl:k=3:=aa;have n1:¬((3:Nat):Int)<3:=aa;have HE:Hid (leftN p.P Fs 3=freeN p Fs):=az rfl;go_wp2;go_ret;exact⟨by rw[<-HE.o];first|done|rfl,eX.o.1⟩
end
end lw
namespace po
open RowKit mgr ft pl ino nd
section
variable{aA:Nat}{w w':acL}{q:Nat}{p:Po}{K:Nat->Prop}
def Qn (aA:Nat)(w:acL)(q:Nat)(K:Nat->Prop)(p:Po)(n:Int)(e:Ending)(w':acL):Prop :=
 e=ab4 (adg #[dS PI.none_,vi n])/\bM aA w q K w' K p
def tQ (h:PQ aA w q K p){w1 W':acL}(hb:Hid (acN w.heap.size w w1))(hw:aP (λn=>n=w.heap.size+1) w1 W'):bM aA w q K W' K p:=by
 obtain⟨k,hk,hkk⟩:=h.iN;exact bM.pM h hk ((gD.of_below hb.o).far (hw.mono (λn _ e=>aa)) (h.lt _ hkk))
def Cw (h:PQ aA w q K p){w1:acL}(hb:Hid (acN w.heap.size w w1)):ac4 prog 28 #[ptr q] w1 λe w'=>e=ab4 (vi 64)/\w'=w1:=by
 obtain⟨k,hk,hkk⟩:=h.iN;exact kR (h.OW hk (gD.of_below hb.o))
def Qo (h:PQ aA w q K p)(i:PI.bF)(h6:i.direct.length=6)(o:Int)(a:Option Addr)(m c:Nat)(ho:o<0) :
  ac4 prog 12 #[ptr q,dS i,vi o,aco a m c] w (Qn aA w q K p 1):=by
 have c1:decide (o<0)=true:=decide_eq_true ho;clear ho;obtain⟨kd,ln,sz,dl,sg,db⟩:=i;obtain⟨d0,d1,d2,d3,d4,d5,rfl⟩:=six (l:=dl) h6;go_in;go_upto_region 1 with fail;refine ny λw1 HB HX HR=>?_
 have HE:Hid (∀W',aP (λn=>n=w.heap.size+1) w1 W'->bM aA w q K W' K p):=az (λ_=>tQ h HB);obtain⟨r,hr⟩:∃r,r=w.heap.size+1:=⟨_,rfl⟩;rw[<-hr]at HR HE ⊢;obtain⟨z0,fz0,z1,fz1,z2,fz2,z3,fz3,z4,fz4,z5,fz5,z6,fz6,z7,fz7,z8,fz8,z9,fz9,Ui,fz10⟩:=pJ HR.o;clear hr h HB;go_wp2_with fail;obtain⟨hf,hw⟩:=iA (vi 0) (vi 0) (vi 0) (vi 0) (vi 0) (vi 0) (vi 0) (vi 0) (vi 0) (vi 0) (vi 0) HR.o;exact ac5 (bZ hf _ rfl rfl) rfl ⟨rfl,HE.o _ hw⟩
def LY (h:PQ aA w q K p)(i:PI.bF)(h6:i.direct.length=6)(o:Int)(a:Option Addr)(m c:Nat)(ho:¬o<0)(hm:1024<m) :
  ac4 prog 12 #[ptr q,dS i,vi o,aco a m c] w (Qn aA w q K p 1):=by
 have c1:decide (o<0)=false:=decide_eq_false ho;have c2:(1024:Int)<(m:Int):=aa;clear ho hm;obtain⟨kd,ln,sz,dl,sg,db⟩:=i;obtain⟨d0,d1,d2,d3,d4,d5,rfl⟩:=six (l:=dl) h6;go_in;go_upto_region 1 with fail;refine ny λw1 HB HX HR=>?_
 have HE:Hid (∀W',aP (λn=>n=w.heap.size+1) w1 W'->bM aA w q K W' K p):=az (λ_=>tQ h HB);obtain⟨r,hr⟩:∃r,r=w.heap.size+1:=⟨_,rfl⟩;rw[<-hr]at HR HE ⊢;obtain⟨z0,fz0,z1,fz1,z2,fz2,z3,fz3,z4,fz4,z5,fz5,z6,fz6,z7,fz7,z8,fz8,z9,fz9,Ui,fz10⟩:=pJ HR.o;clear hr h HB;go_wp2_with fail;obtain⟨hf,hw⟩:=iA (vi 0) (vi 0) (vi 0) (vi 0) (vi 0) (vi 0) (vi 0) (vi 0) (vi 0) (vi 0) (vi 0) HR.o;exact ac5 (bZ hf _ rfl rfl) rfl ⟨rfl,HE.o _ hw⟩
def xX (h:PQ aA w q K p)(i:PI.bF)(h6:i.direct.length=6)(o:Int)(a:Option Addr)(m c:Nat)(ho:¬o<0)(hm:m<=1024)(hb:67968-(m:Int)<o) :
  ac4 prog 12 #[ptr q,dS i,vi o,aco a m c] w (Qn aA w q K p 69):=by
 have c1:decide (o<0)=false:=decide_eq_false ho;have c2:¬(1024:Int)<(m:Int):=aa;have c3:adk.wrap (67968-(m:Int))=67968-(m:Int):=adl _ aa;clear ho hm;obtain⟨kd,ln,sz,dl,sg,db⟩:=i;obtain⟨d0,d1,d2,d3,d4,d5,rfl⟩:=six (l:=dl) h6;go_in;go_upto_region 1 with fail;refine ny λw1 HB HX HR=>?_
 have HE:Hid (∀W',aP (λn=>n=w.heap.size+1) w1 W'->bM aA w q K W' K p):=az (λ_=>tQ h HB);have HS:=az (Cw h HB);obtain⟨r,hr⟩:∃r,r=w.heap.size+1:=⟨_,rfl⟩;rw[<-hr]at HR HE ⊢;obtain⟨z0,fz0,z1,fz1,z2,fz2,z3,fz3,z4,fz4,z5,fz5,z6,fz6,z7,fz7,z8,fz8,z9,fz9,Ui,fz10⟩:=pJ HR.o;clear hr h HB;go_wp2_with fail;refine HS.o.mono ?_;rintro e w2 ⟨rfl,rfl⟩;go_wp2_with fail;refine kD.mono ?_;rintro e w3 ⟨rfl,rfl⟩;go_wp2_with fail;obtain⟨hf,hw⟩:=iA (vi 0) (vi 0) (vi 0) (vi 0) (vi 0) (vi 0) (vi 0) (vi 0) (vi 0) (vi 0) (vi 0) HR.o;exact ac5 (bZ hf _ rfl rfl) rfl ⟨rfl,HE.o _ hw⟩
def Qp (h:PQ aA w q K p)(i:PI.bF)(h6:i.direct.length=6)(o:Int)(ho:o<0) :
  ac4 prog 23 #[ptr q,dS i,vi o] w (Qn aA w q K p 1):=by
 obtain⟨kd,ln,sz,dl,sg,db⟩:=i;obtain⟨d0,d1,d2,d3,d4,d5,rfl⟩:=six (l:=dl) h6;go_in;go_upto_region 1 with fail;refine ny λw1 HB HX HR=>?_
 have HE:Hid (∀W',aP (λn=>n=w.heap.size+1) w1 W'->bM aA w q K W' K p):=az (λ_=>tQ h HB);obtain⟨r,hr⟩:∃r,r=w.heap.size+1:=⟨_,rfl⟩;rw[<-hr]at HR HE ⊢;obtain⟨z0,fz0,z1,fz1,z2,fz2,z3,fz3,z4,fz4,z5,fz5,z6,fz6,z7,fz7,z8,fz8,z9,fz9,Ui,fz10⟩:=pJ HR.o;clear hr h HB;go_wp2_with fail;obtain⟨hf,hw⟩:=iA (vi 0) (vi 0) (vi 0) (vi 0) (vi 0) (vi 0) (vi 0) (vi 0) (vi 0) (vi 0) (vi 0) HR.o;exact ac5 (gq hf _ rfl rfl) rfl ⟨rfl,HE.o _ hw⟩
def Qq (h:PQ aA w q K p)(i:PI.bF)(h6:i.direct.length=6)(o:Int)(ho:67968<o) :
  ac4 prog 23 #[ptr q,dS i,vi o] w (Qn aA w q K p 69):=by
 have c1:¬o<0:=aa;obtain⟨kd,ln,sz,dl,sg,db⟩:=i;obtain⟨d0,d1,d2,d3,d4,d5,rfl⟩:=six (l:=dl) h6;go_in;go_upto_region 1 with fail;refine ny λw1 HB HX HR=>?_
 have HE:Hid (∀W',aP (λn=>n=w.heap.size+1) w1 W'->bM aA w q K W' K p):=az (λ_=>tQ h HB);have HS:=az (Cw h HB);obtain⟨r,hr⟩:∃r,r=w.heap.size+1:=⟨_,rfl⟩;rw[<-hr]at HR HE ⊢;obtain⟨z0,fz0,z1,fz1,z2,fz2,z3,fz3,z4,fz4,z5,fz5,z6,fz6,z7,fz7,z8,fz8,z9,fz9,Ui,fz10⟩:=pJ HR.o;clear hr h HB;go_wp2_with fail;refine HS.o.mono ?_;rintro e w2 ⟨rfl,rfl⟩;go_wp2_with fail;refine kD.mono ?_;rintro e w3 ⟨rfl,rfl⟩;go_wp2_with fail;obtain⟨hf,hw⟩:=iA (vi 0) (vi 0) (vi 0) (vi 0) (vi 0) (vi 0) (vi 0) (vi 0) (vi 0) (vi 0) (vi 0) HR.o;exact ac5 (gq hf _ rfl rfl) rfl ⟨rfl,HE.o _ hw⟩
def LZ (h:PQ aA w q K p)(i:PI.bF)(h6:i.direct.length=6)(o:Int)(a:Option Addr)(c:Nat)(ho:¬o<0)(hb:¬67968<o) :
  ac4 prog 12 #[ptr q,dS i,vi o,aco a 0 c] w λe w'=>e=ab4 (adg #[dS i,vi 0])/\bM aA w q K w' K p:=by
 have c1:decide (o<0)=false:=decide_eq_false ho;clear ho;obtain⟨kd,ln,sz,dl,sg,db⟩:=i;obtain⟨d0,d1,d2,d3,d4,d5,rfl⟩:=six (l:=dl) h6;go_in;go_upto_region 1 with fail;refine ny λw1 HB HX HR=>?_
 have HE:Hid (∀W',aP (λn=>n=w.heap.size+1) w1 W'->bM aA w q K W' K p):=az (λ_=>tQ h HB);have HS:=az (Cw h HB);obtain⟨r,hr⟩:∃r,r=w.heap.size+1:=⟨_,rfl⟩;rw[<-hr]at HR HE ⊢;obtain⟨z0,fz0,z1,fz1,z2,fz2,z3,fz3,z4,fz4,z5,fz5,z6,fz6,z7,fz7,z8,fz8,z9,fz9,Ui,fz10⟩:=pJ HR.o;clear hr h HB;go_wp2_with fail;refine HS.o.mono ?_;rintro e w2 ⟨rfl,rfl⟩;go_wp2_with fail;refine kD.mono ?_;rintro e w3 ⟨rfl,rfl⟩;obtain⟨x0,x1,x2,x3,x4,x5,x6,x7,x8,x9,JW⟩:=nT HX.o;go_wp2_with fail;obtain⟨hf,hw⟩:=iA (vi kd) (vi ln) (vi sz) (vi d0) (vi d1) (vi d2) (vi d3) (vi d4) (vi d5) (vi sg) (vi db) HR.o
 exact ac5 (bZ hf _ rfl rfl) rfl ⟨rfl,HE.o _ hw⟩
end
end po
namespace lw
open RowKit mgr ft ino po df
def kV (F:DF)(aF:Int)(l:List Nat)(free:Int):Int×DF :=
 if aF<0\/1024<l.length then (1,F) else if 67968-(l.length:Int)<aF then (69,F)
 else if aH F.z<aH (um F.z aF.toNat l.length)/\free<(aH (um F.z aF.toNat l.length):Int)-aH F.z then (67,F) else (0,F.put aF.toNat l)
def outT (F:DF)(t:Int):Int×DF:=if t<0 then (1,F) else if 67968<t then (69,F) else (0,F.cut t.toNat)
section
variable{aA:Nat}{w w':acL}{q:Nat}{K K':Nat->Prop}{p p':Po}{is:Nat->PI.bF}{Fs:Nat->DF}{D:Nat->RF}{t a e:Nat}{Z:Nat->Prop}
def kW (aA:Nat)(w:acL)(q:Nat)(K:Nat->Prop)(p:Po)(is:Nat->PI.bF)(Fs:Nat->DF)(k:Nat)(r:Int×DF)(e:Ending)(w':acL):Prop :=
 ∃i' K' p',e=ab4 (adg #[dS i',vi r.1])/\bG aA w q K w' K' p'/\((r.1≠0/\i'=PI.none_/\p'=p) \/
  (r.1=0/\Fl p' 3 (bW is k i') (fsUp Fs k r.2)/\(i'.aL=(is k).aL/\i'.links=(is k).links/\i'.size=r.2.size)/\(p'.T=p.T/\p'.P=p.P/\p'.I=p.I/\(p'.B,p'.G)=(p.B,p.G))))
def kW.refused {k:Nat}{r:Int×DF}{n:Int}(hr:r.1=n)(hn:n≠0){e':Ending}(h:Qn aA w q K p n e' w'):kW aA w q K p is Fs k r e' w':=by
 obtain⟨rfl,hp⟩:=h;exact⟨PI.none_,K,p,by rw[hr],hp.go,ack ⟨by rw[hr];exact hn,rfl,rfl⟩⟩
def Qr (q:Nat)(i:PI.bF)(h6:i.direct.length=6)(aF n:Int)(hb:aF<0\/n<0\/1024<n):ac4 prog 13 #[ptr q,dS i,vi aF,vi n] w λe w'=>e=ab4 (adg #[aco none 0 0,vi 1])/\acN w.heap.size w w':=by
 obtain⟨kd,ln,sz,dl,sg,db⟩:=i;obtain⟨d0,d1,d2,d3,d4,d5,hdl⟩:=six (l:=dl) h6;subst hdl;clear h6;simp only[dS,j4];have HB:Hid (acN w.heap.size w (w.alloc (ach #[vi kd,vi ln,vi sz,vi d0,vi d1,vi d2,vi d3,vi d4,vi d5,vi sg,vi db] 29))):=az ax;by_cases h1:aF<0
 ·clear hb;go_in;go_wp2;go_ret2;exact⟨rfl,HB.o⟩
 by_cases h2:n<0
 ·clear hb;go_in;go_wp2;go_ret2;exact⟨rfl,HB.o⟩
 have h3:(1024:Int)<n:=aa;clear hb;go_in;go_wp2;go_ret2;exact⟨rfl,HB.o⟩
def L6 (q:Nat)(i:PI.bF)(h6:i.direct.length=6)(aF n:Int)(h0:¬aF<0)(h1:¬n<0)(h2:¬1024<n)(hs:(i.size:Int)<=aF):ac4 prog 13 #[ptr q,dS i,vi aF,vi n] w λe w'=>e=ab4 (adg #[aco none 0 0,vi 0])/\acN w.heap.size w w':=by
 obtain⟨kd,ln,sz,dl,sg,db⟩:=i;obtain⟨d0,d1,d2,d3,d4,d5,hdl⟩:=six (l:=dl) h6;subst hdl;clear h6;dsimp only at hs;simp only[dS,j4];have HB:Hid (acN w.heap.size w (w.alloc (ach #[vi kd,vi ln,vi sz,vi d0,vi d1,vi d2,vi d3,vi d4,vi d5,vi sg,vi db] 29))):=az ax;have HX:=az (aD.new w 29 #[vi kd,vi ln,vi sz,vi d0,vi d1,vi d2,vi d3,vi d4,vi d5,vi sg,vi db]);go_in;go_upto_region 1 with fail;change Code.wp _ _ _ _ (w.alloc (ach #[vi kd,vi ln,vi sz,vi d0,vi d1,vi d2,vi d3,vi d4,vi d5,vi sg,vi db] 29));generalize w.alloc (ach #[vi kd,vi ln,vi sz,vi d0,vi d1,vi d2,vi d3,vi d4,vi d5,vi sg,vi db] 29)=w1 at*
 have x2:w1.cell? ⟨w.heap.size,2,none⟩=some (vi sz):=HX.o.cell 2;go_wp2;go_ret2;exact⟨rfl,HB.o⟩
def VI (hq:PQ aA w q K p)(hf:Fl p 3 is Fs)(k:Nat)(aF n:Int)(h0:¬aF<0)(h1:¬n<0)(h2:¬1024<n):ac4 prog 13 #[ptr q,dS (is k),vi aF,vi n] w λe w' =>
  ∃v K',e=ab4 (adg #[v,vi 0])/\Own w' w.heap.size v (rd (Fs k) aF.toNat (cnt (Fs k) aF.toNat n.toNat))/\bM aA w q K w' K' p:=by
 by_cases hs:((is k).size:Int)<=aF;refine(L6 q (is k) (hf.fam.six k) aF n h0 h1 h2 hs).mono ?_;rintro e' w' ⟨rfl,hb⟩;refine⟨_,K,rfl,?_,bM.aX hq hb⟩;have:cnt (Fs k) aF.toNat n.toNat=0:=by unfold cnt;rw[hf.size];omega
 rw[this];exact acL.ownsRow_nil _ _ _ _;obtain⟨o,rfl⟩:∃o:Nat,aF=o:=⟨aF.toNat,aa⟩;obtain⟨m,rfl⟩:∃m:Nat,n=m:=⟨n.toNat,aa⟩;have hz:(is k).size<=67968:=by rw[<-hf.size];exact(hf.ok k).size
 refine(po.Read_any hq (is k) (hf.fam.wf k) o m aa aa hz).mono ?_;rintro e' w' ⟨v,rfl,ho,hr⟩;refine⟨v,_,rfl,?_,hr⟩;have:p.bytes (is k) o (min m ((is k).size-o))=rd (Fs k) (o:Int).toNat (cnt (Fs k) (o:Int).toNat (m:Int).toNat):=by
  unfold cnt rd Po.bytes;rw[hf.size];refine List.map_congr_left λx _=>?_
  rw[hf.b];rfl
 rwa[<-this]
def fsUp_same (Fs:Nat->DF)(k:Nat):fsUp Fs k (Fs k)=Fs:=by
 funext j;unfold fsUp;split;rename_i e;rw[e];rfl
def dL.aci (h:dL aA w q K p is Fs D t a e Z):0<=p.aK:=by
 have:=h.pq.ok.W9;unfold Po.aK;omega
def p9 (h:dL aA w q K p is Fs D t a e Z)(k:Nat)(hk:k<3)(aF:Int)(ba:Option Addr)(l:List Nat)(c:Nat)(hr:dx aA w ba l)(hc:l.length<=c):ac4 prog 12 #[ptr q,dS (is k),vi aF,aco ba l.length c] w (kW aA w q K p is Fs k (kV (Fs k) aF l p.aK)):=by
 have h6:=h.fl.fam.six k;by_cases h1:aF<0;exact(Qo h.pq (is k) h6 aF ba l.length c h1).mono λe' w' he=>kW.refused (n:=1) (by unfold kV;rw[if_pos (ack h1)]) ag he;by_cases h2:1024<l.length;exact(LY h.pq (is k) h6 aF ba l.length c h1 h2).mono λe' w' he=>kW.refused (n:=1) (by unfold kV;rw[if_pos (acm h2)]) ag he;have e1:¬(aF<0\/1024<l.length):=λe=>e.elim h1 h2
 by_cases h3:67968-(l.length:Int)<aF;exact(xX h.pq (is k) h6 aF ba l.length c h1 aa h3).mono λe' w' he=>kW.refused (n:=69) (by unfold kV;rw[if_neg e1,if_pos h3]) ag he;obtain⟨o,rfl⟩:∃o:Nat,aF=o:=⟨aF.toNat,aa⟩;have ho:(o:Int).toNat=o:=rfl;by_cases h4:l=[];subst h4;have hout:kV (Fs k) (o:Int) [] p.aK=(0,Fs k):=by
  unfold kV;rw[if_neg e1,if_neg h3,ho];have hz:um (Fs k).z o ([]:List Nat).length=(Fs k).z:=Cc _ _;rw[hz,if_neg aa];unfold DF.put;rw[if_pos rfl]
 rw[hout];refine(LZ h.pq (is k) h6 (o:Int) ba c h1 (by simp at h3;omega)).mono ?_;rintro e' w' ⟨rfl,hp⟩;exact⟨is k,K,p,rfl,hp.go,acm ⟨rfl,by rw[oK,fsUp_same];exact h.fl,⟨rfl,rfl,(h.fl.size k).symm⟩,rfl,rfl,rfl,rfl⟩⟩;have hl1:1<=l.length:=by
  have:=List.length_pos_iff.2 h4;omega
 obtain⟨b0,o0,rfl⟩:∃b0 o0,ba=some ⟨b0,o0,none⟩:=by
  rcases hr.row.at_ with e0|⟨b0,o0,e0,_⟩;exact absurd e0 h4;exact⟨b0,o0,e0⟩
 have hz:=abt (Fs k).z o hl1;have hzz:(Fs k).z=p.gG (is k):=h.fl.gG k;refine(po.oM h.pq is h.fl.fam k o l b0 o0 c hr hc ⟨hl1,aa⟩ aa).mono ?_;intro e' w' hw;unfold mU at hw;rw[<-hzz,<-hz]at hw;have hn:=h.aci;split at hw;rename_i hlt;have hout:kV (Fs k) (o:Int) l p.aK=(67,Fs k):=by
  unfold kV;rw[if_neg e1,if_neg h3,ho,if_pos ⟨aa,hlt⟩]
 obtain⟨rfl,K',hp⟩:=hw;rw[hout];exact⟨PI.none_,K',p,rfl,hp.go,ack ⟨(by show (67:Int)≠0;decide),rfl,rfl⟩⟩;rename_i hge;have hput:(Fs k).put o l=(Fs k).wr o l:=by unfold DF.put;rw[if_neg h4]
 have hout:kV (Fs k) (o:Int) l p.aK=(0,(Fs k).wr o l):=by
  unfold kV;rw[if_neg e1,if_neg h3,ho,if_neg (λe=>hge e.2),hput]
 obtain⟨K',p',i',rfl,hp,hW⟩:=hw;rw[hout];have hfl:=h.fl.wr hk hW hl1 aa hr.row.small;obtain⟨i1,i2,i3⟩:=hW.ino;exact⟨_,K',p',rfl,hp,acm ⟨rfl,hfl,⟨i1,i2,by show max (is k).size _=max (Fs k).size _;rw[h.fl.size]⟩,hW.vC⟩⟩
def yn (hq:PQ aA w q K p)(hf:Fl p 3 is Fs)(k:Nat)(hk:k<3)(iE:Int):ac4 prog 23 #[ptr q,dS (is k),vi iE] w (kW aA w q K p is Fs k (outT (Fs k) iE)):=by
 have h6:=hf.fam.six k;by_cases h1:iE<0;exact(Qp hq (is k) h6 iE h1).mono λe' w' he=>kW.refused (n:=1) (by unfold outT;rw[if_pos h1]) ag he;by_cases h2:67968<iE;exact(Qq hq (is k) h6 iE h2).mono λe' w' he=>kW.refused (n:=69) (by unfold outT;rw[if_neg h1,if_pos h2]) ag he;obtain⟨o,rfl⟩:∃o:Nat,iE=o:=⟨iE.toNat,aa⟩;have hout:outT (Fs k) (o:Int)=(0,(Fs k).cut o):=by unfold outT;rw[if_neg h1,if_neg h2];rfl
 rw[hout];refine(po.xW hq is hf.fam k o aa (by rw[<-hf.size];exact(hf.ok k).size)).mono ?_;rintro e' w' ⟨K',p1,p',i',gone,rfl,hp,hC,hg,hpe⟩;obtain⟨hfl,hd⟩:=hf.cut hk aa hC hg hpe;obtain⟨i1,i2,i3⟩:=hC.ino;exact⟨_,K',p',rfl,hp,acm ⟨rfl,hfl,⟨i1,i2,rfl⟩,hd⟩⟩
def Cz (h:dL aA w q K p is Fs D t a e Z)(k:Nat)(hk:k<3)(iE:Int):ac4 prog 23 #[ptr q,dS (is k),vi iE] w (kW aA w q K p is Fs k (outT (Fs k) iE)):=yn h.pq h.fl k hk iE
end
variable{w w':acL}{K:Nat->Prop}{F:DF}{R:RF}
abbrev jo (w:acL)(K:Nat->Prop)(F:DF)(R:RF):Prop:=pU w K F R.ap R.N R.cp R.ab R.cb/\R.s=F.size
def DN (w:acL)(K:Nat->Prop)(r:Int×DF)(e:Ending)(w':acL):Prop:=∃R':RF,e=ab4 (adg #[R'.v,vi r.1])/\jo w' K r.2 R'/\acN w.heap.size w w'
def jo.v (h:jo w K F R):R.v=qm F.size R.ap R.N R.cp R.ab R.cb:=by
 show acK.agg #[vi 64,vi R.s,_,_]=acK.agg #[vi 64,vi F.size,_,_];rw[h.2]
def jo.of {v:acK}(h:Je w K v F):∃R:RF,v=R.v/\jo w K F R:=by
 obtain⟨ap,N,cp,ab,cb,rfl,h⟩:=h;exact⟨⟨F.size,ap,N,cp,ab,cb⟩,rfl,h,rfl⟩
def DN.same (h:jo w K F R){n:Int}{e':Ending}(he:e'=ab4 (adg #[qm F.size R.ap R.N R.cp R.ab R.cb,vi n])/\acN w.heap.size w w'):DN w K (n,F) e' w':=by
 obtain⟨rfl,hb⟩:=he;exact⟨R,by rw[h.v],⟨h.1.old hb,h.2⟩,hb⟩
def L8 (h:jo w K F R)(hK:∀n,K n->n<w.heap.size)(aF:Int)(ba:Option Addr)(l:List Nat)(c:Nat)(free:Int)(hr:bE w ba l):ac4 prog 39 #[R.v,vi aF,aco ba l.length c,vi free] w (DN w K (kV F aF l free)):=by
 rw[h.v];by_cases h1:aF<0\/1024<l.length;have hout:kV F aF l free=(1,F):=by unfold kV;rw[if_pos h1]
 rw[hout];exact(PL aF ba l.length c free h1).mono λe' w' he=>DN.same h he
 by_cases h3:67968-(l.length:Int)<aF;have hout:kV F aF l free=(69,F):=by unfold kV;rw[if_neg h1,if_pos h3]
 rw[hout];exact(xX aF ba l.length c free (λe=>h1 (ack e)) aa h3).mono λe' w' he=>DN.same h he
 obtain⟨o,rfl⟩:∃o:Nat,aF=o:=⟨aF.toNat,aa⟩;have hout:kV F (o:Int) l free=if aH F.z<aH (um F.z o l.length)/\free<(aH (um F.z o l.length):Int)-aH F.z then (67,F) else (0,F.put o l):=by unfold kV;rw[if_neg h1,if_neg h3];rfl
 rw[hout];refine(df.oM h.1 hK o ba l c free hr aa aa).mono ?_;intro e' w' hw;unfold WrR at hw;split at hw;rename_i hc;rw[if_pos hc];exact DN.same h hw;rename_i hc;rw[if_neg hc];obtain⟨u,rfl,hd,hb⟩:=hw;obtain⟨R',rfl,hR⟩:=jo.of hd;exact⟨R',rfl,hR,hb⟩
def L9 (h:jo w K F R)(hK:∀n,K n->n<w.heap.size)(iE:Int):ac4 prog 42 #[R.v,vi iE] w (DN w K (outT F iE)):=by
 rw[h.v];by_cases h1:iE<0\/67968<iE;have hout:outT F iE=(if iE<0 then 1 else 69,F):=by
  unfold outT;by_cases h2:iE<0;rw[if_pos h2,if_pos h2];rw[if_neg h2,if_neg h2,if_pos aa]
 rw[hout];exact(PO iE h1).mono λe' w' he=>DN.same h he
 obtain⟨o,rfl⟩:∃o:Nat,iE=o:=⟨iE.toNat,aa⟩;have hout:outT F (o:Int)=(0,F.cut o):=by unfold outT;rw[if_neg aa,if_neg aa];rfl
 rw[hout];refine(df.xW h.1 hK o aa).mono ?_;rintro e' w' ⟨u,rfl,hd,hb⟩;obtain⟨R',rfl,hR⟩:=jo.of hd;exact⟨R',rfl,hR,hb⟩
def Qs (h:jo w K F R)(aF n:Int)(ho: -9223372036854775808<=aF/\aF<=9223372036854775807)(hb:aF<0\/n<0\/1024<n):ac4 prog 43 #[R.v,vi aF,vi n] w λe w'=>e=ab4 (adg #[aco none 0 0,vi 1])/\acN w.heap.size w w':=by
 rw[h.v];exact df.Ux aF n ho hb
def Qt (h:jo w K F R)(aF n:Int)(ho:aF<=9223372036854775807)(h0:¬aF<0)(h1:¬n<0)(h2:¬1024<n):ac4 prog 43 #[R.v,vi aF,vi n] w λe w' =>
  ∃v,e=ab4 (adg #[v,vi 0])/\aR w' w.heap.size 5 v ((rd F aF.toNat (cnt F aF.toNat n.toNat)).map vb)/\acN w.heap.size w w':=by
 rw[h.v];obtain⟨o,rfl⟩:∃o:Nat,aF=o:=⟨aF.toNat,aa⟩;obtain⟨m,rfl⟩:∃m:Nat,n=m:=⟨n.toNat,aa⟩;exact df.Read_any h.1 o m aa aa
def Qu (q:Nat)(is:Nat->PI.bF)(D:Nat->RF)(k:Nat)(hk:k<3)(i:PI.bF)(h6:i.direct.length=6)(R:RF)(hi:i.aL=1/\i.links=k/\i.size=R.s) :
  ac4 prog 41 #[.agg (aI (aO q is D)),vi k,dS i,R.v,vi 0,vi 0] w λe w'=>e=ab4 (adg #[.agg (aI (aO q (bW is k i) (Q6 D k R))),.bool true])/\acN w.heap.size w w':=by
 obtain⟨kd,ln,sz,dl,sg,db⟩:=i;obtain⟨d0,d1,d2,d3,d4,d5,rfl⟩:=six (l:=dl) h6;obtain⟨s,ap,N,cp,ab,cb⟩:=R;obtain⟨h1,h2,h3⟩:=hi;dsimp only at h1 h2 h3;subst h1 h2 h3;exact Lt q is D ln hk sz d0 d1 d2 d3 d4 d5 sg db ap N cp ab cb
def acj (w:acL)(a b c:Array acK)(ta tb tc:TypeId):∃W,W=((w.alloc (ach a ta)).alloc (ach b tb)).alloc (ach c tc)/\acN w.heap.size w W/\aD W w.heap.size ta a/\aD W (w.heap.size+1) tb b/\aD W (w.heap.size+1+1) tc c:=by
 refine⟨_,rfl,((ax.alloc ai _).alloc (by simp;omega) _),((aD.new w ta a).alloc _).alloc _,?_,?_⟩;have h:=(aD.new (w.alloc (ach a ta)) tb b).alloc (ach c tc);rwa[size_alloc]at h;have h:=aD.new ((w.alloc (ach a ta)).alloc (ach b tb)) tc c;rwa[size_alloc,size_alloc]at h
def kX {g:Nat}{C:Nat->acK}{b:Bool}(hb:aD w' g 37 (aI C))(tmps:Array acK)(h2:tmps[4]?=some (.pointer (some ⟨g,0,none⟩)))(h3:tmps[5]?=some (.bool b)) :
  (results Tryz.f17 tmps).run prog w'=.ok (adg #[.agg (aI C),.bool b]) w':=by
 have hl:=oU hb;simp only[results,results17];simp[h2,h3,hl,asAddr,Sem.run_bind]
section
variable{aA:Nat}{w'':acL}{q:Nat}{K' K'':Nat->Prop}{p p':Po}{is is':Nat->PI.bF}{Fs Qv:Nat->DF}{D D':Nat->RF}{t a e:Nat}{Z:Nat->Prop}
structure gF (w:acL)(q:Nat)(K:Nat->Prop)(w':acL)(K':Nat->Prop):Prop where
 aJ:aP (KQ K q) w w'
 foot:∀n,K' n->K n\/w.heap.size<=n
def gF.refl:gF w q K w K:=⟨aP.refl _ _,λ_ e=>ack e⟩
def gF.trans (h:gF w q K w' K')(g:gF w' q K' w'' K''):gF w q K w'' K'':=by
 refine⟨h.aJ.trans g.aJ (λn hn e=>?_),λn e=>?_⟩;rcases e with e|e;rcases h.foot n e with e|e;exact ack e;omega;exact acm e;rcases g.foot n e with e|e;exact h.foot n e;exact acm (abX h.aJ.size e)
def gF.old (h:gF w q K w' K')(hb:acN w'.heap.size w' w''):gF w q K w'' K':=⟨h.aJ.below hb,h.foot⟩
def gF.aX (hb:acN w.heap.size w w'):gF w q K w' K:=gF.refl.old hb
def gF.fA (h:bG aA w q K w' K' p'):gF w q K w' K':=⟨h.aJ.mono (λ_ _ e=>ack e),h.foot⟩
def gF.ZX (h:VG aA w q K w' K' p'):gF w q K w' K':=⟨h.aJ,h.foot⟩
def gF.kq (h:gF w q K w' K')(hq:q<w.heap.size):∀n,KQ K' q n->KQ K q n\/w.heap.size<=n:=λn e=>by
 rcases e with e|e
 rcases h.foot n e with e|e
 exact ack (ack e)
 exact acm e
 exact ack (acm e)
def gF.blk (h:gF w q K w' K'){g:Nat}{ty:TypeId}{cs:Array acK}(hb:aD w g ty cs)(hn:¬KQ K q g):aD w' g ty cs/\¬KQ K' q g:=by
 refine⟨hb.aJ h.aJ hn,λe=>?_⟩;rcases e with e|e;rcases h.foot g e with e|e;exact hn (ack e);have:=hb.lt;omega;exact hn (acm e)
def rZ (aA:Nat)(w:acL)(q:Nat)(K:Nat->Prop)(p:Po)(is:Nat->PI.bF)(Fs:Nat->DF)(D:Nat->RF)(t a e:Nat)(Z:Nat->Prop)(k:Nat)(en:Ending)(w':acL):Prop :=
 ∃K' p' is' Qv D' a' e',en=ab4 (adg #[.agg (aI (aO q is' D')),.bool true])/\dL aA w' q K' p' is' Qv D' t a' e' Z/\gF w q K w' K'/\(a'<=a+9000/\e'<=e+1)/\(∀j,j≠k->Qv j=Fs j/\is' j=is j)/\p'.P=p.P
def gF.kz (h:gF w q K w' K')(hq:q<w.heap.size):∀n,KZ K' q Z n->KZ K q Z n\/w.heap.size<=n:=λn e =>
 e.elim (λe=>(h.kq hq n e).elim (λe=>ack (ack e)) acm) (λe=>ack (acm e))
def dL.dfs (h:dL aA w q K p is Fs D t a e Z)(g:gF w q K w' K')(j:Nat)(hj:j<3):jo w' (KZ K' q Z) (Fs j) (D j):=⟨(h.df j hj).1.aJ (g.aJ.mono (λ_ _ e=>ack e)) (g.kz h.pq.JV),(h.df j hj).2⟩
def dL.zgo (h:dL aA w q K p is Fs D t a e Z)(hs:w.heap.size<=w'.heap.size):∀n,Z n->n<w'.heap.size:=λn e=>adN (h.zlt n e) hs
def dL.go (h:dL aA w q K p is Fs D t a e Z)(g:bG aA w q K w' K' p):dL aA w' q K' p is Fs D t a e Z:=⟨g.at_,h.fl,h.gg,λj hj=>h.dfs (gF.fA g) j hj,h.ino,h.zgo g.size⟩
end
abbrev KR (K:Nat->Prop)(q:Nat)(Z:Nat->Prop)(r:Nat):Nat->Prop:=λn=>KZ K q Z n\/n=r
section
variable{aA:Nat}{W wc:acL}{q:Nat}{K':Nat->Prop}{p p':Po}{is:Nat->PI.bF}{Fs:Nat->DF}{D:Nat->RF}{t a e:Nat}{Z:Nat->Prop}
def dL.dfr (h:dL aA w q K p is Fs D t a e Z)(hB:acN w.heap.size w W)(g:gF W q K wc K'){r:Nat}(hr:w.heap.size<=r)(j:Nat)(hj:j<3):jo wc (KR K' q Z r) (Fs j) (D j):=by
 refine⟨?_,(h.df j hj).2⟩;have h1:pU W (KR K q Z r) (Fs j) (D j).ap (D j).N (D j).cp (D j).ab (D j).cb:=(h.df j hj).1.aJ (aP.of_below hB) (λn e=>e.elim ack (λe=>acm aa));refine h1.aJ (g.aJ.mono (λ_ _ e=>ack (ack e))) (λn e=>?_);rcases e with e|e;exact(g.kz (adN h.pq.JV hB.size) n e).elim (λe=>ack (ack e)) acm;exact ack (acm e)
def NN (w:acL)(q:Nat)(p p':Po)(is:Nat->PI.bF)(Fs:Nat->DF)(D:Nat->RF)(k:Nat)(out:Int×DF)(i':PI.bF)(R:RF)(en:Ending)(w':acL):Prop :=
 ∃is' D' Qv,en=ab4 (adg #[.agg (aI (aO q is' D')),.bool true])/\acN w.heap.size w w'/\((out.1≠0/\p'=p/\is'=is/\D'=D/\Qv=Fs) \/
  (out.1=0/\is'=bW is k i'/\D'=Q6 D k R/\Qv=fsUp Fs k out.2/\Fl p' 3 (bW is k i') (fsUp Fs k out.2)/\(i'.aL=(is k).aL/\i'.links=(is k).links/\i'.size=out.2.size)/\(p'.T=p.T/\p'.P=p.P/\p'.I=p.I/\(p'.B,p'.G)=(p.B,p.G))))
def pW {k:Nat}(hk:k<3)(VJ:(is k).aL=1/\(is k).links=k){out:Int×DF}{i':PI.bF}(h6:i'.direct.length=6)(hs:R.s=out.2.size)(hcs:(out.1≠0/\i'=PI.none_/\p'=p) \/
  (out.1=0/\Fl p' 3 (bW is k i') (fsUp Fs k out.2)/\(i'.aL=(is k).aL/\i'.links=(is k).links/\i'.size=out.2.size)/\(p'.T=p.T/\p'.P=p.P/\p'.I=p.I/\(p'.B,p'.G)=(p.B,p.G)))) :
  ac4 prog 41 #[.agg (aI (aO q is D)),vi k,dS i',R.v,vi out.1,vi out.1] w (NN w q p p' is Fs D k out i' R):=by
 rcases hcs with⟨h1,rfl,h3⟩|⟨h1,h2,h3,h4⟩;refine(Ls (w:=w) (aO q is D) (fu q is D) k R out.1 h1).mono ?_;rintro e' w' ⟨rfl,hb⟩;exact⟨is,D,Fs,rfl,hb,ack ⟨h1,h3,rfl,rfl,rfl⟩⟩;rw[h1];refine(Qu q is D k hk i' h6 R ⟨h3.1.trans VJ.1,h3.2.1.trans VJ.2,h3.2.2.trans hs.symm⟩).mono ?_;rintro e' w' ⟨rfl,hb⟩;exact⟨_,_,_,rfl,hb,acm ⟨h1,rfl,rfl,rfl,h2,h3,h4⟩⟩
def step_end (h:dL aA w q K p is Fs D t a e Z)(hB:acN w.heap.size w W)(g:gF W q K wc K')(hq:PQ aA wc q K' p'){k:Nat}(hk:k<3){out:Int×DF}{i':PI.bF}{wx:acL}
  {r:Nat} (hr:w.heap.size<=r) (hrW:r<W.heap.size) (hrn:¬KQ K' q r) (hR:jo wx (KR K' q Z r) out.2 R) (hbx:acN wc.heap.size wc wx) {en:Ending} (ht:NN wx q p p' is Fs D k out i' R en w') {cs:Array acK} (hrb:aD w' r 37 cs) (hcs:cs.size=46) :
  ∃is' D',en=ab4 (adg #[.agg (aI (aO q is' D')),.bool true])/\aD (cZ w' r (aO q is' D')) r 37 (aI (aO q is' D'))/\rZ aA w q K p is Fs D t a e Z k (ab4 (adg #[.agg (aI (aO q is' D')),.bool true])) (cZ w' r (aO q is' D')):=by
 obtain⟨is',D',Qv,rfl,hb',hc⟩:=ht;refine⟨is',D',rfl,gy hrb hcs _,?_⟩;have hst:=dh w' r (aO q is' D');have hbw:acN wc.heap.size wc w':=hbx.trans (hb'.mono hbx.size);have hlow:=h.pq.low;have hgo:gF w q K (cZ w' r (aO q is' D')) K':=by
  have h1:=((gF.aX (q:=q) (K:=K) hB).trans g).old hbw;refine⟨h1.aJ.trans hst (λn hn e=>?_),h1.foot⟩;omega
 have hpq:PQ aA (cZ w' r (aO q is' D')) q K' p':=by
  have h1:=hq.old hbw;exact h1.aJ hst (λn e=>by rw[e];exact Loose.blk (abX hlow hr) hrb) (λn hk e=>hrn (ack (by rw[<-e];exact hk))) (λe=>hrn (acm e.symm))
 have hold:∀j,j<3->jo (cZ w' r (aO q is' D')) (KZ K' q Z) (Fs j) (D j):=λj hj=>by
  have h1:=h.dfr hB g hr j hj;exact⟨((h1.1.old hbw).jg (acm rfl) hst).sub (λn e=>ack e),h1.2⟩
 rcases hc with⟨h1,rfl,rfl,rfl,rfl⟩|⟨h1,rfl,rfl,rfl,hfl,hi,hd⟩;exact⟨K',_,_,_,_,a,e,rfl,⟨hpq,h.fl,h.gg,hold,h.ino,h.zgo hgo.aJ.size⟩,hgo,⟨aa,aa⟩,λj _=>⟨rfl,rfl⟩,rfl⟩;have hRn:jo (cZ w' r (aO q (bW is k i') (Q6 D k R))) (KZ K' q Z) out.2 R:=⟨((hR.1.old hb').jg (acm rfl) hst).sub (λn e=>ack e),hR.2⟩;refine⟨K',_,_,_,_,a,e,rfl,⟨hpq,hfl,⟨(congrArg Prod.snd hd.2.2.2).trans h.gg.1,by rw[hd.1,hd.2.1];exact h.gg.2⟩,λj hj=>?_,λj hj=>?_,h.zgo hgo.aJ.size⟩,hgo,⟨aa,aa⟩,λj hj=>⟨fsUp_other _ _ hj,aV _ _ hj⟩,hd.2.1⟩;by_cases e:j=k;rw[e,fsUp_self]
 unfold Q6;rw[if_pos rfl];exact hRn;rw[fsUp_other _ _ e];unfold Q6;rw[if_neg e];exact hold j hj;by_cases e:j=k;rw[e,aS,hi.1,hi.2.1];exact h.ino k hk;rw[aV _ _ e];exact h.ino j hj
end
structure Bx (x y r:Nat)(C:Nat->acK)(O:Array acK)(W:acL):Prop where
 x:aD W x 37 (aI C)
 y:aD W y 48 O
 r:aD W r 37 (aI jQ)
variable{x y r:Nat}{C:Nat->acK}{O:Array acK}{W W':acL}
def Bx.old (h:Bx x y r C O W)(hb:acN W.heap.size W W'):Bx x y r C O W':=⟨h.x.old hb,h.y.old hb,h.r.old hb⟩
def Bx.drew (h:Bx x y r C O W):Bx x y r C O W.drew:=⟨h.x,h.y,h.r⟩
def Bx.alloc (h:Bx x y r C O W)(o:Obj):Bx x y r C O (W.alloc o):=⟨h.x.alloc o,h.y.alloc o,h.r.alloc o⟩
def Bx.lt (h:Bx x y r C O W):x<W.heap.size/\y<W.heap.size/\r<W.heap.size:=⟨h.x.lt,h.y.lt,h.r.lt⟩
variable{q:Nat}
def Bx.go {K':Nat->Prop}(h:Bx x y r C O W)(g:gF W q K W' K')(hn:¬KQ K q x/\¬KQ K q y/\¬KQ K q r):Bx x y r C O W'/\(¬KQ K' q x/\¬KQ K' q y/\¬KQ K' q r) :=
 ⟨⟨(g.blk h.x hn.1).1,(g.blk h.y hn.2.1).1,(g.blk h.r hn.2.2).1⟩,(g.blk h.x hn.1).2,(g.blk h.y hn.2.1).2,(g.blk h.r hn.2.2).2⟩
variable{is:Nat->PI.bF}{D:Nat->RF}
def GD (h:aD W x 37 (aI (aO q is D)))(k:Nat)(hk:k<3)(j:Nat)(hj:j<11):W.cell? ⟨x,1+k*11+j,none⟩=some (Jk (is k) j):=by
 have h1:=(gu h).1 (1+k*11+j) aa;rw[h1];congr 1;unfold aO;rcases (by omega:k=0\/k=1\/k=2) with rfl|rfl|rfl;rw[if_neg aa,if_pos aa];congr 1;omega;rw[if_neg aa,if_neg aa,if_pos aa];congr 1;omega;rw[if_neg aa,if_neg aa,if_neg aa,if_pos aa];congr 1;omega
def oW (is:Nat->PI.bF)(k:Nat)(h6:(is k).direct.length=6):∃kd ln sz d0 d1 d2 d3 d4 d5 sg db,is k=⟨kd,ln,sz,[d0,d1,d2,d3,d4,d5],sg,db⟩:=by
 generalize is k=i at*;obtain⟨kd,ln,sz,dl,sg,db⟩:=i;obtain⟨d0,d1,d2,d3,d4,d5,rfl⟩:=six (l:=dl) h6;exact⟨kd,ln,sz,d0,d1,d2,d3,d4,d5,sg,db,rfl⟩
def wP {k kd ln sz d0 d1 d2 d3 d4 d5 sg db:Nat}(hk:k<3)(hik:is k=⟨kd,ln,sz,[d0,d1,d2,d3,d4,d5],sg,db⟩)(W':acL)(hb:aD W' x 37 (aI (aO q is D))) :
  (W'.cell? ⟨x,0,none⟩=some (ptr q)/\W'.cell? ⟨x,1+k*11,none⟩=some (vi kd)/\W'.cell? ⟨x,1+k*11+1,none⟩=some (vi ln)/\W'.cell? ⟨x,1+k*11+2,none⟩=some (vi sz)/\W'.cell? ⟨x,1+k*11+3,none⟩=some (vi d0)/\W'.cell? ⟨x,1+k*11+4,none⟩=some (vi d1)/\W'.cell? ⟨x,1+k*11+5,none⟩=some (vi d2)/\W'.cell? ⟨x,1+k*11+6,none⟩=some (vi d3)/\W'.cell? ⟨x,1+k*11+7,none⟩=some (vi d4)/\W'.cell? ⟨x,1+k*11+8,none⟩=some (vi d5)/\W'.cell? ⟨x,1+k*11+9,none⟩=some (vi sg)/\W'.cell? ⟨x,1+k*11+10,none⟩=some (vi db)):=by
 have hc:=λj hj=>GD hb k hk j hj
 rw[hik]at hc;exact⟨(gu hb).1 0 aa,hc 0 aa,hc 1 aa,hc 2 aa,hc 3 aa,hc 4 aa,hc 5 aa,hc 6 aa,hc 7 aa,hc 8 aa,hc 9 aa,hc 10 aa⟩
def wQ {k s1 N1 xY zC:Nat}{yX zB:Option Addr}(hk:k<3)(hD:D k=⟨s1,yX,N1,xY,zB,zC⟩)(W':acL)(hb:aD W' x 37 (aI (aO q is D))) :
  (W'.cell? ⟨x,34+k*4,none⟩=some (vi 64)/\W'.cell? ⟨x,34+k*4+1,none⟩=some (vi s1)/\W'.cell? ⟨x,34+k*4+2,none⟩=some (aco yX N1 xY)/\W'.cell? ⟨x,34+k*4+3,none⟩=some (aco zB N1 zC)):=by
 have h:=JF hb k hk;rw[hD]at h;exact h
end lw
end Go.Proofs.YtllmbcigmimgoaaGreat
