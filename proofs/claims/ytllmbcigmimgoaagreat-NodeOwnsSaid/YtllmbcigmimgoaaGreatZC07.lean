/-
  Lemmas for a law's proof, put together from several texts. No conditions of their own.
-/
import Derived.Test.YtllmbcigmimgoaaGreatZC06
import Derived.Test.YtllmbcigmimgoaaGreatZC01
import Derived.Deep.Slices
import Derived.Deep.Fields
import Derived.ChangeSame
import Derived.SizedLaws
import Derived.Test.YtllmbcigmimgoaaGreatZC03
import Derived.Test.YtllmbcigmimgoaaGreatZC02
import Derived.Deep.CutBlock
import Derived.Test.YtllmbcigmimgoaaGreatZC04
import Derived.Deep.CutRange
import Derived.Deep.LoopGhost
set_option maxRecDepth 100000
set_option maxHeartbeats 20000000
set_option linter.all false
namespace Go.Proofs.YtllmbcigmimgoaaGreat
open _root_.Go.Proofs.Tryz
open _root_.And renaming intro->ae7
open _root_.Array renaming getElem?_eq_some_iff->aaz
open _root_.Bool renaming or_eq_true->ae5,eq_iff_iff->ae4,and_eq_true->ac8,not_eq_true->afg
open _root_.Go renaming World->acL,Calls->ac4,bodyPost_ret->ac5,Value->acK,TypeId->acO,Addr->acM,DataW->acR,IntKind->acS,run_underlying->acQ
open _root_.Go.Ending renaming returned->ab4
open _root_.Go.IntKind renaming i64->adk
open _root_.Go.IntWalk renaming i64_in->adl
open _root_.Go.Obj renaming cells->ach
open _root_.Go.RowKit renaming Below->acN
open _root_.Go.RowKit.Below renaming refl->ac3
open _root_.Go.Value renaming ownBlock->aeP,slice->aco,bool->acg,tuple->adg
open _root_.Int renaming tdiv_eq_ediv_of_nonneg->ae3,tmod_eq_emod_of_nonneg->afq
open _root_.List renaming getElem?_eq_getElem->aaj,getD_eq_getElem?_getD->aah,length_map->abT,length_take->acX,length_drop->adt,length_append->acZ,range->ac9,getElem?_append_left->aa9,getElem?_append_right->ae1,getElem?_map->aeX,getElem?_eq_some_iff->aaB,nil_append->afl,mem_of_mem_drop->ail,pairwise_iff_getElem->aeo,getD->afh,getElem_mem->aff,take_append_drop->aa7,mem_of_mem_take->afp,map_append->aef,mem_append->aaS,length_set->abZ,mem_map->aay,getElem?_take->ae9,getElem?_drop->afb,mem_range->aeg,getElem?_replicate->afk,append_assoc->adM,take_of_length_le->ac0,length_singleton->afs
open _root_.Nat renaming le_trans->abX,lt_of_lt_of_le->adN,zero_le->aaW
open _root_.Or renaming inl->ack,inr->acm
namespace us
open RowKit Go.Sort mgr ft
def Yz {g n:Nat}(c:Nat)(hn:n<1000000):∀(N a b lim:Nat) (G:Nat->Nat) (w:acL),b-a<N->a<=b->b<=n->lim<1000000->UR w g n G ->
  ac4 prog 165 #[aco (some ⟨g,0,none⟩) n c,vi a,vi b,vi lim] w (UP w g n G):=by
 intro N;induction N with
 |zero=>intro a b lim G w h;omega
 |succ N ih =>
  intro a b lim G w hN hab hbn hlim h;have IH:=az ih;have H:=az (US.refl h);clear h ih;go_in;go_wp2_with fail;go_loopg [1,2,3,8,9] (b-a) (λk v1 v2 v3 v8 v9 wr=>∃(x y lim:Nat) (p q:Bool) (Gk:Nat->Nat),v1=vi x/\v2=vi y/\v3=vi lim/\v8=acg p/\v9=acg q/\(x<=y/\y<=n/\lim<1000000)/\(y-x<=b-a/\y-x<=k)/\Hid (US w g n G wr Gk))
  case atStart=>exact⟨a,b,lim,true,true,G,rfl,rfl,rfl,rfl,rfl,aa,aa,H⟩
  case round =>
   obtain⟨x,y,Vr,p,q,Gk,rfl,rfl,rfl,rfl,rfl,hbd,hk,HK⟩:=hrel;obtain⟨l,hl⟩:∃l:Nat,(y:Int)-(x:Int)=l:=⟨y-x,aa⟩;by_cases h12:l<=12
   ·have ajl:(l:Int)<=12:=aa;go_wp2_with (go_at_call 184;refine(Yt HK.o.row c x y aa aa hn).mono ?_;rintro e w2 ⟨rfl,G2,h2⟩);refine ac5 (results_none rfl _ _ _) rfl ?_;exact⟨rfl,G2,HK.o.trans h2⟩
   have ajl:¬(l:Int)<=12:=aa;by_cases hl0:Vr=0
   ·have afa:((Vr:Int)==0)=true:=by simp[hl0]
    go_wp2_with (go_at_call 185;refine(Vo HK.o.row c x y aa aa hn).mono ?_;rintro e w2 ⟨rfl,G2,h2⟩);refine ac5 (results_none rfl _ _ _) rfl ?_;exact⟨rfl,G2,HK.o.trans h2⟩
   have afa:((Vr:Int)==0)=false:=by simp;omega
   go_upto_if 35 with fail;go_cut [3] from 19 to 133 (λv wx=>∃(JD:Nat) (G2:Nat->Nat),v=vi JD/\JD<1000000/\Hid (US w g n G wx G2))
   case first =>
    cases p
    ·go_wp2_with (go_at_call 186;refine(Yy HK.o.row c x y aa aa hn).mono ?_;rintro e w2 ⟨rfl,G2,h2⟩;have H2:=az (HK.o.trans h2);clear h2);go_meet;exact⟨Vr-1,G2,by congr 1;omega,aa,H2⟩
    go_wp2;go_meet;exact⟨Vr,Gk,rfl,aa,HK⟩
   case rest =>
   obtain⟨JD,G2,rfl,alJ,H2⟩:=hcut;generalize wc=w2 at*;clear HK afa hl0;go_upto_region 10 with fail;go_cut [11,12] from 19 to 133 (λv11 v12 wx=>∃(pv:Nat) (t:Int),v11=vi pv/\v12=vi t/\(x<=pv/\pv<y)/\Hid (US w g n G wx G2))
   case first =>
    go_wp2_with (go_at_call 187;refine(Yw H2.o.row c x y aa aa hn).mono ?_;rintro e w3 ⟨pv,t,rfl,hpv,h3⟩;have H3:=az (H2.o.trans h3);clear h3);go_meet;exact⟨pv,t,rfl,rfl,hpv,H3⟩
   case rest =>
   obtain⟨pv,t,rfl,rfl,hpv,H3⟩:=hcut;generalize wc=w3 at*;clear H2;go_upto_if 50 with fail;go_cut [11,12] from 19 to 133 (λv11 v12 wx=>∃(pv:Nat) (t:Int) (G3:Nat->Nat),v11=vi pv/\v12=vi t/\(x<=pv/\pv<y)/\Hid (US w g n G wx G3))
   case first =>
    by_cases ht2:t=2
    ·subst ht2;obtain⟨y1,hy1⟩:∃y1:Nat,(y:Int)-1=y1:=⟨y-1,aa⟩;obtain⟨d,hd⟩:∃d:Nat,(pv:Int)-(x:Int)=d:=⟨pv-x,aa⟩;obtain⟨pv2,hpv2⟩:∃d2:Nat,(y1:Int)-(d:Int)=d2:=⟨y1-d,aa⟩;go_wp2_with (go_at_call 188;refine(Yu H3.o.row c x y aa aa hn).mono ?_;rintro e w4 ⟨rfl,G4,h4⟩;have H4:=az (H3.o.trans h4);clear h4);go_meet;exact⟨pv2,1,G4,rfl,rfl,aa,H4⟩
    have ht2b:(t==2)=false:=by simp[ht2]
    go_wp2;go_meet;exact⟨pv,t,G2,rfl,rfl,hpv,H3⟩
   case rest =>
   clear hpv H3;obtain⟨pv,t,G3,rfl,rfl,hpv,H3⟩:=hcut;generalize wc=w4 at*;go_upto_region 15 with fail;go_cut [68] from 19 to 133 (λv wx=>∃tt:Bool,v=acg tt/\Hid (US w g n G wx G3))
   case first =>
    cases p
    ·go_wp2;go_meet;exact⟨_,rfl,H3⟩
    cases q
    ·go_wp2;go_meet;exact⟨_,rfl,H3⟩
    go_wp2;go_meet;exact⟨_,rfl,H3⟩
   case rest =>
   clear H3;obtain⟨tt,rfl,H3⟩:=hcut;generalize wc=w5 at*;go_upto_if 68 with fail;go_cut [72] from 19 to 133 (λ_ wx=>∃G4:Nat->Nat,Hid (US w g n G wx G4))
   case first =>
    cases tt
    ·go_wp2;go_meet;exact⟨G3,H3⟩
    go_wp2_with (go_at_call 189;refine(Vp H3.o.row c x y aa aa hn).mono ?_;rintro e w6 ⟨t2,rfl,G4,h4⟩;have H4:=az (H3.o.trans h4);clear h4;cases t2)
    ·go_wp2;go_meet;exact⟨G4,H4⟩
    go_wp2_with fail;refine ac5 (results_none rfl _ _ _) rfl ?_;exact⟨rfl,G4,H4.o⟩
   case rest =>
   clear H3;obtain⟨G4,H4⟩:=hcut;generalize wc=w6 at*;go_upto_region 17 with fail;go_cut [87] from 19 to 133 (λv wx=>∃tt:Bool,v=acg tt/\Hid (US w g n G wx G4))
   case first =>
    by_cases hx0:0<x
    ·have hd:(0:Int)<(x:Int):=aa;have pw:adk.wrap ((x:Int)-1)=(x:Int)-1:=adl _ aa;have p0:(0:Int)<=(x:Int)-1:=aa;have pn:(x:Int)-1<(n:Int):=aa;have pt:((x:Int)-1).toNat=x-1:=aa;have qp:(pv:Int)<(n:Int):=aa;obtain⟨Gu,cae⟩:∃v,G4 (x-1)=v:=⟨_,rfl⟩;have ca:w6.cell? ⟨g,x-1,none⟩=some (vw Gu):=by rw[<-cae];exact H4.o.row.cell aa
     clear cae;obtain⟨cbv,cbe⟩:∃v,G4 pv=v:=⟨_,rfl⟩;have cb:w6.cell? ⟨g,pv,none⟩=some (vw cbv):=by rw[<-cbe];exact H4.o.row.cell aa
     clear cbe;go_quiet (first|(go_at_call 190;refine ac4.quiet_of_same (fw _ _ _)));go_wp2;go_meet;exact⟨_,rfl,az (H4.o.drewN _)⟩
    have hd:decide ((0:Int)<(x:Int))=false:=decide_eq_false aa;go_quiet (fail);go_wp2;go_meet;exact⟨_,rfl,az (H4.o.drewN _)⟩
   case rest =>
   clear H4;obtain⟨tu,rfl,H4⟩:=hcut;generalize wc=w7 at*;cases tu
   ·go_upto_region 21 with (go_at_call 192;refine(Vm H4.o.row c x y pv aa hpv aa hn).mono ?_;rintro e w8 ⟨m,t2,rfl,hm1,hm2,G5,h5⟩;have H5:=az (H4.o.trans h5);clear h5);obtain⟨ll,hll⟩:∃ll:Nat,(m:Int)-(x:Int)=ll:=⟨m-x,aa⟩;obtain⟨rr,hrr⟩:∃rr:Nat,(y:Int)-(m:Int)=rr:=⟨y-m,aa⟩;obtain⟨tq,htq⟩:∃tq:Nat,(l:Int).tdiv 8=tq:=⟨l/8,rfl⟩;obtain⟨m1,hmm⟩:∃m1:Nat,(m:Int)+1=m1:=⟨m+1,aa⟩;by_cases hlr:ll<rr
    ·have ajm:(ll:Int)<(rr:Int):=aa;go_wp2_with (go_at_call 165;refine(IH.o x m JD G5 _ aa aa aa aa H5.o.row).mono ?_;rintro e w9 ⟨rfl,G6,h6⟩;have H6:=az (H5.o.trans h6);clear h6);go_roundg (y-m1)
     case measure=>omega
     case rel=>exact⟨m1,y,JD,_,t2,G6,rfl,rfl,rfl,rfl,rfl,aa,aa,H6⟩
    have ajm:¬(ll:Int)<(rr:Int):=aa;go_wp2_with (go_at_call 165;refine(IH.o m1 y JD G5 _ aa aa aa aa H5.o.row).mono ?_;rintro e w9 ⟨rfl,G6,h6⟩;have H6:=az (H5.o.trans h6);clear h6);go_roundg (m-x)
    case measure=>omega
    case rel=>exact⟨x,m,JD,_,t2,G6,rfl,rfl,rfl,rfl,rfl,aa,aa,H6⟩
   go_wp2_with (go_at_call 191;refine(Yv H4.o.row c x y pv aa hpv aa hn).mono ?_;rintro e w8 ⟨m,rfl,hm1,hm2,G5,h5⟩;have H5:=az (H4.o.trans h5);clear h5);go_roundg (y-m)
   case measure=>omega
   case rel=>exact⟨m,y,JD,p,q,G5,rfl,rfl,rfl,rfl,rfl,aa,aa,H5⟩
open po nd
attribute [local go_sem] Oper.semAt_some
def Vt:(prog.info? 118).map (λi=>(i.zero,i.size,i.bytes))=some (some (vw 0),1,4):=ah
abbrev gB (w:acL)(b:Nat)(v:acK)(l:List Nat):Prop:=w.ownsRow b 118 1 v l.length (l.map λn=>vw n)
section
variable{w w':acL}{b0:Nat}{v:acK}{l:List Nat}
def gB.kept {row:Option Nat}(h:gB w b0 v l)(hg:w.grownBy w' row)(hn:∀r,row=some r->v.ownBlock≠some r):gB w' b0 v l :=
 acL.ownsRow.kept h hg (by
  cases hv:v.ownBlock with
  |none=>exact ack rfl
  |some g =>
   refine acm (λe=>?_)
   exact hn g e.symm hv)
def gB.old (h:gB w b0 v l)(hb:acN w.heap.size w w'):gB w' b0 v l :=
 h.kept (row:=none) (mP hb) (λr e=>by cases e)
def gB.lt (h:gB w b0 v l){g:Nat}(hg:v.ownBlock=some g):g<w.heap.size/\b0<=g/\∃cur,aD w g 118 cur:=by
 rcases h.2 with⟨rfl,_⟩|⟨g',cap,cur,rfl,hb,hh,_⟩;simp[aeP]at hg;have:g'=g:=by simpa[aeP] using hg
 subst this;have hb':aD w g' 118 cur:=hh;exact⟨hb'.lt,hb,cur,hb'⟩
def gB.aJ {F:Nat->Prop}(h:gB w b0 v l)(q:aP F w w')(hn:∀g,v.ownBlock=some g->¬F g):gB w' b0 v l:=by
 refine⟨h.1,?_⟩;rcases h.2 with h1|⟨g,cap,cur,hv,hb,hg,h1⟩;exact ack h1;have hl:g<w.heap.size:=by
  have:aD w g 118 cur:=hg;exact this.lt
 exact acm ⟨g,cap,cur,hv,hb,(q.block g hl (hn g (by rw[hv];rfl))).trans hg,h1⟩
def gB.form (h:gB w b0 v l):∃a n c,v=aco a n c:=by
 rcases h.2 with⟨rfl,_⟩|⟨g,cap,cur,rfl,_⟩;exact⟨_,_,_,rfl⟩;exact⟨_,_,_,rfl⟩
def LU (hown:gB w b0 v l)(x:Nat)(hn:l.length+1<=1000000)(hb:b0<=w.heap.size) :
  ∃v' w',eH 123 123 123 v (.slice (some ⟨w.heap.size,0,none⟩) 1 1) (w.alloc (.cells #[vw x] 118)) v' w'/\gB w' b0 v' (l++[x])/\(w.alloc (.cells #[vw x] 118)).grownBy w' v.ownBlock /\
   (v'.ownBlock=v.ownBlock\/v'.ownBlock=some (w.heap.size+1)):=by
 obtain⟨i0,hi,hz0,hz1,hz2⟩:=info_parts Vt;have hown':=hown.old ((ac3 _ w).alloc aj (.cells #[vw x] 118));obtain⟨v',w',h1,h2,h3,_,h5⟩:=run_append_own_at (P:=prog) (w.alloc (.cells #[vw x] 118)) b0 123 123 118 i0 _ 1 4 underlying123 hi hz0 hz1 hz2 rfl aa v l.length (l.map λn=>vw n) hown'
  ⟨w.heap.size,0,none⟩ 1 1 [vw x] rfl (λj u hu=>by
   have hj:j=0:=by
    have:=(aaB.1 hu).1
    simpa using this
   subst hj
   rw[add_plain,Nat.zero_add,(aD.new w 118 #[vw x]).cell]
   exact hu) (by intro u hu;simp at hu;rw[hu];rfl)
   (by unfold maxLen;omega) aa (by simp;omega)
 refine⟨v',w',⟨h1⟩,?_,h3,by rw[size_alloc]at h5;exact h5⟩;unfold gB;rw[acZ,aef];simpa using h2
end
def lS {F:Fence}{n:Nat}{P:Program}{w w':acL}{ops:Array Oper}{rest:List Oper}{o:Oper}{a:Act}{Q:Exit->Act->acL->Prop}(hgd:o.guard=none)(s x:Operand){t u:acO}
  (ho:o.op=.call {callee:=.builtin .append,args:=#[s,x],argTypes:=#[t,u]}) {v src v':acK} (hs:a.eval s=v) (hx:a.eval x=src)
  (hrun:(Builtin.append_ #[t,u] o.type #[v,src]).run P w=.ok v' w') (h:wpListIn F n P ops Q rest (a.put o.dst v') w'):wpListIn F n P ops Q (o::rest) a w:=by
 refine wpListIn_plain hgd λK hK=>?_
 unfold Oper.wpIn;refine⟨by simp[Oper.about,ho,resolve,Target.leads,Sem.run_pure],?_⟩;rw[Oper.semAt_plain F _ _ (by rw[ho];intro c hc';cases hc')];simp[execOp,ho,resolve,invoke,builtin,hs,hx,hrun,Result.andThen];exact hK _ _ h
def Gives (gf:Nat)(lb:Array acK)(N:Nat)(S:List Nat->Prop)(w0:acL):Prop :=
 ∀(l:Nat) (J:(Nat->Prop)->List Nat->acL->Prop) (K:Nat->Prop) (W:acL),acN w0.heap.size w0 W ->
  (∀K ss W,J K ss W->∀n,K n->n<W.heap.size/\w0.heap.size<=n) ->
  (∀K ss W W' F,J K ss W->aP F W W'->(∀n,F n->¬K n)->(∀n,F n->w0.heap.size<=n)->J K ss W') ->
  (∀K ss x W,J K ss W->ss.length<N->YieldAt Fence.wide 4 prog l #[vw x] W λe W'=>e=ab4 (acg true)/\∃K',J K' (ss++[x]) W'/\aP K W W'/\∀n,K' n->K n\/W.heap.size<=n) ->
  J K [] W->ac4 prog gf (#[.func (.yield l) #[] #[]]++lb) W λe W'=>(∃v,e=ab4 v)/\∃K' ss,S ss/\J K' ss W'
structure Vu (w0:acL)(bs l D:Nat)(ro:Obj)(K:Nat->Prop)(ss:List Nat)(W:acL):Prop where
 below:acN w0.heap.size w0 W
 box:∃v,aD W bs 123 #[v]/\gB W w0.heap.size v ss/\∀n,K n↔n=bs\/n=l\/n=D\/v.ownBlock=some n
 lJ:W.heap[l]?=some ro
 nW:W.heap[D]?=some (.deferred (some []))
section
variable{w0:acL}{bs l D:Nat}{ro:Obj}
def Ct {K:Nat->Prop}{ss:List Nat}{W:acL}(h1:w0.heap.size<=bs/\w0.heap.size<=l/\w0.heap.size<=D)(h:Vu w0 bs l D ro K ss W):∀n,K n->n<W.heap.size/\w0.heap.size<=n:=by
 intro n hn;obtain⟨v,h2,h3,h4⟩:=h.box;rcases (h4 n).1 hn with e|e|e|e;rw[e];exact⟨h2.lt,h1.1⟩;rw[e];exact⟨(aaz.1 h.lJ).1,h1.2.1⟩;rw[e];exact⟨(aaz.1 h.nW).1,h1.2.2⟩;exact⟨(h3.lt e).1,(h3.lt e).2.1⟩
def Gw {K:Nat->Prop}{ss:List Nat}{W W':acL}{F:Nat->Prop}(h:Vu w0 bs l D ro K ss W)(q:aP F W W')(hn:∀n,F n->¬K n)(h0:∀n,F n->w0.heap.size<=n):Vu w0 bs l D ro K ss W':=by
 obtain⟨v,h2,h3,h4⟩:=h.box;have hs:=h.below.size;refine⟨⟨q.os.trans h.below.os,q.tape.trans h.below.tape,q.output.trans h.below.output,abX hs q.size,λk hk=>(q.block k (adN hk hs) (λe=>by have:=h0 k e;omega)).trans (h.below.block k hk)⟩,
  ⟨v,h2.aJ q (λe=>hn _ e ((h4 _).2 (ack rfl))),h3.aJ q (λg e e2=>hn _ e2 ((h4 _).2 (acm (acm (acm e))))),h4⟩,?_,?_⟩
 exact(q.block l (aaz.1 h.lJ).1 (λe=>hn _ e ((h4 _).2 (acm (ack rfl))))).trans h.lJ;exact(q.block D (aaz.1 h.nW).1 (λe=>hn _ e ((h4 _).2 (acm (acm (ack rfl)))))).trans h.nW
end
end us
open ChangeShapes WideShapes ChangeAt RowKit Deep
def Aa:reachBytes<=140737488355328:=ag
structure qB (E:Type) where
 a:Option acM
 l:List E
 c:Nat
abbrev qB.v {E:Type}(r:qB E):acK:=aco r.a r.l.length r.c
instance {E:Type}:Inhabited (qB E):=⟨⟨none,[],0⟩⟩
section
variable{H:Type}{enc:acO×acK->H}{P:Program}{W:acL}
def jZ {ts us:List acO}{ds gs:List (acR H)}(h:(acR.weightsEach P (ts++us) (ds++gs)).all (·<=reachBytes)=true){j:Nat}{t:acO}{d:acR H}(ht:ts[j]?=some t)(hd:ds[j]?=some d) :
  ∀n∈d.weights P t,n<=reachBytes:=by
 intro n hn;have h1:(ts++us)[j]?=some t:=by rw[aa9 ((aaB.1 ht).1)];exact ht
 have h2:(ds++gs)[j]?=some d:=by rw[aa9 ((aaB.1 hd).1)];exact hd
 have:=List.all_eq_true.1 h n (acR.weights_mem_each h1 h2 n hn);simpa using this
def qM {e:acO}:∀{l:List (acR H)} {d:acR H},d∈l->∀n∈d.weights P e,n∈acR.weightsAll P e l
 |x::l,d,h,n,hn=>by
  simp only[acR.weightsAll,aaS]
  rcases List.mem_cons.1 h with rfl|h
  exact Or.inl hn
  exact Or.inr (qM h n hn)
structure eZ (enc:acO×acK->H)(P:Program)(W:acL)(t:acO)(m:Nat){E:Type}(cs:E->List acK)(good:E->Prop):Prop where
 size:P.cellsOf t=m
 len:∀e,(cs e).length=m
 elem:∀fuel c x,acR.trod enc P W 0 (λ_=>true) true fuel t c=some x->(∀n∈x.1.weights P t,n<=reachBytes)->∃e,c=cs e/\good e
variable{m:Nat}{E:Type}
def eZ.map {t:acO}{E':Type}{cs:E->List acK}{good:E->Prop}{cs':E'->List acK}{Y0:E'->Prop}(h:eZ enc P W t m cs good)(f:E->E')(hl:∀e,(cs' e).length=m)(hc:∀e,cs' (f e)=cs e)(hg:∀e,good e->Y0 (f e)):eZ enc P W t m cs' Y0 :=
 ⟨h.size,hl,λfuel c x hx hw=>by
  obtain⟨e,rfl,hgd⟩:=h.elem fuel c x hx hw
  exact⟨f e,(hc e).symm,hg e hgd⟩⟩
def eZ.int {t:acO}(ht:P.underlying t=some (.int .i64))(hs:P.cellsOf t=1):eZ enc P W t 1 (λn:Int=>[vi n]) (λn=> -9223372036854775808<=n/\n<=9223372036854775807) :=
 ⟨hs,λ_=>rfl,λfuel c x hx _=>by
  obtain⟨k,hk,_,hwf⟩:=acR.trod_int ht hx
  exact⟨k,hk,by simpa[Lit.wf,acS.min,acS.max,acS.signed,acS.bits] using hwf⟩⟩
def eZ.byte {t:acO}(ht:P.underlying t=some (.int .u8))(hs:P.cellsOf t=1):eZ enc P W t 1 (λn:Nat=>[.int .u8 n]) (λn=>n<256) :=
 ⟨hs,λ_=>rfl,λfuel c x hx _=>by
  obtain⟨k,hk,_,hwf⟩:=acR.trod_int ht hx
  have hr:0<=k/\k<=255:=by simpa[Lit.wf,acS.min,acS.max,acS.signed,acS.bits] using hwf
  exact⟨k.toNat,by rw[hk,Int.toNat_of_nonneg hr.1],aa⟩⟩
structure Rb (W:acL)(m:Nat){E:Type}[Inhabited E](cs:E->List acK)(good:E->Prop)(r:qB E):Prop where
 at_:r.l=[]\/∃b o,r.a=some ⟨b,o,none⟩/\b<W.heap.size/\∀i,i<r.l.length->∀j u,(cs (r.l.getD i default))[j]?=some u->W.cell? ⟨b,o+i*m+j,none⟩=some u
 good:∀e∈r.l,good e
 len:r.l.length<=r.c
 cap:r.c<=maxLen
def eZ.row {t T:acO}{bytes:Nat}[Inhabited E]{cs:E->List acK}{good:E->Prop}(h:eZ enc P W t m cs good)(hm:0<m)(hT:P.underlying T=some (.slice t))(hs:P.cellsOf T=1)(hb:P.bytesOf t=bytes) :
  eZ enc P W T 1 (λr:qB E=>[r.v]) (λr=>Rb W m cs good r/\r.l.length*bytes<=reachBytes):=by
 refine⟨hs,λ_=>rfl,λfuel c x hx hw=>?_⟩;rcases open_slice hT hx with⟨rfl,_⟩|⟨a,len,cap,q,n,D,Pl,rfl,_,hl,hcm,hmm,rfl,hi⟩;exact⟨⟨none,[],0⟩,rfl,⟨.inl rfl,ai,aj,aaW _⟩,ai⟩;simp only[if_true]at hmm;subst hmm;rw[h.size]at hi;obtain⟨B,hB⟩:=choose_lt (α:=E) (n:=len) (p:=λi e=>W.cells? 0 (a.add (i*m)) m=some (cs e)/\good e) (λi hlt=>by
  obtain⟨c',hc,ht⟩:=hi i aa
  obtain⟨e,rfl,hg⟩:=h.elem _ _ _ ht (λn hn=>hw n (by
   simp only[acR.weights,hT,List.mem_cons,aaS]
   exact .inr (.inl (qM (aay.2 ⟨i,aeg.2 hlt,rfl⟩) n hn))))
  exact⟨e,hc,hg⟩)
 have hL:((ac9 len).map B).length=len:=ai;refine⟨⟨some a,(ac9 len).map B,q⟩,by simp[qB.v],⟨?_,?_,by rw[hL];exact hl,hcm⟩,?_⟩;rcases Nat.eq_zero_or_pos len with h0|h0;exact .inl (by simp[h0]);have hcell:∀i,i<len->∀j u,(cs (B i))[j]?=some u->W.cell? ((a.add (i*m)).add j)=some u:=λi hlt j u hu=>by
  obtain⟨_,hl2,hat⟩:=acL.cells?_some (hB i hlt).1;have hj:j<m:=by
   have:=(aaB.1 hu).1;rw[h.len]at this;exact this
  rw[hat j hj];exact hu
 have h00:=hcell 0 h0 0 ((cs (B 0))[0]'(by rw[h.len];exact hm)) (aaj _);have hsp:a.spot=none:=by
  cases hh:a.spot with
  |none=>rfl
  |some q=>exact absurd (acL.cell?_spot h00) (by simp[acM.add,hh])
 obtain⟨b',o',s'⟩:=a;dsimp only at hsp;subst hsp;refine .inr ⟨b',o',rfl,?_,λi hlt j u hu=>?_⟩;have:=lU h00;simpa[acM.add] using this;have hlt':i<len:=by simpa using hlt
 have hg:((ac9 len).map B).getD i default=B i:=by simp[afh,hlt']
 rw[hg]at hu;have:=hcell i hlt' j u hu;rw[add_plain,add_plain]at this;exact this;intro e he;obtain⟨i,hi',rfl⟩:=aay.1 he;exact(hB i (aeg.1 hi')).2;rw[hL];have:=hw ((((ac9 len).map D).length+((ac9 (q-len)).map λj=>D (len+j)).length)*P.bytesOf t) (by simp[acR.weights,hT]);rw[hb]at this;simp only[abT,List.length_range]at this;exact abX (Nat.mul_le_mul_right _ aa) this
variable{T:acO}{E0 E1 E2 E3 E4 E5 E6:Type}
 {g0:E0->Prop} {g1:E1->Prop} {g2:E2->Prop} {g3:E3->Prop} {g4:E4->Prop} {g5:E5->Prop} {g6:E6->Prop}
def field_opens {fs:Array Field}(hS:P.underlying T=some (.struct fs)){n:Nat}{c:List acK}{ys:List (acR H×List MemPlace)}{j aF:Nat}{f:Field}{cs:E->List acK}{good:E->Prop}
  (hf:fs[j]?=some f) (hl:ys.length=fs.size)
  (hg:∀(i:Nat) (f:Field),fs[i]?=some f->acR.trod enc P W 0 (λ_=>true) true n f.type ((c.drop f.offset).take (P.cellsOf f.type))=ys[i]?)
  (hw:∀n∈(acR.agg (ys.map (·.1))).weights P T,n<=reachBytes)
  (h:eZ enc P W f.type m cs good) (ho:f.offset=aF):∃e,(c.drop aF).take m=cs e/\good e:=by
 have ht:=hg j f hf;have hj:j<ys.length:=by rw[hl];exact(aaz.1 hf).1
 have hy:ys[j]?=some ys[j]:=aaj hj;rw[hy,ho,h.size]at ht;exact h.elem _ _ _ ht (λn hn=>hw n (by
  simp only[acR.weights,hS]
  exact acR.weights_mem_each (j:=j) (by simp[hf]) (by simp[hy]) n hn))
end
section
variable{H:Type}{enc:acO×acK->H}{P:Program}{W:acL}
variable{T:acO}{f0 f1 f2 f3 f4:Field}{m0 m1 m2 m3 m4:Nat}{E0 E1 E2 E3 E4:Type}{c0:E0->List acK}{c1:E1->List acK}{c2:E2->List acK}{c3:E3->List acK}{c4:E4->List acK}
 {g0:E0->Prop} {g1:E1->Prop} {g2:E2->Prop} {g3:E3->Prop} {g4:E4->Prop}
def aak {α:Type}{c:List α}{a b d e f:Nat}(h:c.length=a+b+d+e+f):c=(c.drop 0).take a++((c.drop a).take b++((c.drop (a+b)).take d++((c.drop (a+b+d)).take e++(c.drop (a+b+d+e)).take f))):=by
 rw[List.drop_zero];have h1:(c.drop (a+b+d+e)).take f=c.drop (a+b+d+e):=ac0 (by rw[adt];omega);rw[h1,<-List.drop_drop (i:=e),aa7,<-List.drop_drop (i:=d),aa7,<-List.drop_drop (i:=b),aa7,aa7]
def eZ.agT (hS:P.underlying T=some (.struct #[f0,f1,f2,f3,f4]))(hC:P.cellsOf T=m0+m1+m2+m3+m4)(h0:eZ enc P W f0.type m0 c0 g0)(o0:f0.offset=0)(h1:eZ enc P W f1.type m1 c1 g1)(o1:f1.offset=m0)
  (h2:eZ enc P W f2.type m2 c2 g2) (o2:f2.offset=m0+m1) (h3:eZ enc P W f3.type m3 c3 g3) (o3:f3.offset=m0+m1+m2) (h4:eZ enc P W f4.type m4 c4 g4) (o4:f4.offset=m0+m1+m2+m3) :
  eZ enc P W T (m0+m1+m2+m3+m4) (λe:E0×E1×E2×E3×E4=>c0 e.1++(c1 e.2.1++(c2 e.2.2.1++(c3 e.2.2.2.1++c4 e.2.2.2.2)))) (λe=>g0 e.1/\g1 e.2.1/\g2 e.2.2.1/\g3 e.2.2.2.1/\g4 e.2.2.2.2):=by
 refine⟨hC,λe=>by simp[h0.len,h1.len,h2.len,h3.len,h4.len,Nat.add_assoc],λfuel c x hx hw=>?_⟩;obtain⟨xs,n,_,rfl,hl,hlen,hf⟩:=acR.trod_struct hS hx;obtain⟨e0,p0,q0⟩:=field_opens (W:=W) (j:=0) hS (c:=c) (f:=f0) rfl (by simpa using hlen) hf hw h0 o0;obtain⟨e1,p1,q1⟩:=field_opens (W:=W) (j:=1) hS (c:=c) (f:=f1) rfl (by simpa using hlen) hf hw h1 o1;obtain⟨e2,p2,q2⟩:=field_opens (W:=W) (j:=2) hS (c:=c) (f:=f2) rfl (by simpa using hlen) hf hw h2 o2;obtain⟨e3,p3,q3⟩:=field_opens (W:=W) (j:=3) hS (c:=c) (f:=f3) rfl (by simpa using hlen) hf hw h3 o3;obtain⟨e4,p4,q4⟩:=field_opens (W:=W) (j:=4) hS (c:=c) (f:=f4) rfl (by simpa using hlen) hf hw h4 o4
 refine⟨(e0,e1,e2,e3,e4),?_,q0,q1,q2,q3,q4⟩;dsimp only;rw[<-p0,<-p1,<-p2,<-p3,<-p4];exact aak (by rw[hl,hC])
end
namespace lw
open ChangeShapes WideShapes ChangeAt RowKit Deep
structure eQ where
 aL:Int
 file:Int
 aF:Int
 n:Int
 ba:Option acM
 b:List Nat
 bc:Nat
instance:Inhabited eQ:=⟨⟨0,0,0,0,none,[],0⟩⟩
abbrev eQ.cs (o:eQ):List acK:=[vi o.aL,vi o.file,vi o.aF,vi o.n,aco o.ba o.b.length o.bc]
def I64 (n:Int):Prop:= -9223372036854775808<=n/\n<=9223372036854775807
structure eQ.ok (o:eQ)(aA:Nat)(w:acL):Prop where
 row:dx aA w o.ba o.b
 len:o.b.length<=o.bc
 cap:o.bc<=maxLen
 most:o.b.length<=140737488355328
 nums:I64 o.aL/\I64 o.file/\I64 o.aF/\I64 o.n
structure fe (aA:Nat)(w:acL)(a:Option acM)(l:List eQ):Prop where
 at_:l=[]\/∃b o,a=some ⟨b,o,none⟩/\b<aA/\∀i,i<l.length->∀j u,(l.getD i default).cs[j]?=some u->w.cell? ⟨b,o+i*5+j,none⟩=some u
 good:∀o∈l,o.ok aA w
 len:l.length<=140737488355328
variable{aA:Nat}{w w':acL}{F:Nat->Prop}
def eQ.ok.aJ {o:eQ}(h:o.ok aA w)(q:aP F w w')(hF:∀k,F k->Loose aA w k):o.ok aA w':=⟨dx.fD h.row q hF,h.len,h.cap,h.most,h.nums⟩
variable{a:Option acM}{l:List eQ}
def fe.aJ (h:fe aA w a l)(q:aP F w w')(hF:∀k,F k->Loose aA w k):fe aA w' a l:=by
 refine⟨?_,λo ho=>(h.good o ho).aJ q hF,h.len⟩;rcases h.at_ with h0|⟨b,o,rfl,hb,hc⟩;exact ack h0;exact acm ⟨b,o,rfl,hb,λi hi j u hu=>q.cell (hc i hi j u hu) (λe=>by have:=(hF b e).1;omega)⟩
def eQ.ok.old {o:eQ}(h:o.ok aA w)(q:acN w.heap.size w w'):o.ok aA w':=h.aJ (F:=λ_=>False) (aP.of_below q) (λ_ e=>e.elim)
def fe.old (h:fe aA w a l)(q:acN w.heap.size w w'):fe aA w' a l:=h.aJ (F:=λ_=>False) (aP.of_below q) (λ_ e=>e.elim)
section
variable{H:Type}{enc:acO×acK->H}{W:acL}
def xE:eZ enc prog W 3 1 (λn:Int=>[vi n]) I64:=eZ.int underlying3 ah
def Ko:eZ enc prog W 5 1 (λn:Nat=>[vb n]) (λn=>n<256):=eZ.byte underlying5 ah
def Fq (W:acL)(m:Nat){E:Type}[Inhabited E](cs:E->List acK)(good:E->Prop)(bytes:Nat)(r:qB E):Prop:=Rb W m cs good r/\r.l.length*bytes<=reachBytes
def yH:eZ enc prog W 23 1 (λr:qB Nat=>[r.v]) (Fq W 1 (λn:Nat=>[vb n]) (λn=>n<256) 1):=eZ.row Ko ag underlying23 ah (bytes:=1) ah
def ML {good:Nat->Prop}{r:qB Nat}(h:Rb W 1 (λn:Nat=>[vb n]) good r)(hs:∀x∈r.l,x<256):dx W.heap.size W r.a r.l:=by
 rcases h.at_ with h0|⟨b,o,ha,hb,hc⟩;rw[h0];exact dx.nil _ _ _;refine⟨⟨hs,acm ⟨b,o,ha,λi hi=>?_⟩⟩,acm ⟨b,o,ha,ack hb⟩⟩;have:=hc i hi 0 (vb (r.l.getD i default)) rfl;simpa using this
def yI:∃f0 f1 f2 f3 f4:Field,prog.underlying 48=some (.struct #[f0,f1,f2,f3,f4])/\(f0.type=3/\f0.offset=0)/\(f1.type=3/\f1.offset=1)/\(prog.underlying f2.type=some (.int .i64)/\prog.cellsOf f2.type=1/\f2.offset=2)/\(f3.type=3/\f3.offset=3)/\(f4.type=23/\f4.offset=4) :=
 ⟨_,_,_,_,_,underlying48,⟨rfl,rfl⟩,⟨rfl,rfl⟩,⟨ah,ah,rfl⟩,⟨rfl,rfl⟩,⟨rfl,rfl⟩⟩
def AY:eZ enc prog W 48 5 (λo:eQ=>o.cs) (λo=>o.ok W.heap.size W):=by
 obtain⟨f0,f1,f2,f3,f4,hs,t0,t1,t2,t3,t4⟩:=yI;have h:=eZ.agT (enc:=enc) (P:=prog) (W:=W) (T:=48) hs ah (by rw[t0.1];exact xE) t0.2 (by rw[t1.1];exact xE) t1.2 (eZ.int t2.1 t2.2.1) t2.2.2 (by rw[t3.1];exact xE) t3.2 (by rw[t4.1];exact yH) t4.2;refine h.map (λe=>⟨e.1,e.2.1,e.2.2.1,e.2.2.2.1,e.2.2.2.2.a,e.2.2.2.2.l,e.2.2.2.2.c⟩) (λ_=>rfl) (λ_=>rfl) ?_;rintro⟨x,y,z,u,r⟩ ⟨h0,h1,h2,h3,hr,hl⟩;have:=Aa;dsimp only at hl hr ⊢;exact⟨ML hr hr.good,hr.len,hr.cap,by show r.l.length<=_;omega,h0,h1,h2,h3⟩
def Io:eZ enc prog W 22 1 (λr:qB eQ=>[r.v]) (Fq W 5 (λo:eQ=>o.cs) (λo=>o.ok W.heap.size W) 56):=eZ.row AY ag underlying22 ah (bytes:=56) ah
def Sg {r:qB eQ}(h:Fq W 5 (λo:eQ=>o.cs) (λo=>o.ok W.heap.size W) 56 r):fe W.heap.size W r.a r.l:=by
 obtain⟨h,hl⟩:=h;have:=Aa;refine⟨?_,h.good,aa⟩;rcases h.at_ with h0|⟨b,o,ha,hb,hc⟩;exact ack h0;exact acm ⟨b,o,ha,hb,λi hi j u hu=>hc i hi j u hu⟩
variable{r:Reach}{n:Nat}{v:acK}{d:acR H}{p:List MemPlace}
def Si (h:acR.Trod enc prog W 0 (λ_=>true) true 48 v d p)(hv:acK.okWide prog W r n 48 v)(hw:∀n∈d.weights prog 48,n<=reachBytes):∃o:eQ,v=.agg o.cs.toArray/\o.ok W.heap.size W:=by
 obtain⟨f0,f1,f2,f3,f4,hs,_⟩:=yI;obtain⟨cs,rfl,_⟩:=okWide_struct hs hv;obtain⟨fuel,hf⟩:=h;obtain⟨o,he,ho⟩:=AY.elem _ _ _ hf hw;refine⟨o,?_,ho⟩;have:cs.toList=o.cs:=he;rw[<-Array.toArray_toList (xs:=cs),this]
def sN (h:acR.Trod enc prog W 0 (λ_=>true) true 22 v d p)(hv:acK.okWide prog W r n 22 v)(hw:∀n∈d.weights prog 22,n<=reachBytes):∃(x:qB eQ),v=x.v/\fe W.heap.size W x.a x.l:=by
 obtain⟨a,len,cap,rfl⟩:=okWide_slice underlying22 hv;obtain⟨fuel,hf⟩:=h;obtain⟨x,he,hx⟩:=Io.elem _ _ _ hf hw;refine⟨x,?_,Sg hx⟩;simpa[acK.cells] using he
end
def Sj (k n:Int)(hn:0<n):(0<=k.tmod n->k.tmod n=k%n)/\(k.tmod n<0->k.tmod n+n=k%n)/\ -n<k.tmod n/\k.tmod n<n:=by
 have h1:=Int.lt_tmod_of_pos k hn;have h2:=Int.tmod_lt_of_pos k hn;have h3:(k.tmod n)%n=k%n:=by rw[Int.tmod_def,Int.sub_mul_emod_self_left]
 refine⟨λh=>?_,λh=>?_,h1,h2⟩;rw[<-h3,Int.emod_eq_of_lt h h2];have h4:(k.tmod n+n)%n=k%n:=by rw[Int.add_emod_right,h3]
 rw[<-h4,Int.emod_eq_of_lt aa aa]
def mf (k n:Int)(w:acL)(hn:1<=n)(hn':n<=4096) :
  ac4 prog 16 #[vi k,vi n] w λe w'=>e=ab4 (vi (k%n))/\w'=w:=by
 obtain⟨h1,h2,h3,h4⟩:=Sj k n aa;have H1:=az h1;have H2:=az h2;clear h1 h2;have n1:¬n<1:=aa;have w1:adk.wrap (k.tmod n)=k.tmod n:=adl _ aa;have w2:adk.wrap (k.tmod n+n)=k.tmod n+n:=adl _ aa;go_in;by_cases h0:0<=k.tmod n
 ·have h0':¬k.tmod n<0:=aa;go_wp2;go_ret;exact⟨bS (H1.o h0),rfl⟩
 have h0':k.tmod n<0:=aa;go_wp2;go_ret;exact⟨bS (H2.o h0'),rfl⟩
def file3 (k:Int):Nat:=(k%3).toNat
def file3_lt (k:Int):file3 k<3/\k%3=(file3 k:Int):=by unfold file3;omega
def owt:List eQ->Nat
 |[]=>0
 |o::l=>40+o.b.length+owt l
def AZ:∀(l m:List eQ),owt (l++m)=owt l+owt m
 |[],m=>by simp[owt]
 |f::l,m=>by simp only[List.cons_append,owt,AZ l m];omega
def Sk {i:Nat}(h:i<l.length):owt (l.take (i+1))=owt (l.take i)+(40+(l.getD i default).b.length):=by
 rw[List.take_succ_eq_append_getElem h,AZ,aah,aaj h];simp[owt]
def Fu:∀(l:List eQ),40*l.length<=owt l
 |[]=>ai
 |o::l=>by simp only[List.length_cons,owt];have:=Fu l;omega
def fe.lookup (h:fe aA w a l){i:Nat}(hi:i<l.length):∃b o,a=some ⟨b,o,none⟩/\b<aA/\(∀j u,(l.getD i default).cs[j]?=some u->w.cell? ⟨b,o+i*5+j,none⟩=some u)/\(l.getD i default).ok aA w:=by
 rcases h.at_ with rfl|⟨b,o,rfl,hb,h1⟩;simp at hi;refine⟨b,o,rfl,hb,h1 i hi,h.good _ ?_⟩;have:l.getD i default=l[i]:=by simp[afh,hi]
 rw[this];exact aff hi
def Y8 (l:List eQ)(w:acL)(e:Ending)(w':acL):Prop:=∃t,e=ab4 (acg t)/\w'=w/\(t=false->owt l<=20000)
def ru (c:Nat)(h:fe aA w a l):ac4 prog 9 #[aco a l.length c] w (Y8 l w):=by
 have HR:=az h;have hll:=h.len;clear h;go_in;go_wp2_with fail;go_loopw [3,4] (λn i wr=>∃(k N:Nat),n=vi N/\i=vi k/\k<=l.length/\N<=140737488375400/\wr=w/\Hid (N=owt (l.take k))) (λ_ i _=>l.length-(intOf i).toNat)
 case atStart=>exact⟨0,0,rfl,rfl,aaW _,aaW _,rfl,az (by rw[List.take_zero];rfl)⟩
 case round =>
  obtain⟨k,N,rfl,rfl,hk,hN,rfl,hw⟩:=hrel;by_cases h1:k<l.length
  ·by_cases h2:N<=20000
   ·have n1:(k:Int)<(l.length:Int):=aa;have n2:(N:Int)<=20000:=aa;obtain⟨b,o,rfl,hb,hc,hok⟩:=HR.o.lookup h1;have HW:=az (Sk h1);have hm:=hok.most;have c4:wr.cell? ⟨b,o+k*5+4,none⟩=some (aco (l.getD k default).ba (l.getD k default).b.length (l.getD k default).bc):=hc 4 _ rfl;obtain⟨L,hL⟩:∃L,(l.getD k default).b.length=L:=⟨_,rfl⟩;rw[hL]at c4 HW hm;generalize (l.getD k default).ba=ba at*;generalize (l.getD k default).bc=bc at*;obtain⟨N2,hN2⟩:∃m,m=N+40:=⟨_,rfl⟩;obtain⟨N3,hN3⟩:∃m,m=N2+L:=⟨_,rfl⟩;have r1:adk.wrap ((N:Int)+40)=(N2:Int):=by rw[adl _ aa];omega
    have r2:adk.wrap ((N2:Int)+(L:Int))=(N3:Int):=by rw[adl _ aa];omega
    have Y9:Hid (N3=N+(40+L)):=az aa;have r3:adk.wrap ((k:Int)+1)=((k+1:Nat):Int):=by rw[adl _ aa];omega
    have jU:=az h1;have GK:Hid (N3<=140737488375400):=az aa;clear hb hc hok hL h1 hk hN h2 hm hll hN2 hN3;go_wp2;go_roundw
    case rel=>exact⟨k+1,N3,by first|rfl|trivial|go_num|(congr 1;omega),by first|rfl|trivial|go_num|(congr 1;omega),jU.o,GK.o,by first|rfl|trivial,az (by rw[HW.o,<-hw.o,Y9.o])⟩
    case measure=>have:=jU.o;simp[intOf];omega
   have n1:(k:Int)<(l.length:Int):=aa;have n2:¬(N:Int)<=20000:=aa;have n3:(20000:Int)<(N:Int):=aa;go_wp2;go_ret;exact⟨true,rfl,rfl,λe=>by cases e⟩
  have n1:¬(k:Int)<(l.length:Int):=aa;have hkl:k=l.length:=aa;have hw2:N=owt l:=by have:=hw.o;rw[hkl,List.take_length]at this;exact this
  by_cases h2:N<=20000
  ·have n3:¬(20000:Int)<(N:Int):=aa;have Kq:Hid (owt l<=20000):=az aa;clear hw2 hkl h2;go_wp2;go_ret;exact⟨false,rfl,rfl,λ_=>Kq.o⟩
  have n3:(20000:Int)<(N:Int):=aa;clear hw2 hkl h2;go_wp2;go_ret;exact⟨true,rfl,rfl,λe=>by cases e⟩
end lw
namespace po
open pl
def Nk (is:Nat->PI.bF)(j:Nat)(i i':PI.bF):bW (bW is j i) j i'=bW is j i':=by
 funext j';unfold bW;by_cases e:j'=j;rw[if_pos e,if_pos e];rw[if_neg e,if_neg e,if_neg e]
def KW (z:Nat->Bool)(aF ed n:Nat):Bool:=z n||(decide (aF/64<=n)&&decide (n<(ed+63)/64))
structure BS (p0:Po)(is:Nat->PI.bF)(j aF:Nat)(l:List Nat)(o:Nat)(p:Po)(i:PI.bF):Prop where
 fam:o6 p (bW is j i)
 gG:∀n,p.gG i n=(p0.gG (is j) n||(decide (aF<o)&&decide (aF/64<=n)&&decide (64*n<o)))
 byte:∀x,p.byte i x=if aF<=x/\x<o then l.getD (x-aF) 0 else p0.byte (is j) x
 at_:∀j' m,j'≠j->p.at_ (is j') m=p0.at_ (is j') m
 cont:∀j' m,j'≠j->p.cont (is j') m=p0.cont (is j') m
 tab:∀x:Nat,x<=p0.T->p.get x=p0.get x
 vC:p.T=p0.T/\p.P=p0.P/\p.I=p0.I/\(p.B,p.G)=(p0.B,p0.G)
 ino:i.aL=(is j).aL/\i.links=(is j).links/\i.size=(is j).size
 aK:(aH (KW (p0.gG (is j)) aF (aF+l.length)):Int)-aH (p.gG i)<=p.aK
variable{is:Nat->PI.bF}
def BS.start {p:Po}(h:o6 p is)(j aF:Nat)(l:List Nat)(hr:(aH (KW (p.gG (is j)) aF (aF+l.length)):Int)-aH (p.gG (is j))<=p.aK):BS p is j aF l aF p (is j):=by
 refine⟨by rw[oK];exact h,λn=>?_,λx=>?_,λ_ _ _=>rfl,λ_ _ _=>rfl,λ_ _=>rfl,⟨rfl,rfl,rfl,rfl⟩,⟨rfl,rfl,rfl⟩,hr⟩;rw[show decide (aF<aF)=false by simp];simp;rw[if_neg aa]
def rU (c:List Nat)(a k:Nat)(l:List Nat):List Nat:=c.take a++l.take k++c.drop (a+k)
variable{l:List Nat}{a k:Nat}
def Ev {c:List Nat}(hc:c.length=64)(ha:a+k<=64)(hk:k<=l.length):(rU c a k l).length=64:=by
 unfold rU;rw[acZ,acZ,acX,acX,adt];omega
def yT {c:List Nat}(hc:∀y∈c,y<256)(hl:∀y∈l,y<256):∀y∈rU c a k l,y<256:=by
 intro y hy;unfold rU at hy;rcases aaS.1 hy with hy|hy;rcases aaS.1 hy with hy|hy;exact hc y (afp hy);exact hl y (afp hy);exact hc y (ail hy)
def Pp {c:List Nat}(hc:c.length=64)(ha:a+k<=64)(hk:k<=l.length)(x:Nat):(rU c a k l).getD x 0=if a<=x/\x<a+k then l.getD (x-a) 0 else c.getD x 0:=by
 unfold rU;simp only[aah];by_cases h1:x<a;rw[if_neg aa,adM,aa9 (by rw[acX];omega),ae9,if_pos h1];by_cases h2:x<a+k;rw[if_pos aa,adM,ae1 (by rw[acX];omega),aa9 (by rw[acX,acX];omega),ae9,if_pos (by rw[acX];omega),acX,Nat.min_eq_left aa];rw[if_neg aa,ae1 (by rw[acZ,acX,acX];omega),afb,acZ,acX,acX]
 congr 2;omega
def sW (p:Po)(i:PI.bF)(n:Nat):p.gG i n=true↔p.at_ i n≠0:=by
 unfold Po.gG;rw[decide_eq_true_iff]
variable{j o:Nat}{i:PI.bF}
def BS.step {p0 p:Po}{aF:Nat}(W:BS p0 is j aF l o p i)(h1:aF<=o)(h2:o<aF+l.length)(h3:aF+l.length<=67968)(hs:∀y∈l,y<256)
  {k:Nat} (hk:k=min (64-o%64) (aF+l.length-o)) :
  Nh p (bW is j i) j (o/64) (p.give i (o/64)).1 (p.give i (o/64)).2/\((p.give i (o/64)).1.cont (p.give i (o/64)).2 (o/64)).length=64/\(∀y∈(p.give i (o/64)).1.cont (p.give i (o/64)).2 (o/64),y<256) /\
   BS p0 is j aF l (o+k) ((p.give i (o/64)).1.put ((p.give i (o/64)).1.at_ (p.give i (o/64)).2 (o/64):Nat) (rU ((p.give i (o/64)).1.cont (p.give i (o/64)).2 (o/64)) (o%64) k (l.drop (o-aF)))) (p.give i (o/64)).2:=by
 obtain⟨n,hn⟩:∃n,n=o/64:=⟨_,rfl⟩;obtain⟨a,ha⟩:∃a,a=o%64:=⟨_,rfl⟩;rw[<-hn,<-ha];rw[<-ha]at hk;have hn2:n<1062:=aa;have hself:bW is j i j=i:=aS _ _ _;have hz:p.at_ i n=0->p.gG i n=false:=λe=>by
  have:=sW p i n;cases hzz:p.gG i n with
  |false=>rfl
  |true=>exact absurd e (this.1 hzz)
 have hwz:wants (p.slot (bW is j i j)) n=pR (p.gG i) n:=Xt (W.fam.full j) (λm _=>by rw[hself];exact sW p i m) hn2;have hstep:p.at_ i n=0->aH (λm=>p.gG i m||m==n)=aH (p.gG i)+1+pR (p.gG i) n:=λe=>yS hn2 (hz e) (λ_=>rfl);have hle:aH (λm=>p.gG i m||m==n)<=aH (KW (p0.gG (is j)) aF (aF+l.length)):=I8 λm hm=>by
  unfold KW;rw[ae5]at hm ⊢;rcases hm with hm|hm;rw[W.gG m,ae5]at hm;rcases hm with hm|hm;exact ack hm;refine acm ?_;simp only[ac8,decide_eq_true_eq]at hm ⊢;omega;refine acm ?_;have Zh:m=n:=by simpa using hm
  simp only[ac8,decide_eq_true_eq];omega
 have hroom:=W.aK;have G:=Po.Ub W.fam j n hn2 (λe=>by
  rw[hself]at e
  have:=hstep e
  rw[hwz]
  omega)
 rw[hself]at G;have hat:=G.at_;have hcl:((p.give i n).1.cont (p.give i n).2 n).length=64/\∀y∈(p.give i n).1.cont (p.give i n).2 n,y<256:=by
  unfold Po.cont;rw[if_neg hat];have hu:=G.fam.used (j:=j) (s:=.dat n) (by show (p.give i n).1.at_ (bW (bW is j i) j (p.give i n).2 j) n≠0;rw[aS];exact hat);have:=G.fam.row _ hu;have he:(p.give i n).1.slot (bW (bW is j i) j (p.give i n).2 j) (.dat n)=(p.give i n).1.at_ (p.give i n).2 n:=by rw[aS];rfl
  rw[he]at this;exact this
 have hcont:=G.cont j;rw[aS,hself]at hcont;refine⟨G,hcl.1,hcl.2,?_⟩;have hf:=G.fam;rw[Nk]at hf;generalize (p.give i n).1=p1 at*;generalize (p.give i n).2=i1 at*;have hs1:bW is j i1 j=i1:=aS _ _ _;have hrl:=Ev (a:=a) (k:=k) (l:=l.drop (o-aF)) hcl.1 aa (by rw[adt];omega);have hrs:=yT (a:=a) (k:=k) (l:=l.drop (o-aF)) hcl.2 (λy hy=>hs y (ail hy));have P:=Po.Ni hf j n (by rw[hs1];exact hat) (l:=rU (p1.cont i1 n) a k (l.drop (o-aF))) ⟨hrl,hrs⟩;rw[hs1]at P;have hrg:=λx=>Pp (c:=p1.cont i1 n) (l:=l.drop (o-aF)) (a:=a) (k:=k) hcl.1 aa (by rw[adt];omega) x
 generalize rU (p1.cont i1 n) a k (l.drop (o-aF))=row at*;generalize p1.put (p1.at_ i1 n:Nat) row=p2 at*;have hp2:=P.at_ j;rw[hs1]at hp2;have hc2:=P.cont;rw[hs1]at hc2;have ho2:=P.uh j;rw[hs1]at ho2;have hzz:∀m,p2.gG i1 m=(p.gG i m||m==n):=λm=>by
  rw[ae4,sW,hp2,ae5,sW];by_cases e:m=n;rw[e];exact⟨λ_=>acm ai,λ_=>hat⟩;rw[G.was m e,hself];exact⟨ack,λh=>by
   rcases h with h|h
   exact h
   exact absurd (by simpa using h) e⟩
 refine⟨P.fam,λm=>?_,λx=>?_,λj' m hj=>?_,λj' m hj=>?_,λx hx=>?_,?_,?_,?_⟩;rw[hzz,W.gG m,Bool.or_assoc];congr 1;rw[ae4];simp only[ae5,ac8,decide_eq_true_eq,beq_iff_eq];constructor;rintro (h|h)<;>omega;intro h;by_cases e:m=n;exact acm e;exact ack aa;by_cases e:x/64=n;have hb:p2.byte i1 x=row.getD (x%64) 0:=by
  unfold Po.byte;rw[e,hc2]
 have hb0:(p1.cont i1 n).getD (x%64) 0=p.byte i x:=by
  rw[hcont];unfold Po.byte;rw[e]
 rw[hb,hrg,hb0,W.byte];by_cases h4:a<=x%64/\x%64<a+k;rw[if_pos h4,if_pos aa];rw[aah,aah,afb];congr 2;omega;rw[if_neg h4];by_cases h5:aF<=x/\x<o;rw[if_pos h5,if_pos aa];rw[if_neg h5,if_neg aa];have hb:p2.byte i1 x=p.byte i x:=by
  unfold Po.byte;rw[ho2 _ (λh=>e h.2),hcont]
 rw[hb,W.byte];by_cases h5:aF<=x/\x<o;rw[if_pos h5,if_pos aa];rw[if_neg h5,if_neg aa];have h5:=P.at_ j' m;have h6:=G.uh j' m hj;rw[aV _ _ hj]at h5 h6;rw[h5,h6,W.at_ j' m hj];have h5:=P.uh j' m (λh=>hj h.1);have h6:=G.cont j' m;rw[aV _ _ hj]at h5;rw[aV _ _ hj,aV _ _ hj]at h6;rw[h5,h6,W.cont j' m hj];have e1:p.T=p0.T:=W.vC.1;rw[P.tab x (by rw[G.vC.1,e1];exact hx),G.tab x (by rw[e1];exact hx),W.tab x hx];obtain⟨a1,a2,a3,a4⟩:=W.vC;obtain⟨b1,b2,b3,b4⟩:=G.vC;obtain⟨c1,c2,c3,c4⟩:=P.vC;exact⟨c1.trans (b1.trans a1),c2.trans (b2.trans a2),c3.trans (b3.trans a3),c4.trans (b4.trans a4)⟩
 obtain⟨a1,a2,a3⟩:=W.ino;obtain⟨b1,b2,b3⟩:=G.ino;rw[hself]at b1 b2 b3;exact⟨b1.trans a1,b2.trans a2,b3.trans a3⟩;rw[P.aK];have hg:=G.aK;rw[hself]at hg hwz;rw[hwz]at hg;by_cases e:p.at_ i n=0;rw[if_pos e]at hg;have hs3:=hstep e;rw[show p2.gG i1=λm=>p.gG i m||m==n from funext hzz];omega;rw[if_neg e]at hg;have:p2.gG i1=p.gG i:=funext λm=>by
  rw[hzz];by_cases e2:m=n;rw[e2,(sW p i n).2 e];rfl;have:(m==n)=false:=by simp[e2]
  rw[this,Bool.or_false]
 rw[this];omega
open RowKit mgr ft ino nd
section
variable{aA:Nat}{w w' w'':acL}{q:Nat}{p p' p'':Po}{K K' K'':Nat->Prop}{f r:Nat}{i:PI.bF}{Cr:Array acK}{wr:acL}
structure zA (aA:Nat)(w:acL)(q:Nat)(K:Nat->Prop)(f r:Nat)(i:PI.bF)(Cr:Array acK)(wr:acL)(K':Nat->Prop)(p':Po):Prop where
 go:bG aA w q K wr K' p'
 file:aD wr f 74 (fileC q i)
 res:aD wr r 29 Cr
 nf:¬K' f
 nr:¬K' r
 low:w.heap.size<=f/\w.heap.size<=r
def zA.old (S:zA aA w q K f r i Cr wr K' p')(hb:acN wr.heap.size wr w''):zA aA w q K f r i Cr w'' K' p':=⟨S.go.old hb,S.file.old hb,S.res.old hb,S.nf,S.nr,S.low⟩
def zA.on (S:zA aA w q K f r i Cr wr K' p')(g:bG aA wr q K' w'' K'' p''):zA aA w q K f r i Cr w'' K'' p'' :=
 ⟨S.go.trans g,(g.keep S.file S.nf).1,(g.keep S.res S.nr).1,(g.keep S.file S.nf).2,(g.keep S.res S.nr).2,S.low⟩
def zA.ne (S:zA aA w q K f r i Cr wr K' p'):r≠f:=by
 intro e;subst e;have hb:∃t:acO,t=74/\aD wr r t (fileC q i):=⟨_,rfl,S.file⟩;obtain⟨t,ht,hb⟩:=hb;have:=bY S.res hb;rw[ht]at this;exact absurd this ag
variable{i':PI.bF}
def zA.gg (S:zA aA w q K f r i Cr wr K' p')(g:IX aA wr q f K' w'' K'' p'' i'):zA aA w q K f r i' Cr w'' K'' p'' :=
 ⟨S.go.gg g S.low.1,g.file,(g.keep S.res S.nr S.ne).1,g.ng,(g.keep S.res S.nr S.ne).2,S.low⟩
def zA.cO {Cr':Array acK}(S:zA aA w q K f r i Cr wr K' p')(h0:PQ aA w q K p)(hc:aP (λn=>n=r) wr w'')(hf:aD w'' r 29 Cr'):zA aA w q K f r i Cr' w'' K' p' :=
 ⟨bG.jg S.go h0 S.res S.low.2 S.nr hc,S.file.aJ hc (λe=>S.ne e.symm),hf,S.nf,S.nr,S.low⟩
def zA.ad7 (S:zA aA w q K f r i Cr wr K' p')(h0:PQ aA w q K p)(hc:aP (λn=>n=f) wr w'')(hf:aD w'' f 74 (fileC q i')):zA aA w q K f r i' Cr w'' K' p' :=
 ⟨bG.jg S.go h0 S.file S.low.1 S.nf hc,hf,S.res.aJ hc (λe=>S.ne e),S.nf,S.nr,S.low⟩
def mU (aA:Nat)(w:acL)(q:Nat)(K:Nat->Prop)(p:Po)(is:Nat->PI.bF)(j aF:Nat)(l:List Nat)(e:Ending)(w':acL):Prop :=
 if p.aK<(aH (KW (p.gG (is j)) aF (aF+l.length)):Int)-aH (p.gG (is j)) then e=ab4 (adg #[dS PI.none_,vi 67])/\∃K',bM aA w q K w' K' p
 else ∃K' p' i',e=ab4 (adg #[dS {i' with size:=max (is j).size (aF+l.length)},vi 0])/\bG aA w q K w' K' p'/\BS p is j aF l (aF+l.length) p' i'
def mU.space {aF:Nat}(h:p.aK<(aH (KW (p.gG (is j)) aF (aF+l.length)):Int)-aH (p.gG (is j)))(hr:bM aA w q K w' K' p):mU aA w q K p is j aF l (ab4 (adg #[.agg Te,vi 67])) w':=by
 unfold mU;rw[if_pos h];exact⟨rfl,K',hr⟩
def mU.done {aF:Nat}(h:¬p.aK<(aH (KW (p.gG (is j)) aF (aF+l.length)):Int)-aH (p.gG (is j)))(hr:bG aA w q K w' K' p')(hW:BS p is j aF l (aF+l.length) p' i') :
  mU aA w q K p is j aF l (ab4 (adg #[dS {i' with size:=max (is j).size (aF+l.length)},vi 0])) w':=by
 unfold mU;rw[if_neg h];exact⟨K',p',i',rfl,hr,hW⟩
def aij (aA:Nat)(w:acL)(q:Nat)(K:Nat->Prop)(p0:Po)(is:Nat->PI.bF)(j aF:Nat)(l:List Nat)(f r b0 o0 c:Nat)(v2 v3:acK)(wr:acL):Prop :=
 ∃o K' p i,v2=vi (o:Nat)/\aF<=o/\o<=aF+l.length/\(o<aF+l.length->v3=aco (some ⟨b0,o0+(o-aF),none⟩) (aF+l.length-o) (c-(o-aF)))/\Hid (zA aA w q K f r i Te wr K' p)/\Hid (BS p0 is j aF l o p i)
variable{d:Nat}
def aa4 {cont:List Nat}(hk:k=min (64-a) (l.length-d)):cont.take a++(l.drop d).take (64-a)++cont.drop (a+min (l.drop d).length (64-a))=rU cont a k (l.drop d):=by
 unfold rU;rw[adt,show min (l.length-d) (64-a)=k by omega];congr 2;by_cases h:64-a<=l.length-d;rw[show k=64-a by omega];rw[ac0 (by rw[adt];omega),ac0 (by rw[adt];omega)]
def gD.dr {w0 W:acL}(h:gD k w0 W):gD k w0 W.drew:=gD.old h au
variable{ed:Nat}
def Xu {aF:Nat}(h:ed<=67968)(h2:aF<=ed):∃xo e64 e63 yo:Nat,(aF:Int).tdiv 64=(xo:Int)/\(aF:Int)/64=(xo:Int)/\wrap64 (xo:Int)=(xo:Int)/\adk.wrap (xo:Int)=(xo:Int) /\
  adk.wrap ((ed:Int)+64)=(e64:Int)/\adk.wrap ((e64:Int)-1)=(e63:Int)/\(e63:Int).tdiv 64=(yo:Int)/\(e63:Int)/64=(yo:Int)/\wrap64 (yo:Int)=(yo:Int)/\adk.wrap (yo:Int)=(yo:Int) /\
  (xo=aF/64/\yo=(ed+63)/64/\xo<=yo/\yo<=1062):=by
 refine⟨aF/64,ed+64,ed+63,(ed+63)/64,?_,aa,IntWalk.wrap64_in _ aa,adl _ aa,?_,?_,?_,aa,IntWalk.wrap64_in _ aa,adl _ aa,rfl,rfl,aa,aa⟩;rw[ae3 aa];omega;rw[adl _ aa];omega;rw[adl _ aa];omega;rw[ae3 aa];omega
def Ew {z z':Nat->Bool}(h:∀n,n<1062->z n=z' n):aH z=aH z':=by
 unfold aH;have h1:(ac9 1062).countP z=(ac9 1062).countP z':=bN λn hn=>h n hn
 have h2:iU z=iU z':=any_congr λk hk=>h _ aa
 have h3:∀a,a<32->dU z a=dU z' a:=λa ha=>any_congr λb hb=>h _ aa
 have h4:iC z=iC z':=any_congr λa ha=>h3 a ha
 have h5:(ac9 32).countP (dU z)=(ac9 32).countP (dU z'):=bN λa ha=>h3 a ha
 rw[h1,h2,h4,h5]
def kg (z:Nat->Bool):aH z<=1096:=by
 unfold aH;have h1:(ac9 1062).countP z<=1062:=abX List.countP_le_length ai;have h2:(ac9 32).countP (dU z)<=32:=abX List.countP_le_length ai;have h3:(iU z).toNat<=1:=by cases iU z<;>decide
 have h4:(iC z).toNat<=1:=by cases iC z<;>decide
 omega
def KX {L:List Nat}(hL:L=p.eO i)(W:acL)(a:Option acM)(c:Nat)(hr:jC W a (L.map λ(n:Nat)=>(n:Int)))(aF ed xo yo:Nat)(hx:xo=aF/64/\yo=(ed+63)/64/\xo<=yo/\yo<=1062) :
  ac4 prog 29 #[vi 64,aco a L.length c,vi xo,vi yo] W λe w'=>e=ab4 (adg #[vi ((aH (KW (p.gG i) aF ed):Int)-aH (p.gG i)),vi 0])/\acN W.heap.size W w':=by
 have hp:=p.rT i;have hl:=p.BQ i;have hmem:=p.mR i;rw[<-hL]at hp hl hmem;refine(TW a L c hr aa hp (λn hn=>((hmem n).1 hn).1) xo yo hx.2.2.1 hx.2.2.2).mono ?_;rintro e w' ⟨M,rfl,hp2,hm2,hb⟩;have e1:jk L=aH (p.gG i):=by rw[hL];exact p.Nj i
 have e2:jk M=aH (KW (p.gG i) aF ed):=by
  rw[I9 hp2 (λn hn=>by
   rcases (hm2 n).1 hn with h|h
   exact((hmem n).1 h).1
   omega)]
  exact Ew λn hn=>by
   rw[ae4,decide_eq_true_iff,hm2,hmem];unfold KW;rw[ae5,sW,ac8,decide_eq_true_iff,decide_eq_true_iff,<-hx.1,<-hx.2.1];exact⟨λh=>h.elim (λh=>ack h.2) acm,λh=>h.elim (λh=>ack ⟨hn,h⟩) acm⟩
 exact⟨by rw[e1,e2],hb⟩
def Zx (z:Nat->Bool)(aF ed:Nat):(aH (KW z aF ed):Int)<=3000/\(aH z:Int)<=3000:=by
 have h1:=kg (KW z aF ed);have h2:=kg z;omega
def Ue {aF:Nat}(h:o<ed)(h2:ed<=67968)(_h3:aF<=o):∃n a kk d:Nat,(o:Int).tdiv 64=(n:Int)/\(o:Int)/64=(n:Int)/\wrap64 (n:Int)=(n:Int)/\adk.wrap (n:Int)=(n:Int) /\
  (o:Int).tmod 64=(a:Int)/\(o:Int)%64=(a:Int)/\(0:Int)<=(a:Int)/\(a:Int)<=64 /\
  adk.wrap ((o:Int)+(kk:Int))=((o+kk:Nat):Int)/\(0:Int)<=(kk:Int)/\o-aF=d/\(kk:Int)<=((ed-o:Nat):Int)/\a<=64 /\
  (n=o/64/\a=o%64/\kk=min (64-a) (ed-o)/\d=o-aF/\n<1062/\0<kk/\a<64):=by
 refine⟨o/64,o%64,min (64-o%64) (ed-o),o-aF,?_,aa,IntWalk.wrap64_in _ aa,adl _ aa,?_,aa,aa,aa,?_,aa,rfl,aa,aa,rfl,rfl,rfl,rfl,aa,aa,aa⟩;rw[ae3 aa];omega;rw[afq aa];omega;rw[adl _ aa];omega
def Uf {aF:Nat}(h:aF+l.length=ed)(hd:d=o-aF)(ho:aF<=o):(l.drop d).length=ed-o:=by
 rw[adt];omega
def aa5 {aF:Nat}(h:aF+l.length=ed)(hd:d=o-aF)(ho:aF<=o)(hk:k=min (64-a) (ed-o)):k=min (64-a) (l.length-d):=by
 rw[hk,show ed-o=l.length-d by omega]
variable{n:Nat}
def ad8 (h:k=min (64-a) n):k=min n (64-a):=by rw[h,Nat.min_comm]
def ad9 (h:k=min (64-a) n)(ha:a<64):a+k<=64:=aa
def Ug (h:k=min (64-a) n):k<=n:=aa
def aea {c:Nat}(ha:a<64)(hc:64<=c):¬c=a:=aa
def Zy {aF:Nat}(h:aF+l.length=ed)(ho:o<ed)(hk:k=min (64-a) (ed-o)):o+k<=aF+l.length:=aa
def KY {b0 o0 c aF:Nat}(h:aF+l.length=ed)(hd:d=o-aF)(ho:aF<=o):acK.slice (some ⟨b0,o0+d+k,none⟩) (ed-o-k) (c-d-k)=aco (some ⟨b0,o0+(o+k-aF),none⟩) (aF+l.length-(o+k)) (c-(o+k-aF)):=by
 rw[show o0+d+k=o0+(o+k-aF) by omega,show ed-o-k=aF+l.length-(o+k) by omega,show c-d-k=c-(o+k-aF) by omega]
def Xv {c aF m:Nat}(h:aF+l.length=ed)(hd:d=o-aF)(ho:aF<=o)(hk:k=min (64-a) (ed-o))(hm:m=l.length)(hc:m<=c)(hcm:c-d=k):¬o+k<aF+l.length:=aa
def Xw (a b:Nat):max (a:Int) (b:Int)=((max a b:Nat):Int):=aa
def Nl (h:o<ed)(hk:0<k):ed-(intOf (vi ((o+k:Nat):Int))).toNat<ed-(intOf (vi (o:Int))).toNat:=by
 simp[intOf];omega
def oM (h:PQ aA w q K p)(is:Nat->PI.bF)(hF:o6 p is)(j aF:Nat)(l:List Nat)(b0 o0 c:Nat)(hr:dx aA w (some ⟨b0,o0,none⟩) l)(hc:l.length<=c)(hl:1<=l.length/\l.length<=1024)(hoff:aF+l.length<=67968) :
  ac4 prog 12 #[ptr q,dS (is j),vi aF,aco (some ⟨b0,o0,none⟩) l.length c] w (mU aA w q K p is j aF l):=by
 obtain⟨k,hk,hkk⟩:=h.iN;have Dj:=az hk;have jU:Hid (k<w.heap.size):=az (h.lt _ hkk);have H:=az h;have HR:=az hr;have hw:=hF.wf j;have HWF:=az hw;have qL:=az (ae7 (p.BR (is j)) (p.Nj (is j)));have HST:=az (λhroom=>BS.start hF j aF l hroom);have lX:=az hr.row.small;have HI6:=az (hF.six j);have Pq:=az (ae7 hl (ae7 hoff hc));clear hk hkk h hF hr hw;obtain⟨m,hm⟩:∃m,m=l.length:=⟨_,rfl⟩;obtain⟨ed,Zn⟩:∃e,e=aF+m:=⟨_,rfl⟩;have HM:=az hm;have O7:=az Zn;rw[<-hm];rw[<-hm]at hl hc hoff;have c1:¬(aF:Int)<0:=aa;have c2:¬(1024:Int)<(m:Int):=aa
 have c3:adk.wrap (67968-(m:Int))=67968-(m:Int):=adl _ aa;have c4:¬(67968-(m:Int)<(aF:Int)):=aa;have c5:¬(m:Int)=0:=aa;have c6:adk.wrap ((aF:Int)+(m:Int))=(ed:Int):=by rw[adl _ aa];omega
 generalize hii:is j=i at*;have yD:=az hii;clear hii;obtain⟨kd,ln,sz,dl,sg,db⟩:=i;obtain⟨d0,d1,d2,d3,d4,d5,hdl⟩:=six (l:=dl) HI6.o;subst hdl;simp only[dS,j4];clear hm Zn hl hc hoff;go_in;go_upto_region 1 with fail;refine ny λw1 HB1 lD HR1=>?_
 obtain⟨x,hx⟩:∃x,x=w.heap.size:=⟨_,rfl⟩;rw[<-hx]at lD HR1 ⊢;have Nn:=az hx;clear hx;have jS:Hid (∀W,gD k w W->ac4 prog 28 #[ptr q] W λe w'=>e=ab4 (vi 64)/\w'=W):=az (λW hb=>kR (H.o.OW Dj.o hb));have vz:Hid (gD k w w1):=az (gD.of_below HB1.o);go_wp2_with fail;refine(jS.o _ vz.o).mono ?_;rintro e w2 ⟨rfl,rfl⟩;go_wp2_with fail;refine kD.mono ?_;rintro e w3 ⟨rfl,rfl⟩;go_wp2_with fail;refine(jS.o _ vz.o).mono ?_;rintro e w4 ⟨rfl,rfl⟩;clear c1 c2 c3 c4 c5;obtain⟨xo,e64,e63,yo,A1,A2,A3,A4,B1,B2,B3,B4,B5,B6,hxy⟩:=Xu (aF:=aF) (ed:=ed) (by have h1:=Pq.o;have h2:=O7.o;have h3:=HM.o;omega) (by have h2:=O7.o;omega)
 have HXY:=az hxy;clear hxy;have Oe:Hid (∀W,gD k w W->ac4 prog 30 #[ptr q,.agg #[vi kd,vi ln,vi sz,vi d0,vi d1,vi d2,vi d3,vi d4,vi d5,vi sg,vi db]] W λe w'=>∃a c,e=ab4 (aco a (p.eO ⟨kd,ln,sz,[d0,d1,d2,d3,d4,d5],sg,db⟩).length c)/\jC w' a ((p.eO ⟨kd,ln,sz,[d0,d1,d2,d3,d4,d5],sg,db⟩).map λ(n:Nat)=>(n:Int))/\gD k W w'):=az (λW hb=>by
  refine(oI (H.o.OW Dj.o hb) (H.o.j6 Dj.o hb) _ HWF.o).mono ?_
  rintro e w' ⟨v,rfl,h1,h2⟩
  rw[qL.o.1]at h1
  obtain⟨a,c,hv,hr,_⟩:=h1.zy
  rw[abT]at hv
  exact⟨a,c,by rw[hv],hr,h2⟩)
 obtain⟨L,hL⟩:∃L,L=p.eO ⟨kd,ln,sz,[d0,d1,d2,d3,d4,d5],sg,db⟩:=⟨_,rfl⟩;rw[<-hL]at Oe;have Kj:=az hL;clear hL;have HMO:=az (λW a c hr=>KX (p:=p) (i:=⟨kd,ln,sz,[d0,d1,d2,d3,d4,d5],sg,db⟩) Kj.o W a c hr aF ed xo yo HXY.o);obtain⟨mo,hmo⟩:∃m:Int,m=(aH (KW (p.gG ⟨kd,ln,sz,[d0,d1,d2,d3,d4,d5],sg,db⟩) aF ed):Int)-aH (p.gG ⟨kd,ln,sz,[d0,d1,d2,d3,d4,d5],sg,db⟩):=⟨_,rfl⟩;rw[<-hmo]at HMO;have HMQ:=az hmo;clear hmo;generalize L.length=Ln at*;have nJ:=lD;clear lD;have HP4:Hid (gD k w4 w4):=az (gD.of_below ak);go_upto_region 11 with fail;go_region_held3 (λW=>(W.cell? ⟨x,0,none⟩=some (vi kd)/\W.cell? ⟨x,1,none⟩=some (vi ln)/\W.cell? ⟨x,2,none⟩=some (vi sz)/\W.cell? ⟨x,3,none⟩=some (vi d0)/\W.cell? ⟨x,4,none⟩=some (vi d1)/\W.cell? ⟨x,5,none⟩=some (vi d2)/\W.cell? ⟨x,6,none⟩=some (vi d3)/\W.cell? ⟨x,7,none⟩=some (vi d4)/\W.cell? ⟨x,8,none⟩=some (vi d5)/\W.cell? ⟨x,9,none⟩=some (vi sg)/\W.cell? ⟨x,10,none⟩=some (vi db)))
  (exact nT (by repeat (with_reducible first|exact nJ.o|exact xR.o|exact BU.o|(refine aD.drew ?_))))
  (first
   |(go_at_call 29;have hx5:=xR.o;refine(HMO.o _ _ _ (by repeat (with_reducible first | exact Uh.o | (refine ac1 ?_)))).mono ?_;rintro e w6 ⟨rfl,hb6⟩;have Ps:Hid (gD k w w6):=az (gD.old (by repeat (with_reducible first | exact Ex.o | (refine gD.dr ?_))) hb6);have HP6:Hid (gD k w4 w6):=az (gD.old (by repeat (with_reducible first | exact HP5.o | (refine gD.dr ?_))) hb6);have BU:Hid (aD w6 x 29 #[vi kd,vi ln,vi sz,vi d0,vi d1,vi d2,vi d3,vi d4,vi d5,vi sg,vi db]):=az (aD.old (by repeat (with_reducible first | exact xR.o | (refine aD.drew ?_))) hb6))
   |(go_at_call 30;refine(Oe.o _ (by repeat (with_reducible first | exact vz.o | (refine gD.dr ?_)))).mono ?_;rintro e w5 ⟨a5,c5,rfl,qJ,hq5⟩;have Uh:=az qJ;have Ex:Hid (gD k w w5):=az (gD.trans (by repeat (with_reducible first | exact vz.o | (refine gD.dr ?_))) hq5);have HP5:Hid (gD k w4 w5):=az (gD.trans (by repeat (with_reducible first | exact HP4.o | (refine gD.dr ?_))) hq5);have xR:Hid (aD w5 x 29 #[vi kd,vi ln,vi sz,vi d0,vi d1,vi d2,vi d3,vi d4,vi d5,vi sg,vi db]):=az (aD.aJ (cs:=#[vi kd,vi ln,vi sz,vi d0,vi d1,vi d2,vi d3,vi d4,vi d5,vi sg,vi db]) (by repeat (with_reducible first | exact nJ.o | (refine aD.drew ?_))) hq5.1 (λe=>by have h1:=jU.o;have h2:=Nn.o;omega)))
   |(go_at_call 28;refine(jS.o _ (by repeat (with_reducible first | exact vz.o | (refine gD.dr ?_)))).mono ?_;rintro e w9 ⟨rfl,rfl⟩))
 clear qJ hq5 A1 A2 A3 A4 B1 B2 B3 B4 B5 B6 xR nJ Uh Ex HMO Oe;have GM:Hid (aD w6 (x+1) 29 Te):=az (HR1.o.aJ HP6.o.1 (λe=>by have h1:=jU.o;have h2:=Nn.o;omega));have Ja:=az (fP (H.o.OW Dj.o Ps.o));obtain⟨rm,hrm⟩:∃rm,rm=p.aK:=⟨_,rfl⟩;rw[<-hrm]at Ja;have Zz:=az hrm;clear hrm;clear HR1 HP4 HP5;go_upto_region 12 with fail;have Wd:Hid (∀W,gD k w W->ac4 prog 21 #[ptr q] W λe w'=>e=ab4 (vi rm)/\acN W.heap.size W w'):=az (λW hb=>by rw[Zz.o];exact fP (H.o.OW Dj.o hb));clear Ja;by_cases hsp:rm<mo
 ·go_wp2_with fail;refine(Wd.o _ Ps.o).mono ?_;rintro e w7 ⟨rfl,tZ⟩;have HQ7:=az (Ps.o.old tZ);have BG:=az (BU.o.old tZ);have Bz:=az (GM.o.old tZ);have WQ:=az hsp;clear tZ BU GM Ps Wd;obtain⟨r,hrr⟩:∃r,r=x+1:=⟨_,rfl⟩;have HRR:=az hrr;rw[<-hrr]at Bz ⊢;clear hrr;obtain⟨z0,fz0,z1,fz1,z2,fz2,z3,fz3,z4,fz4,z5,fz5,z6,fz6,z7,fz7,z8,fz8,z9,fz9,Ui,fz10⟩:=pJ Bz.o;go_wp2_with fail;obtain⟨hf,hw⟩:=iA (vi 0) (vi 0) (vi 0) (vi 0) (vi 0) (vi 0) (vi 0) (vi 0) (vi 0) (vi 0) (vi 0) Bz.o;refine ac5 (bZ hf _ rfl rfl) rfl (mU.space ?_ (bM.pM H.o Dj.o (HQ7.o.far (hw.mono (λn _ e=>by have h1:=HRR.o;have h2:=Nn.o;omega)) jU.o)))
  rw[yD.o,<-HM.o,<-O7.o,<-HMQ.o,<-Zz.o];exact WQ.o
 go_wp2_with fail;refine(Wd.o _ Ps.o).mono ?_;rintro e w7 ⟨rfl,tZ⟩;have HQ7:=az (Ps.o.old tZ);have BG:=az (BU.o.old tZ);have Bz:=az (GM.o.old tZ);have WQ:=az hsp;clear tZ BU GM Ps Wd;obtain⟨x0,x1,x2,x3,x4,x5,x6,x7,x8,x9,JW⟩:=nT BG.o;go_wp2_with fail;clear x0 x1 x2 x3 x4 x5 x6 x7 x8 x9 JW;refine mD λw8 wX TG=>?_
 have Ei:=az (Bz.o.old wX.o);have We:=az (HQ7.o.old wX.o);have Dt:Hid (w.heap.size<=w7.heap.size/\w.heap.size<=x+1):=az ⟨HQ7.o.1.size,by have:=Nn.o;omega⟩;generalize w7.heap.size=f at*;generalize x+1=r at*;have mV:Hid (zA aA w q K f r (is j) Te w8 K p):=az ⟨(bM.pM H.o Dj.o We.o).go,by rw[yD.o];exact TG.o,Ei.o,λe=>by have h1:=H.o.lt _ e;have h2:=Dt.o;omega,λe=>by have h1:=H.o.lt _ e;have h2:=Dt.o;omega,Dt.o⟩;have CY:Hid (BS p is j aF l aF p (is j)):=az (by
  rw[yD.o]
  refine HST.o ?_
  rw[<-HM.o,<-O7.o,<-HMQ.o,<-Zz.o]
  have h1:=WQ.o
  omega)
 clear TG wX Ei We BG Bz HQ7;go_loopw [2,3] (λv2 v3 wr=>aij aA w q K p is j aF l f r b0 o0 c v2 v3 wr) (λv2 _ _=>ed-(intOf v2).toNat)
 case atStart=>exact⟨aF,K,p,is j,rfl,aj,by have:=Pq.o;omega,λ_=>by rw[Nat.sub_self,Nat.add_zero,Nat.sub_zero,HM.o,Nat.add_sub_cancel_left],mV,CY⟩
 case round =>
  clear mV CY;obtain⟨o,K1,p1,i1,rfl,ho1,ho2,hb,HS,HW⟩:=hrel;have he:aF+l.length=ed:=by rw[<-HM.o,<-O7.o]
  rw[he]at ho2 hb;by_cases hlt:o<ed
  ·obtain rfl:=hb hlt;have xS:Hid (aF<=o/\o<ed/\ed<=67968/\aF+l.length=ed/\m=l.length/\m<=c):=az ⟨ho1,hlt,by have:=Pq.o;omega,he,HM.o,by have h1:=Pq.o;have h2:=HM.o;omega⟩;have n1:(o:Int)<(ed:Int):=aa;clear hb he ho1 ho2 hlt;obtain⟨n,a,kk,d,C1,C2,C3,C4,D1,D2,D3,D4,E1,E2,E3,E4,E5,hna⟩:=Ue xS.o.2.1 xS.o.2.2.1 xS.o.1;have wD:=az hna;clear hna;rw[E3];have Xx:Hid (zA aA w q K f r i1 Te wr.drew K1 p1):=az (HS.o.old au);have Jb:Hid (p1.wf i1):=az (by have:=HW.o.fam.wf j;rwa[aS]at this);have HAT:=az (pG Xx.o.go.at_ i1 Jb.o Xx.o.file Xx.o.nf n (Nat.le_of_lt (adN wD.o.2.2.2.2.1 ag)))
   go_upto_region 16 with fail;go_region;clear HS;generalize wr.drew=w9 at*;go_wp2_with fail;refine HAT.o.mono ?_;rintro e Xy ⟨K2,rfl,hrd⟩;have Gc:=az (Xx.o.on hrd.go);clear hrd HAT Xx;obtain⟨p2,i2,hgv⟩:=Ga (p1.give i1 n);obtain⟨G,hcl,hcs,hW2⟩:=HW.o.step xS.o.1 (by rw[xS.o.2.2.2.1];exact xS.o.2.1) (by rw[xS.o.2.2.2.1];exact xS.o.2.2.1) lX.o (k:=kk) (by rw[xS.o.2.2.2.1,<-wD.o.2.1];exact wD.o.2.2.1);rw[<-wD.o.1,<-wD.o.2.1,<-wD.o.2.2.2.1,hgv]at hW2;rw[<-wD.o.1,hgv]at G hcl hcs;dsimp only at G hcl hcs hW2;have HGV:=az hgv;have HG:=az G;have FE:=az (ae7 hcl hcs)
   have HW2:=az hW2;have hal:(bW is j i1 j)=i1:=aS _ _ _;have GN:=az hal;clear hgv G hcl hcs hW2 hal;go_upto_if 99 with fail;go_cut [17] from 95 to 108 (λv17 wx=>∃K3,v17=vi (p2.at_ i2 n)/\Hid (zA aA w q K f r i2 Te wx K3 p2))
   case first =>
    obtain⟨A,hA⟩:∃A,A=p1.at_ i1 n:=⟨_,rfl⟩;rw[<-hA];by_cases hz:A=0
    ·have hz':p1.at_ (bW is j i1 j) n=0:=by rw[GN.o,<-hA];exact hz
     obtain⟨g1,g2,g3,g4⟩:=HG.o.may hz';obtain⟨g5,g6⟩:=HG.o.val hz';rw[GN.o]at g3 g4;have yU:p1.give i1 n=(p1.alloc p1.first).set i1 n p1.first.toNat:=by unfold Po.give;rw[if_pos (by rw[<-hA];exact hz)]
     rw[HGV.o]at yU;have Xz:=az (Ef Gc.o.go.at_ g1);obtain⟨v,hv⟩:∃v,v=p1.first.toNat:=⟨_,rfl⟩;rw[<-hv]at g2 g4 g5 g6 yU;have HVF:Hid (p1.first=(v:Int)):=az g6;rw[HVF.o]at Xz g3 g4 yU;have HV:=az (ae7 g2 (ae7 g3 (ae7 g4 (ae7 g5 yU))));have c1:((A:Int)==0)=true:=by simp[hz]
     clear g1 g2 g3 g4 g5 g6 yU hz' hA hz hv;go_wp2_with fail;refine Xz.o.mono ?_;rintro e w11 ⟨rfl,agW⟩;have xU:=az (Gc.o.on agW);have CZ:=az (MX xU.o.go.at_ i1 HV.o.2.1.p xU.o.file xU.o.nf (abX H.o.low xU.o.low.1) n v wD.o.2.2.2.2.1 HV.o.1 HV.o.2.2.1);clear agW Xz Gc;go_wp2_with fail;refine CZ.o.mono ?_;rintro e w12 ⟨rfl,K3,hgg⟩;have aba:=az (xU.o.gg hgg);clear hgg CZ xU;go_wp2;go_meet;have h5:=HV.o.2.2.2.2;have hp:((p1.alloc (v:Int)).set i1 n v).1=p2:=by rw[<-h5]
     have hi:((p1.alloc (v:Int)).set i1 n v).2=i2:=by rw[<-h5]
     exact⟨K3,by rw[HV.o.2.2.2.1],az (by have h6:=aba.o;rwa[hp,hi]at h6)⟩
    have c1:((A:Int)==0)=false:=by simp[hz]
    have yU:p1.give i1 n=(p1,i1):=by unfold Po.give;rw[if_neg (by rw[<-hA];exact hz)]
    rw[HGV.o]at yU;injection yU with hp hi;have Bv:=az (ae7 hp (ae7 hi hA));clear hp hi hA hz;go_wp2;go_meet;exact⟨K2,by rw[Bv.o.1,Bv.o.2.1,Bv.o.2.2],by rw[Bv.o.1,Bv.o.2.1];exact Gc⟩
   case rest =>
    obtain⟨K3,rfl,ZA⟩:=hcut;clear Gc;have QU:Hid (p2.at_ i2 n≠0):=az HG.o.at_;have oC:Hid (p2.good (p2.at_ i2 n)):=az (by have:=HG.o.fam.good j (.dat n);rwa[aS]at this);have Pt:Hid (p2.cont i2 n=p2.get (p2.at_ i2 n:Nat)):=az (by unfold Po.cont;rw[if_neg QU.o]);have IU:=az (sS ZA.o.go.at_ (p2.at_ i2 n) (Nat.le_of_lt (adN oC.o.1 ag)) (oC.o.2 QU.o));clear HG HGV GN Jb HW;generalize p2.at_ i2 n=A2 at*;go_wp2_with fail;refine IU.o.mono ?_;rintro e w13 ⟨K4,g7,c7,rfl,Fw,yO,Tv,Xn,El⟩;rw[<-Pt.o]at Fw;obtain⟨k2,hk2,Uj⟩:=ZA.o.go.at_.iN
    have hrd:=El.rd k2 hk2;have hsrc:=(El.go.row ZA.o.go.at_ (ZA.o.go.row H.o HR.o)).drop d;have hdl:=Uf xS.o.2.2.2.1 wD.o.2.2.2.1 xS.o.1;obtain⟨w14,hrun,abb,hgr⟩:=pz Fw FE.o.1.symm a E5 hsrc.row (c-d) (c7-a);rw[aa4 (aa5 xS.o.2.2.2.1 wD.o.2.2.2.1 xS.o.1 wD.o.2.2.1)]at abb;rw[hdl,<-ad8 wD.o.2.2.1]at hrun;have lF:Hid (vH 23 23 3 (aco (some ⟨g7,a,none⟩) (64-a) (c7-a)) (aco (some ⟨b0,o0+d,none⟩) (ed-o) (c-d)) w13 (vi (kk:Nat)) w14):=az hrun;have Uk:gD k2 wc w14:=hrd.far ⟨hgr.os,hgr.tape,hgr.output,hgr.size,λn hn e=>hgr.block n hn (λe2=>e (by injection e2 with e2;rw[e2];exact yO))⟩ (ZA.o.go.at_.lt _ Uj)
    have La:=az (ZA.o.on (bM.pM ZA.o.go.at_ hk2 Uk).go);have hln:=Ev (a:=a) (k:=kk) (l:=l.drop d) FE.o.1 (ad9 wD.o.2.2.1 wD.o.2.2.2.2.2.2) (by rw[hdl];exact Ug wD.o.2.2.1);have hsm:=yT (a:=a) (k:=kk) (l:=l.drop d) FE.o.2 (λy hy=>lX.o y (ail hy));have Bq:=az (FH La.o.go.at_ A2 (oC.o.2 QU.o) (some ⟨g7,0,none⟩) c7 _ (Own.zu abb hln hsm) hln);have q1:¬c7=a:=aea wD.o.2.2.2.2.2.2 Tv;have q2:a<=c7:=abX E5 Tv;have q3:(a:Int)<=(c7:Int):=Int.ofNat_le.2 q2;clear Fw yO Tv Xn El hk2 Uj hrd hsrc hrun abb hgr Uk hln hsm IU ZA Pt hdl
    go_wp2_with (refine wpList_copy_run rfl (.tmp 121) (.tmp 122) rfl rfl rfl lF.o ?_);refine Bq.o.mono ?_;rintro e w15 ⟨rfl,aed⟩;have aee:=az (La.o.on aed);clear aed Bq lF La q1 q2 q3;have q4:kk<=ed-o:=Ug wD.o.2.2.1;by_cases hcm:c-d=kk
    ·go_wp2;exact⟨⟨o+kk,K3,_,i2,rfl,abX xS.o.1 (Nat.le_add_right _ _),Zy xS.o.2.2.2.1 xS.o.2.1 wD.o.2.2.1,λhh=>absurd hh (Xv xS.o.2.2.2.1 wD.o.2.2.2.1 xS.o.1 wD.o.2.2.1 xS.o.2.2.2.2.1 xS.o.2.2.2.2.2 hcm),aee,HW2⟩,Nl xS.o.2.1 wD.o.2.2.2.2.2.1⟩
    go_wp2;go_roundw
    case rel=>exact⟨o+kk,K3,_,i2,rfl,abX xS.o.1 (Nat.le_add_right _ _),Zy xS.o.2.2.2.1 xS.o.2.1 wD.o.2.2.1,λ_=>KY xS.o.2.2.2.1 wD.o.2.2.2.1 xS.o.1,aee,HW2⟩
    case measure=>exact Nl xS.o.2.1 wD.o.2.2.2.2.2.1
  have hoe:o=ed:=Nat.le_antisymm ho2 (Nat.le_of_not_lt hlt);subst hoe;have c5:¬(o:Int)<(o:Int):=Int.lt_irrefl _;have h6:i1.direct.length=6:=by have:=HW.o.fam.six j;rwa[aS]at this
  have hin:=HW.o.ino.2.2;rw[yD.o]at hin;have HWP:Hid (∀w2,bG aA w q K w2 K1 p1->mU aA w q K p is j aF l (ab4 (adg #[dS {i1 with size:=max i1.size o},vi 0])) w2):=az (λw2 hg=>by
   have h1:=mU.done (is:=is) (j:=j) (l:=l) (aF:=aF) (i':=i1) (by
    rw[yD.o,<-HM.o,<-O7.o,<-HMQ.o,<-Zz.o]
    exact Int.not_lt.2 WQ.o) hg (by rw[he];exact HW.o)
   rw[yD.o,he,<-hin]at h1
   exact h1)
  clear hb he ho1 ho2 hlt hin HW;obtain⟨ka,la,za,dl,sa,da⟩:=i1;obtain⟨e0,e1,e2,e3,e4,e5,hdl⟩:=six (l:=dl) h6;subst hdl;obtain⟨mx,hmx⟩:∃mx,mx=max za o:=⟨_,rfl⟩;have Xg:max (za:Int) (o:Int)=(mx:Int):=by rw[hmx];exact Xw _ _
  rw[<-hmx]at HWP;clear hmx h6;have y3:wr.cell? ⟨f,3,none⟩=some (vi za):=HS.o.file.cell 3;have fy3:=HS.o.file.frozen 3;have vK:Hid (aD (wr.setCell ⟨f,3,none⟩ (vi mx)) f 74 (fileC q ⟨ka,la,mx,[e0,e1,e2,e3,e4,e5],sa,da⟩)):=az (HS.o.file.bB 3 (vi mx));have HS2:=az (HS.o.ad7 (i':=⟨ka,la,mx,[e0,e1,e2,e3,e4,e5],sa,da⟩) H.o ((aP.refl _ wr).setCell (F:=λn=>n=f) (p:=⟨f,3,none⟩) (ack rfl) (vi mx)) vK.o);clear HS vK;go_upto_region 28 with fail;change Code.wp _ _ _ _ (wr.setCell ⟨f,3,none⟩ (vi mx));generalize wr.setCell ⟨f,3,none⟩ (vi mx)=w2 at*;clear y3 fy3 Xg c5;obtain⟨y1,y2,y3,y4,y5,y6,y7,y8,y9,y10,y11⟩:=ffacts HS2.o.file
  obtain⟨z0,fz0,z1,fz1,z2,fz2,z3,fz3,z4,fz4,z5,fz5,z6,fz6,z7,fz7,z8,fz8,z9,fz9,Ui,fz10⟩:=pJ HS2.o.res;go_wp2_with fail;obtain⟨hf,hw⟩:=iA (vi ka) (vi la) (vi mx) (vi e0) (vi e1) (vi e2) (vi e3) (vi e4) (vi e5) (vi sa) (vi da) HS2.o.res;exact ac5 (bZ hf _ rfl rfl) rfl (HWP.o _ (HS2.o.cO H.o hw hf).go)
end
end po
namespace df
open po
def pg (z:Nat->Bool):List Nat:=(ac9 1062).filter z
def Gd (z:Nat->Bool):(pg z).Pairwise (·<·):=List.pairwise_lt_range.filter _
variable{z:Nat->Bool}{n:Nat}
def Gf :n∈pg z↔n<1062/\z n=true:=by
 unfold pg;rw[List.mem_filter,aeg]
def Gg (z:Nat->Bool):(pg z).length<=1062:=abX (List.length_filter_le _ _) ai
def post (z:Nat->Bool)(n:Nat):List Nat:=((ac9 (1061-n)).map (λk=>n+1+k)).filter z
def pre (z:Nat->Bool)(n:Nat):List Nat:=(ac9 n).filter z
def oN (z:Nat->Bool)(hn:n<1062):pg z=pre z n++((if z n=true then [n] else [])++post z n):=by
 unfold pg pre post;have h1:ac9 1062=ac9 n++([n]++(ac9 (1061-n)).map (λk=>n+1+k)):=by
  have e:1062=(n+1)+(1061-n):=aa;rw[show ac9 1062=ac9 ((n+1)+(1061-n)) by rw[<-e],List.range_add,List.range_succ,adM]
 have h2:[n].filter z=(if z n=true then [n] else []):=by
  rw[List.filter_cons,List.filter_nil]
 rw[h1,List.filter_append,List.filter_append,h2]
variable{x:Nat}
def abd (h:x∈pre z n):x<n:=aeg.1 (List.mem_filter.1 h).1
def XA (h:x∈post z n):n<x:=by
 obtain⟨k,_,rfl⟩:=aay.1 (List.mem_filter.1 h).1;omega
def GX (z:Nat->Bool)(n:Nat):Nat->Bool:=λm=>z m||m==n
def Ul (z:Nat->Bool)(n:Nat):GX z n n=true:=by unfold GX;simp
def Um (h:z n=true):GX z n=z:=by
 funext m;unfold GX;by_cases e:m=n;rw[e,h];rfl;rw[show (m==n)=false from beq_false_of_ne e,Bool.or_false]
def xV {m:Nat}(e:m≠n):GX z n m=z m:=by
 unfold GX;rw[show (m==n)=false from beq_false_of_ne e,Bool.or_false]
def abe (hn:n<1062):pg (GX z n)=pre z n++n::post z n:=by
 rw[oN _ hn,if_pos (Ul z n)];have h1:pre (GX z n) n=pre z n:=by
  unfold pre;refine List.filter_congr λx hx=>xV ?_
  have:=aeg.1 hx;omega
 have h2:post (GX z n) n=post z n:=by
  unfold post;refine List.filter_congr λx hx=>xV ?_
  obtain⟨k,_,rfl⟩:=aay.1 hx;omega
 rw[h1,h2];rfl
def row (b:Nat->Nat)(n:Nat):List Nat:=(ac9 64).map λx=>b (64*n+x)
def wE (b:Nat->Nat)(n:Nat):(row b n).length=64:=by unfold row;simp
def sZ (b:Nat->Nat)(n:Nat)(h:x<64):(row b n).getD x 0=b (64*n+x):=by
 unfold row;rw[aah,aeX,List.getElem?_range h];rfl
def Lb {l:List Nat}{b:Nat->Nat}(hl:l.length=64)(h:∀x,x<64->l.getD x 0=b (64*n+x)):l=row b n:=by
 refine List.ext_getElem (by rw[hl,wE]) λx h1 h2=>?_
 have:=h x aa;rw[<-sZ b n aa]at this;rwa[aah,aah,aaj h1,aaj h2]at this
structure DF where
 size:Nat
 z:Nat->Bool
 b:Nat->Nat
structure DF.ok (F:DF):Prop where
 size:F.size<=67968
 there:∀n,F.z n=true->n<1062
 zero:∀x,F.z (x/64)=false->F.b x=0
 small:∀x,F.b x<256
def DF.none_:DF:=⟨0,λ_=>false,λ_=>0⟩
def DF.Np:DF.none_.ok:=⟨aaW _,λn h=>(by cases h),λ_ _=>rfl,λ_=>Nat.zero_lt_succ _⟩
def Gh:pg (λ_=>false)=[]:=by
 unfold pg;exact List.filter_eq_nil_iff.2 (λa _=>ai)
def DF.with_ (F:DF)(n:Nat):DF:={F with z:=GX F.z n}
def DF.turn (F:DF)(x v:Nat):DF:={F with b:=λy=>if y=x then v else F.b y}
variable{F:DF}
def DF.ok.with_ (h:F.ok)(hn:n<1062):(F.with_ n).ok:=by
 refine⟨h.size,λm hm=>?_,λx hx=>h.zero x ?_,h.small⟩;by_cases e:m=n;omega;have:GX F.z n m=true:=hm;rw[xV e]at this;exact h.there m this;have:GX F.z n (x/64)=false:=hx;unfold GX at this;exact(Bool.or_eq_false_iff.1 this).1
def DF.ok.turn (h:F.ok){v:Nat}(hx:F.z (x/64)=true)(hv:v<256):(F.turn x v).ok:=by
 refine⟨h.size,h.there,λy hy=>?_,λy=>?_⟩;have:F.z (y/64)=false:=hy;show (if y=x then v else F.b y)=0;rw[if_neg (λe=>by rw[e,hx]at this;cases this)];exact h.zero y this;show (if y=x then v else F.b y)<256;split;exact hv;exact h.small y
def lvl (m:Nat):Nat:=if m<6 then 0 else if m<38 then 1 else 2
def fst_ (m:Nat):Nat:=if m<6 then m else if m<38 then m-6 else (m-38)/32
def XB (m:Nat):Nat:=if m<6 then 0 else if m<38 then 0 else (m-38)%32
def zk (l:List Nat)(k:Nat):Nat->Bool:=λm=>decide (m∈l.take k)
variable{k:Nat}
def Lc {l:List Nat}(hr:l.Pairwise (·<·))(hl:∀n∈l,n<1062)(hk:k<l.length){wl wf:Nat}(hw:(k=0->wl=0)/\(0<k->wl=lvl (l.getD (k-1) 0)/\wf=fst_ (l.getD (k-1) 0))) :
  aH (zk l (k+1))=aH (zk l k)+1+(if lvl (l.getD k 0)≠0/\wl≠lvl (l.getD k 0) then 1 else 0)+(if lvl (l.getD k 0)=2/\(wl≠2\/wf≠fst_ (l.getD k 0)) then 1 else 0):=by
 have hm:l.getD k 0=l[k]:=by simp[afh,hk]
 rw[hm];have hlt:∀x∈l.take k,x<l[k]:=λx hx=>by
  obtain⟨i,hi,e⟩:=List.getElem_of_mem hx;rw[acX]at hi;rw[List.getElem_take]at e;have:=(aeo.1 hr) i k aa hk aa;omega
 have hle:∀x∈l.take k,0<k/\x<=l.getD (k-1) 0:=λx hx=>by
  obtain⟨i,hi,e⟩:=List.getElem_of_mem hx;rw[acX]at hi;rw[List.getElem_take]at e;have hg:l.getD (k-1) 0=l[k-1]'(by omega):=by simp[afh,show k-1<l.length by omega]
  refine⟨aa,?_⟩;rw[hg];by_cases c:i=k-1;subst c;omega;have:=(aeo.1 hr) i (k-1) aa aa aa;omega
 have hin:0<k->l.getD (k-1) 0∈l.take k:=λh=>by
  have hg:l.getD (k-1) 0=l[k-1]'(by omega):=by simp[afh,show k-1<l.length by omega]
  rw[hg];exact List.mem_take_iff_getElem.2 ⟨k-1,aa,rfl⟩
 have hz0:zk l k l[k]=false:=decide_eq_false (λh=>Nat.lt_irrefl _ (hlt _ h));have hz:∀m,zk l (k+1) m=(zk l k m||m==l[k]):=λm=>by
  unfold zk;rw[ae4,decide_eq_true_iff,ae5,decide_eq_true_iff,beq_iff_eq,List.take_add_one,aaS];rw[aaj hk];simp
 rw[yS (hl _ (aff hk)) hz0 hz];obtain⟨m,he⟩:∃m,m=l[k]:=⟨_,rfl⟩;have hm2:m<1062:=by rw[he];exact hl _ (aff hk)
 obtain⟨L,hL⟩:∃L,L=l.getD (k-1) 0:=⟨_,rfl⟩;rw[<-he]at hlt ⊢;rw[<-hL]at hle hin hw;have hone:6<=m->m<38->(iU (zk l k)=true↔0<k/\6<=L):=λh1 h2=>by
  unfold iU;rw[bR];constructor;rintro⟨b,hb,e⟩;have:=hle _ (of_decide_eq_true e);omega;rintro⟨h3,h4⟩;have h5:=hin h3;have:=hlt _ h5;exact⟨L-6,aa,decide_eq_true (by rw[show 6+(L-6)=L by omega];exact h5)⟩
 have BL:∀a,38<=m->a=(m-38)/32->(dU (zk l k) a=true↔0<k/\38<=L/\(L-38)/32=a):=λa h1 h2=>by
  unfold dU;rw[bR];constructor;rintro⟨b,hb,e⟩;have h3:=of_decide_eq_true e;have:=hle _ h3;have h4:=hlt _ (hin this.1);omega;rintro⟨h3,h4,h6⟩;have h5:=hin h3;exact⟨(L-38)%32,aa,decide_eq_true (by rw[show 38+32*a+(L-38)%32=L by omega];exact h5)⟩
 have Dr:38<=m->(iC (zk l k)=true↔0<k/\38<=L):=λh1=>by
  unfold iC;rw[bR];constructor;rintro⟨a,ha,e⟩;unfold dU at e;obtain⟨b,hb,e⟩:=bR.1 e;have:=hle _ (of_decide_eq_true e);omega;rintro⟨h3,h4⟩;have h5:=hin h3;have:=hlt _ h5;refine⟨(L-38)/32,aa,?_⟩;unfold dU;exact bR.2 ⟨(L-38)%32,aa,decide_eq_true (by rw[show 38+32*((L-38)/32)+(L-38)%32=L by omega];exact h5)⟩
 have hLm:0<k->L<m:=λh=>hlt _ (hin h)
 rcases Nat.lt_or_ge m 6 with c1|c1;have e1:lvl m=0:=by unfold lvl;rw[if_pos c1]
 unfold pR;rw[if_pos c1,e1];simp
 ·rcases Nat.lt_or_ge m 38 with c2|c2
  ·have e1:lvl m=1:=by unfold lvl;rw[if_neg aa,if_pos c2]
   unfold pR;rw[if_neg aa,if_pos c2,e1];have h1:=hone c1 c2;have hwl:wl=1↔0<k/\6<=L:=by
    rcases Nat.eq_zero_or_pos k with h0|h0;rw[hw.1 h0];omega;have h2:=hLm h0;rw[(hw.2 h0).1];unfold lvl;split;omega;rw[if_pos aa];omega
   by_cases h2:iU (zk l k)=true;rw[h2,if_neg (by rw[hwl.2 (h1.1 h2)];simp),if_neg ai];rfl
   ·rw[if_pos ⟨ag,λe=>h2 (h1.2 (hwl.1 e))⟩,if_neg ai];rw[afg]at h2;rw[h2];generalize aH (zk l k)=T;first|rfl|(simp;done)|trace_state
  have e1:lvl m=2:=by unfold lvl;rw[if_neg aa,if_neg aa]
  have e2:fst_ m=(m-38)/32:=by unfold fst_;rw[if_neg aa,if_neg aa]
  unfold pR;rw[if_neg aa,if_neg aa,e1,e2];have h1:=Dr c2;have h3:=BL _ c2 rfl;have hwl:wl=2↔0<k/\38<=L:=by
   rcases Nat.eq_zero_or_pos k with h0|h0;rw[hw.1 h0];omega;rw[(hw.2 h0).1];unfold lvl;split;omega;split<;>omega
  have hwf:0<k->38<=L->wf=(L-38)/32:=λh0 h4=>by
   rw[(hw.2 h0).2];unfold fst_;rw[if_neg aa,if_neg aa]
  by_cases h2:iC (zk l k)=true;have h4:=h1.1 h2;rw[h2,if_neg (by rw[hwl.2 h4];simp)];by_cases h5:dU (zk l k) ((m-38)/32)=true;rw[h5,if_neg (by rw[hwl.2 h4,hwf h4.1 h4.2,(h3.1 h5).2.2];simp)];rfl;rw[if_pos ⟨rfl,acm (λe=>h5 (h3.2 ⟨h4.1,h4.2,by rw[<-hwf h4.1 h4.2];exact e⟩))⟩];rw[afg]at h5;rw[h5];rfl
  ·have h6:wl≠2:=λe=>h2 (h1.2 (hwl.1 e))
   rw[if_pos ⟨ag,h6⟩,if_pos ⟨rfl,ack h6⟩];have h5:dU (zk l k) ((m-38)/32)=false:=by
    rw[<-afg];intro e;exact h2 (h1.2 ⟨(h3.1 e).1,(h3.1 e).2.1⟩)
   rw[afg]at h2;rw[h2,h5];generalize aH (zk l k)=T;first|rfl|(simp;done)|trace_state
def Ld (l:List Nat):aH (zk l 0)=0:=by
 have h0:zk l 0=λ_=>false:=by funext m;unfold zk;simp
 rw[h0];have h1:∀N,(ac9 N).any (λ_=>false)=false:=λN=>List.any_eq_false.2 (λ_ _=>ai);have h2:∀N,(ac9 N).countP (λ_=>false)=0:=λN=>List.countP_eq_zero.2 (λ_ _=>ai);have h3:dU (λ_=>false)=λ_=>false:=by funext a;unfold dU;exact h1 32
 unfold aH iU iC;rw[h3,h1,h2,h2];rfl
def Pv (z:Nat->Bool):aH (zk (pg z) (pg z).length)=aH z:=by
 refine Ew λn hn=>?_
 unfold zk;rw[List.take_length,ae4,decide_eq_true_iff,Gf];exact⟨λh=>h.2,λh=>⟨hn,h⟩⟩
open RowKit mgr ft pl
def fT:(prog.info? 23).map (λi=>(i.zero,i.size,i.bytes))=some (some (aco none 0 0),1,24):=ah
abbrev aR (w:acL)(b:Nat)(t:acO)(v:acK)(xs:List acK):Prop:=w.ownsRow b t 1 v xs.length xs
def kT (w:acL)(a:Option acM)(xs:List acK):Prop:=xs=[]\/∃b o,a=some ⟨b,o,none⟩/\∀i,i<xs.length->w.cell? ⟨b,o+i,none⟩=xs[i]?
section
variable{w w':acL}{b0:Nat}{v:acK}{xs ys:List acK}{t:acO}
def aR.kept {row:Option Nat}(h:aR w b0 t v xs)(hg:w.grownBy w' row)(hn:∀r,row=some r->v.ownBlock≠some r):aR w' b0 t v xs :=
 acL.ownsRow.kept h hg (by
  cases hv:v.ownBlock with
  |none=>exact ack rfl
  |some g =>
   refine acm (λe=>?_)
   exact hn g e.symm hv)
def aR.old (h:aR w b0 t v xs)(hb:acN w.heap.size w w'):aR w' b0 t v xs :=
 aR.kept h (row:=none) (mP hb) (λr e=>by cases e)
def aR.lt (h:aR w b0 t v xs){g:Nat}(hg:v.ownBlock=some g):g<w.heap.size/\b0<=g/\∃cur,aD w g t cur:=by
 rcases h.2 with⟨rfl,_⟩|⟨g',cap,cur,rfl,hb,hh,_⟩;simp[aeP]at hg;have:g'=g:=by simpa[aeP] using hg
 subst this;have hb':aD w g' t cur:=hh;exact⟨hb'.lt,hb,cur,hb'⟩
def aR.nil (w:acL)(b:Nat)(t:acO):aR w b t (aco none 0 0) []:=acL.ownsRow_nil _ _ _ _
def aR.Le (h:aR w b0 t v xs):∃a c,v=aco a xs.length c/\kT w a xs/\xs.length<=c:=by
 have h':=h;rcases h'.2 with⟨rfl,h0⟩|⟨g,cap,cur,rfl,_,_,hnc,_⟩;have:xs=[]:=List.eq_nil_of_length_eq_zero h0;subst this;exact⟨none,0,rfl,ack rfl,aj⟩;refine⟨_,cap,rfl,acm ⟨g,0,rfl,λi hi=>?_⟩,hnc⟩;rw[Nat.zero_add,acL.ownsRow.cellAt h i aa]
variable{a:Option acM}
def kT.old (h:kT w a xs)(hb:acN w.heap.size w w'):kT w' a xs:=by
 rcases h with h0|⟨b,o,rfl,h1⟩;exact ack h0;refine acm ⟨b,o,rfl,λi hi=>?_⟩;have:=h1 i hi;rw[aaj hi]at this ⊢;exact cell_below this hb
def kT.take (h:kT w a xs)(n:Nat):kT w a (xs.take n):=by
 rcases h with rfl|⟨b,o,rfl,h1⟩;exact ack ai;refine acm ⟨b,o,rfl,λi hi=>?_⟩;have hi':i<n/\i<xs.length:=by simpa[Nat.lt_min] using hi
 rw[h1 i hi'.2,ae9,if_pos hi'.1]
def kT.news {ad:acM}(h:kT w (some ad) xs):∀j u,xs[j]?=some u->w.cell? (ad.add j)=some u:=by
 intro j u hu;rcases h with rfl|⟨b,o,he,h1⟩;simp at hu;injection he with he;subst he;rw[add_plain,h1 j (aaB.1 hu).1];exact hu
def jC.ain {l:List Int}(h:kT w a (l.map vi)):jC w a l:=by
 rcases h with h0|⟨b,o,rfl,h1⟩;exact ack (List.map_eq_nil_iff.1 h0);refine acm ⟨b,o,rfl,λi hi=>?_⟩;rw[h1 i (by rw[abT];exact hi),aeX,aaj hi];simp[afh,hi]
variable{ts:acO}{z:acK}{ui:Nat}
def kU (hu:prog.underlying ts=some (.slice t))(Lf:(prog.info? t).map (λi=>(i.zero,i.size,i.bytes))=some (some z,1,ui))(hz:z.cells.size=1)(hby:ui<=24)(hown:aR w b0 t v xs){c:Nat}
  (hr:kT w a ys) (h1c:∀u∈ys,u.oneCell'=true) (hn:xs.length+ys.length<=1000000) (hb:b0<=w.heap.size) :
  ∃v' w',eH ts ts ts v (.slice a ys.length c) w v' w'/\aR w' b0 t v' (xs++ys)/\w.grownBy w' v.ownBlock:=by
 obtain⟨i0,hi,hz0,hz1,hz2⟩:=info_parts Lf;cases a with
 |some ad =>
  obtain⟨v',w',h1,h2,h3,_⟩:=run_append_own_at (P:=prog) w b0 ts ts t i0 _ 1 ui hu hi hz0 hz1 hz2 hz aa v xs.length xs hown ad ys.length c ys aa hr.news h1c (by unfold maxLen;omega) (abX (Nat.mul_le_mul hn hby) ag) hb;refine⟨v',w',⟨h1⟩,?_,h3⟩;unfold aR;rw[acZ];exact h2
 |none =>
  have h0:ys=[]:=by
   rcases hr with h|⟨b,o,he,_⟩;exact h;cases he
  subst h0;refine⟨v,w,⟨?_⟩,by simpa using hown,acL.grownBy.refl w _⟩;rcases hown.2 with⟨rfl,h00⟩|⟨g,cap,cur,rfl,_,_,hnc,_⟩;simp[Builtin.append_,acQ hu,sizeOf,typeInfo,hi,Builtin.lenOf,Builtin.firstCells];simp[Builtin.append_,acQ hu,sizeOf,typeInfo,hi,Builtin.lenOf,Builtin.firstCells,hnc,storeCells]
def iM (w:acL)(a:Option acM)(c:Nat)(xs:List acK):Prop:=(a=none/\xs=[]/\c=0)\/∃b o,a=some ⟨b,o,none⟩/\xs.length<=c/\∀i,i<xs.length->w.cell? ⟨b,o+i,none⟩=xs[i]?
def iM.old {c:Nat}(h:iM w a c xs)(hb:acN w.heap.size w w'):iM w' a c xs:=by
 rcases h with h0|⟨b,o,rfl,hc,h1⟩;exact ack h0;refine acm ⟨b,o,rfl,hc,λi hi=>?_⟩;have:=h1 i hi;rw[aaj hi]at this ⊢;exact cell_below this hb
def iM.toV {c:Nat}(h:iM w a c xs):kT w a xs:=by
 rcases h with⟨_,h0,_⟩|⟨b,o,rfl,_,h1⟩;exact ack h0;exact acm ⟨b,o,rfl,h1⟩
def iM.cap {c:Nat}(h:iM w a c xs):xs.length<=c:=by
 rcases h with⟨_,h0,_⟩|⟨b,o,rfl,hc,h1⟩;rw[h0];simp;exact hc
def Off (K:Nat->Prop)(w:acL)(a:Option acM):Prop:=∀ad,a=some ad->ad.block<w.heap.size/\¬K ad.block
def Off.none (K:Nat->Prop)(w:acL):Off K w none:=λ_ e=>by cases e
variable{K:Nat->Prop}
def Off.old (h:Off K w a)(hb:acN w.heap.size w w'):Off K w' a:=λad e=>⟨adN (h ad e).1 hb.size,(h ad e).2⟩
def Off.go {K':Nat->Prop}(h:Off K w a)(hs:w.heap.size<=w'.heap.size)(hK:∀n,K' n->K n\/w.heap.size<=n):Off K' w' a:=λad e=>⟨adN (h ad e).1 hs,λk=>(hK _ k).elim (h ad e).2 (λk=>by have:=(h ad e).1;omega)⟩
def Off.own {c:Nat}(h:aR w b0 t (aco a n c) xs)(hK:∀n,K n->n<b0):Off K w a:=by
 rcases h.2 with⟨e,_⟩|⟨g,cap,cur,e,hb,hh,_⟩;injection e with e1 e2 e3;subst e1;exact Off.none _ _;injection e with e1 e2 e3;subst e1;have hb':aD w g t cur:=hh;intro ad e;injection e with e;subst e;exact⟨hb'.lt,λk=>by have h9:g<b0:=hK _ k;omega⟩
def iM.aJ {c:Nat}(h:iM w a c xs)(q:aP K w w')(ho:Off K w a):iM w' a c xs:=by
 rcases h with h0|⟨b,o,rfl,hc,h1⟩;exact ack h0;refine acm ⟨b,o,rfl,hc,λi hi=>?_⟩;have:=h1 i hi;rw[aaj hi]at this ⊢;exact q.cell this (ho _ rfl).2
def Un {l:List Nat}(h:bE w a l)(q:aP K w w')(ho:Off K w a):bE w' a l:=by
 refine⟨h.small,?_⟩;rcases h.at_ with h0|⟨b,o,rfl,h1⟩;exact ack h0;exact acm ⟨b,o,rfl,λi hi=>q.cell (h1 i hi) (ho _ rfl).2⟩
def aR.Du (h:aR w b0 t v xs):∃a c,v=aco a xs.length c/\iM w a c xs:=by
 have h':=h;rcases h'.2 with⟨rfl,h0⟩|⟨g,cap,cur,rfl,_,_,hnc,_⟩;have:xs=[]:=List.eq_nil_of_length_eq_zero h0;subst this;exact⟨none,0,rfl,ack ⟨rfl,rfl,rfl⟩⟩;refine⟨_,cap,rfl,acm ⟨g,0,rfl,hnc,λi hi=>?_⟩⟩;rw[Nat.zero_add,acL.ownsRow.cellAt h i aa]
def Uo (hu:prog.underlying ts=some (.slice t))(Lf:(prog.info? t).map (λi=>(i.zero,i.size,i.bytes))=some (some z,1,ui)){N c:Nat}(h:iM w a c xs)(hk:k<=c)(W:acL) :
  (Instr.sliceAt ts (.slice a N c) none (some (vi k)) none).run prog W=.ok (.slice a k c) W:=by
 obtain⟨i0,hi,hz0,hz1,hz2⟩:=info_parts Lf;have h1:(0:Int)<=(k:Int)/\(k:Int)<=(c:Int):=⟨aa,aa⟩;have h2:(if c=0 then a else a.map (·.add 0))=a:=by
  split;rfl;rcases h with⟨rfl,_⟩|⟨b,o,rfl,_⟩;rfl;simp[add_plain]
 simp[Instr.sliceAt,Instr.slice,Instr.sliceBounds,Instr.sliceBound,asIntOf,acQ hu,sizeOf,typeInfo,hi,hz1,h1,go_sem];intro h3;exact absurd h3 aa
def Jc (hu:prog.underlying ts=some (.slice t))(Lf:(prog.info? t).map (λi=>(i.zero,i.size,i.bytes))=some (some z,1,ui)){c:Nat}(h:iM w a c xs)(hk:k<=xs.length) :
  ∃a',(∀W,(Instr.sliceAt ts (.slice a xs.length c) (some (vi k)) none none).run prog W=.ok (.slice a' (xs.length-k) (c-k)) W)/\kT w a' (xs.drop k):=by
 obtain⟨i0,hi,hz0,hz1,hz2⟩:=info_parts Lf;have h1:(0:Int)<=(k:Int)/\(k:Int)<=(xs.length:Int):=⟨aa,aa⟩;refine⟨if c=k then a else a.map (·.add k),λW=>?_,?_⟩
 ·simp[Instr.sliceAt,Instr.slice,Instr.sliceBounds,Instr.sliceBound,asIntOf,acQ hu,sizeOf,typeInfo,hi,hz1,h1,go_sem];intro h3;exact absurd h3 aa
 rcases h with⟨rfl,rfl,_⟩|⟨b,o,rfl,hc,h1⟩;exact .inl ai;split;rename_i e;exact .inl (List.drop_eq_nil_iff.2 aa);refine .inr ⟨b,o+k,by simp[add_plain],λi hi=>?_⟩;rw[adt]at hi;rw[afb,Nat.add_assoc,h1 _ aa]
end
variable{w w':acL}
def BV:ac4 prog 77 #[vi 64] w λe w'=>e=ab4 (acg true)/\w'=w:=by
 go_in;go_wp2;go_ret;exact⟨rfl,rfl⟩
def Jd:ac4 prog 103 #[vi 64] w λe w'=>e=ab4 (vi 1062)/\w'=w:=by
 go_in;go_wp2;go_ret;exact⟨rfl,rfl⟩
def kD:ac4 prog 66 #[vi 64] w λe w'=>e=ab4 (vi 67968)/\w'=w:=by
 go_in;go_wp2_with fail;refine BV.mono ?_;rintro e w' ⟨rfl,rfl⟩;go_wp2_with fail;refine Jd.mono ?_;rintro e w' ⟨rfl,rfl⟩;go_wp2;go_ret;exact⟨rfl,rfl⟩
variable{g:Nat}{v0 v1 v2:acK}
def jv {n:Int}(hb:aD w' g 134 #[v0,v1,v2])(tmps:Array acK)(h2:tmps[4]?=some (.pointer (some ⟨g,0,none⟩)))(h3:tmps[5]?=some (vi n)) :
  (results Tryz.f78 tmps).run prog w'=.ok (adg #[.agg #[v0,v1,v2],vi n]) w':=by
 have g0:w'.cell? ⟨g,0,none⟩=some v0:=hb.cell 0;have g1:w'.cell? ⟨g,1,none⟩=some v1:=hb.cell 1;have g2:w'.cell? ⟨g,2,none⟩=some v2:=hb.cell 2;simp only[results,results78];simp[go_sem,h2,h3,g0,g1,g2]
def jL {w1:acL}{u0 u1 u2:acK}(v0 v1 v2:acK)(h:aD w1 g 134 #[u0,u1,u2])(hb:acN w.heap.size w w1)(hg:w.heap.size<=g) :
  aD (((w1.setCell ⟨g,0,none⟩ v0).setCell ⟨g,1,none⟩ v1).setCell ⟨g,2,none⟩ v2) g 134 #[v0,v1,v2]/\acN w.heap.size w (((w1.setCell ⟨g,0,none⟩ v0).setCell ⟨g,1,none⟩ v1).setCell ⟨g,2,none⟩ v2) :=
 ⟨((h.bB 0 v0).bB 1 v1).bB 2 v2,((hb.setCell (p:=⟨g,0,none⟩) hg v0).setCell (p:=⟨g,1,none⟩) hg v1).setCell (p:=⟨g,2,none⟩) hg v2⟩
def Ba (n:Nat)(hn:n<1062):ac4 prog 78 #[vi 64,vi n] w λe w'=>e=ab4 (adg #[.agg #[vi (lvl n),vi (fst_ n),vi (XB n)],vi 0])/\acN w.heap.size w w':=by
 have HB:Hid (acN w.heap.size w (w.alloc (ach #[vi 0,vi 0,vi 0] 134))):=az ax;have HF:=az (aD.new w 134 #[vi 0,vi 0,vi 0]);have HT:Hid ((lvl n=if n<6 then 0 else if n<38 then 1 else 2)/\(fst_ n=if n<6 then n else if n<38 then n-6 else (n-38)/32)/\(XB n=if n<6 then 0 else if n<38 then 0 else (n-38)%32)):=az ⟨rfl,rfl,rfl⟩;generalize lvl n=T0 at*;generalize fst_ n=T1 at*;generalize XB n=T2 at*;have w6:adk.wrap ((n:Int)-6)=(n:Int)-6:=adl _ aa;have n1:¬(n:Int)<0:=aa;have n2:¬(1062:Int)<=(n:Int):=aa;go_in;go_upto_region 1 with fail
 change Code.wp _ _ _ _ (w.alloc (ach #[vi 0,vi 0,vi 0] 134));generalize w.alloc (ach #[vi 0,vi 0,vi 0] 134)=w1 at*;have r0:w1.cell? ⟨w.heap.size,0,none⟩=some (vi 0):=HF.o.cell 0;have f0:=HF.o.frozen 0;have r1:w1.cell? ⟨w.heap.size,1,none⟩=some (vi 0):=HF.o.cell 1;have f1:=HF.o.frozen 1;have r2:w1.cell? ⟨w.heap.size,2,none⟩=some (vi 0):=HF.o.cell 2;have f2:=HF.o.frozen 2;go_wp2_with fail;refine BV.mono ?_;rintro e w2 ⟨rfl,rfl⟩;go_wp2_with fail;refine Jd.mono ?_;rintro e w2 ⟨rfl,rfl⟩;by_cases h6:n<6
 ·have c1:(n:Int)<6:=aa;go_wp2_with fail;obtain⟨hf,hw⟩:=jL (vi 0) (vi n) (vi 0) HF.o HB.o aj;exact ac5 (jv hf _ rfl rfl) rfl ⟨by rw[HT.o.1,HT.o.2.1,HT.o.2.2,if_pos h6,if_pos h6,if_pos h6];rfl,hw⟩
 have c1:¬(n:Int)<6:=aa;by_cases zN:n<38
 ·have c2:(n:Int)<38:=aa;go_wp2_with fail;obtain⟨hf,hw⟩:=jL (vi 1) (vi ((n:Int)-6)) (vi 0) HF.o HB.o aj;exact ac5 (jv hf _ rfl rfl) rfl ⟨by rw[HT.o.1,HT.o.2.1,HT.o.2.2,if_neg h6,if_neg h6,if_neg h6,if_pos zN,if_pos zN,if_pos zN];simp;omega,hw⟩
 have c2:¬(n:Int)<38:=aa;have w7:adk.wrap ((n:Int)-6-32)=((n-38:Nat):Int):=by rw[adl _ aa];omega
 have q1:adk.wrap (((n-38:Nat):Int).tdiv 32)=(((n-38)/32:Nat):Int):=by rw[ae3 aa];rw[adl _ aa];omega
 have q3:adk.wrap ((((n-38)/32:Nat):Int)*32)=(((n-38)/32*32:Nat):Int):=by rw[adl _ aa];omega
 have q4:adk.wrap (((n-38:Nat):Int)-(((n-38)/32*32:Nat):Int))=(((n-38)%32:Nat):Int):=by rw[adl _ aa];omega
 have q5:((n-38:Nat):Int)/32=(((n-38)/32:Nat):Int):=aa;have q6:((n-38:Nat):Int)-(((n-38)/32:Nat):Int)*32=(((n-38)%32:Nat):Int):=aa;generalize (n-38)/32=A at*;generalize A*32=B at*;generalize (n-38)%32=C at*;go_upto_region 11 with fail;go_region;go_wp2_with fail;obtain⟨hf,hw⟩:=jL (vi 2) (vi (A:Nat)) (vi (C:Nat)) HF.o HB.o aj;refine ac5 (jv (aD.drew hf) _ rfl rfl) rfl ⟨?_,hw.drew⟩;rw[HT.o.1,HT.o.2.1,HT.o.2.2,if_neg h6,if_neg h6,if_neg h6,if_neg zN,if_neg zN,if_neg zN];rfl
def agB (a:Option acM)(l:List Nat)(c:Nat)(h:jC w a (l.map λ(n:Nat)=>(n:Int)))(hl:∀n∈l,n<1062)(hln:l.length<=1062)(hr:l.Pairwise (·<·)) :
  ac4 prog 45 #[vi 64,aco a l.length c] w λe w'=>e=ab4 (adg #[vi (aH (zk l l.length):Nat),vi 0])/\acN w.heap.size w w':=by
 have HR:=az h;have HL:=az hl;have HP:=az hr;have je:=az hln;have HZ0:=az (Ld l);clear h hl hr hln;obtain⟨n,hn⟩:∃n,n=l.length:=⟨_,rfl⟩;have HN:=az hn;rw[<-hn];clear hn;go_in;go_wp2_with fail;refine BV.mono ?_;rintro e w' ⟨rfl,rfl⟩;go_wp2_with fail;go_loopw [6] (λi wr=>∃k:Nat,1<=k/\(k=1\/k<=n)/\i=vi k/\Hid (acN w'.heap.size w' wr)) (λi _=>n-(intOf i).toNat)
 case atStart=>exact⟨1,aj,ack rfl,rfl,az ak⟩
 case round =>
  obtain⟨k,h1,h2,rfl,hb⟩:=hrel;by_cases hk:k<n
  ·obtain⟨b,o,rfl,c1⟩:=(HR.o.below hb.o).lookup (i:=k) (by rw[abT,<-HN.o];exact hk);obtain⟨b',o',e,c0⟩:=(HR.o.below hb.o).lookup (i:=k-1) (by rw[abT,<-HN.o];omega);injection e with e;injection e with e1 e2;subst e1 e2;have hlt:=Er (l:=l.map λ(n:Nat)=>(n:Int)) (List.pairwise_map.2 (HP.o.imp (λh=>aa))) h1 (by rw[abT,<-HN.o];exact hk);generalize (l.map λ(n:Nat)=>(n:Int)).getD k 0=x at*;generalize (l.map λ(n:Nat)=>(n:Int)).getD (k-1) 0=y at*;have r1:adk.wrap ((k:Int)-1)=((k-1:Nat):Int):=by rw[adl _ (by have:=je.o;have:=HN.o;omega)];omega
   have r2:adk.wrap ((k:Int)+1)=((k+1:Nat):Int):=by rw[adl _ (by have:=je.o;have:=HN.o;omega)];omega
   have n1:(k:Int)<(n:Int):=aa;have n2:¬x<=y:=aa;have n3:(0:Int)<=((k-1:Nat):Int):=aa;have n4:((k-1:Nat):Int)<(n:Int):=aa;have HK:Hid (1<=k/\k<n):=az ⟨h1,hk⟩;have HB2:=az (hb.o.drew);clear hb hlt h1 h2 hk;go_upto_region 6 with fail;go_region;go_wp2;go_roundw
   case rel=>exact⟨k+1,aa,acm (by have:=HK.o;omega),rfl,HB2⟩
   case measure=>have:=HK.o;simp[intOf];omega
  have n1:¬(k:Int)<(n:Int):=aa;clear h1 h2 hk;have HW0:Hid (w'.heap.size<=wr.heap.size):=az hb.o.size;have uz:=az hb.o;have hgw:w'.heap.size<=wr.heap.size:=HW0.o;clear hb;go_upto_block 2 with fail;have HB0:Hid (acN w'.heap.size w' (wr.alloc (ach #[vi 0,vi 0,vi 0] 134))/\aD (wr.alloc (ach #[vi 0,vi 0,vi 0] 134)) wr.heap.size 134 #[vi 0,vi 0,vi 0]):=az ⟨uz.o.alloc uz.o.size _,aD.new _ _ _⟩;change Code.wp _ _ _ _ (wr.alloc (ach #[vi 0,vi 0,vi 0] 134));generalize wr.alloc (ach #[vi 0,vi 0,vi 0] 134)=w1 at*;generalize wr.heap.size=gw at*;clear n1;go_wp2_with fail;go_loopg [7,9] n (λf v7 v9 wr=>∃(k cnt wl wf ws:Nat),v7=vi cnt/\v9=vi k/\k<=n/\n-k<=f/\cnt<=3*k/\Hid (cnt=aH (zk l k)/\((k=0->wl=0)/\(0<k->wl=lvl (l.getD (k-1) 0)/\wf=fst_ (l.getD (k-1) 0)))/\acN w'.heap.size w' wr/\aD wr gw 134 #[vi wl,vi wf,vi ws]))
  case atStart=>exact⟨0,0,0,0,0,rfl,rfl,aaW _,aa,aa,az ⟨HZ0.o.symm,⟨λ_=>rfl,λh=>aa⟩,HB0.o⟩⟩
  case round =>
   clear HB0 uz HW0;obtain⟨k,cnt,wl,wf,ws,rfl,rfl,hkn,hfu,hc3,hrd⟩:=hrel;have bK:=az hrd.o;clear hrd;by_cases hk:k<n
   ·have hk2:k<l.length:=by rw[<-HN.o];exact hk
    obtain⟨b,o,rfl,c1⟩:=(HR.o.below bK.o.2.2.1).lookup (i:=k) (by rw[abT];exact hk2);have hx1:(l.map λ(n:Nat)=>(n:Int)).getD k 0=((l.getD k 0:Nat):Int):=by simp[afh,hk2]
    rw[hx1]at c1;have HXL:Hid (l.getD k 0<1062):=az (HL.o _ (by simp[afh,hk2]));have HST:=az (Lc HP.o HL.o hk2 bK.o.2.1);obtain⟨x,hx⟩:∃x,l.getD k 0=x:=⟨_,rfl⟩;rw[hx]at c1 HXL HST;have HX:=az hx;clear hx hx1 hk2;have n1:(k:Int)<(n:Int):=aa;have ana:k<1062:=by have:=je.o;have:=HN.o;omega
    have n2:adk.wrap ((k:Int)+1)=(k:Int)+1:=adl _ aa;have HTO:=az (λW=>Ba (w:=W) x HXL.o);have hA2:lvl x<=2:=by unfold lvl;split;omega;split<;>omega
    obtain⟨A,hA⟩:∃A,lvl x=A:=⟨_,rfl⟩;obtain⟨B,hB⟩:∃B,fst_ x=B:=⟨_,rfl⟩;obtain⟨C,hC⟩:∃C,XB x=C:=⟨_,rfl⟩;rw[hA]at HTO HST hA2;rw[hB]at HTO HST;rw[hC]at HTO;have FK:Hid (lvl x=A/\fst_ x=B):=az ⟨hA,hB⟩;clear hA hB hC;go_upto_region 13 with (go_at_call 78;refine(HTO.o _).mono ?_;rintro e w3 ⟨rfl,hb3⟩;have HB3:=az hb3;clear hb3);have nk:Hid (aD (w3.alloc (ach #[vi A,vi B,vi C] 134)) w3.heap.size 134 #[vi A,vi B,vi C]/\aD (w3.alloc (ach #[vi A,vi B,vi C] 134)) gw 134 #[vi wl,vi wf,vi ws]/\acN w'.heap.size w' (w3.alloc (ach #[vi A,vi B,vi C] 134))/\gw≠w3.heap.size/\w'.heap.size<=gw):=az (by
     have h1:=bK.o.2.2.2.old HB3.o
     have h2:=bK.o.2.2.1.trans (HB3.o.mono bK.o.2.2.1.size)
     exact⟨aD.new _ _ _,h1.alloc _,h2.alloc h2.size _,by have:=h1.lt;omega,hgw⟩)
    clear HTO;generalize w3.alloc (ach #[vi A,vi B,vi C] 134)=w4 at*;generalize w3.heap.size=gx at*;have x0:w4.cell? ⟨gx,0,none⟩=some (vi A):=nk.o.1.cell 0;have x1:w4.cell? ⟨gx,1,none⟩=some (vi B):=nk.o.1.cell 1;have x2:w4.cell? ⟨gx,2,none⟩=some (vi C):=nk.o.1.cell 2;have y0:w4.cell? ⟨gw,0,none⟩=some (vi wl):=nk.o.2.1.cell 0;have y1:w4.cell? ⟨gw,1,none⟩=some (vi wf):=nk.o.2.1.cell 1;have m1:adk.wrap ((cnt:Int)+1)=((cnt+1:Nat):Int):=by rw[adl _ aa];omega
    obtain⟨c1v,aeh⟩:∃z,cnt+1=z:=⟨_,rfl⟩;rw[aeh]at m1;go_upto_region 16 with fail;go_cut [60] from 32 to 80 (λv wx=>v=acg (decide (A≠0/\wl≠A))/\wx=w4)
    case first =>
     by_cases JY:A=0
     ·have a1:¬(0:Int)<(A:Int):=aa;go_wp2;go_meet;exact⟨by simp[JY],rfl⟩
     have a1:(0:Int)<(A:Int):=aa;by_cases hwA:wl=A
     ·have a2:((wl:Int) != (A:Int))=false:=by simp[hwA]
      go_wp2;go_meet;exact⟨by simp[hwA],rfl⟩
     have a2:((wl:Int) != (A:Int))=true:=by simp;omega
     go_wp2;go_meet;exact⟨by simp[hwA,JY],rfl⟩
    case rest =>
    obtain⟨rfl,rfl⟩:=hcut;go_upto_if 60 with fail;go_cut [7] from 32 to 80 (λv wx=>v=vi ((c1v+(if A≠0/\wl≠A then 1 else 0):Nat):Int)/\wx=wc)
    case first =>
     by_cases hcd:A≠0/\wl≠A
     ·rw[decide_eq_true hcd];go_wp2;go_meet;exact⟨by rw[if_pos hcd];first|rfl|go_num|(congr 1;rw[adl _ aa];omega),rfl⟩
     rw[decide_eq_false hcd];go_wp2;go_meet;exact⟨by rw[if_neg hcd];rfl,rfl⟩
    case rest =>
    obtain⟨rfl,rfl⟩:=hcut;obtain⟨c2v,XC⟩:∃z,c1v+(if A≠0/\wl≠A then 1 else 0)=z:=⟨_,rfl⟩;have anb:c2v<=c1v+1:=by rw[<-XC];split<;>omega
    rw[XC];have JQ:=az XC;clear XC;go_upto_region 18 with fail;go_cut [77] from 32 to 80 (λv wx=>v=acg (decide (A=2/\(wl≠2\/wf≠B)))/\wx=wc)
    case first =>
     by_cases JY:A=2
     ·have a1:((A:Int)==2)=true:=by simp[JY]
      by_cases hw2:wl=2
      ·have a2:((wl:Int) != 2)=false:=by simp[hw2]
       by_cases hwB:wf=B
       ·have a3:((wf:Int) != (B:Int))=false:=by simp[hwB]
        go_wp2;go_meet;exact⟨by simp[JY,hw2,hwB],rfl⟩
       have a3:((wf:Int) != (B:Int))=true:=by simp;omega
       go_wp2;go_meet;exact⟨by simp[JY,hw2,hwB],rfl⟩
      have a2:((wl:Int) != 2)=true:=by simp;omega
      go_wp2;go_meet;exact⟨by simp[JY,hw2],rfl⟩
     have a1:((A:Int)==2)=false:=by simp;omega
     go_wp2;go_meet;exact⟨by simp[JY],rfl⟩
    case rest =>
    obtain⟨rfl,rfl⟩:=hcut;go_upto_if 77 with fail;go_cut [7] from 32 to 80 (λv wx=>v=vi ((c2v+(if A=2/\(wl≠2\/wf≠B) then 1 else 0):Nat):Int)/\wx=wc)
    case first =>
     by_cases hcd:A=2/\(wl≠2\/wf≠B)
     ·rw[decide_eq_true hcd];go_wp2;go_meet;exact⟨by rw[if_pos hcd];first|rfl|go_num|(congr 1;rw[adl _ aa];omega),rfl⟩
     rw[decide_eq_false hcd];go_wp2;go_meet;exact⟨by rw[if_neg hcd];rfl,rfl⟩
    case rest =>
    obtain⟨rfl,rfl⟩:=hcut;obtain⟨c3v,XD⟩:∃z,c2v+(if A=2/\(wl≠2\/wf≠B) then 1 else 0)=z:=⟨_,rfl⟩;have anc:c3v<=c2v+1:=by rw[<-XD];split<;>omega
    rw[XD];have Ij:Hid (c3v=aH (zk l (k+1))):=az (by rw[HST.o,<-bK.o.1,<-XD,<-JQ.o,<-aeh]);have HWF:Hid (acN w'.heap.size w' (((wc.setCell ⟨gw,0,none⟩ (vi A)).setCell ⟨gw,1,none⟩ (vi B)).setCell ⟨gw,2,none⟩ (vi C))/\aD (((wc.setCell ⟨gw,0,none⟩ (vi A)).setCell ⟨gw,1,none⟩ (vi B)).setCell ⟨gw,2,none⟩ (vi C)) gw 134 #[vi A,vi B,vi C]):=az (by
     obtain⟨k1,k2⟩:=jL (vi A) (vi B) (vi C) nk.o.2.1 nk.o.2.2.1 nk.o.2.2.2.2
     exact⟨k2,k1⟩)
    have JZ:Hid (k+1=0->A=0):=az (λh=>aa);have HWW:Hid (0<k+1->A=lvl (l.getD (k+1-1) 0)/\B=fst_ (l.getD (k+1-1) 0)):=az (λ_=>by rw[Nat.add_sub_cancel,HX.o,FK.o.1,FK.o.2];exact⟨rfl,rfl⟩);have y2:wc.cell? ⟨gw,2,none⟩=some (vi ws):=nk.o.2.1.cell 2;have g0:=nk.o.2.1.frozen 0;have g1:=nk.o.2.1.frozen 1;have g2:=nk.o.2.1.frozen 2;clear XD bK HST JQ;go_wp2_with fail;go_roundg (n-(k+1))
    case measure=>omega
    case rel=>exact⟨k+1,c3v,A,B,C,rfl,by first|rfl|go_num|(congr 1;omega),aa,aa,aa,az ⟨Ij.o,⟨JZ.o,HWW.o⟩,HWF.o.1,HWF.o.2⟩⟩
   obtain rfl:k=n:=aa;have n1:¬(k:Int)<(k:Int):=aa;go_wp2;go_ret2;exact⟨congrArg (λz:Nat=>Ending.returned (adg #[vi z,vi 0])) bK.o.1,bK.o.2.2.1⟩
def Rows (K:Nat->Prop)(w:acL)(bs:List acK)(ls:List (List Nat)):Prop:=bs.length=ls.length/\∀(k:Nat) l,ls[k]?=some l->∃a c,bs[k]?=some (aco a 64 c)/\(bE w a l/\Off K w a)/\l.length=64/\64<=c
section
variable{K K':Nat->Prop}{bs cs:List acK}{ls ms:List (List Nat)}
def Rows.old (h:Rows K w bs ls)(hb:acN w.heap.size w w'):Rows K w' bs ls :=
 ⟨h.1,λk l e=>by obtain⟨a,c,h1,h2,h3⟩:=h.2 k l e;exact⟨a,c,h1,⟨h2.1.below hb,h2.2.old hb⟩,h3⟩⟩
def Rows.aJ (h:Rows K w bs ls)(q:aP K w w')(hK:∀n,K' n->K n\/w.heap.size<=n):Rows K' w' bs ls :=
 ⟨h.1,λk l e=>by obtain⟨a,c,h1,h2,h3⟩:=h.2 k l e;exact⟨a,c,h1,⟨Un h2.1 q h2.2,h2.2.go q.size hK⟩,h3⟩⟩
def Rows.append (h:Rows K w bs ls)(g:Rows K w cs ms):Rows K w (bs++cs) (ls++ms):=by
 refine⟨by rw[acZ,acZ,h.1,g.1],λk l e=>?_⟩;rcases Nat.lt_or_ge k ls.length with hk|hk;rw[aa9 hk]at e;rw[aa9 (by rw[h.1];exact hk)];exact h.2 k l e;rw[ae1 hk]at e;rw[ae1 (by rw[h.1];exact hk),h.1];exact g.2 _ l e
def Rows.take (h:Rows K w bs ls)(n:Nat):Rows K w (bs.take n) (ls.take n):=by
 refine⟨by rw[acX,acX,h.1],λk l e=>?_⟩;rw[ae9]at e ⊢;split at e;rename_i hk;rw[if_pos hk];exact h.2 k l e;cases e
def Rows.drop (h:Rows K w bs ls)(n:Nat):Rows K w (bs.drop n) (ls.drop n):=by
 refine⟨by rw[adt,adt,h.1],λk l e=>?_⟩;rw[afb]at e ⊢;exact h.2 _ l e
variable{a:Option acM}{l:List Nat}
def Rows.one {c:Nat}(h:bE w a l)(ho:Off K w a)(hl:l.length=64)(hc:64<=c):Rows K w [aco a 64 c] [l]:=by
 refine⟨rfl,λk l' e=>?_⟩;cases k with
 |zero=>simp at e;subst e;exact⟨a,c,rfl,⟨h,ho⟩,hl,hc⟩
 |succ k=>simp at e
def Rows.set (h:Rows K w bs ls){j:Nat}{c:Nat}(hr:bE w a l)(ho:Off K w a)(hl:l.length=64)(hc:64<=c):Rows K w (bs.set j (aco a 64 c)) (ls.set j l):=by
 refine⟨by rw[abZ,abZ,h.1],λk l' e=>?_⟩;rw[List.getElem?_set]at e ⊢;split at e;rename_i hk;rw[if_pos hk];subst hk;split at e;rename_i hj;injection e with e;subst e;rw[if_pos (by rw[h.1];exact hj)];exact⟨a,c,rfl,⟨hr,ho⟩,hl,hc⟩;cases e;rename_i hk;rw[if_neg hk];exact h.2 k l' e
def Rows.one_cell (h:Rows K w bs ls):∀u∈bs,u.oneCell'=true:=by
 intro u hu;obtain⟨k,hk,e⟩:=List.getElem_of_mem hu;have hkl:k<ls.length:=by rw[<-h.1];exact hk
 obtain⟨a,c,h1,_⟩:=h.2 k (ls[k]'hkl) (aaj hkl);rw[aaj hk,e]at h1;injection h1 with h1;rw[h1];rfl
end
def qm (s:Nat)(ap:Option acM)(N cp:Nat)(ab:Option acM)(cb:Nat):acK:=.agg #[vi 64,vi s,aco ap N cp,aco ab N cb]
structure pU (w:acL)(K:Nat->Prop)(F:DF)(ap:Option acM)(N cp:Nat)(ab:Option acM)(cb:Nat):Prop where
 ok:F.ok
 len:(pg F.z).length=N
 aB:iM w ap cp ((pg F.z).map λ(n:Nat)=>vi (n:Int))
 Uq:Off K w ap
 rows:∃bs,iM w ab cb bs/\Rows K w bs ((pg F.z).map (row F.b))
 XE:Off K w ab
variable{K:Nat->Prop}{ap ab:Option acM}{N cp cb:Nat}
def pU.zy (h:pU w K F ap N cp ab cb):jC w ap ((pg F.z).map λ(n:Nat)=>(n:Int)) :=
 jC.ain (by rw[List.map_map];exact h.aB.toV)
def pU.old (h:pU w K F ap N cp ab cb)(hb:acN w.heap.size w w'):pU w' K F ap N cp ab cb:=by
 obtain⟨bs,h1,h2⟩:=h.rows;exact⟨h.ok,h.len,h.aB.old hb,h.Uq.old hb,⟨bs,h1.old hb,h2.old hb⟩,h.XE.old hb⟩
def pU.aJ {K':Nat->Prop}(h:pU w K F ap N cp ab cb)(q:aP K w w')(hK:∀n,K' n->K n\/w.heap.size<=n):pU w' K' F ap N cp ab cb:=by
 obtain⟨bs,h1,h2⟩:=h.rows;exact⟨h.ok,h.len,h.aB.aJ q h.Uq,h.Uq.go q.size hK,⟨bs,h1.aJ q h.XE,h2.aJ q hK⟩,h.XE.go q.size hK⟩
def pU.small (h:pU w K F ap N cp ab cb):N<=1062:=by
 rw[<-h.len];exact Gg _
def Je (w:acL)(K:Nat->Prop)(v:acK)(F:DF):Prop:=∃ap N cp ab cb,v=qm F.size ap N cp ab cb/\pU w K F ap N cp ab cb
def ix (z:Nat->Bool)(n:Nat):Int:=if z n=true then ((pre z n).length:Nat) else -1
variable{K:Nat->Prop}{F:DF}{ap ab:Option acM}{N cp cb:Nat}
def BX (hn:n<1062)(hz:z n=true):(pg z)[(pre z n).length]?=some n/\(pre z n).length<(pg z).length:=by
 rw[oN z hn,if_pos hz];constructor;rw[ae1 aj,Nat.sub_self];rfl;rw[acZ];simp
variable{l:List Nat}
def wF (h:k<l.length):(l.map λ(n:Nat)=>(n:Int)).getD k 0=((l.getD k 0:Nat):Int):=by
 simp[afh,h]
def Pw (hn:n<1062)(hk:k<(pre z n).length):(pg z).getD k 0<n:=by
 rw[oN z hn,aah,aa9 hk,aaj hk];exact abd (aff hk)
def Jf {L:List Nat}(hr:L.Pairwise (·<·)){K:Nat}(hk:k<L.length)(e:L.getD k 0=n)(h1:L[K]?=some n/\K<L.length):k=K:=by
 rw[aah,aaj hk]at e;have h2:L[K]'h1.2=n:=by have:=h1.1;rw[aaj h1.2]at this;injection this
 simp at e;rcases Nat.lt_trichotomy k K with c|c|c;have:=(aeo.1 hr) _ _ hk h1.2 c;omega;exact c;have:=(aeo.1 hr) _ _ h1.2 hk c;omega
def abf (hn:n<1062)(hk:k<(pg z).length)(e:(pg z).getD k 0=n):z n=true/\k=(pre z n).length:=by
 have hm:n∈pg z:=by rw[<-e,aah,aaj hk];exact aff hk
 have hz:=(Gf.1 hm).2;exact⟨hz,Jf (Gd z) hk e (BX hn hz)⟩
def pG (h:pU w K F ap N cp ab cb)(n:Nat)(hn:n<1062):ac4 prog 69 #[qm F.size ap N cp ab cb,vi n] w λe w'=>e=ab4 (vi (ix F.z n))/\acN w.heap.size w w':=by
 have H:=az h;have HN:=az hn;have HS:=az h.small;clear h hn;generalize F.size=sz;unfold qm;go_in;go_upto_region 2 with fail;refine mD λw1 HB1 lD=>?_
 obtain⟨x,hx⟩:∃x,x=w.heap.size:=⟨_,rfl⟩;rw[<-hx]at lD ⊢;have Tk:=az (H.o.zy.below HB1.o);clear hx;go_loopw [5] (λi wr=>∃k:Nat,k<=N/\i=vi k/\wr=w1/\Hid (∀j,j<k->(pg F.z).getD j 0≠n)) (λi _=>N-(intOf i).toNat)
 case atStart=>exact⟨0,aaW _,rfl,rfl,az (λj hj=>aa)⟩
 case round =>
  obtain⟨k,hk,rfl,rfl,hz⟩:=hrel;have x2:wr.cell? ⟨x,2,none⟩=some (aco ap N cp):=lD.o.cell 2;by_cases hkn:k<N
  ·have n1:(k:Int)<(N:Int):=aa;have hkl:k<(pg F.z).length:=by rw[H.o.len];exact hkn
   obtain⟨b,o,hab,c1⟩:=Tk.o.lookup (i:=k) (by rw[abT];exact hkl);subst hab;rw[wF hkl]at c1;obtain⟨m,hm⟩:∃m,m=(pg F.z).getD k 0:=⟨_,rfl⟩;have HM:=az hm;rw[<-hm]at c1;have r2:adk.wrap ((k:Int)+1)=((k+1:Nat):Int):=by rw[adl _ (by have:=HS.o;omega)];omega
   have Wh:Hid (k<N):=az hkn;have jU:Hid (k<(pg F.z).length):=az hkl;clear hm hkl hkn hk;by_cases Zh:m=n
   ·have hin:=abf HN.o jU.o (by rw[<-HM.o];exact Zh);have HI:Hid (ix F.z n=k):=az (by unfold ix;rw[if_pos hin.1,<-hin.2]);have b1:((m:Int)==(n:Int))=true:=by rw[Zh];simp
    clear hin Zh;go_wp2;go_ret;exact⟨by rw[HI.o];first|done|rfl,HB1.o⟩
   have b1:((m:Int)==(n:Int))=false:=beq_eq_false_iff_ne.2 aa;have HZ2:Hid (∀j,j<k+1->(pg F.z).getD j 0≠n):=az (λj hj=>by
    by_cases c:j=k
    rw[c,<-HM.o];exact Zh
    exact hz.o j aa)
   clear hz Zh;go_wp2;go_roundw
   case rel=>exact⟨k+1,Wh.o,by first|rfl|trivial,by first|rfl|trivial,HZ2⟩
   case measure=>have:=Wh.o;simp[intOf];omega
  have n1:¬(k:Int)<(N:Int):=aa;have HI:Hid (ix F.z n= -1):=az (by
   unfold ix
   rw[if_neg]
   intro e
   have h1:=BX HN.o e
   have h2:=hz.o _ (adN h1.2 (by rw[H.o.len];exact Nat.le_of_not_lt hkn))
   rw[aah,h1.1]at h2
   exact h2 rfl)
  clear hz hk hkn;go_wp2;go_ret;exact⟨by rw[HI.o];first|done|rfl,HB1.o⟩
def mi (h:pU w K F ap N cp ab cb):ac4 prog 18 #[qm F.size ap N cp ab cb] w λe w'=>e=ab4 (vi (aH F.z:Nat))/\acN w.heap.size w w':=by
 have HB1:Hid (acN w.heap.size w (w.alloc (ach #[vi 64,vi F.size,aco ap N cp,aco ab N cb] 34))):=az ax;have HFI:=az (agB (w:=w.alloc (ach #[vi 64,vi F.size,aco ap N cp,aco ab N cb] 34)) ap (pg F.z) cp (h.zy.below HB1.o) (λn hn=>(Gf.1 hn).1) (Gg _) (Gd _));rw[Pv,h.len]at HFI;clear h;generalize aH F.z=T at*;generalize F.size=sz at*;unfold qm;go_in;go_upto_region 1 with fail;have lD:=az (aD.new w 34 #[vi 64,vi sz,aco ap N cp,aco ab N cb]);change Code.wp _ _ _ _ (w.alloc (ach #[vi 64,vi sz,aco ap N cp,aco ab N cb] 34))
 generalize w.alloc (ach #[vi 64,vi sz,aco ap N cp,aco ab N cb] 34)=w1 at*;have x0:w1.cell? ⟨w.heap.size,0,none⟩=some (vi 64):=lD.o.cell 0;have x2:w1.cell? ⟨w.heap.size,2,none⟩=some (aco ap N cp):=lD.o.cell 2;go_wp2_with fail;refine HFI.o.mono ?_;rintro e w2 ⟨rfl,hb2⟩;have HB2:Hid (acN w.heap.size w w2):=az (HB1.o.trans (hb2.mono HB1.o.size));clear hb2;go_wp2;go_ret;exact⟨rfl,HB2.o⟩
structure St (w:acL)(x r:Nat)(Cx Cr:Array acK)(W:acL):Prop where
 dW:acN w.heap.size w W
 bx:aD W x 34 Cx
 br:aD W r 34 Cr
 lo:w.heap.size<=x/\w.heap.size<=r/\x≠r
section
variable{W W':acL}{x r b0:Nat}{Cx Cr:Array acK}{v v2:acK}{xs ys:List acK}{t t2:acO}
def St.alloc (h:St w x r Cx Cr W)(o:Obj):St w x r Cx Cr (W.alloc o):=⟨h.dW.alloc h.dW.size o,h.bx.alloc o,h.br.alloc o,h.lo⟩
def St.old (h:St w x r Cx Cr W)(hb:acN W.heap.size W W'):St w x r Cx Cr W':=⟨h.dW.trans (hb.mono h.dW.size),h.bx.old hb,h.br.old hb,h.lo⟩
def St.drew (h:St w x r Cx Cr W):St w x r Cx Cr W.drew:=⟨h.dW.drew,h.bx,h.br,h.lo⟩
def St.grown (h:St w x r Cx Cr W)(ho:aR W b0 t v xs)(ht:34≠t)(hb:w.heap.size<=b0)(hg:W.grownBy W' v.ownBlock):St w x r Cx Cr W' :=
 ⟨h.dW.grown hg h.dW.size (λk hk=>abX hb (aR.lt ho hk).2.1),h.bx.grown hg (bU ho h.bx ht),h.br.grown hg (bU ho h.br ht),h.lo⟩
def St.abg (h:St w x r Cx Cr W)(j:Nat)(u:acK):St w x r (Cx.setIfInBounds j u) Cr (W.setCell ⟨x,j,none⟩ u) :=
 ⟨h.dW.setCell (p:=⟨x,j,none⟩) h.lo.1 u,h.bx.bB j u,h.br.far (p:=⟨x,j,none⟩) (λe=>h.lo.2.2 e.symm) u,h.lo⟩
def St.cO (h:St w x r Cx Cr W)(j:Nat)(u:acK):St w x r Cx (Cr.setIfInBounds j u) (W.setCell ⟨r,j,none⟩ u) :=
 ⟨h.dW.setCell (p:=⟨r,j,none⟩) h.lo.2.1 u,h.bx.far (p:=⟨r,j,none⟩) h.lo.2.2 u,h.br.bB j u,h.lo⟩
def aR.other (h:aR W b0 t v xs){b1:Nat}(g:aR W b1 t2 v2 ys)(ht:t≠t2)(hg:W.grownBy W' v2.ownBlock):aR W' b0 t v xs :=
 aR.kept h hg (λr e e2=>by
  obtain⟨_,_,cur,hb⟩:=aR.lt h e2
  obtain⟨_,_,anf,hb2⟩:=aR.lt g e
  exact ht (bY hb2 hb))
def aR.iW (h:aR W b0 t v xs){cs:Array acK}(hb:aD W g t2 cs)(ht:t≠t2)(j:Nat)(u:acK):aR (W.setCell ⟨g,j,none⟩ u) b0 t v xs :=
 aR.kept h (row:=some g) (xD W g j u) (λr e e2=>by
  injection e with e
  subst e
  obtain⟨_,_,cur,hb2⟩:=aR.lt h e2
  exact ht (bY hb hb2))
variable{v3:acK}
def yV (hb:aD w' g 34 #[v0,v1,v2,v3])(tmps:Array acK)(h2:tmps[4]?=some (.pointer (some ⟨g,0,none⟩))) :
  (results Tryz.f67 tmps).run prog w'=.ok (.agg #[v0,v1,v2,v3]) w':=by
 have g0:w'.cell? ⟨g,0,none⟩=some v0:=hb.cell 0;have g1:w'.cell? ⟨g,1,none⟩=some v1:=hb.cell 1;have g2:w'.cell? ⟨g,2,none⟩=some v2:=hb.cell 2;have g3:w'.cell? ⟨g,3,none⟩=some v3:=hb.cell 3;simp only[results,results67];simp[go_sem,h2,g0,g1,g2,g3,underlying34]
def Lg (hn:n<1062):(pre z n).length<=(pg z).length:=by
 rw[oN z hn,acZ];omega
def Ur (hn:n<1062)(hz:z n=false)(hk:(pre z n).length<(pg z).length):n<(pg z).getD (pre z n).length 0:=by
 have hs:=oN z hn;rw[hz]at hs;simp only[Bool.false_eq_true,if_false,afl]at hs;rw[hs,aah,ae1 aj,Nat.sub_self];rw[hs,acZ]at hk;have h0:0<(post z n).length:=aa;rw[aaj h0];exact XA (aff h0)
def XF (hn:n<1062)(hz:z n=false):(pg z).take (pre z n).length=pre z n/\(pg z).drop (pre z n).length=post z n:=by
 have hs:=oN z hn;rw[hz]at hs;simp only[Bool.false_eq_true,if_false,afl]at hs;rw[hs];exact⟨List.take_left' rfl,List.drop_left' rfl⟩
def Ey :∀u∈l.map (λ(n:Nat)=>vi (n:Int)),u.oneCell'=true:=λu hu=>by
 obtain⟨y,_,rfl⟩:=aay.1 hu
 rfl
def BZ (hn:n<1062)(hz:z n=false){α:Type}(f:Nat->α):((pg z).map f).take (pre z n).length++[f n]++((pg z).map f).drop (pre z n).length=(pg (GX z n)).map f:=by
 obtain⟨h1,h2⟩:=XF hn hz;rw[<-List.map_take,<-List.map_drop,h1,h2,abe hn,aef,List.map_cons,adM];rfl
def mK (h:F.ok)(hz:F.z n=false):row F.b n=List.replicate 64 0:=by
 symm;refine Lb ai λx hx=>?_
 rw[aah,afk,if_pos hx,h.zero _ (by rw[show (64*n+x)/64=n by omega];exact hz)];rfl
def jP (hS:St w x r Cx Cr W){ts:acO}(hu:prog.underlying ts=some (.slice t)){z:acK}{ui:Nat}(Lf:(prog.info? t).map (λi=>(i.zero,i.size,i.bytes))=some (some z,1,ui))(hz:z.cells.size=1)(hby:ui<=24)
  (hv:aR W w.heap.size t v xs) (ht:34≠t) {a:Option acM} {c:Nat} (hr:kT W a ys) (h1:∀u∈ys,u.oneCell'=true) (hn:xs.length+ys.length<=1000000) {m:Nat} (hm:m=ys.length) :
  ∃v' W',eH ts ts ts v (.slice a m c) W v' W'/\aR W' w.heap.size t v' (xs++ys)/\St w x r Cx Cr W'/\W.grownBy W' v.ownBlock:=by
 subst hm;obtain⟨v',W',h2,h3,h4⟩:=kU (c:=c) hu Lf hz hby hv hr h1 hn hS.dW.size;exact⟨v',W',h2,h3,hS.grown hv ht aj h4,h4⟩
def kG (W:acL)(u:acK)(t:acO):kT (W.alloc (ach #[u] t)) (some ⟨W.heap.size,0,none⟩) [u]:=acm ⟨_,_,rfl,λi hi=>by
 have:i=0:=by simpa using hi
 subst this
 exact(aD.new W t #[u]).cell 0⟩
def XG (w:acL)(x r:Nat)(Cx Cr:Array acK)(v2:acK)(ns:List acK)(bs:List acK)(v7:acK)(wx:acL):Prop :=
 ∃gz,w.heap.size<=gz/\aD wx gz 5 (madeCells #[vb 0] 64)/\aR wx w.heap.size 23 v7 (bs++[aco (some ⟨gz,0,none⟩) 64 64])/\aR wx w.heap.size 3 v2 ns/\St w x r Cx Cr wx
def fG {cs:Array acK}(hb:aD W g t2 cs)(hv:aR W b0 t v xs)(hg:W.grownBy W' v.ownBlock)(ht:t2≠t):aD W' g t2 cs:=hb.grown hg (bU hv hb ht)
abbrev pV:Obj:=ach (madeCells #[vb 0] 64) 5
section
variable{ns bs:List acK}{k:Nat}
def abh (hS:St w x r Cx Cr W)(h2:aR W w.heap.size 3 v2 ns)(hr:kT W ab bs)(h1:∀u∈bs,u.oneCell'=true)(hk:k=bs.length)(hn:bs.length<=5000) :
  ∃v1 wa v7 wb,eH 32 32 32 (.slice none 0 0) (.slice ab k cb) W v1 wa/\eH 32 32 32 v1 (.slice (some ⟨(wa.alloc pV).heap.size,0,none⟩) 1 1) ((wa.alloc pV).alloc (.cells #[.slice (some ⟨wa.heap.size,0,none⟩) 64 64] 23)) v7 wb/\XG w x r Cx Cr v2 ns bs v7 wb/\St w x r Cx Cr wa:=by
 obtain⟨v1,wa,a1,o1,S1,g1⟩:=jP hS underlying32 fT rfl aa (aR.nil W w.heap.size 23) ag (c:=cb) hr h1 (by simp;omega) hk;have i1:=aR.other h2 (aR.nil W w.heap.size 23) ag g1;rw[afl]at o1;have S2:=(S1.alloc pV).alloc (.cells #[.slice (some ⟨wa.heap.size,0,none⟩) 64 64] 23);have hbel:acN wa.heap.size wa ((wa.alloc pV).alloc (.cells #[.slice (some ⟨wa.heap.size,0,none⟩) 64 64] 23)):=ax.alloc ai _;obtain⟨v7,wb,a2,o2,S3,g2⟩:=jP S2 underlying32 fT rfl aa (o1.old hbel) ag (c:=1) (kG (wa.alloc pV) (.slice (some ⟨wa.heap.size,0,none⟩) 64 64) 23) (λu hu=>by simp at hu;rw[hu];rfl) (by simp;omega) (m:=1) rfl
 exact⟨v1,wa,v7,wb,a1,a2,⟨wa.heap.size,S1.dW.size,fG ((aD.new wa 5 (madeCells #[vb 0] 64)).alloc _) (o1.old hbel) g2 ag,o2,aR.other (i1.old hbel) (o1.old hbel) ag g2,S3⟩,S1⟩
def abj (hS:St w x r Cx Cr W)(h2:aR W w.heap.size 3 v2 ns)(hr:kT W ab bs)(h1:∀u∈bs,u.oneCell'=true)(hk:k=bs.length)(hn:bs.length<=5000) :
  ∃v1 wa v7 wb,eH 32 32 32 (.slice none 0 0) (.slice ab k cb) (W.alloc pV) v1 wa/\eH 32 32 32 v1 (.slice (some ⟨wa.heap.size,0,none⟩) 1 1) (wa.alloc (.cells #[.slice (some ⟨W.heap.size,0,none⟩) 64 64] 23)) v7 wb/\XG w x r Cx Cr v2 ns bs v7 wb/\St w x r Cx Cr wa:=by
 have hb0:acN W.heap.size W (W.alloc pV):=ax;obtain⟨v1,wa,a1,o1,S1,g1⟩:=jP (hS.alloc pV) underlying32 fT rfl aa (aR.nil (W.alloc pV) w.heap.size 23) ag (c:=cb) (hr.old hb0) h1 (by simp;omega) hk;have i1:=aR.other (h2.old hb0) (aR.nil (W.alloc pV) w.heap.size 23) ag g1;have z1:=fG (aD.new W 5 (madeCells #[vb 0] 64)) (aR.nil (W.alloc pV) w.heap.size 23) g1 ag;rw[afl]at o1;have hbel:acN wa.heap.size wa (wa.alloc (.cells #[.slice (some ⟨W.heap.size,0,none⟩) 64 64] 23)):=ax
 obtain⟨v7,wb,a2,o2,S3,g2⟩:=jP (S1.alloc (.cells #[.slice (some ⟨W.heap.size,0,none⟩) 64 64] 23)) underlying32 fT rfl aa (o1.old hbel) ag (c:=1) (kG wa (.slice (some ⟨W.heap.size,0,none⟩) 64 64) 23) (λu hu=>by simp at hu;rw[hu];rfl) (by simp;omega) (m:=1) rfl;exact⟨v1,wa,v7,wb,a1,a2,⟨W.heap.size,hS.dW.size,fG (z1.alloc _) (o1.old hbel) g2 ag,o2,aR.other (i1.old hbel) (o1.old hbel) ag g2,S3⟩,S1⟩
def abk (hS:St w x r Cx Cr W)(h2:aR W w.heap.size 3 v2 ns)(hr:kT W ab bs)(h1:∀u∈bs,u.oneCell'=true)(hk:k=bs.length)(hn:bs.length<=5000) :
  ∃v1 wa v7 wb,eH 32 32 32 (.slice none 0 0) (.slice ab k cb) ((W.alloc pV).alloc (.cells #[.slice (some ⟨W.heap.size,0,none⟩) 64 64] 23)) v1 wa/\eH 32 32 32 v1 (.slice (some ⟨(W.alloc pV).heap.size,0,none⟩) 1 1) wa v7 wb/\XG w x r Cx Cr v2 ns bs v7 wb/\St w x r Cx Cr wa:=by
 have hb0:acN W.heap.size W ((W.alloc pV).alloc (.cells #[.slice (some ⟨W.heap.size,0,none⟩) 64 64] 23)):=ax.alloc ai _;have SS:=(hS.alloc pV).alloc (.cells #[.slice (some ⟨W.heap.size,0,none⟩) 64 64] 23);have hone:=kG (W.alloc pV) (.slice (some ⟨W.heap.size,0,none⟩) 64 64) 23;have hzz:=(aD.new W 5 (madeCells #[vb 0] 64)).alloc (.cells #[.slice (some ⟨W.heap.size,0,none⟩) 64 64] 23);have hr0:=hr.old hb0;have h20:=h2.old hb0;generalize ((W.alloc pV).alloc (.cells #[.slice (some ⟨W.heap.size,0,none⟩) 64 64] 23))=V at*;obtain⟨v1,wa,a1,o1,S1,g1⟩:=jP SS underlying32 fT rfl aa (aR.nil V w.heap.size 23) ag (c:=cb) hr0 h1 (by simp;omega) hk
 have i1:=aR.other h20 (aR.nil V w.heap.size 23) ag g1;have z1:=fG hzz (aR.nil V w.heap.size 23) g1 ag;rw[afl]at o1;have hV:kT wa (some ⟨(W.alloc pV).heap.size,0,none⟩) [.slice (some ⟨W.heap.size,0,none⟩) 64 64]:=by
  rcases hone with h|⟨b,o,e,h⟩;cases h;refine .inr ⟨b,o,e,λi hi=>?_⟩;have hc:=h i hi;rw[aaj hi]at hc ⊢;exact cell_kept hc g1 (λr e=>by simp[aeP]at e)
 obtain⟨v7,wb,a2,o2,S3,g2⟩:=jP S1 underlying32 fT rfl aa o1 ag (c:=1) hV (λu hu=>by simp at hu;rw[hu];rfl) (by simp;omega) (m:=1) rfl;exact⟨v1,wa,v7,wb,a1,a2,⟨W.heap.size,hS.dW.size,fG z1 o1 g2 ag,o2,aR.other i1 o1 ag g2,S3⟩,S1⟩
end
def St.c03 (h:St w x r #[v0,v1,v2,v3] Cr W):W.cell? ⟨x,3,none⟩=some v3/\W.cell? ⟨x,0,none⟩=some v0:=⟨h.bx.cell 3,h.bx.cell 0⟩
def aR.four (h:aR W b0 t v xs)(S:St w x r Cx Cr W)(ht:t≠34)(u0 u1 u2 u3:acK) :
  aR ((((W.setCell ⟨r,0,none⟩ u0).setCell ⟨r,1,none⟩ u1).setCell ⟨r,2,none⟩ u2).setCell ⟨r,3,none⟩ u3) b0 t v xs :=
 aR.iW (aR.iW (aR.iW (aR.iW h S.br ht 0 u0) (S.cO 0 u0).br ht 1 u1) ((S.cO 0 u0).cO 1 u1).br ht 2 u2) (((S.cO 0 u0).cO 1 u1).cO 2 u2).br ht 3 u3
def St.fourB {cs:Array acK}(S:St w x r Cx Cr W)(h:aD W g t cs)(ht:34≠t)(u0 u1 u2 u3:acK) :
  aD ((((W.setCell ⟨r,0,none⟩ u0).setCell ⟨r,1,none⟩ u1).setCell ⟨r,2,none⟩ u2).setCell ⟨r,3,none⟩ u3) g t cs:=by
 have hne:g≠r:=λe=>by subst e;exact ht (bY h S.br)
 exact(((h.far (p:=⟨r,0,none⟩) hne u0).far (p:=⟨r,1,none⟩) hne u1).far (p:=⟨r,2,none⟩) hne u2).far (p:=⟨r,3,none⟩) hne u3
def Us (h:aD W g 5 (madeCells #[vb 0] 64)):bE W (some ⟨g,0,none⟩) (List.replicate 64 0):=by
 refine⟨λy hy=>by rw[List.eq_of_mem_replicate hy];decide,acm ⟨g,0,rfl,λi hi=>?_⟩⟩;rw[List.length_replicate]at hi;rw[Nat.zero_add,h.cell,<-Array.getElem?_toList,toList_madeCells_one,afk,if_pos hi,aah,afk,if_pos hi];rfl
abbrev z4:Array acK:=#[vi 0,vi 0,aco none 0 0,aco none 0 0]
def St.Ut (S:St w x r #[v0,v1,v2,v3] z4 W) :
  W.cell? ⟨x,0,none⟩=some v0/\W.cell? ⟨x,1,none⟩=some v1/\W.cell? ⟨x,2,none⟩=some v2/\W.cell? ⟨x,3,none⟩=some v3 /\
  W.cell? ⟨r,0,none⟩=some (vi 0)/\W.cell? ⟨r,1,none⟩=some (vi 0)/\W.cell? ⟨r,2,none⟩=some (aco none 0 0)/\W.cell? ⟨r,3,none⟩=some (aco none 0 0) /\
  W.frozen? ⟨r,0,none⟩=false/\W.frozen? ⟨r,1,none⟩=false/\W.frozen? ⟨r,2,none⟩=false/\W.frozen? ⟨r,3,none⟩=false :=
 ⟨S.bx.cell 0,S.bx.cell 1,S.bx.cell 2,S.bx.cell 3,S.br.cell 0,S.br.cell 1,S.br.cell 2,S.br.cell 3,S.br.frozen 0,S.br.frozen 1,S.br.frozen 2,S.br.frozen 3⟩
def uV {c:Code}{P:Program}{Q:Exit->Act->acL->Prop}{a:Act}{C:Array acK}(h:∀W,Hid (St w w.heap.size (w.heap.size+1) C z4 W)->Hid (W.heap.size=w.heap.size+2)->c.wp P Q a W) :
  c.wp P Q a ((w.alloc (ach C 34)).alloc (ach z4 34)) :=
 h _ (az ⟨ax.alloc ai _,(aD.new w 34 _).alloc _,by have h:=aD.new (w.alloc (ach C 34)) 34 z4;rwa[size_alloc]at h,aj,aa,aa⟩) (az ai)
def Uu (h:pU w K F ap N cp ab cb)(hK:∀n,K n->n<w.heap.size)(n:Nat)(hn:n<1062):ac4 prog 67 #[qm F.size ap N cp ab cb,vi n] w λe w'=>∃v,e=.returned v/\Je w' K v (F.with_ n)/\acN w.heap.size w w':=by
 have H:=az h;have Nf:=az hK;have HN:=az hn;have HS:=az h.small;have je:=az h.len;have qL:=az (Lg (z:=F.z) hn);have KI:=az (λk (hk:k<(pre F.z n).length)=>Pw (z:=F.z) hn hk);clear h hn hK;obtain⟨k,hk⟩:∃K,K=(pre F.z n).length:=⟨_,rfl⟩;rw[<-hk]at qL KI;have HK:=az hk;clear hk;obtain⟨sz,hsz⟩:∃s,s=F.size:=⟨_,rfl⟩;rw[<-hsz];have jS:=az hsz;clear hsz;obtain⟨bs,hbs⟩:=H.o.rows;have Lh:=az hbs;have lK:Hid (bs.length=N):=az (by rw[hbs.2.1,abT,je.o]);clear hbs;unfold qm;go_in;go_upto_region 1 with fail;refine uV λw1 fV _=>?_
 obtain⟨x,hx⟩:∃x,x=w.heap.size:=⟨_,rfl⟩;rw[<-hx]at fV ⊢;clear hx;generalize x+1=r at*;have Tk:=az (H.o.zy.below fV.o.dW);have x2:w1.cell? ⟨x,2,none⟩=some (.slice ap N cp):=fV.o.bx.cell 2;have HEL:Hid (∀k,k<N->∃b o,ap=some ⟨b,o,none⟩/\w1.cell? ⟨b,o+k,none⟩=some (vi ((pg F.z).getD k 0:Nat))):=az (λk hk=>by
  have hkl:k<(pg F.z).length:=by rw[je.o];exact hk
  obtain⟨b,o,hab,c1⟩:=Tk.o.lookup (i:=k) (by rw[abT];exact hkl)
  rw[wF hkl]at c1
  exact⟨b,o,hab,c1⟩)
 go_wp2_with fail;go_loopw [5] (λi wr=>∃j:Nat,j<=k/\i=vi j/\wr=w1) (λi _=>k-(intOf i).toNat)
 case atStart=>exact⟨0,aaW _,rfl,rfl⟩
 case round =>
  obtain⟨j,hj,rfl,rfl⟩:=hrel;by_cases hjk:j<k
  ·have n1:(j:Int)<(N:Int):=by have h1:=qL.o;have h2:=je.o;omega
   obtain⟨b,o,hab,c1⟩:=HEL.o j aa;have hlt:=KI.o j hjk;generalize (pg F.z).getD j 0=m at*;subst hab;have n2:(m:Int)<(n:Int):=aa;have r2:adk.wrap ((j:Int)+1)=((j+1:Nat):Int):=by rw[adl _ (by have h1:=HS.o;omega)];omega
   have HKK:=az hjk;clear hlt hjk hj;go_wp2;go_roundw
   case rel=>exact⟨j+1,HKK.o,by first|rfl|trivial,by first|rfl|trivial⟩
   case measure=>have:=HKK.o;simp[intOf];omega
  obtain rfl:j=k:=aa;clear hj hjk;have HEX:Hid ((j<N/\∃b o m,ap=some ⟨b,o,none⟩/\wr.cell? ⟨b,o+j,none⟩=some (vi (m:Nat))/\n<=m/\(m=n↔F.z n=true))\/(j=N/\F.z n=false)):=az (by
   by_cases Gi:j<N
   obtain⟨b,o,hab,c1⟩:=HEL.o j Gi
   refine .inl ⟨Gi,b,o,_,hab,c1,?_⟩
   by_cases hz:F.z n=true
   have h1:=BX HN.o hz
   rw[<-HK.o,je.o]at h1
   rw[aah,h1.1]
   exact⟨aj,λ_=>hz,λ_=>rfl⟩
   have hz':F.z n=false:=by simpa using hz
   have hlt:=Ur HN.o hz' (by rw[<-HK.o,je.o];exact Gi)
   rw[<-HK.o]at hlt
   exact⟨Nat.le_of_lt hlt,λe=>aa,λe=>absurd e hz⟩
   have ais:j=N:=by have h1:=qL.o;have h2:=je.o;omega
   refine .inr ⟨ais,?_⟩
   cases hz:F.z n with
   |false=>rfl
   |true =>
    have h1:=BX HN.o hz
    rw[<-HK.o,je.o]at h1
    omega)
  go_upto_region 2 with fail;clear x2;have x2:wr.cell? ⟨x,2,none⟩=some (.slice ap N cp):=fV.o.bx.cell 2;go_cut [21] from 8 to 23 (λv wx=>v=.bool false/\wx=wr)
  case first =>
   rcases HEX.o with⟨Gi,b,o,m,hab,c1,hm,hmz⟩|⟨Gi,hz⟩
   ·subst hab;have n1:(j:Int)<(N:Int):=aa;have n2:¬(m:Int)<(n:Int):=aa;clear Gi hm hmz;go_wp2;go_meet;exact⟨rfl,rfl⟩
   have n1:¬(j:Int)<(N:Int):=aa;clear Gi hz;go_wp2;go_meet;exact⟨rfl,rfl⟩
  case rest =>
  obtain⟨rfl,rfl⟩:=hcut;clear x2;generalize wc=w1 at*;have x2:w1.cell? ⟨x,2,none⟩=some (.slice ap N cp):=fV.o.bx.cell 2;go_upto_region 4 with fail;go_cut [37] from 24 to 74 (λv wx=>v=.bool (F.z n)/\wx=w1)
  case first =>
   rcases HEX.o with⟨Gi,b,o,m,hab,c1,hm,hmz⟩|⟨Gi,hz⟩
   ·subst hab;have n1:(j:Int)<(N:Int):=aa;have n2:((m:Int)==(n:Int))=F.z n:=by
     by_cases e:m=n;rw[hmz.1 e,e];simp;have h1:F.z n=false:=by simpa using λh=>e (hmz.2 h)
     rw[h1];exact beq_eq_false_iff_ne.2 aa
    clear Gi hm hmz;generalize F.z n=zz at*;go_wp2;go_meet;exact⟨rfl,rfl⟩
   have n1:¬(j:Int)<(N:Int):=aa;clear Gi;go_wp2;go_meet;exact⟨by rw[hz],rfl⟩
  case rest =>
  obtain⟨rfl,rfl⟩:=hcut;clear x2;cases hz:F.z n with
  |true =>
   generalize wc=w1 at*;have HW:Hid (F.with_ n=F):=az (by unfold DF.with_;rw[Um hz]);obtain⟨x0,x1,x2,x3,g0,g1,g2,g3,f0,f1,f2,f3⟩:=fV.o.Ut;have vB:=az ((((fV.o.cO 0 (vi 64)).cO 1 (vi sz)).cO 2 (.slice ap N cp)).cO 3 (.slice ab N cb));have Px:Hid (Je ((((w1.setCell ⟨r,0,none⟩ (vi 64)).setCell ⟨r,1,none⟩ (vi sz)).setCell ⟨r,2,none⟩ (.slice ap N cp)).setCell ⟨r,3,none⟩ (.slice ab N cb)) K (.agg #[vi 64,vi sz,.slice ap N cp,.slice ab N cb]) (F.with_ n)):=az (by
    rw[HW.o]
    exact⟨_,_,_,_,_,by unfold qm;rw[<-jS.o],H.o.old vB.o.dW⟩)
   clear hz;go_wp2_with fail;refine ac5 (yV vB.o.br _ rfl) rfl ⟨_,rfl,Px.o,vB.o.dW⟩
  |false =>
   generalize wc=w1 at*;have HZ:=az hz;have Gi:j<=N:=by have h1:=qL.o;have h2:=je.o;omega
   have hpr:iM w1 ap cp ((pg F.z).map λ(n:Nat)=>vi (n:Int)):=H.o.aB.old fV.o.dW;have hpc:=hpr.cap;rw[abT,je.o]at hpc;have hsl:=Uo (xs:=(pg F.z).map λ(n:Nat)=>vi (n:Int)) underlying31 mgr.jI (N:=N) (k:=j) hpr aa w1;obtain⟨v1,w2,ha1,ho1,S2,hg1⟩:=jP fV.o underlying31 mgr.jI rfl aa (aR.nil w1 w.heap.size 3) ag (c:=cp) (kT.take hpr.toV j) (λu hu=>Ey u (afp hu)) (by have:=HS.o;simp;omega) (m:=j) (by rw[acX,abT,je.o];omega);have hbel:acN w2.heap.size w2 (w2.alloc (.cells #[vi n] 3)):=(ac3 _ w2).alloc aj _
   obtain⟨v2,w3,ha2,ho2,S3,hg2⟩:=jP (S2.alloc (.cells #[vi n] 3)) underlying31 mgr.jI rfl aa (ho1.old hbel) ag (c:=1) (kG w2 (vi n) 3) (λu hu=>by simp at hu;rw[hu];rfl) (by simp;have:=HS.o;omega) (m:=1) rfl;have RA1:=az ha1;have RA2:=az ha2;have yz:=az ho2;have GL:=az S3;clear hpr hpc hg1 hg2 ha1 ha2 ho1 ho2 S2 S3 hbel hz Gi;have x2:w1.cell? ⟨x,2,none⟩=some (.slice ap N cp):=fV.o.bx.cell 2;go_upto_region 9 with (at_builtin;first|refine wpList_append_run rfl (.tmp 39) (.tmp 43) rfl rfl rfl RA1.o.run ?_|refine wpList_append_run rfl (.tmp 44) (.tmp 46) rfl rfl rfl RA2.o.run ?_)
   clear x2 hsl;go_cut [7] from 48 to 74 (λv7 wx=>Hid (XG w x r #[vi 64,vi sz,.slice ap N cp,.slice ab N cb] z4 v2 (((pg F.z).map λ(n:Nat)=>vi (n:Int)).take j++[vi (n:Int)]) (bs.take j) v7 wx))
   case first =>
    have ang:∀w:acL,(Instr.makeSlice 23 (vi 64) (vi 64)).run prog w=.ok (.slice (some ⟨w.heap.size,0,none⟩) 64 64) (w.alloc pV):=λw=>gp 64 aa w;have Py:iM w3 ab cb bs:=Lh.o.1.old GL.o.dW;have ZB:=Py.cap;have Gi:j<=N:=by have h1:=qL.o;have h2:=je.o;omega
    have hjl:j=(bs.take j).length:=by rw[acX,lK.o];omega
    have hsl:=Uo (xs:=bs) underlying32 fT (N:=N) (k:=j) Py (by rw[lK.o]at ZB;omega);have h1c:∀u∈bs.take j,u.oneCell'=true:=λu hu=>Rows.one_cell Lh.o.2 u (afp hu)
    have hln:(bs.take j).length<=5000:=by rw[<-hjl];have:=HS.o;omega
    obtain⟨va,wa,va7,wb,A1,A2,A3,A4⟩:=abh (cb:=cb) GL.o.drew yz.o (kT.take Py.toV j) h1c hjl hln;obtain⟨vb_,wba,vb7,wbb,B1,B2,B3,B4⟩:=abj (cb:=cb) GL.o.drew yz.o (kT.take Py.toV j) h1c hjl hln;obtain⟨vc,wca,vc7,wcb,C1,C2,C3,C4⟩:=abk (cb:=cb) GL.o.drew yz.o (kT.take Py.toV j) h1c hjl hln;have RA:=az A1;have RA':=az A2;have RB:=az B1;have RB':=az B2;have RC:=az C1;have RC':=az C2;have PA:=az A3;have PB:=az B3;have PC:=az C3;have SA:=az A4;have SB:=az B4;have SC:=az C4;have SA2:Hid (St w x r #[vi 64,vi sz,.slice ap N cp,.slice ab N cb] z4 wb):=az (by obtain⟨_,_,_,_,_,h⟩:=A3;exact h)
    have SB2:Hid (St w x r #[vi 64,vi sz,.slice ap N cp,.slice ab N cb] z4 wbb):=az (by obtain⟨_,_,_,_,_,h⟩:=B3;exact h);have SC2:Hid (St w x r #[vi 64,vi sz,.slice ap N cp,.slice ab N cb] z4 wcb):=az (by obtain⟨_,_,_,_,_,h⟩:=C3;exact h);clear A1 A2 A3 A4 B1 B2 B3 B4 C1 C2 C3 C4 Py ZB Gi hjl h1c hln;go_region_held3 (λW=>W.cell? ⟨x,3,none⟩=some (.slice ab N cb)/\W.cell? ⟨x,0,none⟩=some (vi 64))
     (first|(refine St.c03 (w:=w) (r:=r) (Cr:=z4) (v0:=vi 64) (v1:=vi sz) (v2:=.slice ap N cp) (v3:=.slice ab N cb) ?_;repeat (with_reducible first|exact GL.o|exact SA.o|exact SB.o|exact SC.o|exact SA2.o|exact SB2.o|exact SC2.o|refine St.drew ?_|refine St.alloc ?_ _)))
     (first
      |(refine jH (.tmp 48) (.tmp 52) RA.o (by rfl) (by rfl) (by go_simp) (by go_simp) ?_)
      |(refine jH (.tmp 53) (.tmp 57) RA'.o (by rfl) (by rfl) (by go_simp) (by go_simp) ?_)
      |(refine jH (.tmp 48) (.tmp 52) RB.o (by rfl) (by rfl) (by go_simp) (by go_simp) ?_)
      |(refine jH (.tmp 53) (.tmp 57) RB'.o (by rfl) (by rfl) (by go_simp) (by go_simp) ?_)
      |(refine jH (.tmp 48) (.tmp 52) RC.o (by rfl) (by rfl) (by go_simp) (by go_simp) ?_)
      |(refine jH (.tmp 53) (.tmp 57) RC'.o (by rfl) (by rfl) (by go_simp) (by go_simp) ?_))
    all_goals
     go_wp2;go_meet;first|exact PA|exact PB|exact PC
   case rest =>
   generalize wc=w4 at*;obtain⟨gz,hgz,hzb,Fw,yL,S4⟩:=hcut.o;have vB:=az S4;have Gi:j<=N:=by have h1:=qL.o;have h2:=je.o;omega
   clear hcut GL yz RA1 RA2;have hpr:iM w4 ap cp ((pg F.z).map λ(n:Nat)=>vi (n:Int)):=H.o.aB.old S4.dW;have hbr:iM w4 ab cb bs:=Lh.o.1.old S4.dW;obtain⟨a1,hs1,hv1⟩:=Jc (xs:=(pg F.z).map λ(n:Nat)=>vi (n:Int)) underlying31 mgr.jI (k:=j) hpr (by rw[abT,je.o];omega);rw[abT,je.o]at hs1;obtain⟨v3,w5,ha5,jT,S5,hg5⟩:=jP S4 underlying31 mgr.jI rfl aa yL ag (c:=cp-j) hv1 (λu hu=>Ey u (ail hu)) (by have:=HS.o;simp;rw[je.o];omega) (m:=N-j) (by rw[adt,abT,je.o]);have eX:Hid (((pg F.z).map λ(n:Nat)=>vi (n:Int)).take j++[vi (n:Int)]++((pg F.z).map λ(n:Nat)=>vi (n:Int)).drop j=(pg (GX F.z n)).map λ(n:Nat)=>vi (n:Int)):=az (by
    have:=BZ HN.o HZ.o (λ(n:Nat)=>vi (n:Int))
    rwa[<-HK.o]at this)
   rw[eX.o]at jT;have aei:=aR.other Fw yL ag hg5;have hz5:=fG hzb yL hg5 ag;obtain⟨a3,c3,e3,_⟩:=jT.Du;have HLO:Hid ((pg (GX F.z n)).length=N+1):=az (by
    have h1:=congrArg List.length eX.o
    simp only[acZ,acX,adt,abT,afs,je.o]at h1
    omega)
   rw[abT,HLO.o]at e3;subst e3;have S6:=S5.abg 2 (.slice a3 (N+1) c3);have aej:=aR.iW jT S5.bx ag 2 (.slice a3 (N+1) c3);have aek:=aR.iW aei S5.bx ag 2 (.slice a3 (N+1) c3);have hz6:aD (w5.setCell ⟨x,2,none⟩ (.slice a3 (N+1) c3)) gz 5 (madeCells #[vb 0] 64):=hz5.far (p:=⟨x,2,none⟩) (λe=>by
    have h1:=S5.bx
    have e':gz=x:=e
    rw[<-e']at h1
    exact absurd (bY h1 hz5) ag) _
   have RA5:=az ha5;have x2:w4.cell? ⟨x,2,none⟩=some (.slice ap N cp):=S4.bx.cell 2;have y2:w5.cell? ⟨x,2,none⟩=some (.slice ap N cp):=S5.bx.cell 2;have f2:=S5.bx.frozen 2;have xG:=az S6;have CW:=az aej;have QT:=az aek;have Zr:=az hz6;clear ha5 jT S5 hg5 aei hz5 yL Fw hzb S4 vB hpr hbr hv1 S6 aej aek hz6;go_upto_region 11 with (at_builtin;refine wpList_append_run rfl (.tmp 59) (.tmp 63) rfl rfl rfl RA5.o.run ?_);clear x2 y2 f2 hs1 RA5;generalize w5.setCell ⟨x,2,none⟩ (.slice a3 (N+1) c3)=w6 at*;have hbr:iM w6 ab cb bs:=Lh.o.1.old xG.o.dW;obtain⟨a2,hs2,hv2⟩:=Jc (xs:=bs) underlying32 fT (k:=j) hbr (by rw[lK.o];omega)
   rw[lK.o]at hs2;obtain⟨v8,w7,ha7,QY,S7,yO⟩:=jP xG.o underlying32 fT rfl aa QT.o ag (c:=cb-j) hv2 (λu hu=>Rows.one_cell Lh.o.2 u (ail hu)) (by have:=HS.o;simp;rw[lK.o];omega) (m:=N-j) (by rw[adt,lK.o]);have ael:=aR.other CW.o QT.o ag yO;have hz7:=fG Zr.o QT.o yO ag;have aiv:Hid ((bs.take j++[acK.slice (some ⟨gz,0,none⟩) 64 64]++bs.drop j).length=N+1):=az (by
    simp only[acZ,acX,adt,afs,lK.o]
    omega)
   obtain⟨a4,c4,e4,_⟩:=QY.Du;rw[aiv.o]at e4;subst e4;have S8:=S7.abg 3 (.slice a4 (N+1) c4);have aem:=aR.iW QY S7.bx ag 3 (.slice a4 (N+1) c4);have aen:=aR.iW ael S7.bx ag 3 (.slice a4 (N+1) c4);have hz8:aD (w7.setCell ⟨x,3,none⟩ (.slice a4 (N+1) c4)) gz 5 (madeCells #[vb 0] 64):=hz7.far (p:=⟨x,3,none⟩) (λe=>by
    have h1:=S7.bx
    have e':gz=x:=e
    rw[<-e']at h1
    exact absurd (bY h1 hz7) ag) _
   have RA7:=az ha7;have x3:w6.cell? ⟨x,3,none⟩=some (.slice ab N cb):=xG.o.bx.cell 3;have y3:w7.cell? ⟨x,3,none⟩=some (.slice ab N cb):=S7.bx.cell 3;have f3:=S7.bx.frozen 3;have mV:=az S8;have HOA:=az aen;have ZC:=az aem;have HZ8:=az hz8;clear ha7 QY S7 yO ael hz7 xG CW QT Zr hbr hv2 S8 aem aen hz8 Gi;go_upto_region 12 with (at_builtin;refine wpList_append_run rfl (.tmp 66) (.tmp 70) rfl rfl rfl RA7.o.run ?_);clear x3 y3 f3 hs2 RA7;generalize w7.setCell ⟨x,3,none⟩ (.slice a4 (N+1) c4)=w8 at*;obtain⟨x0,x1,x2,x3,g0,g1,g2,g3,f0,f1,f2,f3⟩:=mV.o.Ut;have ZE:=az ((((mV.o.cO 0 (vi 64)).cO 1 (vi sz)).cO 2 (.slice a3 (N+1) c3)).cO 3 (.slice a4 (N+1) c4))
   have HOC:=az (aR.four HOA.o mV.o ag (vi 64) (vi sz) (.slice a3 (N+1) c3) (.slice a4 (N+1) c4));have HOD:=az (aR.four ZC.o mV.o ag (vi 64) (vi sz) (.slice a3 (N+1) c3) (.slice a4 (N+1) c4));have HZ9:=az (mV.o.fourB HZ8.o ag (vi 64) (vi sz) (.slice a3 (N+1) c3) (.slice a4 (N+1) c4));go_wp2_with fail;refine ac5 (yV ZE.o.br _ rfl) rfl ⟨_,rfl,?_,ZE.o.dW⟩;have hlt:∀n,K n->n<w.heap.size:=Nf.o;refine⟨a3,N+1,c3,a4,c4,by unfold qm;rw[jS.o];rfl,?_⟩;obtain⟨a',c',e9,Py⟩:=HOC.o.Du;injection e9 with XH e92 XI;subst XH XI;obtain⟨a'',c'',e9,hp8⟩:=HOD.o.Du
   injection e9 with XH e92 XI;subst XH XI;refine⟨H.o.ok.with_ HN.o,HLO.o,Py,Off.own HOC.o hlt,⟨_,hp8,?_⟩,Off.own HOD.o hlt⟩;have hold:=Lh.o.2.old ZE.o.dW;have hzr:Rows K _ [.slice (some ⟨gz,0,none⟩) 64 64] [List.replicate 64 0]:=Rows.one (Us HZ9.o) (λad e=>by injection e with e;subst e;exact⟨HZ9.o.lt,λk=>by have h9:gz<w.heap.size:=hlt _ k;omega⟩) ai aj;have hall:=((hold.take j).append hzr).append (hold.drop j);have XJ:=BZ HN.o HZ.o (row F.b);rw[mK H.o.ok HZ.o,<-HK.o]at XJ;rw[XJ]at hall;exact hall
end
def mW:(prog.info? 5).map (λi=>(i.zero,i.size,i.bytes))=some (some (vb 0),1,1):=ah
variable{a:Option acM}
def kT.bytes (h:bE w a l):kT w a (l.map vb):=by
 rcases h.at_ with rfl|⟨b,o,rfl,h1⟩;exact ack rfl;refine acm ⟨b,o,rfl,λi hi=>?_⟩;rw[abT]at hi;rw[h1 i hi,aeX,aaj hi];simp[afh,hi]
def Li :∀u∈l.map vb,u.oneCell'=true:=λu hu=>by
 obtain⟨y,_,rfl⟩:=aay.1 hu
 rfl
variable{b0:Nat}
def aR.zu {c:Nat}(h:aR w b0 5 (aco a n c) (l.map vb))(hs:∀y∈l,y<256):bE w a l/\n=l.length:=by
 obtain⟨a',c',e,hv,_⟩:=h.Le;injection e with e1 e2 e3;subst e1;rw[abT]at e2;refine⟨⟨hs,?_⟩,e2⟩;rcases hv with h0|⟨b,o,rfl,h1⟩;exact ack (List.map_eq_nil_iff.1 h0);refine acm ⟨b,o,rfl,λi hi=>?_⟩;rw[h1 i (by rw[abT];exact hi),aeX,aaj hi];simp[afh,hi]
def Uv (b:Nat->Nat)(x v:Nat):(row b (x/64)).set (x%64) v=row (λy=>if y=x then v else b y) (x/64):=by
 refine Lb (by rw[abZ,wE]) λy hy=>?_
 rw[aah,List.getElem?_set];by_cases e:x%64=y;rw[if_pos e,if_pos (by rw[wE];omega),if_pos aa];rfl;rw[if_neg e,if_neg aa,<-aah,sZ _ _ hy]
def XK {b:Nat->Nat}{v m:Nat}(h:m≠x/64):row (λy=>if y=x then v else b y) m=row b m:=by
 symm;refine Lb (wE _ _) λy hy=>?_
 rw[if_neg aa,sZ _ _ hy]
def Pz {b:Nat->Nat}{v:Nat}(hn:x/64<1062)(hz:z (x/64)=true) :
  ((pg z).map (row b)).set (pre z (x/64)).length ((row b (x/64)).set (x%64) v)=(pg z).map (row λy=>if y=x then v else b y):=by
 obtain⟨h1,h2⟩:=BX hn hz;refine List.ext_getElem? λi=>?_
 rw[List.getElem?_set,aeX,aeX];by_cases e:(pre z (x/64)).length=i;rw[if_pos e,if_pos (by rw[abT];exact h2),<-e,h1,Uv];rfl;rw[if_neg e];rcases Nat.lt_or_ge i (pg z).length with hi|hi;rw[aaj hi];show some (row b _)=some (row _ _);rw[XK];intro e2;have:=Jf (Gd z) hi (n:=x/64) (by rw[aah,aaj hi];exact e2) ⟨h1,h2⟩;exact e this.symm;rw[List.getElem?_eq_none hi];rfl
def kH {v3:acK}(hb:aD w' g 34 #[v0,v1,v2,v3])(tmps:Array acK)(h2:tmps[6]?=some (.pointer (some ⟨g,0,none⟩))) :
  (results Tryz.f68 tmps).run prog w'=.ok (.agg #[v0,v1,v2,v3]) w':=by
 have g0:w'.cell? ⟨g,0,none⟩=some v0:=hb.cell 0;have g1:w'.cell? ⟨g,1,none⟩=some v1:=hb.cell 1;have g2:w'.cell? ⟨g,2,none⟩=some v2:=hb.cell 2;have g3:w'.cell? ⟨g,3,none⟩=some v3:=hb.cell 3;simp only[results,results68];simp[go_sem,h2,g0,g1,g2,g3,underlying34]
variable{xs:List acK}
def aR.put {c:Nat}{t:acO}(h:aR w b0 t (aco (some ⟨g,0,none⟩) n c) xs)(j:Nat)(u:acK) :
  aR (w.setCell ⟨g,j,none⟩ u) b0 t (aco (some ⟨g,0,none⟩) n c) (xs.set j u)/\w.grownBy (w.setCell ⟨g,j,none⟩ u) (some g):=by
 obtain⟨a,c',e,_⟩:=h.Le;injection e with e1 e2 e3;subst e2;unfold aR;rw[abZ];exact acL.ownsRow.stored h j u
def aR.some_ {t:acO}{v:acK}(h:aR w b0 t v xs)(hn:0<xs.length):∃g c,v=aco (some ⟨g,0,none⟩) xs.length c/\b0<=g/\xs.length<=c:=by
 rcases h.2 with⟨rfl,h0⟩|⟨g,cap,cur,rfl,hb,_,hnc,_⟩;omega;exact⟨g,cap,rfl,hb,hnc⟩
def aR.cell {c:Nat}{t:acO}(h:aR w b0 t (aco (some ⟨g,0,none⟩) n c) xs){j:Nat}(hj:j<xs.length):w.cell? ⟨g,j,none⟩=xs[j]?/\w.frozen? ⟨g,j,none⟩=false:=by
 obtain⟨a,c',e,_⟩:=h.Le;injection e with e1 e2 e3;subst e2;exact⟨acL.ownsRow.cellAt h j aa,acL.ownsRow.frozenAt h j⟩
def pW (h:pU w K F ap N cp ab cb)(hK:∀n,K n->n<w.heap.size)(X v:Nat)(hx:X<67968)(hz:F.z (X/64)=true)(hv:v<256):ac4 prog 68 #[qm F.size ap N cp ab cb,vi X,vb v] w λe w'=>∃u,e=.returned u/\Je w' K u (F.turn X v)/\acN w.heap.size w w':=by
 have H:=az h;have Nf:=az hK;have HS:=az h.small;have je:=az h.len;obtain⟨P,hP⟩:∃P,P=X/64:=⟨_,rfl⟩;obtain⟨R,hR⟩:∃R,R=X%64:=⟨_,rfl⟩;have GY:Hid (P=X/64/\R=X%64/\P<1062/\R<64):=az ⟨hP,hR,aa,aa⟩;rw[<-hP]at hz;have q1:(X:Int).tdiv 64=(P:Int):=by rw[ae3 aa];omega
 have q2:(X:Int).tmod 64=(R:Int):=by rw[afq aa];omega
 have q3:(X:Int)/64=(P:Int):=aa;have q4:(X:Int)%64=(R:Int):=aa;have q5:adk.wrap (P:Int)=(P:Int):=adl _ aa;have q6:adk.wrap (R:Int)=(R:Int):=adl _ aa;have HV:=az hv;have XL:=BX GY.o.2.2.1 hz;obtain⟨j,hj⟩:∃j,j=(pre F.z P).length:=⟨_,rfl⟩;rw[<-hj]at XL;have HJ:Hid ((pg F.z)[j]?=some P/\j<N/\j=(pre F.z P).length/\F.z P=true):=az ⟨XL.1,by rw[<-je.o];exact XL.2,hj,hz⟩;have HIX:Hid (ix F.z P=(j:Int)):=az (by unfold ix;rw[if_pos hz,hj]);clear h hK hP hR hx hz hv XL hj;obtain⟨sz,hsz⟩:∃s,s=F.size:=⟨_,rfl⟩;rw[<-hsz];have jS:=az hsz
 clear hsz;obtain⟨bs,hbs⟩:=H.o.rows;have Lh:=az hbs;have lK:Hid (bs.length=N):=az (by rw[hbs.2.1,abT,je.o]);clear hbs;unfold qm;go_in;go_upto_region 1 with fail;refine uV λw1 fV _=>?_
 obtain⟨x,hx⟩:∃x,x=w.heap.size:=⟨_,rfl⟩;rw[<-hx]at fV ⊢;clear hx;generalize x+1=r at*;have HAT:Hid (∀n:Sub w1,ac4 prog 69 #[.agg #[vi 64,vi sz,.slice ap N cp,.slice ab N cb],vi P] n.w λe w'=>e=.returned (vi (j:Int))/\acN n.w.heap.size n.w w'):=az (λn=>by
  have h1:=pG (w:=n.w) (H.o.old (fV.o.dW.trans (n.below.mono fV.o.dW.size))) P GY.o.2.2.1
  rw[HIX.o,<-jS.o]at h1
  exact h1)
 have x0:=Sub.cell (W:=w1) (a:=⟨x,0,none⟩) (v:=vi 64) (fV.o.bx.cell 0);have x1:=Sub.cell (W:=w1) (a:=⟨x,1,none⟩) (v:=vi sz) (fV.o.bx.cell 1);have x2:=Sub.cell (W:=w1) (a:=⟨x,2,none⟩) (v:=.slice ap N cp) (fV.o.bx.cell 2);have x3:=Sub.cell (W:=w1) (a:=⟨x,3,none⟩) (v:=.slice ab N cb) (fV.o.bx.cell 3);refine aZ ah ah ?_;repeat (go_big_quiet_step (exact fM (HAT.o _)))
 refine wpQuiet_nil ?_;rintro _ ⟨nq,rfl⟩;have HS2:=az (fV.o.old nq.below);clear x0 x1 x2 x3 HAT fV;generalize nq.w=W2 at*;clear nq;have HJN:Hid (j<bs.length):=az (by rw[lK.o];exact HJ.o.2.1);obtain⟨a,c,hbj,⟨hrow,_⟩,Dv,Uw⟩:=Lh.o.2.2 j (row F.b P) (by rw[aeX,HJ.o.1];rfl);have Dw:=az (hrow.below HS2.o.dW);obtain⟨b,o,hab,c1⟩:∃b o,ab=some ⟨b,o,none⟩/\W2.cell? ⟨b,o+j,none⟩=some (.slice a 64 c):=by
  rcases Lh.o.1 with⟨_,h0,_⟩|⟨b,o,h0,_,h1⟩;have:=HJN.o;rw[h0]at this;simp at this;exact⟨b,o,h0,cell_below ((h1 j HJN.o).trans hbj) HS2.o.dW⟩
 subst hab;obtain⟨L,hL⟩:∃L,L=row F.b P:=⟨_,rfl⟩;rw[<-hL]at Dw Dv;have HL:Hid (L=row F.b P/\L.length=64):=az ⟨hL,Dv⟩;have HLS:Hid (∀y∈L,y<256):=az Dw.o.small;clear hL Dv hrow hbj Uw;obtain⟨v8,w3,ha8,QY,S3,hg8⟩:=jP HS2.o underlying23 mW rfl aa (aR.nil W2 w.heap.size 5) ag (c:=c) (kT.bytes Dw.o) Li (by simp;have:=HL.o.2;omega) (m:=64) (by rw[abT,HL.o.2]);rw[afl]at QY;obtain⟨g8,c8,rfl,aiy,hc8⟩:=QY.some_ (by rw[abT,HL.o.2];omega);rw[abT,HL.o.2]at ha8 QY hc8;have RA:=az ha8;have EW:=az QY
 have GL:=az S3;have HC8:=az hc8;clear ha8 QY S3 hg8 aiy hc8;have x3:W2.cell? ⟨x,3,none⟩=some (.slice (some ⟨b,o,none⟩) N cb):=HS2.o.bx.cell 3;have n1:(j:Int)<(N:Int):=by have:=HJ.o.2.1;omega
 go_upto_region 4 with (at_builtin;refine wpList_append_run rfl (.tmp 16) (.tmp 21) rfl rfl rfl RA.o.run ?_);clear x3 c1;have x0:w3.cell? ⟨x,0,none⟩=some (vi 64):=GL.o.bx.cell 0;have hc3:=aR.cell EW.o (j:=R) (by rw[abT,HL.o.2];exact GY.o.2.2.2);rw[aeX,aaj (by rw[HL.o.2];exact GY.o.2.2.2)]at hc3;obtain⟨c3,z3⟩:=hc3;simp only[Option.map_some]at c3;generalize L[R]'(by rw[HL.o.2];exact GY.o.2.2.2)=old at*;have hput:=aR.put EW.o R (vb v);rw[<-List.map_set]at hput;have HO4:=az hput.1;have vB:=az (GL.o.grown EW.o ag aj hput.2)
 have n2:(R:Int)<64:=by have:=GY.o.2.2.2;omega
 clear hput;go_upto_region 5 with fail;clear x0 c3 z3 EW GL;generalize w3.setCell ⟨g8,R,none⟩ (vb v)=w4 at*;have aep:Hid (iM w4 (some ⟨b,o,none⟩) cb bs):=az (Lh.o.1.old vB.o.dW);obtain⟨v9,w5,ha9,ho9,S5,TI⟩:=jP vB.o underlying32 fT rfl aa (aR.nil w4 w.heap.size 23) ag (c:=cb) aep.o.toV (Rows.one_cell Lh.o.2) (by rw[lK.o];have:=HS.o;simp;omega) (m:=N) lK.o.symm;rw[afl]at ho9;have i9:=aR.other HO4.o (aR.nil w4 w.heap.size 23) ag TI;obtain⟨g9,c9,rfl,aiA,ZB⟩:=ho9.some_ (by have:=HJN.o;omega);rw[lK.o]at ha9 ho9 ZB;have RB:=az ha9
 have Dk:=az ho9;have mY:=az S5;have aeq:=az i9;clear ha9 ho9 S5 TI aiA i9;clear ZB;have x3:w4.cell? ⟨x,3,none⟩=some (.slice (some ⟨b,o,none⟩) N cb):=vB.o.bx.cell 3;have y3:w5.cell? ⟨x,3,none⟩=some (.slice (some ⟨b,o,none⟩) N cb):=mY.o.bx.cell 3;have f3:=mY.o.bx.frozen 3;go_upto_region 7 with (at_builtin;refine wpList_append_run rfl (.tmp 30) (.tmp 32) rfl rfl rfl RB.o.run ?_);have xG:=az (mY.o.abg 3 (.slice (some ⟨g9,0,none⟩) N c9));have CW:=az (aR.iW Dk.o mY.o.bx ag 3 (.slice (some ⟨g9,0,none⟩) N c9));have aer:=az (aR.iW aeq.o mY.o.bx ag 3 (.slice (some ⟨g9,0,none⟩) N c9))
 clear x3 y3 f3 mY Dk aeq vB HO4 aep;generalize w5.setCell ⟨x,3,none⟩ (.slice (some ⟨g9,0,none⟩) N c9)=w6 at*;have x3:w6.cell? ⟨x,3,none⟩=some (.slice (some ⟨g9,0,none⟩) N c9):=xG.o.bx.cell 3;have hc6:=aR.cell CW.o HJN.o;rw[aaj HJN.o]at hc6;obtain⟨c6,z6⟩:=hc6;generalize bs[j]'HJN.o=anu at*;have hput:=aR.put CW.o j (.slice (some ⟨g8,0,none⟩) 64 c8);have QT:=az hput.1;have mZ:=az (xG.o.grown CW.o ag aj hput.2);have aiB:=az (aR.other aer.o CW.o ag hput.2);clear hput;go_upto_region 8 with fail;clear x3 c6 z6 CW xG aer
 generalize w6.setCell ⟨g9,j,none⟩ (.slice (some ⟨g8,0,none⟩) 64 c8)=w7 at*;obtain⟨x0,x1,x2,x3,g0,g1,g2,g3,f0,f1,f2,f3⟩:=mZ.o.Ut;have mV:=az ((((mZ.o.cO 0 (vi 64)).cO 1 (vi sz)).cO 2 (.slice ap N cp)).cO 3 (.slice (some ⟨g9,0,none⟩) N c9));have HOA:=az (aR.iW (aR.iW (aR.iW (aR.iW QT.o mZ.o.br ag 0 (vi 64)) (mZ.o.cO 0 (vi 64)).br ag 1 (vi sz)) ((mZ.o.cO 0 (vi 64)).cO 1 (vi sz)).br ag 2 (.slice ap N cp)) (((mZ.o.cO 0 (vi 64)).cO 1 (vi sz)).cO 2 (.slice ap N cp)).br ag 3 (.slice (some ⟨g9,0,none⟩) N c9));have ZC:=az (aR.iW (aR.iW (aR.iW (aR.iW aiB.o mZ.o.br ag 0 (vi 64)) (mZ.o.cO 0 (vi 64)).br ag 1 (vi sz)) ((mZ.o.cO 0 (vi 64)).cO 1 (vi sz)).br ag 2 (.slice ap N cp)) (((mZ.o.cO 0 (vi 64)).cO 1 (vi sz)).cO 2 (.slice ap N cp)).br ag 3 (.slice (some ⟨g9,0,none⟩) N c9))
 go_wp2_with fail;refine ac5 (kH mV.o.br _ rfl) rfl ⟨_,rfl,?_,mV.o.dW⟩;have hlt:∀n,K n->n<w.heap.size:=Nf.o;refine⟨ap,N,cp,some ⟨g9,0,none⟩,c9,by unfold qm;rw[jS.o];rfl,?_⟩;obtain⟨a',c',e9,Py⟩:=HOA.o.Du;injection e9 with XH e92 XI;subst XH XI;have wT:=aR.zu (l:=L.set R v) ZC.o (λy hy=>by
  rcases List.mem_or_eq_of_mem_set hy with hy|rfl
  exact HLS.o y hy
  exact HV.o)
 refine⟨H.o.ok.turn (by rw[<-GY.o.1];exact HJ.o.2.2.2) HV.o,H.o.len,H.o.aB.old mV.o.dW,H.o.Uq.old mV.o.dW,⟨_,Py,?_⟩,Off.own HOA.o hlt⟩;have hset:=Rows.set (Lh.o.2.old mV.o.dW) (j:=j) wT.1 (Off.own ZC.o hlt) (by rw[abZ,HL.o.2]) HC8.o;have htr:=Pz (z:=F.z) (b:=F.b) (x:=X) (v:=v) (by rw[<-GY.o.1];exact GY.o.2.2.1) (by rw[<-GY.o.1];exact HJ.o.2.2.2);rw[<-GY.o.1,<-GY.o.2.1,<-HJ.o.2.2.1,<-HL.o.1]at htr;rw[htr]at hset;exact hset
def rd (F:DF)(aF n:Nat):List Nat:=(ac9 n).map λi=>F.b (aF+i)
def Nq (F:DF)(aF n:Nat):rd F aF (n+1)=rd F aF n++[F.b (aF+n)]:=by
 unfold rd;rw[List.range_succ,aef];rfl
def cnt (F:DF)(aF n:Nat):Nat:=min n (F.size-aF)
def Ux (aF n:Int)(ho: -9223372036854775808<=aF/\aF<=9223372036854775807)(hb:aF<0\/n<0\/1024<n):ac4 prog 43 #[qm F.size ap N cp ab cb,vi aF,vi n] w λe w'=>e=ab4 (adg #[aco none 0 0,vi 1])/\acN w.heap.size w w':=by
 have HB1:Hid (acN w.heap.size w (w.alloc (ach #[vi 64,vi F.size,aco ap N cp,aco ab N cb] 34))):=az ax;generalize F.size=sz at*;unfold qm;by_cases h1:aF<0
 ·clear hb;go_in;go_wp2;go_ret2;exact⟨rfl,HB1.o⟩
 by_cases h2:n<0
 ·clear hb;go_in;go_wp2;go_ret2;exact⟨rfl,HB1.o⟩
 have h3:(1024:Int)<n:=aa;clear hb;go_in;go_wp2;go_ret2;exact⟨rfl,HB1.o⟩
def Read_any (h:pU w K F ap N cp ab cb)(aF n:Nat)(hoff:aF<9223372036854775808)(hn:n<=1024):ac4 prog 43 #[qm F.size ap N cp ab cb,vi aF,vi n] w λe w' =>
  ∃v,e=.returned (.tuple #[v,vi 0])/\aR w' w.heap.size 5 v ((rd F aF (cnt F aF n)).map vb)/\acN w.heap.size w w':=by
 have H:=az h;have jS:Hid (F.size<=67968):=az h.ok.size;clear h;obtain⟨sz,hsz⟩:∃s,F.size=s:=⟨_,rfl⟩;have HS:=az hsz;rw[hsz]at jS ⊢;have hs6:=jS.o;clear hsz;unfold qm;have n0:¬(aF:Int)<0:=aa;have n1:¬(n:Int)<0:=aa;have n2:¬(1024:Int)<(n:Int):=aa;go_in;go_upto_region 1 with fail;refine mD λw1 HB1 lD=>?_
 obtain⟨x,hx⟩:∃x,x=w.heap.size:=⟨_,rfl⟩;rw[<-hx]at lD ⊢;clear hx;go_wp2_with fail;go_loopg [8,9] n (λk v8 v9 wr=>∃i:Nat,v9=vi i/\i<=n/\n-i<=k/\(i=0\/aF+i<=sz)/\Hid (aR wr w.heap.size 5 v8 ((rd F aF i).map vb)/\acN w.heap.size w wr/\aD wr x 34 #[vi 64,vi sz,.slice ap N cp,.slice ab N cb]))
 case atStart=>exact⟨0,rfl,aaW _,aa,.inl rfl,az ⟨acL.ownsRow_nil _ _ _ _,HB1.o,lD.o⟩⟩
 case round =>
  obtain⟨i,rfl,hin,hik,hio,hrd⟩:=hrel;have bK:=az hrd.o;clear hrd;have y0:wr.cell? ⟨x,0,none⟩=some (vi 64):=bK.o.2.2.cell 0;have y1:wr.cell? ⟨x,1,none⟩=some (vi sz):=bK.o.2.2.cell 1;have q1:adk.wrap ((sz:Int)-(i:Int))=(sz:Int)-(i:Int):=adl _ aa;by_cases hlt:i<n
  ·have a1:(i:Int)<(n:Int):=aa;by_cases hof:aF+i<sz
   ·have a2:(aF:Int)<(sz:Int)-(i:Int):=aa;obtain⟨oi,hoi⟩:∃oi,oi=aF+i:=⟨_,rfl⟩;have q2:adk.wrap ((aF:Int)+(i:Int))=(oi:Int):=by rw[adl _ aa];omega
    obtain⟨P,hP2⟩:∃P:Nat,P=(aF+i)/64:=⟨(aF+i)/64,rfl⟩;obtain⟨R,hR2⟩:∃R:Nat,R=(aF+i)%64:=⟨(aF+i)%64,rfl⟩;have HRR:Hid (R=(aF+i)%64/\R<64):=az ⟨hR2,aa⟩;have p1:(oi:Int).tdiv 64=(P:Int):=by rw[ae3 aa];omega
    have p2:(oi:Int).tmod 64=(R:Int):=by rw[afq aa];omega
    have p3:(oi:Int)/64=(P:Int):=aa;have p4:(oi:Int)%64=(R:Int):=aa;have p5:adk.wrap (P:Int)=(P:Int):=adl _ aa;have p6:adk.wrap (R:Int)=(R:Int):=adl _ aa;clear hR2 hoi;have AR:=az hP2;have y2:wr.cell? ⟨x,2,none⟩=some (.slice ap N cp):=bK.o.2.2.cell 2;have y3:wr.cell? ⟨x,3,none⟩=some (.slice ab N cb):=bK.o.2.2.cell 3;clear hP2;have HAT:Hid (∀n:Sub wr,ac4 prog 69 #[.agg #[vi 64,vi sz,.slice ap N cp,.slice ab N cb],vi P] n.w λe w'=>e=.returned (vi (ix F.z P))/\acN n.w.heap.size n.w w'):=az (λn=>by
     have h1:=pG (w:=n.w) (H.o.old (bK.o.2.1.trans (n.below.mono bK.o.2.1.size))) P (by rw[AR.o];omega)
     rw[HS.o]at h1
     exact h1)
    obtain⟨I,hI⟩:∃I:Int,ix F.z P=I:=⟨_,rfl⟩;rw[hI]at HAT;have HI:=az hI;have ig:Hid (i<n/\aF+i<sz):=az ⟨hlt,hof⟩;clear hI hlt hof hio hin;go_upto_region 7 with fail;go_cut [10] from 34 to 62 (λv10 wx=>v10=vi I/\Hid (acN wr.heap.size wr wx))
    case first =>
     have y0:=Sub.cell y0;have y1:=Sub.cell y1;have y2:=Sub.cell y2;have y3:=Sub.cell y3;refine aZ ah ah ?_;repeat (go_big_quiet_step (exact fM (HAT.o _)))
     refine wpQuiet_nil ?_;rintro _ ⟨nq,rfl⟩;have Ar:=az nq.below;go_wp2;go_meet;exact⟨rfl,Ar⟩
    case rest =>
    obtain⟨rfl,hcut⟩:=hcut;have HOW:=az (aR.old bK.o.1 hcut.o);have uz:Hid (acN w.heap.size w wc):=az (bK.o.2.1.trans (hcut.o.mono bK.o.2.1.size));have Dq:=az (bK.o.2.2.old hcut.o);clear hcut HAT bK y0 y1 y2 y3;generalize wc=w5 at*;have hw5:=uz.o.size;have Dx:=HOW.o;obtain⟨v8a,v8c,hv8,_⟩:=Dx.Le;subst hv8;rw[abT]at HOW ⊢;clear Dx;cases hz:F.z P with
    |false =>
     have hix:ix F.z P= -1:=by unfold ix;rw[if_neg (by simp[hz])]
     have hbz:F.b (aF+i)=0:=H.o.ok.zero _ (by rw[<-AR.o];exact hz);have hII:I= -1:=by rw[<-HI.o];exact hix
     have iH:Hid ((rd F aF i).map vb++[vb 0]=(rd F aF (i+1)).map vb):=az (by rw[Nq,hbz,aef];rfl);clear hix hbz hz;subst hII;obtain⟨v2,w6,ha,ho,hg⟩:=kU (c:=1) underlying23 mW rfl aa (aR.old HOW.o ((ac3 _ w5).alloc aj (.cells #[vb 0] 5))) (kG w5 (vb 0) 5) (λu hu=>by simp at hu;rw[hu];rfl) (by have:=ig.o;unfold rd;simp;omega) (by have:=uz.o.size;simp;omega);rw[iH.o]at ho;have uC:Hid (acN w.heap.size w w6):=az ((uz.o.alloc uz.o.size _).grown hg (by have:=uz.o.size;simp;omega) (λk hk=>((aR.lt HOW.o hk).2.1)))
     have BU:Hid (aD w6 x 34 #[vi 64,vi sz,.slice ap N cp,.slice ab N cb]):=az ((Dq.o.alloc _).grown hg (bU (aR.old HOW.o ((ac3 _ w5).alloc aj (.cells #[vb 0] 5))) (Dq.o.alloc _) ag));have RA:=az ha;have CW:=az ho;clear ha ho hg;have r2:adk.wrap ((i:Int)+1)=((i+1:Nat):Int):=by rw[adl _ (by have:=ig.o;omega)];omega
     go_wp2_with (at_builtin;refine wpList_append_run rfl (.tmp 44) (.tmp 45) rfl rfl rfl RA.o.run ?_);go_roundg (n-(i+1))
     case rel=>exact⟨i+1,by first|rfl|trivial,ig.o.1,aa,.inr (by have:=ig.o;omega),az ⟨CW.o,uC.o,BU.o⟩⟩
     case measure=>have:=ig.o;omega
    |true =>
     have XL:=BX (z:=F.z) (n:=P) (by have:=AR.o;have:=ig.o;omega) hz;obtain⟨j,hj⟩:∃j,j=(pre F.z P).length:=⟨_,rfl⟩;rw[<-hj]at XL;have hII:I=(j:Int):=by rw[<-HI.o];unfold ix;rw[if_pos hz,hj]
     obtain⟨bs,aes,abm⟩:=H.o.rows;have hbl:bs.length=N:=by rw[abm.1,abT,H.o.len]
     have Gi:j<N:=by rw[<-H.o.len];exact XL.2
     obtain⟨a,c,hbj,⟨hrow,_⟩,Dv,Uw⟩:=abm.2 j (row F.b P) (by rw[aeX,XL.1];rfl);obtain⟨b2,o2,abn,c2,hy⟩:=(hrow.below uz.o).lookup (k:=R) (by rw[Dv];exact HRR.o.2);rw[sZ _ _ HRR.o.2,show 64*P+R=aF+i by have:=AR.o;have:=HRR.o.1;omega]at c2 hy;obtain⟨b,o,hab,c1⟩:∃b o,ab=some ⟨b,o,none⟩/\w5.cell? ⟨b,o+j,none⟩=some (.slice a 64 c):=by
      rcases aes with⟨_,h0,_⟩|⟨b,o,h0,_,h1⟩;rw[h0]at hbl;simp at hbl;omega;exact⟨b,o,h0,cell_below ((h1 j aa).trans hbj) uz.o⟩
     subst hab abn hII;obtain⟨y,hyy⟩:∃y,y=F.b (aF+i):=⟨_,rfl⟩;rw[<-hyy]at c2 hy;have iH:Hid ((rd F aF i).map vb++[vb y]=(rd F aF (i+1)).map vb):=az (by rw[Nq,<-hyy,aef];rfl);have n5:(j:Int)<(N:Int):=aa;have n6:(R:Int)<64:=by have:=HRR.o.2;omega
     have n7:¬(j:Int)<0:=aa;clear XL hj hz hbl Gi hbj hrow Dv Uw aes abm hyy hy;obtain⟨v2,w6,ha,ho,hg⟩:=kU (c:=1) underlying23 mW rfl aa (aR.old HOW.o ((ac3 _ w5).drew.alloc aj (.cells #[vb y] 5))) (kG w5.drew (vb y) 5) (λu hu=>by simp at hu;rw[hu];rfl) (by have:=ig.o;unfold rd;simp;omega) (by have:=uz.o.size;simp;omega);rw[iH.o,afs]at*;have uC:Hid (acN w.heap.size w w6):=az ((uz.o.drew.alloc uz.o.size _).grown hg (by have:=uz.o.size;simp;omega) (λk hk=>((aR.lt HOW.o hk).2.1)));have BU:Hid (aD w6 x 34 #[vi 64,vi sz,.slice ap N cp,.slice (some ⟨b,o,none⟩) N cb]):=az ((aD.alloc (w:=w5.drew) Dq.o.drew _).grown hg (bU (aR.old HOW.o ((ac3 _ w5).drew.alloc aj (.cells #[vb y] 5))) (aD.alloc (w:=w5.drew) Dq.o.drew _) ag))
     have RA:=az ha;have CW:=az ho;clear ha ho hg;have r2:adk.wrap ((i:Int)+1)=((i+1:Nat):Int):=by rw[adl _ (by have:=ig.o;omega)];omega
     have y0:w5.cell? ⟨x,0,none⟩=some (vi 64):=Dq.o.cell 0;have y3:w5.cell? ⟨x,3,none⟩=some (.slice (some ⟨b,o,none⟩) N cb):=Dq.o.cell 3;have z0:w6.cell? ⟨x,0,none⟩=some (vi 64):=BU.o.cell 0;have z3:w6.cell? ⟨x,3,none⟩=some (.slice (some ⟨b,o,none⟩) N cb):=BU.o.cell 3;go_upto_region 10 with fail;go_region_law (refine jH (.tmp 47) (.tmp 61) RA.o (by rfl) (by rfl) (by go_simp) (by go_simp) ?_);all_goals
      go_wp2_with fail;go_roundg (n-(i+1))
      case rel=>exact⟨i+1,by first|rfl|trivial,ig.o.1,aa,.inr (by have:=ig.o;omega),az ⟨CW.o,uC.o,BU.o⟩⟩
      case measure=>have:=ig.o;omega
   have a2:¬(aF:Int)<(sz:Int)-(i:Int):=aa;have hc:cnt F aF n=i:=by unfold cnt;rw[HS.o];omega
   go_wp2;go_ret2;exact⟨_,rfl,bK.o.1,bK.o.2.1⟩
  have a1:¬(i:Int)<(n:Int):=aa;have hc:cnt F aF n=i:=by unfold cnt;rw[HS.o];omega
  go_wp2;go_ret2;exact⟨_,rfl,bK.o.1,bK.o.2.1⟩
end df
end Go.Proofs.YtllmbcigmimgoaaGreat
