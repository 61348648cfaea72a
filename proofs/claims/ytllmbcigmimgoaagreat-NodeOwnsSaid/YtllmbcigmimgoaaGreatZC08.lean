/-
  Lemmas for a law's proof, put together from several texts. No conditions of their own.
-/
import Derived.Test.YtllmbcigmimgoaaGreatZC07
import Derived.Lib.SliceRun
import Derived.Test.YtllmbcigmimgoaaGreatZC06
import Derived.BigQuiet
import Derived.Deep.LoopGhost
import Derived.Deep.MidRow
import Derived.StillTailTactics
import Derived.Deep.RegionHeld3
import Derived.Test.YtllmbcigmimgoaaGreatZC03
set_option maxRecDepth 100000
set_option maxHeartbeats 20000000
set_option linter.all false
namespace Go.Proofs.YtllmbcigmimgoaaGreat
open _root_.Go.Proofs.Tryz
open _root_.Array renaming getElem?_eq_none->afE
open _root_.Bool renaming eq_iff_iff->ae4
open _root_.Classical renaming byContradiction->ad2
open _root_.Go renaming World->acL,Value->acK,Addr->acM,Calls->ac4,bodyPost_ret->ac5,TypeId->acO
open _root_.Go.Act renaming put->afD
open _root_.Go.Ending renaming returned->ab4
open _root_.Go.IntKind renaming i64->adk
open _root_.Go.IntWalk renaming i64_in->adl
open _root_.Go.Obj renaming cells->ach
open _root_.Go.Region renaming wanted->afU
open _root_.Go.RowKit renaming Below->acN
open _root_.Go.RowKit.Below renaming refl->ac3
open _root_.Go.Value renaming tuple->adg,slice->aco,agg->adA,pointer->adj
open _root_.Int renaming toNat_natCast->acW,tdiv_eq_ediv_of_nonneg->ae3
open _root_.List renaming range->ac9,getD_eq_getElem?_getD->aah,length_map->abT,getElem?_eq_getElem->aaj,length_append->acZ,length_take->acX,length_cons->adV,pairwise_cons->aaL,mem_map->aay,replicate->aaA,getElem?_append_right->ae1,getElem?_append_left->aa9,countP_cons->afV,countP_append->afT,length_nil->afO,pairwise_map->afm,countP_eq_zero->afS,mem_append->aaS,map_append->aef,countP_map->ai6,eq_of_mem_replicate->ai7,getElem?_replicate->afk,map_cons->aaF,mem_cons->aaI,mem_filter->afi
open _root_.List.Perm renaming refl->aiF
open _root_.Nat renaming lt_of_lt_of_le->adN,le_trans->abX,zero_add->abU,zero_le->aaW,lt_of_not_le->ai9
open _root_.Or renaming inr->acm,inl->ack
namespace po
open pl
section
variable{p p':Po}{is:Nat->PI.bF}
structure Uy (p:Po)(is:Nat->PI.bF)(j n:Nat)(p':Po)(i':PI.bF):Prop where
 fam:o6 p' (bW is j i')
 at_:∀m,p'.at_ i' m=if m=n then 0 else p.at_ (is j) m
 cont:∀j' m,¬(j'=j/\m=n)->p'.cont (bW is j i' j') m=p.cont (is j') m
 uh:∀j' m,j'≠j->p'.at_ (is j') m=p.at_ (is j') m
 tab:∀x:Nat,x<=p.T->p'.get x=p.get x
 vC:p'.T=p.T/\p'.P=p.P/\p'.I=p.I/\(p'.B,p'.G)=(p.B,p.G)
 ino:i'.aL=(is j).aL/\i'.links=(is j).links/\i'.size=(is j).size
 has:MP.has p.U (p.at_ (is j) n:Nat)=true
 wfp:(p.free (p.at_ (is j) n:Nat)).wfp (is j)
 may:(p.free (p.at_ (is j) n:Nat)).BC (is j) n 0
def Po.XM (h:o6 p is)(j n:Nat)(hn:n<1062)(hx:p.at_ (is j) n≠0):Uy p is j n ((p.free (p.at_ (is j) n:Nat)).set (is j) n 0).1 ((p.free (p.at_ (is j) n:Nat)).set (is j) n 0).2:=by
 obtain⟨x,AV⟩:∃x,x=p.at_ (is j) n:=⟨_,rfl⟩;rw[<-AV]at hx ⊢;have hu:MP.has p.U x=true:=by rw[AV];exact h.used (j:=j) (s:=.dat n) (by show p.at_ (is j) n≠0;rw[<-AV];exact hx)
 have hne:∀j' s,¬(j'=j/\s=.dat n)->p.slot (is j') s≠0->p.slot (is j') s≠x:=λj' s e e1 e2=>e (h.sep.inj j' s j (.dat n) e1 (e2.trans AV));have hok:(p.free (x:Int)).ok:=h.ok.free;have hhas:∀y:Nat,MP.has (p.free (x:Int)).U y=if y=x then false else MP.has p.U y:=λy=>by
  show MP.has (MP.del p.U x) y=_;rw[jN h.ok.MQ];by_cases e:y=x;rw[if_pos aa,if_pos e];rw[if_neg aa,if_neg e]
 have hget:∀y:Nat,y≠x->(p.free (x:Int)).get y=p.get y:=λy hy=>Po.I5 h.ok aa;have pQ:(p.free (x:Int)).T=p.T/\(p.free (x:Int)).P=p.P/\(p.free (x:Int)).I=p.I/\((p.free (x:Int)).B,(p.free (x:Int)).G)=(p.B,p.G):=⟨rfl,rfl,rfl,rfl⟩;generalize hp1:p.free (x:Int)=p1 at*;have hsl:∀j' s,p1.slot (is j') s=p.slot (is j') s:=λj' s=>by
  refine Po.mQ (λe=>hget _ (hne j' .one ai e)) (λe=>hget _ (hne j' .lQ ai e)) (λk hk e=>hget _ ?_) s;have:=hne j' (.sec k) ai;rw[Po.dJ,if_pos hk]at this;exact this e
 have S:=h.sep.del (j:=j) (s:=.dat n) (y:=x) AV.symm hx hhas;have hw:wants (upd (λj s=>p.slot (is j) s) j (.dat n) 0 j) n=0:=by
  have hF:=h.full j;have h0:∀σ:Slot->Nat,Full σ->σ (.dat n)≠0->wants σ n=0:=λσ F e=>by
   unfold wants;by_cases c1:n<6;rw[if_pos c1];rw[if_neg c1];by_cases c2:n<38;rw[if_pos c2,if_neg];intro e1;have:=F.one.1 e1 (n-6) aa;rw[show 6+(n-6)=n by omega]at this;exact e this;rw[if_neg c2];have e3:σ (.sec ((n-38)/32))≠0:=λe1=>by
    have:=(F.sec _ aa).1 e1 ((n-38)%32) aa;rw[show 38+32*((n-38)/32)+(n-38)%32=n by omega]at this;exact e this
   have e2:σ .lQ≠0:=λe1=>e3 (F.lQ.1 e1 _ aa)
   rw[if_neg e2,if_neg e3]
  rw[yR (σ:=p.slot (is j)) (aG _ _ ai) (aG _ _ ai) (λk=>aG _ _ ai)];exact h0 _ hF (by show p.at_ (is j) n≠0;rw[<-AV];exact hx)
 have hroom:(0:Int)<=p1.aK:=by
  have:=hok.W9;unfold Po.aK;omega
 obtain⟨σ',E⟩:=Po.Ng hok (is:=is) (j:=j) (v:=0) hn aa (h.six j) S (λj' s e=>by rw[aG _ _ e];exact hsl j' s) (cK _ _ _ _) (λy hy=>by
  rw[hhas]at hy
  by_cases e:y=x
  rw[if_pos e]at hy;cases hy
  rw[if_neg e]at hy
  rw[hget y e]
  exact h.row y hy) (by rw[hw];exact hroom)
 generalize (p1.set (is j) n 0).1=p2 at*;generalize (p1.set (is j) n 0).2=i2 at*;have hat:∀j' m,p2.at_ (bW is j i2 j') m=upd (λj s=>p.slot (is j) s) j (.dat n) 0 j' (.dat m):=λj' m=>(E.slot j' (.dat m)).trans (E.dat j' m);have hgood:∀s,s≠ .dat n->p1.good (p1.slot (is j) s):=λs hs=>by
  rw[hsl j s];refine⟨(h.good j s).1,λe=>Po.cz.2 ?_⟩;rw[hhas,pQ.1,if_neg (hne j s (λc=>hs c.2) e)];exact Po.cz.1 ((h.good j s).2 e)
 refine⟨E.fam h.six ((h.full j).aF n λs hs=>aG _ _ (λe=>hs e.2)) (λj' hj=>?_),λm=>?_,λj' m e=>?_,λj' m hj=>?_,λy hy=>?_,?_,⟨E.ino.1,E.ino.2.1,E.ino.2.2.1⟩,by rw[<-AV];exact hu,?_,by rw[<-AV,hp1];exact E.may⟩;rw[show upd (λj s=>p.slot (is j) s) j (.dat n) 0 j'=p.slot (is j') from funext λs=>aG _ _ (λe=>hj e.1)];exact h.full j';have:=hat j m;rw[aS]at this;rw[this];by_cases e:m=n;rw[if_pos e,e,cK];rw[if_neg e,aG _ _ (by simp[e])];rfl;have e2:¬(j'=j/\Slot.dat m=Slot.dat n):=λh=>e ⟨h.1,by injection h.2⟩;unfold Po.cont
 rw[hat j' m,aG _ _ e2];show (if p.at_ (is j') m=0 then zs else p2.get (p.at_ (is j') m:Nat))=_;by_cases e3:p.at_ (is j') m=0;rw[if_pos e3,if_pos e3];have e4:p1.get (p.at_ (is j') m:Nat)=p.get (p.at_ (is j') m:Nat):=hget _ (hne j' (.dat m) e2 e3);have e5:p2.get (p.at_ (is j') m:Nat)=p1.get (p.at_ (is j') m:Nat):=E.get _ (acm ⟨j',m,aG _ _ e2,e3⟩);rw[if_neg e3,if_neg e3,e5,e4];have:=hat j' m;rw[aV _ _ hj,aG _ _ (λe=>hj e.1)]at this;exact this;have h1:=Po.dF.1 (h.ok.jf _ hu);rw[E.get y (ack (by rw[pQ.1];exact hy)),hget y aa];exact⟨E.vC.1.trans pQ.1,E.vC.2.1.trans pQ.2.1,E.vC.2.2.1.trans pQ.2.2.1,E.vC.2.2.2.trans pQ.2.2.2⟩
 rw[<-AV,hp1];refine⟨h.six j,hgood .lQ ai,λk hk=>⟨?_,trivial⟩⟩;have:=hgood (.sec k) ai;rwa[Po.dJ,if_pos hk]at this
end
structure qo (p0:Po)(is:Nat->PI.bF)(j:Nat)(gone:List Nat)(p:Po)(i:PI.bF):Prop where
 fam:o6 p (bW is j i)
 at_:∀n,p.at_ i n=if n∈gone then 0 else p0.at_ (is j) n
 keep:∀n,n ∉ gone->p.cont i n=p0.cont (is j) n
 oat:∀j' m,j'≠j->p.at_ (is j') m=p0.at_ (is j') m
 cont:∀j' m,j'≠j->p.cont (is j') m=p0.cont (is j') m
 tab:∀x:Nat,x<=p0.T->p.get x=p0.get x
 vC:p.T=p0.T/\p.P=p0.P/\p.I=p0.I/\(p.B,p.G)=(p0.B,p0.G)
 ino:i.aL=(is j).aL/\i.links=(is j).links/\i.size=(is j).size
variable{is:Nat->PI.bF}
def qo.start {p:Po}(h:o6 p is)(j:Nat):qo p is j [] p (is j) :=
 ⟨by rw[oK];exact h,λn=>by rw[if_neg ai],λ_ _=>rfl,λ_ _ _=>rfl,λ_ _ _=>rfl,λ_ _=>rfl,⟨rfl,rfl,rfl,rfl⟩,⟨rfl,rfl,rfl⟩⟩
def qo.step {p0 p:Po}{j:Nat}{gone:List Nat}{i:PI.bF}(W:qo p0 is j gone p i){n:Nat}(hn:n<1062)(hx:p.at_ i n≠0) :
  Uy p (bW is j i) j n ((p.free (p.at_ i n:Nat)).set i n 0).1 ((p.free (p.at_ i n:Nat)).set i n 0).2/\qo p0 is j (gone++[n]) ((p.free (p.at_ i n:Nat)).set i n 0).1 ((p.free (p.at_ i n:Nat)).set i n 0).2:=by
 have hself:bW is j i j=i:=aS _ _ _;have G:=Po.XM W.fam j n hn (by rw[hself];exact hx);rw[hself]at G;refine⟨G,?_⟩;have hf:=G.fam;rw[Nk]at hf;generalize ((p.free (p.at_ i n:Nat)).set i n 0).1=p1 at*;generalize ((p.free (p.at_ i n:Nat)).set i n 0).2=i1 at*;refine⟨hf,λm=>?_,λm hm=>?_,λj' m hj=>?_,λj' m hj=>?_,λx hx=>?_,?_,?_⟩;rw[G.at_,hself,W.at_];by_cases e:m=n;rw[if_pos e,if_pos (by rw[e];simp)];rw[if_neg e];by_cases e2:m∈gone;rw[if_pos e2,if_pos (by simp[e2])];rw[if_neg e2,if_neg (by simp[e2,e])];rw[aaS,List.mem_singleton,not_or]at hm
 have:=G.cont j m (λh=>hm.2 h.2);rw[aS,hself]at this;rw[this,W.keep m hm.1];have h6:=G.uh j' m hj;rw[aV _ _ hj]at h6;rw[h6,W.oat j' m hj];have h6:=G.cont j' m (λh=>hj h.1);rw[aV _ _ hj,aV _ _ hj]at h6;rw[h6,W.cont j' m hj];have e1:p.T=p0.T:=W.vC.1;rw[G.tab x (by rw[e1];exact hx),W.tab x hx];obtain⟨a1,a2,a3,a4⟩:=W.vC;obtain⟨b1,b2,b3,b4⟩:=G.vC;exact⟨b1.trans a1,b2.trans a2,b3.trans a3,b4.trans a4⟩;obtain⟨a1,a2,a3⟩:=W.ino;obtain⟨b1,b2,b3⟩:=G.ino;rw[hself]at b1 b2 b3;exact⟨b1.trans a1,b2.trans a2,b3.trans a3⟩
open RowKit mgr ft ino nd
section
variable{aA:Nat}{w w':acL}{q:Nat}{p p':Po}{K K':Nat->Prop}
def l6 (g:Nat):∀(vs:List acK) (o:Nat) (w:acL),aP (λn=>n=g) w (w.setCells g o vs)
 |[],o,w=>aP.refl _ _
 |v::vs,o,w=>(aP.set (F:=λn=>n=g) w (p:=⟨g,o,none⟩) rfl v).trans (l6 g vs (o+1) _) (λ_ _ e=>e)
def Jg {b g a c cj:Nat}{l:List Nat}(h:Own w b (.slice (some ⟨g,0,none⟩) 64 c) l)(hl:l.length=64)(hs:∀y∈l,y<256)(ha:a<64) :
  ∃w',(∀ty,(Builtin.clear_ #[23] ty #[.slice (some ⟨g,a,none⟩) (64-a) cj]).run prog w=.ok (.tuple #[]) w')/\bE w' (some ⟨g,0,none⟩) (l.take a++aaA (64-a) 0)/\aP (λn=>n=g) w w':=by
 have hb:∃cur,aD w g 5 cur:=by
  rcases h.2 with⟨e,_⟩|⟨g',cap,cur,e,_,hh,_⟩;cases e;injection e with e;injection e with e;injection e with e;subst e;exact⟨cur,hh⟩
 obtain⟨cur,aet⟩:=hb;have hrow:=Own.zu h hl hs;have hcell:∀i,i<64->w.cell? ⟨g,i,none⟩=some (vb (l.getD i 0)):=λi hi=>by
  rcases hrow.at_ with e|⟨b',o',e,h1⟩;rw[e]at hl;simp at hl;injection e with e;injection e with e1 e2;subst e1 e2;have:=h1 i aa;rwa[abU]at this
 have hsome:∀j,j<64-a->(w.cell? ⟨g,a+j,none⟩).isSome=true:=λj hj=>by rw[hcell _ aa];rfl
 refine⟨w.setCells g a (aaA (64-a) (vb 0)),λty=>?_,⟨λy hy=>?_,.inr ⟨g,0,rfl,λi hi=>?_⟩⟩,l6 g _ _ _⟩;exact Lib.run_clear_slice w _ _ ty (vb 0) underlying23 (λw=>ah) rfl rfl g a (64-a) cj aa hsome (λj _=>aet.frozen _);rcases aaS.1 hy with hy|hy;exact hs y (List.mem_of_mem_take hy);rw[ai7 hy];decide;rw[abU];rw[acZ,acX,List.length_replicate]at hi;by_cases c:i<a;rw[acL.cell?_setCells_out g _ a w ⟨g,i,none⟩ (λ_ _=>.inl c),hcell i aa];congr 2;rw[aah,aah,aa9 (by rw[acX];omega),List.getElem?_take,if_pos c]
 have:=acL.cell?_setCells_in g (aaA (64-a) (vb 0)) a w (by simpa using hsome) (i-a) (by simp;omega);rw[show a+(i-a)=i by omega]at this;rw[this];simp only[List.getElem_replicate];congr 2;rw[aah,ae1 (by rw[acX];omega),afk];split<;>rfl
def XN {t:Nat}(h:t<=67968):∃e64 e63 kp:Nat,adk.wrap ((t:Int)+64)=(e64:Int)/\adk.wrap ((e64:Int)-1)=(e63:Int)/\(e63:Int).tdiv 64=(kp:Int)/\(e63:Int)/64=(kp:Int)/\wrap64 (kp:Int)=(kp:Int)/\adk.wrap (kp:Int)=(kp:Int)/\kp=(t+63)/64:=by
 refine⟨t+64,t+63,(t+63)/64,?_,?_,?_,aa,IntWalk.wrap64_in _ aa,adl _ aa,rfl⟩;rw[adl _ aa];omega;rw[adl _ aa];omega;rw[ae3 aa];omega
def pX (p1:Po)(i':PI.bF)(t sz:Nat):Po :=
 if p1.at_ i' (t/64)≠0/\t%64≠0/\t<sz then p1.put (p1.at_ i' (t/64):Nat) ((p1.cont i' (t/64)).take (t%64)++aaA (64-t%64) 0) else p1
def abo (aA:Nat)(w:acL)(q:Nat)(K:Nat->Prop)(p:Po)(is:Nat->PI.bF)(j t:Nat)(e:Ending)(w':acL):Prop :=
 ∃K' p1 p' i' gone,e=ab4 (adg #[dS {i' with size:=t},vi 0])/\bG aA w q K w' K' p'/\qo p is j gone p1 i'/\(∀n,n∈gone↔n∈p.eO (is j)/\(t+63)/64<=n) /\
  p'=pX p1 i' t (is j).size
def aiE (aA:Nat)(w:acL)(q:Nat)(K:Nat->Prop)(p0:Po)(is:Nat->PI.bF)(j kp f r x:Nat)(C:Array acK)(B:Nat)(v:acK)(R:List Nat)(v51:acK)(wr:acL):Prop :=
 ∃(idx:Nat) (K':Nat->Prop) (p:Po) (i:PI.bF),v51=vi (idx:Nat)/\idx<=R.length/\Hid (zA aA w q K f r i Te wr K' p)/\Hid (qo p0 is j (R.take idx) p i)/\Hid (∀n∈R.take idx,kp<=n)/\Hid (dZ wr B v (R.map λ(n:Nat)=>(n:Int))) /\
  Hid (∀g,v.ownBlock=some g->¬K' g/\g≠f/\w.heap.size<=g)/\Hid (aD wr x 29 C/\¬K' x/\x≠f)
def dZ.on {b0:Nat}{v:acK}{l:List Int}(h:dZ w b0 v l)(g:bG aA w q K w' K' p')(hn:∀g,v.ownBlock=some g->¬K g):dZ w' b0 v l/\∀g,v.ownBlock=some g->¬K' g :=
 ⟨h.aJ g.aJ hn,λb e e2=>by
  rcases g.foot b e2 with h1|h1
  exact hn b e h1
  have:=(h.lt e).1;omega⟩
def Uz {l:List Nat}{a:Nat}(h:l.length=64)(ha:a<64):(l.take a++aaA (64-a) 0).length=64:=by
 rw[acZ,acX,List.length_replicate];omega
def PD {t:Nat}(h:t<=67968):∃tq tr:Nat,(t:Int).tdiv 64=(tq:Int)/\(t:Int)/64=(tq:Int)/\wrap64 (tq:Int)=(tq:Int)/\adk.wrap (tq:Int)=(tq:Int)/\(t:Int).tmod 64=(tr:Int)/\(t:Int)%64=(tr:Int)/\(0:Int)<=(tr:Int)/\(tr:Int)<=64/\tr<=64 /\
  (tq=t/64/\tr=t%64/\tq<=1000000/\tr<64):=by
 refine⟨t/64,t%64,?_,aa,IntWalk.wrap64_in _ aa,adl _ aa,?_,aa,aa,aa,aa,rfl,rfl,aa,aa⟩;rw[ae3 aa];omega;rw[Int.tmod_eq_emod_of_nonneg aa];omega
def Jh {L R:List Nat}{idx kp:Nat}(hR:R=L.reverse)(hp:L.Pairwise (·<·))(h1:∀n∈R.take idx,kp<=n)(h2:idx=R.length\/∃n,R[idx]?=some n/\n<kp):∀n,n∈R.take idx↔n∈L/\kp<=n:=by
 intro n;have hdec:R.Pairwise (λa b=>b<a):=by rw[hR];exact List.pairwise_reverse.2 hp
 constructor;intro h;have:n∈R:=List.mem_of_mem_take h;rw[hR]at this;exact⟨List.mem_reverse.1 this,h1 n h⟩;rintro⟨h3,h4⟩;have hr:n∈R:=by rw[hR];exact List.mem_reverse.2 h3
 rcases h2 with e|⟨m,hm,hlt⟩;rw[e,List.take_length];exact hr;obtain⟨i,hi,e⟩:=List.getElem_of_mem hr;by_cases c:i<idx;rw[<-e];exact List.mem_take_iff_getElem.2 ⟨i,aa,rfl⟩;obtain⟨Df,hme⟩:=List.getElem?_eq_some_iff.1 hm;by_cases c2:i=idx;subst c2;omega;have:=(List.pairwise_iff_getElem.1 hdec) idx i Df hi aa;omega
def gq {g:Nat}{v0 v1 v2 v3 v4 v5 v6 v7 v8 v9 v10:acK}{n:Int}(hb:aD w' g 29 #[v0,v1,v2,v3,v4,v5,v6,v7,v8,v9,v10])(tmps:Array acK)(h2:tmps[6]?=some (.pointer (some ⟨g,0,none⟩)))(h3:tmps[7]?=some (vi n)) :
  (results Tryz.f23 tmps).run prog w'=.ok (.tuple #[.agg #[v0,v1,v2,v3,v4,v5,v6,v7,v8,v9,v10],vi n]) w':=by
 obtain⟨g0,g1,g2,g3,g4,g5,g6,g7,g8,g9,g10⟩:=nT hb;simp only[results,results23];simp[go_sem,h2,h3,g0,g1,g2,g3,g4,g5,g6,g7,g8,g9,g10,underlying29]
variable{k N:Nat}
def UA (h:k<N)(h2:N<=1062):adk.wrap ((k:Int)+1)=((k+1:Nat):Int):=by
 rw[adl _ aa];omega
def UB (h:k<N):N-(intOf (vi ((k+1:Nat):Int))).toNat<N-(intOf (vi (k:Int))).toNat:=by
 simp[intOf];omega
def XO {B:Nat}{a:Option acM}{m c:Nat}{R L:List Nat}{p1:Po}{i i1:PI.bF}{W:acL}(h:dZ W B (aco a m c) (R.map λ(n:Nat)=>(n:Int)))(hR:R=L.reverse)(hm:∀n,n∈L↔n<1062/\p.at_ i n≠0)(hp:L.Pairwise (·<·))
  (hat:∀n,p1.at_ i1 n=if n∈R.take k then 0 else p.at_ i n) (hk:k<R.length) :
  ∃n:Nat,(∃b o,a=some ⟨b,o,none⟩/\W.cell? ⟨b,o+k,none⟩=some (vi n))/\R[k]?=some n/\n<1062/\p1.at_ i1 n≠0:=by
 obtain⟨a',c',he,hr,_⟩:=h.zy;injection he with he;subst he;obtain⟨b,o,ha,hc⟩:=hr.lookup (i:=k) (by rw[abT];exact hk);have hmr:R[k]∈L.reverse:=by rw[<-hR];exact List.getElem_mem hk
 have hmem:R[k]∈L:=List.mem_reverse.1 hmr;have h1:=(hm _).1 hmem;refine⟨R[k],⟨b,o,ha,?_⟩,by simp[hk],h1.1,?_⟩;rw[hc];simp[List.getD,hk];rw[hat,if_neg];exact h1.2;intro e;have hnd:R.Nodup:=by
  rw[hR];unfold List.Nodup;exact List.pairwise_reverse.2 (hp.imp (λh e=>aa))
 obtain⟨i',hi',e2⟩:=List.getElem_of_mem e;rw[acX]at hi';rw[List.getElem_take]at e2;have:=(List.pairwise_iff_getElem.1 hnd) i' k aa hk aa;exact this e2
def xW (h:PQ aA w q K p)(is:Nat->PI.bF)(hF:o6 p is)(j t:Nat)(ht:t<=67968)(hsz:(is j).size<=67968) :
  ac4 prog 23 #[ptr q,dS (is j),vi t] w (abo aA w q K p is j t):=by
 obtain⟨k,hk,hkk⟩:=h.iN;have Dj:=az hk;have jU:Hid (k<w.heap.size):=az (h.lt _ hkk);have H:=az h;have HWF:=az (hF.wf j);have wD:=az (p.BR (is j));have Lj:=az (And.intro (p.mR (is j)) (And.intro (p.rT (is j)) (p.BQ (is j))));have HST:=az (qo.start hF j);have HI6:=az (hF.six j);clear hk hkk h hF hsz;generalize hii:is j=i at*;have yD:=az hii;clear hii;obtain⟨kd,ln,sz,dl,sg,db⟩:=i;obtain⟨d0,d1,d2,d3,d4,d5,hdl⟩:=six (l:=dl) HI6.o;subst hdl;simp only[dS,j4];have c1:¬(t:Int)<0:=aa;have c2:¬(67968:Int)<(t:Int):=aa;obtain⟨e64,e63,kp,B1,B2,B3,B4,B5,B6,hkp⟩:=XN ht
 have nS:=az hkp;have CX:=az ht;clear hkp ht;go_in;go_upto_region 1 with fail;refine ny λw1 HB1 lD HR1=>?_
 obtain⟨x,hx⟩:∃x,x=w.heap.size:=⟨_,rfl⟩;rw[<-hx]at lD HR1 ⊢;have Nn:=az hx;clear hx;have HSI:Hid (∀W,gD k w W->ac4 prog 28 #[ptr q] W λe w'=>e=ab4 (vi 64)/\w'=W):=az (λW hb=>kR (H.o.OW Dj.o hb));have vz:Hid (gD k w w1):=az (gD.of_below HB1.o);go_wp2_with fail;refine(HSI.o _ vz.o).mono ?_;rintro e w2 ⟨rfl,rfl⟩;go_wp2_with fail;refine kD.mono ?_;rintro e w3 ⟨rfl,rfl⟩;generalize hw9:w3=w9 at*;clear hw9;have KP:=lD;clear lD;obtain⟨x0,x1,x2,x3,x4,x5,x6,x7,x8,x9,JW⟩:=nT KP.o;go_upto_region 8 with fail;clear c1 c2;clear x0 x1 x3 x4 x5 x6 x7 x8 x9 JW x2
 refine mD λw8 wX TG=>?_
 have zP:=az (KP.o.old wX.o);have Ei:=az (HR1.o.old wX.o);have We:=az (vz.o.old wX.o);have Dt:Hid (w.heap.size<=w9.heap.size/\w.heap.size<=x+1/\w.heap.size<=x):=az ⟨vz.o.1.size,by have:=Nn.o;omega,by have:=Nn.o;omega⟩;generalize w9.heap.size=f at*;generalize x+1=r at*;clear KP HR1 vz wX HB1;go_wp2_with fail;refine(HSI.o _ We.o).mono ?_;rintro e w7 ⟨rfl,rfl⟩;obtain⟨y0,y1,y2,y3,y4,y5,y6,y7,y8,y9,y10⟩:=nT zP.o;have Oe:=az (oI (H.o.OW Dj.o We.o) (H.o.j6 Dj.o We.o) ⟨kd,ln,sz,[d0,d1,d2,d3,d4,d5],sg,db⟩ HWF.o);simp only[dS,j4]at Oe;rw[wD.o]at Oe
 go_wp2_with fail;refine Oe.o.mono ?_;rintro e w5 ⟨v5,rfl,jT,hq5⟩;have Dk:=az jT;have Ex:=az hq5;have HRV:=az (FX jT (by rw[abT];exact abX Lj.o.2.2 ag));clear jT hq5 Oe y0 y1 y2 y3 y4 y5 y6 y7 y8 y9 y10 B1 B2 B3 B4 B5 B6;go_wp2_with fail;refine HRV.o.mono ?_;rintro e w6 ⟨rfl,yL,hc6⟩;rw[<-List.map_reverse]at yL;obtain⟨R,hR⟩:∃R,R=(p.eO ⟨kd,ln,sz,[d0,d1,d2,d3,d4,d5],sg,db⟩).reverse:=⟨_,rfl⟩;rw[<-hR]at yL;have HRR:=az hR;clear hR;have hown:∀g,v5.ownBlock=some g->w7.heap.size<=g:=λg e=>(Dk.o.lt e).2.1
 have BU:Hid (aD w6 x 29 #[vi kd,vi ln,vi sz,vi d0,vi d1,vi d2,vi d3,vi d4,vi d5,vi sg,vi db]):=az ((zP.o.aJ Ex.o.1 (λe=>by have h1:=jU.o;have h2:=Dt.o;omega)).aJ hc6 (λe=>by have h1:=hown _ e;have h2:=zP.o.lt;omega));have HF6:=az ((TG.o.aJ Ex.o.1 (λe=>by have h1:=jU.o;have h2:=Dt.o;omega)).aJ hc6 (λe=>by have h1:=hown _ e;have h2:=TG.o.lt;omega));have GM:=az ((Ei.o.aJ Ex.o.1 (λe=>by have h1:=jU.o;have h2:=Dt.o;omega)).aJ hc6 (λe=>by have h1:=hown _ e;have h2:=Ei.o.lt;omega));have Ps:Hid (gD k w w6):=az ((We.o.trans Ex.o).far (hc6.mono (λn _ e=>abX We.o.1.size (hown n e))) jU.o)
 have xG:Hid (zA aA w q K f r (is j) Te w6 K p):=az ⟨(bM.pM H.o Dj.o Ps.o).go,by rw[yD.o];exact HF6.o,GM.o,λe=>by have h1:=H.o.lt _ e;have h2:=Dt.o;omega,λe=>by have h1:=H.o.lt _ e;have h2:=Dt.o;omega,Dt.o.1,Dt.o.2.1⟩;have UC:Hid (∀g,v5.ownBlock=some g->¬K g/\g≠f/\w.heap.size<=g):=az (λg e=>by
  have h1:=hown g e
  have h2:=TG.o.lt
  have h3:=We.o.1.size
  exact⟨λe=>by have h4:=H.o.lt _ e;omega,aa,aa⟩)
 have HXK:Hid (aD w6 x 29 #[vi kd,vi ln,vi sz,vi d0,vi d1,vi d2,vi d3,vi d4,vi d5,vi sg,vi db]/\¬K x/\x≠f):=az ⟨BU.o,λe=>by have h1:=H.o.lt _ e;have h2:=Dt.o;omega,λe=>by
  have h1:=zP.o
  rw[e]at h1
  have:=bY h1 TG.o
  revert this
  decide⟩
 obtain⟨a5,c5,hv5,_,_⟩:=yL.zy;rw[abT]at hv5;subst hv5;have CW:=az yL;have HW6:Hid (qo p is j [] p (is j)):=az (by rw[yD.o];exact HST.o);have XP:Hid (R.length<=1062):=az (by rw[HRR.o,List.length_reverse];exact Lj.o.2.2);clear yL hc6 hown zP TG Ei We Dk Ex HRV BU HF6 GM Ps HST;generalize hnl:R.length=N at*;have GK:=az hnl;clear hnl;generalize w7.heap.size=B at*;go_upto_block 1 with fail;go_cut [51] from 13 to 66 (λ_ wx=>∃(idx:Nat) (K1:Nat->Prop) (p1:Po) (i1:PI.bF),Hid (zA aA w q K f r i1 Te wx K1 p1)/\Hid (qo p is j (R.take idx) p1 i1)/\Hid (∀n,n∈R.take idx↔n∈p.eO ⟨kd,ln,sz,[d0,d1,d2,d3,d4,d5],sg,db⟩/\kp<=n)/\Hid (aD wx x 29 #[vi kd,vi ln,vi sz,vi d0,vi d1,vi d2,vi d3,vi d4,vi d5,vi sg,vi db]/\¬K1 x/\x≠f))
 case first =>
  go_wp2_with fail;go_loopw [51] (λv51 wr=>aiE aA w q K p is j kp f r x #[vi kd,vi ln,vi sz,vi d0,vi d1,vi d2,vi d3,vi d4,vi d5,vi sg,vi db] B (aco a5 N c5) R v51 wr) (λv51 _=>N-(intOf v51).toNat)
  case atStart=>exact⟨0,K,p,is j,rfl,aaW _,xG,HW6,az (λn hn=>by simp at hn),CW,UC,HXK⟩
  case round =>
   clear xG HW6 CW UC HXK;obtain⟨idx,K1,p1,i1,rfl,hidx,HS,HW,HG,HO,HV,HX⟩:=hrel;rw[GK.o]at hidx;by_cases hlt:idx<N
   ·have n1:(idx:Int)<(N:Int):=aa;obtain⟨n,hn1,hn2,Y1,hn4⟩:=XO HO.o HRR.o Lj.o.1 Lj.o.2.1 (λn=>by have:=HW.o.at_ n;rwa[yD.o]at this) (k:=idx) (by rw[GK.o];exact hlt);obtain⟨bq,oq,haq,hcell⟩:=hn1;subst haq;have HN1:=az (And.intro hn2 (And.intro Y1 hn4));have ig:Hid (idx<N):=az hlt;clear hn2 Y1 hn4 hlt hidx;by_cases hk:n<kp
    ·have n2:(n:Int)<(kp:Int):=aa;have WY:=az (Jh HRR.o Lj.o.2.1 HG.o (acm ⟨n,HN1.o.1,hk⟩));go_wp2;go_meet;exact⟨idx,K1,p1,i1,HS,HW,WY,HX⟩
    have n2:¬(n:Int)<(kp:Int):=aa;have Wh:Hid (kp<=n):=az (Nat.le_of_not_lt hk);clear hk;have Jb:Hid (p1.wf i1):=az (by have:=HW.o.fam.wf j;rwa[aS]at this);have HAT:=az (pG HS.o.go.at_ i1 Jb.o HS.o.file HS.o.nf n (Nat.le_of_lt (adN HN1.o.2.1 ag)));obtain⟨G,HW2⟩:=HW.o.step HN1.o.2.1 HN1.o.2.2;have HGG:=az G;have HW2:=az HW2;clear G HW;go_wp2_with fail;refine HAT.o.mono ?_;rintro e Xy ⟨K2,rfl,hrd⟩;have Gc:=az (HS.o.on hrd.go);have abp:=az (HO.o.on hrd.go (λg e=>(HV.o g e).1));have PE:=az (hrd.go.keep HX.o.1 HX.o.2.1);have HXF:Hid (x≠f):=az HX.o.2.2
    have hal:bW is j i1 j=i1:=aS _ _ _;have g1:=HGG.o.has;have g2:=HGG.o.wfp;have g3:=HGG.o.may;rw[hal]at g1 g2 g3;clear hrd HAT HO HX HS HGG hal Jb;obtain⟨p2,i2,hpi⟩:=Ga ((p1.free (p1.at_ i1 n:Nat)).set i1 n 0);have Bv:=az hpi;rw[hpi]at HW2;clear hpi;dsimp only at HW2;obtain⟨A,hA⟩:∃A,A=p1.at_ i1 n:=⟨_,rfl⟩;rw[<-hA]at g1 g2 g3 Bv ⊢;have ZF:=az (And.intro g2 g3);have yB:=az (mG Gc.o.go.at_ (A:Int) g1);clear g1 g2 g3 hA;go_wp2_with fail;refine yB.o.mono ?_;rintro e w11 ⟨rfl,agW⟩;have xU:=az (Gc.o.on agW);have UD:=az (abp.o.1.on agW abp.o.2)
    have UE:=az (agW.keep PE.o.1 PE.o.2);have CZ:=az (MX xU.o.go.at_ i1 ZF.o.1 xU.o.file xU.o.nf (abX H.o.low xU.o.low.1) n 0 HN1.o.2.1 ag ZF.o.2);rw[Bv.o]at CZ;dsimp only at CZ;clear agW yB Gc abp PE;go_wp2_with fail;refine CZ.o.mono ?_;rintro e w12 ⟨rfl,K3,hgg⟩;have aba:=az (xU.o.gg hgg);have aiG:Hid (aD w12 x 29 #[vi kd,vi ln,vi sz,vi d0,vi d1,vi d2,vi d3,vi d4,vi d5,vi sg,vi db]/\¬K3 x/\x≠f):=az ⟨(hgg.keep UE.o.1 UE.o.2 HXF.o).1,(hgg.keep UE.o.1 UE.o.2 HXF.o).2,HXF.o⟩;have aiH:=az (UD.o.1.aJ hgg.aJ (λg e e2=>e2.elim (UD.o.2 g e) (HV.o g e).2.1))
    have aiI:Hid (∀g,(acK.slice (some ⟨bq,oq,none⟩) N c5).ownBlock=some g->¬K3 g/\g≠f/\w.heap.size<=g):=az (λg e=>⟨λe2=>by
     rcases hgg.foot g e2 with h1|h1
     exact UD.o.2 g e h1
     have:=(UD.o.1.lt e).1;omega,(HV.o g e).2.1,(HV.o g e).2.2⟩)
    have zQ:Hid (R.take (idx+1)=R.take idx++[n]):=az (by rw[List.take_add_one,HN1.o.1];rfl);have HG2:Hid (∀m∈R.take (idx+1),kp<=m):=az (λm hm=>by
     rw[zQ.o]at hm
     rcases aaS.1 hm with h1|h1
     exact HG.o m h1
     rw[List.mem_singleton]at h1;rw[h1];exact Wh.o)
    have HW3:Hid (qo p is j (R.take (idx+1)) p2 i2):=az (by rw[zQ.o];exact HW2.o);have r2:adk.wrap ((idx:Int)+1)=((idx+1:Nat):Int):=UA ig.o XP.o;clear hgg CZ xU UD UE HV HW2 HG;go_wp2;go_roundw
    case rel=>exact⟨idx+1,K3,p2,i2,rfl,by rw[GK.o];exact ig.o,aba,HW3,HG2,aiH,aiI,aiG⟩
    case measure=>exact UB ig.o
   have n1:¬(idx:Int)<(N:Int):=aa;have hie:idx=R.length:=by rw[GK.o];exact Nat.le_antisymm hidx (Nat.le_of_not_lt hlt)
   have WY:=az (Jh HRR.o Lj.o.2.1 HG.o (ack hie));go_wp2;go_meet;exact⟨idx,K1,p1,i1,HS,HW,WY,HX⟩
 case rest =>
 obtain⟨idx,K1,p1,i1,HS,HW,WY,HX⟩:=hcut;have h6:i1.direct.length=6:=by have:=HW.o.fam.six j;rwa[aS]at this
 have Jb:Hid (p1.wf i1):=az (by have:=HW.o.fam.wf j;rwa[aS]at this);obtain⟨ka,la,za,dl,sa,da⟩:=i1;obtain⟨e0,e1,e2,e3,e4,e5,hdl⟩:=six (l:=dl) h6;subst hdl;clear h6;obtain⟨tq,tr,T1,T2,T3,T4,T5,T6,T7,T8,T9,hT⟩:=PD CX.o;have Ll:=az hT;clear hT;have HAT:=az (pG HS.o.go.at_ ⟨ka,la,za,[e0,e1,e2,e3,e4,e5],sa,da⟩ Jb.o HS.o.file HS.o.nf tq Ll.o.2.2.1);go_wp2_with fail;refine HAT.o.mono ?_;rintro e Wi ⟨K5,rfl,hrd⟩;have uk:=az (HS.o.on hrd.go);have x2:Wi.cell? ⟨x,2,none⟩=some (vi sz):=(hrd.go.keep HX.o.1 HX.o.2.1).1.cell 2;have oC:=az (Po.FW Jb.o tq)
 obtain⟨A,hA⟩:∃A,A=p1.at_ ⟨ka,la,za,[e0,e1,e2,e3,e4,e5],sa,da⟩ tq:=⟨_,rfl⟩;rw[<-hA]at oC ⊢;have HA:=az hA;clear hrd HAT HX HS hA;go_upto_region 20 with fail;go_cut [85] from 72 to 85 (λv85 wx=>Wi=wx/\∃b:Bool,v85=.bool b/\Hid (b=true↔A≠0/\tr≠0/\t<sz))
 case first =>
  by_cases h1:A=0
  ·have a1:((A:Int) != 0)=false:=bne_eq_false_iff_eq.2 aa;go_wp2;go_meet;exact⟨rfl,_,rfl,az (by simp[h1])⟩
  have a1:((A:Int) != 0)=true:=bne_iff_ne.2 aa;by_cases h2:tr=0
  ·have a2:((tr:Int) != 0)=false:=bne_eq_false_iff_eq.2 aa;go_wp2;go_meet;exact⟨rfl,_,rfl,az (by simp[h2])⟩
  have a2:((tr:Int) != 0)=true:=bne_iff_ne.2 aa;by_cases h3:t<sz
  ·have a3:(t:Int)<(sz:Int):=aa;go_wp2;go_meet;exact⟨rfl,_,rfl,az (by simp[h1,h2,h3])⟩
  have a3:¬(t:Int)<(sz:Int):=aa;go_wp2;go_meet;exact⟨rfl,_,rfl,az (by simp[h3])⟩
 case rest =>
 obtain⟨rfl,b,rfl,hb⟩:=hcut;go_upto_if 85 with fail;go_cut [] from 15 to 104 (λwx=>∃K5,Hid (zA aA w q K f r ⟨ka,la,za,[e0,e1,e2,e3,e4,e5],sa,da⟩ Te wx K5 (pX p1 ⟨ka,la,za,[e0,e1,e2,e3,e4,e5],sa,da⟩ t (is j).size)))
 case first =>
  rcases b.eq_false_or_eq_true with rfl|rfl
  ·obtain⟨h1,h2,h3⟩:=hb.o.1 rfl;have HIF:Hid (p1.put (A:Int) ((p1.cont ⟨ka,la,za,[e0,e1,e2,e3,e4,e5],sa,da⟩ tq).take tr++aaA (64-tr) 0)=pX p1 ⟨ka,la,za,[e0,e1,e2,e3,e4,e5],sa,da⟩ t (is j).size):=az (by
    rw[yD.o,pX,<-Ll.o.1,<-Ll.o.2.1,<-HA.o,if_pos ⟨h1,h2,h3⟩])
   have Pt:Hid (p1.cont ⟨ka,la,za,[e0,e1,e2,e3,e4,e5],sa,da⟩ tq=p1.get (A:Nat)):=az (by unfold Po.cont;rw[<-HA.o,if_neg h1]);have hlen:=uk.o.go.at_.len A (oC.o.2 h1);have je:=az hlen;have Xa:=az (oC.o.2 h1);have IU:=az (sS uk.o.go.at_ A (Nat.le_of_lt (adN oC.o.1 ag)) (oC.o.2 h1));clear hlen h1 h2 h3;go_wp2_with fail;refine IU.o.mono ?_;rintro e w13 ⟨K4,g7,c7,rfl,Fw,yO,Tv,Xn,El⟩;obtain⟨k2,hk2,Uj⟩:=uk.o.go.at_.iN;have hrd:=El.rd k2 hk2;obtain⟨w14,hrun,hbr,hch⟩:=Jg (a:=tr) (cj:=c7-tr) Fw je.o.1 je.o.2 Ll.o.2.2.2;rw[<-Pt.o]at hbr
   have Uk:gD k2 Wi w14:=hrd.far (hch.mono (λn _ e=>by rw[e];exact yO)) (uk.o.go.at_.lt _ Uj);have La:=az (uk.o.on (bM.pM uk.o.go.at_ hk2 Uk).go);have Bq:=az (FH La.o.go.at_ A Xa.o (some ⟨g7,0,none⟩) c7 _ hbr (Uz (by rw[Pt.o];exact je.o.1) Ll.o.2.2.2));have hrun':=hrun 23;have q1:¬c7=tr:=aea Ll.o.2.2.2 Tv;have q2:tr<=c7:=abX (Nat.le_of_lt Ll.o.2.2.2) Tv;have q3:(tr:Int)<=(c7:Int):=Int.ofNat_le.2 q2;clear Fw yO Tv Xn El hk2 Uj hrd hbr hch Uk IU uk Pt x2;go_wp2_with fail;refine Bq.o.mono ?_;rintro e Wi ⟨rfl,aev⟩;have uk:=az (La.o.on aev)
   clear aev Bq La hrun hrun' q1 q2 q3;go_wp2;go_meet;exact⟨_,by rw[<-HIF.o];exact uk⟩
  have HIF:Hid (p1=pX p1 ⟨ka,la,za,[e0,e1,e2,e3,e4,e5],sa,da⟩ t (is j).size):=az (by
   rw[yD.o,pX,<-Ll.o.1,<-Ll.o.2.1,<-HA.o,if_neg (λe=>by have:=hb.o.2 e;cases this)])
  go_wp2;go_meet;exact⟨_,by rw[<-HIF.o];exact uk⟩
 case rest =>
 obtain⟨K6,hs6⟩:=hcut;have uk:=az hs6.o;clear hs6;generalize aiK:wc=Wi at*;clear aiK;go_upto_region 26 with fail;have y3:Wi.cell? ⟨f,3,none⟩=some (vi za):=uk.o.file.cell 3;have fy3:=uk.o.file.frozen 3;have vK:Hid (aD (Wi.setCell ⟨f,3,none⟩ (vi t)) f 74 (fileC q ⟨ka,la,t,[e0,e1,e2,e3,e4,e5],sa,da⟩)):=az (uk.o.file.bB 3 (vi t));have HS2:=az (uk.o.ad7 (i':=⟨ka,la,t,[e0,e1,e2,e3,e4,e5],sa,da⟩) H.o ((aP.refl _ Wi).setCell (F:=λn=>n=f) (p:=⟨f,3,none⟩) (ack rfl) (vi t)) vK.o);clear uk vK;go_upto_region 27 with fail;change Code.wp _ _ _ _ (Wi.setCell ⟨f,3,none⟩ (vi t))
 generalize Wi.setCell ⟨f,3,none⟩ (vi t)=w2 at*;clear y3 fy3;obtain⟨y1,y2,y3,y4,y5,y6,y7,y8,y9,y10,y11⟩:=ffacts HS2.o.file;obtain⟨z0,fz0,z1,fz1,z2,fz2,z3,fz3,z4,fz4,z5,fz5,z6,fz6,z7,fz7,z8,fz8,z9,fz9,Ui,fz10⟩:=pJ HS2.o.res;go_wp2_with fail;obtain⟨hf,hw⟩:=iA (vi ka) (vi la) (vi t) (vi e0) (vi e1) (vi e2) (vi e3) (vi e4) (vi e5) (vi sa) (vi da) HS2.o.res;exact ac5 (gq hf _ rfl rfl) rfl ⟨_,p1,_,⟨ka,la,za,[e0,e1,e2,e3,e4,e5],sa,da⟩,R.take idx,rfl,(HS2.o.cO H.o hw hf).go,HW.o,by rw[<-nS.o,yD.o];exact WY.o,rfl⟩
end
def Ji:List Slot:=.one:: .lQ::((ac9 32).map Slot.sec++(ac9 1062).map Slot.dat)
def Ca (N:Nat):(ac9 N).Pairwise (·≠·):=List.pairwise_lt_range.imp (λh e=>by omega)
def Lm:Ji.Pairwise (·≠·):=by
 unfold Ji;refine aaL.2 ⟨λs hs e=>?_,aaL.2 ⟨λs hs e=>?_,List.pairwise_append.2 ⟨?_,?_,λa ha b hb e=>?_⟩⟩⟩;subst e;simp at hs;subst e;simp at hs;exact afm.2 ((Ca 32).imp (λh e=>h (by injection e)));exact afm.2 ((Ca 1062).imp (λh e=>h (by injection e)));obtain⟨x,_,rfl⟩:=aay.1 ha;obtain⟨y,_,hy⟩:=aay.1 hb;rw[<-e]at hy;cases hy
def XQ (σ:Slot->Nat):List Nat:=(Ji.map σ).filter (λx=>decide (x≠0))
def zR {σ:Slot->Nat}{x:Nat}:x∈XQ σ↔x≠0/\∃s∈Ji,σ s=x:=by
 unfold XQ;rw[afi,aay];constructor;rintro⟨⟨s,hs,e⟩,h⟩;exact⟨of_decide_eq_true h,s,hs,e⟩;rintro⟨h,s,hs,e⟩;exact⟨⟨s,hs,e⟩,decide_eq_true h⟩
def Nr {σ:Slot->Nat}(h:Full σ){z:Nat->Bool}(hz:∀n,n<1062->(z n=true↔σ (.dat n)≠0)):(XQ σ).length=aH z:=by
 have h1:decide (σ .one≠0)=iU z:=by
  rw[ae4,decide_eq_true_iff,iU,bR];rw[Ne,h.one];constructor;intro e;refine ad2 λc=>e λk hk=>ad2 λc2=>c ⟨k,hk,(hz _ aa).2 c2⟩
  rintro⟨k,hk,e⟩ e2;exact(hz _ aa).1 e (e2 k hk)
 have h2:∀a,a<32->decide (σ (.sec a)≠0)=dU z a:=λa ha=>by
  rw[ae4,decide_eq_true_iff,dU,bR];rw[Ne,h.sec a ha];constructor;intro e;refine ad2 λc=>e λk hk=>ad2 λc2=>c ⟨k,hk,(hz _ aa).2 c2⟩
  rintro⟨k,hk,e⟩ e2;exact(hz _ aa).1 e (e2 k hk)
 have h3:decide (σ .lQ≠0)=iC z:=by
  rw[ae4,decide_eq_true_iff,iC,bR];rw[Ne,h.lQ];constructor;intro e;refine ad2 λc=>e λk hk=>ad2 λc2=>c ⟨k,hk,by rw[<-h2 k hk];exact decide_eq_true c2⟩
  rintro⟨k,hk,e⟩ e2;rw[<-h2 k hk]at e;exact of_decide_eq_true e (e2 k hk)
 have h4:(ac9 1062).countP ((λx=>decide (x≠0))∘σ∘Slot.dat)=(ac9 1062).countP z:=bN (λm hm=>by
  rw[ae4,hz m hm]
  simp)
 have h5:(ac9 32).countP ((λx=>decide (x≠0))∘σ∘Slot.sec)=(ac9 32).countP (dU z):=bN (λm hm=>by
  rw[<-h2 m hm]
  rfl)
 unfold XQ aH;rw[<-List.countP_eq_length_filter];unfold Ji;rw[aaF,aaF,aef,List.map_map,List.map_map,afV,afV,afT,ai6,ai6];rw[h4,h5];have e1:(if decide (σ .one≠0)=true then 1 else 0)=(iU z).toNat:=by rw[h1];cases iU z<;>rfl
 have e2:(if decide (σ .lQ≠0)=true then 1 else 0)=(iC z).toNat:=by rw[h3];cases iC z<;>rfl
 rw[e1,e2];omega
section
variable{p:Po}{is:Nat->PI.bF}
def Po.UF (p:Po)(i:PI.bF){n:Nat}(h:1062<=n):p.at_ i n=0:=by
 unfold Po.at_;rw[if_neg aa,if_neg aa,if_neg aa]
def UG {j:Nat}{s:Slot}(h:p.slot (is j) s≠0):s∈Ji:=by
 unfold Ji;cases s with
 |one=>simp
 |lQ=>simp
 |sec k =>
  have:k<32:=ai9 λe=>h (by rw[Po.dJ,if_neg aa])
  simp[this]
 |dat n =>
  have:n<1062:=ai9 λe=>h (p.UF _ e)
  simp[this]
def Ns (p:Po)(i:PI.bF)(n:Nat):p.gG i n=true↔p.slot i (.dat n)≠0:=by
 unfold Po.gG;rw[decide_eq_true_iff];rfl
def XR {m:Mp Int}{x:Int}:x∈m.map (·.1)↔MP.has m x=true:=by
 unfold MP.has;induction m with
 |nil=>simp[MP.get]
 |cons y m ih =>
  rw[aaF,aaI,ih];show (x=y.1\/(MP.get m x).isSome=true)↔(if y.1=x then some y.2 else MP.get m x).isSome=true;split;rename_i e;simp[e];rename_i e;constructor;rintro (e2|e2);exact absurd e2.symm e;exact e2;exact acm
def o6.count (h:o6 p is)(N:Nat)(hN:∀j,N<=j->∀s,p.slot (is j) s=0):p.U.length=((ac9 N).map λj=>aH (p.gG (is j))).sum:=by
 have hk:(p.U.map (·.1)).Nodup:=by
  have:p.U.Pairwise (λx y=>x.1<y.1):=h.ok.MQ;exact afm.2 (this.imp (λh e=>aa))
 let L:List Int:=(ac9 N).flatMap λj=>(XQ (p.slot (is j))).map λ(x:Nat)=>(x:Int);have hL:L.Nodup:=by
  refine List.pairwise_flatMap.2 ⟨λj _=>?_,?_⟩;refine afm.2 ?_;unfold XQ;refine List.pairwise_filter.2 (afm.2 (Lm.imp ?_));intro s s' hne h1 _ e;have:=h.sep.inj j s j s' (of_decide_eq_true h1) (by simpa using Int.ofNat_inj.1 e);exact hne this.2;refine(Ca N).imp ?_;intro j j' hne x hx y hy e;obtain⟨x',hx',rfl⟩:=aay.1 hx;obtain⟨y',hy',rfl⟩:=aay.1 hy;obtain⟨h0,s,_,e1⟩:=zR.1 hx';obtain⟨_,s',_,e2⟩:=zR.1 hy';have he:x'=y':=Int.ofNat_inj.1 e;exact hne (h.sep.inj j s j' s' (by rw[e1];exact h0) (by rw[e1,e2,he])).1
 have hp:(p.U.map (·.1)).Perm L:=(List.perm_ext_iff_of_nodup hk hL).2 (λx=>by
  rw[XR]
  constructor
  intro hx
  have hg:=Po.dF.1 (h.ok.jf _ hx)
  have hd:=h.ok.bI
  obtain⟨x',rfl⟩:∃x':Nat,x=x':=⟨x.toNat,aa⟩
  obtain⟨h0,j,s,e⟩:=h.sep.all x' hx
  refine List.mem_flatMap.2 ⟨j,List.mem_range.2 (ai9 λhj=>h0 (by rw[<-e];exact hN j hj s)),aay.2 ⟨x',zR.2 ⟨h0,s,UG (by rw[e];exact h0),e⟩,rfl⟩⟩
  intro hx
  obtain⟨j,_,hx⟩:=List.mem_flatMap.1 hx
  obtain⟨x',hx',rfl⟩:=aay.1 hx
  obtain⟨h0,s,_,e⟩:=zR.1 hx'
  rw[<-e]
  exact h.sep.used j s (by rw[e];exact h0))
 rw[<-abT (f:=λ(x:Int×Int)=>x.1),hp.length_eq,List.length_flatMap];congr 1;refine List.map_congr_left λj _=>?_
 rw[abT];exact Nr (h.full j) (λn _=>Ns p (is j) n)
def o6.aK (h:o6 p is)(N:Nat)(hN:∀j,N<=j->∀s,p.slot (is j) s=0):p.aK=p.P-(((ac9 N).map λj=>aH (p.gG (is j))).sum:Nat):=by
 unfold Po.aK;rw[h.count N hN]
end
end po
namespace df
open pl po
def DF.wr (F:DF)(aF:Nat)(l:List Nat):DF :=
 ⟨max F.size (aF+l.length),λn=>F.z n||(decide (aF/64<=n)&&decide (64*n<aF+l.length)),λx=>if aF<=x/\x<aF+l.length then l.getD (x-aF) 0 else F.b x⟩
def DF.cut (F:DF)(t:Nat):DF:=⟨t,λn=>F.z n&&decide (64*n<t),λx=>if x<t then F.b x else 0⟩
variable{F:DF}{l:List Nat}
def DF.ok.wr (h:F.ok){aF:Nat}(hl:1<=l.length)(h3:aF+l.length<=67968)(hs:∀y∈l,y<256):(F.wr aF l).ok:=by
 refine⟨?_,λn hn=>?_,λx hx=>?_,λx=>?_⟩;have:=h.size;show max F.size (aF+l.length)<=67968;omega;have hn':(F.z n||(decide (aF/64<=n)&&decide (64*n<aF+l.length)))=true:=hn;rcases Bool.or_eq_true_iff.1 hn' with e|e;exact h.there n e;have:=(Bool.and_eq_true_iff.1 e).2;have:=of_decide_eq_true this;omega;have hx':(F.z (x/64)||(decide (aF/64<=x/64)&&decide (64*(x/64)<aF+l.length)))=false:=hx;obtain⟨h1,h2⟩:=Bool.or_eq_false_iff.1 hx';show (if aF<=x/\x<aF+l.length then l.getD (x-aF) 0 else F.b x)=0;rw[if_neg];exact h.zero x h1;rintro⟨h4,h5⟩;rw[decide_eq_true aa,decide_eq_true aa]at h2
 cases h2;show (if aF<=x/\x<aF+l.length then l.getD (x-aF) 0 else F.b x)<256;split;exact zZ hs _;exact h.small x
def DF.ok.cut (h:F.ok){t:Nat}(ht:t<=67968):(F.cut t).ok:=by
 refine⟨ht,λn hn=>h.there n (Bool.and_eq_true_iff.1 hn).1,λx hx=>?_,λx=>?_⟩;show (if x<t then F.b x else 0)=0;split;rename_i hxt;have hx':(F.z (x/64)&&decide (64*(x/64)<t))=false:=hx;rw[decide_eq_true aa,Bool.and_true]at hx';exact h.zero x hx';rfl;show (if x<t then F.b x else 0)<256;split;exact h.small x;omega
structure Fl (p:Po)(N:Nat)(is:Nat->PI.bF)(Fs:Nat->DF):Prop where
 fam:o6 p is
 size:∀j,(Fs j).size=(is j).size
 z:∀j n,(Fs j).z n=p.gG (is j) n
 b:∀j x,(Fs j).b x=p.byte (is j) x
 ok:∀j,(Fs j).ok
 tail:∀j x,(is j).size<=x->p.byte (is j) x=0
 none:∀j,N<=j->∀s,p.slot (is j) s=0
def fsUp (Fs:Nat->DF)(j:Nat)(F:DF):Nat->DF:=λj'=>if j'=j then F else Fs j'
def fsUp_self (Fs:Nat->DF)(j:Nat)(F:DF):fsUp Fs j F j=F:=by unfold fsUp;rw[if_pos rfl]
def fsUp_other (Fs:Nat->DF){j j':Nat}(F:DF)(h:j'≠j):fsUp Fs j F j'=Fs j':=by unfold fsUp;rw[if_neg h]
section
variable{p p':Po}{is:Nat->PI.bF}{Fs:Nat->DF}{N j aF:Nat}{l:List Nat}{i':PI.bF}
def o6.size (h:o6 p (bW is j i'))(s:Nat):o6 p (bW is j {i' with size:=s}):=by
 have hsl:∀j' σ,p.slot (bW is j {i' with size:=s} j') σ=p.slot (bW is j i' j') σ:=λj' σ=>by
  by_cases e:j'=j;rw[e,aS,aS];cases σ<;>rfl;rw[aV _ _ e,aV _ _ e]
 have hf:(λj' σ=>p.slot (bW is j {i' with size:=s} j') σ)=λj' σ=>p.slot (bW is j i' j') σ:=funext λj'=>funext λσ=>hsl j' σ
 refine⟨h.ok,by rw[hf];exact h.sep,λj'=>by rw[show p.slot (bW is j {i' with size:=s} j')=p.slot (bW is j i' j') from funext (hsl j')];exact h.full j',λj'=>?_,h.row⟩;have:=h.six j';by_cases e:j'=j;rw[e,aS]at this ⊢;exact this;rw[aV _ _ e]at this ⊢;exact this
variable{i:PI.bF}
def Po.tC {x:Nat}(h:p.at_ i (x/64)=0):p.byte i x=0:=by
 unfold Po.byte Po.cont;rw[if_pos h,aah,afk];split<;>rfl
def abr {n:Nat}:p.gG i n=false↔p.at_ i n=0:=by
 unfold Po.gG;rw[decide_eq_false_iff_not,Decidable.not_not]
def Po.oO (h:∀m,p'.cont i m=p.cont i m)(x:Nat):p'.byte i x=p.byte i x:=by
 unfold Po.byte;rw[h]
def Po.Gl (h:∀m,p'.at_ i m=p.at_ i m)(n:Nat):p'.gG i n=p.gG i n:=by
 unfold Po.gG;rw[h]
def Fl.wr (h:Fl p N is Fs)(hj:j<N)(W:BS p is j aF l (aF+l.length) p' i')(hl:1<=l.length)(h3:aF+l.length<=67968)(hs:∀y∈l,y<256) :
  Fl p' N (bW is j {i' with size:=max (is j).size (aF+l.length)}) (fsUp Fs j ((Fs j).wr aF l)):=by
 have UH:=o6.size W.fam (max (is j).size (aF+l.length));refine⟨UH,λj'=>?_,λj' n=>?_,λj' x=>?_,λj'=>?_,λj' x hx=>?_,λj' hj' s=>?_⟩<;>by_cases e:j'=j;rw[e,fsUp_self,aS];show max (Fs j).size _=max (is j).size _;rw[h.size];rw[fsUp_other _ _ e,aV _ _ e];exact h.size j';rw[e,fsUp_self,aS];show ((Fs j).z n||_)=p'.gG i' n;rw[W.gG,h.z,decide_eq_true (show aF<aF+l.length by omega),Bool.true_and];rw[fsUp_other _ _ e,aV _ _ e,h.z,Po.Gl (λm=>W.at_ j' m e)];rw[e,fsUp_self,aS];show (if aF<=x/\x<aF+l.length then l.getD (x-aF) 0 else (Fs j).b x)=p'.byte i' x
 rw[W.byte,h.b];rw[fsUp_other _ _ e,aV _ _ e,h.b,Po.oO (λm=>W.cont j' m e)];rw[e,fsUp_self];exact(h.ok j).wr hl h3 hs;rw[fsUp_other _ _ e];exact h.ok j';rw[e,aS]at hx ⊢;have hx':max (is j).size (aF+l.length)<=x:=hx;show p'.byte i' x=0;rw[W.byte,if_neg aa];exact h.tail j x aa;rw[aV _ _ e]at hx ⊢;rw[Po.oO (λm=>W.cont j' m e)];exact h.tail j' x hx;omega;rw[aV _ _ e];have hF:o6 p' (bW is j {i' with size:=max (is j).size (aF+l.length)}):=UH;have F:=hF.full j';rw[aV _ _ e]at F;have hd:∀n,p'.slot (is j') (.dat n)=0:=λn=>(W.at_ j' n e).trans (h.none j' hj' (.dat n))
 have hs':∀a,a<32->p'.slot (is j') (.sec a)=0:=λa ha=>(F.sec a ha).2 (λb _=>hd _);cases s with
 |one=>exact F.one.2 (λk _=>hd _)
 |lQ=>exact F.lQ.2 hs'
 |sec a =>
  by_cases ha:a<32;exact hs' a ha;rw[Po.dJ,if_neg ha]
 |dat n=>exact hd n
end
open RowKit mgr ft
def um (z:Nat->Bool)(aF i:Nat):Nat->Bool:=λn=>z n||(decide (0<i)&&(decide (aF/64<=n)&&decide (64*n<aF+i)))
def Cc (z:Nat->Bool)(aF:Nat):um z aF 0=z:=funext λn=>by unfold um;simp
def UI (z:Nat->Bool)(aF i:Nat):um z aF (i+1)=GX (um z aF i) ((aF+i)/64):=funext λn=>by
 unfold um GX
 rw[Bool.or_assoc]
 congr 1
 rw[ae4]
 simp only[Bool.or_eq_true,Bool.and_eq_true,decide_eq_true_eq,beq_iff_eq]
 omega
variable{i m:Nat}
def PG (z:Nat->Bool)(aF:Nat)(h:i<m):um z aF m ((aF+i)/64)=true:=by
 unfold um;rw[Bool.or_eq_true,Bool.and_eq_true,Bool.and_eq_true];exact acm ⟨decide_eq_true aa,decide_eq_true aa,decide_eq_true aa⟩
def abt (z:Nat->Bool)(aF:Nat)(h:1<=m):um z aF m=KW z aF (aF+m):=funext λn=>by
 unfold um KW
 rw[decide_eq_true (show 0<m by omega),Bool.true_and]
 congr 2
 rw[ae4,decide_eq_true_iff,decide_eq_true_iff]
 omega
def DF.up (F:DF)(aF i:Nat):DF:={F with z:=um F.z aF i}
def DF.XT (F:DF)(aF:Nat):F.up aF 0=F:=by unfold DF.up;rw[Cc]
def DF.XU (F:DF)(aF i:Nat):(F.up aF i).with_ ((aF+i)/64)=F.up aF (i+1):=by unfold DF.up DF.with_;rw[UI]
def DF.over (F:DF)(aF:Nat)(l:List Nat)(i:Nat):DF:=⟨F.size,um F.z aF l.length,λx=>if aF<=x/\x<aF+i then l.getD (x-aF) 0 else F.b x⟩
def DF.PH (F:DF)(aF:Nat)(l:List Nat):F.over aF l 0=F.up aF l.length:=by
 unfold DF.over DF.up;congr 1;exact funext λx=>if_neg aa
def DF.PK (F:DF)(aF:Nat)(l:List Nat)(i:Nat):(F.over aF l i).turn (aF+i) (l.getD i 0)=F.over aF l (i+1):=by
 unfold DF.over DF.turn;congr 1;refine funext λx=>?_
 show (if x=aF+i then _ else if aF<=x/\x<aF+i then _ else _)=_;by_cases e:x=aF+i;rw[if_pos e,if_pos aa,show x-aF=i by omega];rw[if_neg e];by_cases e2:aF<=x/\x<aF+i;rw[if_pos e2,if_pos aa];rw[if_neg e2,if_neg aa]
def DF.put (F:DF)(aF:Nat)(l:List Nat):DF:=if l=[] then F else F.wr aF l
def DF.UJ (F:DF)(aF:Nat)(l:List Nat):F.put aF l={F.over aF l l.length with size:=if l=[] then F.size else max F.size (aF+l.length)}:=by
 unfold DF.put DF.over DF.wr;by_cases h:l=[];subst h;rw[if_pos rfl,if_pos rfl];have h1:um F.z aF ([]:List Nat).length=F.z:=Cc _ _;rw[h1];have h2:(λx=>if aF<=x/\x<aF+([]:List Nat).length then ([]:List Nat).getD (x-aF) 0 else F.b x)=F.b:=funext λx=>if_neg (by rintro⟨h3,h4⟩;rw[afO]at h4;omega);rw[h2];rw[if_neg h,if_neg h];have h1:0<l.length:=List.length_pos_iff.2 h;have h2:um F.z aF l.length=λn=>F.z n||(decide (aF/64<=n)&&decide (64*n<aF+l.length)):=funext λn=>by
  unfold um;rw[decide_eq_true h1,Bool.true_and]
 rw[h2]
variable{w:acL}{K:Nat->Prop}{ap ab:Option acM}{N cp cb:Nat}
def pU.size (h:pU w K F ap N cp ab cb){s:Nat}(hs:s<=67968):pU w K {F with size:=s} ap N cp ab cb :=
 ⟨⟨hs,h.ok.there,h.ok.zero,h.ok.small⟩,h.len,h.aB,h.Uq,h.rows,h.XE⟩
variable{g:Nat}{v0 v1 v2 v3:acK}{n:Int}
def bZ {w':acL}(hb:aD w' g 34 #[v0,v1,v2,v3])(tmps:Array acK)(h2:tmps[8]?=some (.pointer (some ⟨g,0,none⟩)))(h3:tmps[9]?=some (vi n)) :
  (results Tryz.f39 tmps).run prog w'=.ok (.tuple #[.agg #[v0,v1,v2,v3],vi n]) w':=by
 have g0:w'.cell? ⟨g,0,none⟩=some v0:=hb.cell 0;have g1:w'.cell? ⟨g,1,none⟩=some v1:=hb.cell 1;have g2:w'.cell? ⟨g,2,none⟩=some v2:=hb.cell 2;have g3:w'.cell? ⟨g,3,none⟩=some v3:=hb.cell 3;simp only[results,results39];simp[go_sem,h2,h3,g0,g1,g2,g3,underlying34]
variable{W:acL}{x r:Nat}{Cr:Array acK}
def St.cells (h:St w x r #[v0,v1,v2,v3] Cr W):W.cell? ⟨x,0,none⟩=some v0/\W.cell? ⟨x,1,none⟩=some v1/\W.cell? ⟨x,2,none⟩=some v2/\W.cell? ⟨x,3,none⟩=some v3:=⟨h.bx.cell 0,h.bx.cell 1,h.bx.cell 2,h.bx.cell 3⟩
def lG {t:acO}(h:aD W x t #[v0,v1,v2,v3]):(W.cell? ⟨x,0,none⟩=some v0/\W.cell? ⟨x,1,none⟩=some v1/\W.cell? ⟨x,2,none⟩=some v2/\W.cell? ⟨x,3,none⟩=some v3) /\
  (W.frozen? ⟨x,0,none⟩=false/\W.frozen? ⟨x,1,none⟩=false/\W.frozen? ⟨x,2,none⟩=false/\W.frozen? ⟨x,3,none⟩=false):=⟨⟨h.cell 0,h.cell 1,h.cell 2,h.cell 3⟩,h.frozen 0,h.frozen 1,h.frozen 2,h.frozen 3⟩
abbrev Dy (W:acL)(g:Nat)(u0 u1 u2 u3:acK):acL:=(((W.setCell ⟨g,0,none⟩ u0).setCell ⟨g,1,none⟩ u1).setCell ⟨g,2,none⟩ u2).setCell ⟨g,3,none⟩ u3
structure Dz (w:acL)(x r y:Nat)(Cx Cr Cy:Array acK)(W:acL):Prop where
 st:St w x r Cx Cr W
 ui:aD W y 34 Cy
 lo:w.heap.size<=y/\y≠x/\y≠r
variable{y:Nat}{Cx Cy:Array acK}
def Dz.old {W':acL}(h:Dz w x r y Cx Cr Cy W)(hb:acN W.heap.size W W'):Dz w x r y Cx Cr Cy W':=⟨h.st.old hb,h.ui.old hb,h.lo⟩
def Dz.Lp (h:Dz w x r y Cx Cr Cy W)(j:Nat)(u:acK):Dz w x r y Cx Cr (Cy.setIfInBounds j u) (W.setCell ⟨y,j,none⟩ u) :=
 ⟨⟨h.st.dW.setCell (p:=⟨y,j,none⟩) h.lo.1 u,h.st.bx.far (p:=⟨y,j,none⟩) (λe=>h.lo.2.1 e.symm) u,h.st.br.far (p:=⟨y,j,none⟩) (λe=>h.lo.2.2 e.symm) u,h.st.lo⟩,h.ui.bB j u,h.lo⟩
def Dz.four {c0 c1 c2 c3:acK}(h:Dz w x r y Cx Cr #[c0,c1,c2,c3] W)(u0 u1 u2 u3:acK):Dz w x r y Cx Cr #[u0,u1,u2,u3] (Dy W y u0 u1 u2 u3) :=
 (((h.Lp 0 u0).Lp 1 u1).Lp 2 u2).Lp 3 u3
def pU.jg (h:pU W K F ap N cp ab cb)(hg:K g)(hq:aP (λn=>n=g) W w):pU w K F ap N cp ab cb :=
 h.aJ (hq.mono (λn _ e=>by rw[e];exact hg)) (λ_ e=>ack e)
def pU.sub {K':Nat->Prop}(h:pU w K' F ap N cp ab cb)(hs:∀n,K n->K' n):pU w K F ap N cp ab cb :=
 h.aJ (aP.refl _ _) (λn e=>ack (hs n e))
def oP (W:acL)(g:Nat)(u0 u1 u2 u3:acK):aP (λn=>n=g) W (Dy W g u0 u1 u2 u3) :=
 (((aP.set (F:=λn=>n=g) W (p:=⟨g,0,none⟩) rfl u0).setCell (p:=⟨g,1,none⟩) (ack rfl) u1).setCell (p:=⟨g,2,none⟩) (ack rfl) u2).setCell (p:=⟨g,3,none⟩) (ack rfl) u3
variable{w:acL}{K:Nat->Prop}{F:DF}{ap ab:Option acM}{N cp cb:Nat}
def aiL (w:acL)(x r y:Nat)(K:Nat->Prop)(F:DF)(C:Array acK)(aF m:Nat)(v:acK)(W:acL):Prop :=
 ∃(i N:Nat) (ap:Option acM) (cp:Nat) (ab:Option acM) (cb:Nat),v=vi i/\i<=m/\Hid (Dz w x r y C z4 #[vi 64,vi F.size,aco ap N cp,aco ab N cb] W)/\Hid (pU W (λn=>K n\/(n=y\/n=r)) (F.up aF i) ap N cp ab cb)
def aiM (w:acL)(x r y:Nat)(K:Nat->Prop)(F:DF)(C:Array acK)(aF:Nat)(l:List Nat)(v:acK)(W:acL):Prop :=
 ∃(i N:Nat) (ap:Option acM) (cp:Nat) (ab:Option acM) (cb:Nat),v=vi i/\i<=l.length/\Hid (Dz w x r y C z4 #[vi 64,vi F.size,aco ap N cp,aco ab N cb] W)/\Hid (pU W (λn=>K n\/(n=y\/n=r)) (F.over aF l i) ap N cp ab cb)
def ahq (aF:Int)(a:Option acM)(m c:Nat)(free:Int)(hb:aF<0\/1024<m):ac4 prog 39 #[qm F.size ap N cp ab cb,vi aF,aco a m c,vi free] w λe w'=>e=ab4 (adg #[qm F.size ap N cp ab cb,vi 1])/\acN w.heap.size w w':=by
 unfold qm;generalize F.size=sz at*;have hguard:(aF<0)\/(¬aF<0/\(1024:Int)<(m:Int)):=aa;clear hb;go_in;go_upto_region 1 with fail;refine uV λw1 fV _=>?_
 obtain⟨x,hx⟩:∃x,x=w.heap.size:=⟨_,rfl⟩;rw[<-hx]at fV ⊢;clear hx;generalize x+1=r at*;obtain⟨x0,x1,x2,x3⟩:=fV.o.cells;obtain⟨⟨g0,g1,g2,g3⟩,f0,f1,f2,f3⟩:=lG fV.o.br;have vB:=az ((((fV.o.cO 0 (vi 64)).cO 1 (vi sz)).cO 2 (aco ap N cp)).cO 3 (aco ab N cb));rcases hguard with n1|⟨n1,n2⟩
 ·go_wp2;exact ac5 (bZ vB.o.br _ rfl rfl) rfl ⟨rfl,vB.o.dW⟩
 go_wp2;exact ac5 (bZ vB.o.br _ rfl rfl) rfl ⟨rfl,vB.o.dW⟩
def xX (aF:Int)(a:Option acM)(m c:Nat)(free:Int)(h0:¬aF<0)(hm:m<=1024)(hb:67968-(m:Int)<aF):ac4 prog 39 #[qm F.size ap N cp ab cb,vi aF,aco a m c,vi free] w λe w'=>e=ab4 (adg #[qm F.size ap N cp ab cb,vi 69])/\acN w.heap.size w w':=by
 unfold qm;generalize F.size=sz at*;have n2:¬(1024:Int)<(m:Int):=aa;have n4:adk.wrap (67968-(m:Int))=67968-(m:Int):=adl _ aa;go_in;go_upto_region 1 with fail;refine uV λw1 fV _=>?_
 obtain⟨x,hx⟩:∃x,x=w.heap.size:=⟨_,rfl⟩;rw[<-hx]at fV ⊢;clear hx;generalize x+1=r at*;obtain⟨x0,x1,x2,x3⟩:=fV.o.cells;obtain⟨⟨g0,g1,g2,g3⟩,f0,f1,f2,f3⟩:=lG fV.o.br;have vB:=az ((((fV.o.cO 0 (vi 64)).cO 1 (vi sz)).cO 2 (aco ap N cp)).cO 3 (aco ab N cb));go_wp2_with fail;refine kD.mono ?_;rintro e w' ⟨rfl,rfl⟩;go_wp2;exact ac5 (bZ vB.o.br _ rfl rfl) rfl ⟨rfl,vB.o.dW⟩
def WrR (w:acL)(K:Nat->Prop)(F:DF)(v:acK)(aF:Nat)(l:List Nat)(free:Int)(e:Ending)(w':acL):Prop :=
 if aH F.z<aH (um F.z aF l.length)/\free<(aH (um F.z aF l.length):Int)-aH F.z then e=ab4 (adg #[v,vi 67])/\acN w.heap.size w w'
 else ∃u,e=ab4 (adg #[u,vi 0])/\Je w' K u (F.put aF l)/\acN w.heap.size w w'
def oM (h:pU w K F ap N cp ab cb)(hK:∀n,K n->n<w.heap.size)(aF:Nat)(a:Option acM)(l:List Nat)(c:Nat)(free:Int)(hr:bE w a l)(hl:l.length<=1024)(hoff:aF+l.length<=67968) :
  ac4 prog 39 #[qm F.size ap N cp ab cb,vi aF,aco a l.length c,vi free] w (WrR w K F (qm F.size ap N cp ab cb) aF l free):=by
 have H:=az h;have Nf:=az hK;have HR:=az hr;have aew:Hid (F.size<=67968):=az h.ok.size;clear h hK hr;unfold qm;obtain⟨sz,hsz⟩:∃s,s=F.size:=⟨_,rfl⟩;rw[<-hsz]at aew ⊢;have jS:=az hsz;clear hsz;obtain⟨m,hm⟩:∃m,m=l.length:=⟨_,rfl⟩;have HM:=az hm;rw[<-hm]at hl hoff ⊢;clear hm;have Pq:=az (And.intro hl hoff);have n0:¬(aF:Int)<0:=aa;have n2:¬(1024:Int)<(m:Int):=aa;have n4:adk.wrap (67968-(m:Int))=67968-(m:Int):=adl _ aa;have n5:¬67968-(m:Int)<(aF:Int):=aa;go_in;go_upto_region 1 with fail;refine uV λw1 fV DC=>?_
 obtain⟨x,hx⟩:∃x,x=w.heap.size:=⟨_,rfl⟩;rw[<-hx]at fV ⊢;have Nn:=az hx;clear hx;obtain⟨r,hr⟩:∃r,r=x+1:=⟨_,rfl⟩;rw[<-hr]at fV ⊢;have HRX:=az hr;clear hr;obtain⟨x0,x1,x2,x3⟩:=fV.o.cells;go_wp2_with fail;refine kD.mono ?_;rintro e w' ⟨rfl,rfl⟩;go_upto_region 6 with fail;have HS2:Hid (Dz w x r w'.heap.size #[vi 64,vi sz,aco ap N cp,aco ab N cb] z4 #[vi 64,vi sz,aco ap N cp,aco ab N cb] (w'.alloc (ach #[vi 64,vi sz,aco ap N cp,aco ab N cb] 34))):=az ⟨fV.o.alloc _,aD.new w' _ _,by have h1:=DC.o;have h2:=Nn.o;have h3:=HRX.o;omega⟩;have HD2:Hid (pU (w'.alloc (ach #[vi 64,vi sz,aco ap N cp,aco ab N cb] 34)) (λn=>K n\/(n=w'.heap.size\/n=r)) F ap N cp ab cb):=az (H.o.aJ (w':=w'.alloc (ach #[vi 64,vi sz,aco ap N cp,aco ab N cb] 34)) (aP.of_below (HS2.o.st.dW)) (λn e=>e.imp id (λe=>by have:=DC.o;have:=Nn.o;have:=HRX.o;omega)))
 clear fV x0 x1 x2 x3 n0 n2 n4 n5;change Code.wp _ _ _ _ (w'.alloc (ach #[vi 64,vi sz,aco ap N cp,aco ab N cb] 34));generalize w'.alloc (ach #[vi 64,vi sz,aco ap N cp,aco ab N cb] 34)=w2 at*;generalize w'.heap.size=y at*;have HKY:Hid (∀n,(K n\/(n=y\/n=r))->n<w2.heap.size):=az (λn e=>by
  rcases e with e|e|e
  exact adN (Nf.o n e) HS2.o.st.dW.size
  rw[e];exact HS2.o.ui.lt
  rw[e];exact HS2.o.st.br.lt)
 go_wp2_with fail;go_loopw [11] (λv wr=>Hid (acN w2.heap.size w2 wr\/True)/\aiL w x r y K F #[vi 64,vi sz,aco ap N cp,aco ab N cb] aF m v wr) (λi _=>m-(intOf i).toNat)
 case atStart=>exact⟨az (acm trivial),0,N,ap,cp,ab,cb,rfl,aaW _,by rw[<-jS.o];exact HS2,by rw[DF.XT];exact HD2⟩
 case round =>
  obtain⟨_,i,N1,yX,xY,zB,zC,rfl,him,hst,hdf⟩:=hrel;rw[<-jS.o]at hst;by_cases hi:i<m
  ·have n1:(i:Int)<(m:Int):=aa;obtain⟨oi,hoi⟩:∃oi,oi=aF+i:=⟨_,rfl⟩;obtain⟨P,hP⟩:∃P:Nat,P=oi/64:=⟨_,rfl⟩;have Tq:Hid (oi=aF+i/\P=(aF+i)/64/\P<1062/\i<m):=az (by have:=Pq.o;omega);have q2:adk.wrap ((aF:Int)+(i:Int))=(oi:Int):=by rw[adl _ (by have:=Pq.o;omega)];omega
   have p1:(oi:Int).tdiv 64=(P:Int):=by rw[ae3 aa];omega
   have p3:(oi:Int)/64=(P:Int):=aa;have p5:adk.wrap (P:Int)=(P:Int):=adl _ (by have:=Tq.o;omega);have HST:=az hst.o;have Px:=az hdf.o;clear hi him hst hdf hoi hP;have HWI:Hid (ac4 prog 67 #[adA #[vi 64,vi sz,aco yX N1 xY,aco zB N1 zC],vi P] wr.drew λe w'=>∃v,e=ab4 v/\Je w' (λn=>K n\/(n=y\/n=r)) v (F.up aF (i+1))/\acN wr.drew.heap.size wr.drew w'):=az (by
    have h1:=Uu (w:=wr.drew) (Px.o.old au) (λn e=>by
     rcases e with e|e|e
     exact adN (Nf.o n e) HST.o.st.dW.size
     rw[e];exact HST.o.ui.lt
     rw[e];exact HST.o.st.br.lt) P Tq.o.2.2.1
    rw[Tq.o.2.1,DF.XU,<-Tq.o.2.1,show (F.up aF i).size=sz from jS.o.symm]at h1
    exact h1)
   obtain⟨⟨b0,b1,b2,b3⟩,f0,f1,f2,f3⟩:=lG HST.o.ui;obtain⟨x0,x1,x2,x3⟩:=HST.o.st.cells;clear x1 x2 x3;have r2:adk.wrap ((i:Int)+1)=((i+1:Nat):Int):=by rw[adl _ (by have:=Tq.o;have:=Pq.o;omega)];omega
   go_upto_region 9 with fail;go_region_with ((go_at_call 67;refine HWI.o.mono ?_;rintro e w5 ⟨v5,rfl,⟨Q0,N5,Q3,Q4,Q5,rfl,hd5⟩,hb5⟩;unfold qm;have mY:=az (HST.o.old ((ac3 _ wr).drew.trans hb5));have qG:=az (lG mY.o.ui);obtain⟨⟨e0,e1,e2,e3⟩,k0,k1,k2,k3⟩:=qG.o));all_goals
    have xG:Hid (Dz w x r y #[vi 64,vi sz,aco ap N cp,aco ab N cb] z4 #[vi 64,vi F.size,aco Q0 N5 Q3,aco Q4 N5 Q5] (Dy w5 y (vi 64) (vi (F.up aF (i+1)).size) (aco Q0 N5 Q3) (aco Q4 N5 Q5))):=az (mY.o.four _ _ _ _);have HD6:Hid (pU (Dy w5 y (vi 64) (vi (F.up aF (i+1)).size) (aco Q0 N5 Q3) (aco Q4 N5 Q5)) (λn=>K n\/(n=y\/n=r)) (F.up aF (i+1)) Q0 N5 Q3 Q4 Q5):=az (hd5.jg (acm (ack rfl)) (oP _ _ _ _ _ _));clear hd5 hb5;go_wp2;go_roundw
    case rel=>exact⟨az (acm trivial),i+1,N5,Q0,Q3,Q4,Q5,by first|rfl|trivial|go_num|(congr 1;omega),Tq.o.2.2.2,xG,HD6⟩
    case measure=>have:=Tq.o.2.2.2;simp[intOf];omega
  obtain rfl:i=m:=aa;have n1:¬(i:Int)<(i:Int):=aa;have HST:=az hst.o;have Px:=az hdf.o;clear hi him hst hdf;obtain⟨T0,hT0⟩:∃T,T=aH F.z:=⟨_,rfl⟩;obtain⟨T1,hT1⟩:∃T,T=aH (um F.z aF l.length):=⟨_,rfl⟩;have CX:Hid (T0=aH F.z/\T1=aH (um F.z aF l.length)):=az ⟨hT0,hT1⟩;have hb0:=kg F.z;have hb1:=kg (um F.z aF l.length);rw[<-hT0]at hb0;rw[<-hT1]at hb1;clear hT0 hT1;have QU:Hid (∀n:Sub wr,ac4 prog 18 #[adA #[vi 64,vi sz,aco ap N cp,aco ab N cb]] n.w λe w'=>e=ab4 (vi (T0:Nat))/\acN n.w.heap.size n.w w'):=az (λn=>by
   have h1:=mi (w:=n.w) (H.o.old (HST.o.st.dW.trans (n.below.mono HST.o.st.dW.size)))
   rw[<-jS.o,<-CX.o.1]at h1
   exact h1)
  have HA1:Hid (∀n:Sub wr,ac4 prog 18 #[adA #[vi 64,vi sz,aco yX N1 xY,aco zB N1 zC]] n.w λe w'=>e=ab4 (vi (T1:Nat))/\acN n.w.heap.size n.w w'):=az (λn=>by
   have h1:=mi (w:=n.w) (Px.o.old n.below)
   rw[show (F.up aF i).size=sz from jS.o.symm,show aH (F.up aF i).z=T1 by rw[CX.o.2,HM.o];rfl]at h1
   exact h1)
  have hsub:adk.wrap ((T1:Int)-(T0:Int))=(T1:Int)-(T0:Int):=adl _ aa;obtain⟨⟨b0,b1,b2,b3⟩,_⟩:=lG HST.o.ui;obtain⟨x0,x1,x2,x3⟩:=HST.o.st.cells;go_upto_region 10 with fail;go_cut [58] from 45 to 92 (λv wx=>v=.bool (decide ((T0:Int)<(T1:Int)/\free<(T1:Int)-(T0:Int)))/\Hid (acN wr.heap.size wr wx))
  case first =>
   have b0:=Sub.cell b0;have b1:=Sub.cell b1;have b2:=Sub.cell b2;have b3:=Sub.cell b3;have x0:=Sub.cell x0;have x1:=Sub.cell x1;have x2:=Sub.cell x2;have x3:=Sub.cell x3;by_cases h1:(T0:Int)<(T1:Int)
   ·refine aZ ah ah ?_;repeat (go_big_quiet_step (first|(go_at_call_of 18 (acK.agg #[vi 64,vi sz,aco ap N cp,aco ab N cb]);exact fM (QU.o _))|(go_at_call_of 18 (acK.agg #[vi 64,vi sz,aco yX N1 xY,aco zB N1 zC]);exact fM (HA1.o _))))
    refine wpQuiet_nil ?_;rintro _ ⟨nq,rfl⟩;have Ar:=az nq.below;go_wp2;go_meet;exact⟨by simp[h1],Ar⟩
   refine aZ ah ah ?_;repeat (go_big_quiet_step (first|(go_at_call_of 18 (acK.agg #[vi 64,vi sz,aco ap N cp,aco ab N cb]);exact fM (QU.o _))|(go_at_call_of 18 (acK.agg #[vi 64,vi sz,aco yX N1 xY,aco zB N1 zC]);exact fM (HA1.o _))))
   refine wpQuiet_nil ?_;rintro _ ⟨nq,rfl⟩;have Ar:=az nq.below;go_wp2;go_meet;exact⟨by rw[decide_eq_false (λe=>absurd e.1 aa)],Ar⟩
  case rest =>
  obtain⟨rfl,hcut⟩:=hcut;have mZ:=az (HST.o.old hcut.o);have HD7:=az (Px.o.old hcut.o);clear hcut HST Px QU HA1 b0 b1 b2 b3 x0 x1 x2 x3 hsub hb0 hb1;generalize wc=w7 at*;by_cases hsp:(T0:Int)<(T1:Int)/\free<(T1:Int)-(T0:Int)
  ·rw[decide_eq_true hsp];have HE:Hid (aH F.z<aH (um F.z aF l.length)/\free<(aH (um F.z aF l.length):Int)-aH F.z):=az (by rw[<-CX.o.1,<-CX.o.2];exact⟨by have:=hsp.1;omega,hsp.2⟩);clear hsp;obtain⟨x0,x1,x2,x3⟩:=mZ.o.st.cells;obtain⟨⟨g0,g1,g2,g3⟩,f0,f1,f2,f3⟩:=lG mZ.o.st.br;have mV:=az ((((mZ.o.st.cO 0 (vi 64)).cO 1 (vi sz)).cO 2 (aco ap N cp)).cO 3 (aco ab N cb));go_wp2_with fail;refine ac5 (bZ mV.o.br _ rfl rfl) rfl ?_;unfold WrR;rw[if_pos HE.o];exact⟨rfl,mV.o.dW⟩
  rw[decide_eq_false hsp];have HE:Hid (¬(aH F.z<aH (um F.z aF l.length)/\free<(aH (um F.z aF l.length):Int)-aH F.z)):=az (by rw[<-CX.o.1,<-CX.o.2];exact λe=>hsp ⟨by have:=e.1;omega,e.2⟩);clear hsp;have Wj:Hid (i=l.length):=az HM.o;go_wp2_with fail;go_loopw [12] (λv wr=>aiM w x r y K F #[vi 64,vi sz,aco ap N cp,aco ab N cb] aF l v wr) (λk _=>i-(intOf k).toNat)
  case atStart=>exact⟨0,N1,yX,xY,zB,zC,rfl,aaW _,by rw[<-jS.o];exact mZ,by rw[DF.PH,<-Wj.o];exact HD7⟩
  case round =>
   obtain⟨k,N2,qx,cp2,qy,qz,rfl,C9,hst,hdf⟩:=hrel;rw[<-jS.o]at hst;clear mZ HD7;by_cases hk:k<i
   ·have n2:(k:Int)<(i:Int):=aa;obtain⟨ok,hok⟩:∃ok,ok=aF+k:=⟨_,rfl⟩;have q2:adk.wrap ((aF:Int)+(k:Int))=(ok:Int):=by rw[adl _ (by have:=Pq.o;omega)];omega
    have vM:Hid (ok=aF+k/\k<i/\ok<67968):=az (by have:=Pq.o;omega);have HST:=az hst.o;have Px:=az hdf.o;obtain⟨lb,lo,rfl,c1,hy⟩:=(HR.o.below HST.o.st.dW).lookup (k:=k) (by rw[<-Wj.o];exact hk);obtain⟨y8,hy8⟩:∃y8,y8=l.getD k 0:=⟨_,rfl⟩;rw[<-hy8]at c1 hy;have HY8:=az hy8;clear hk C9 hst hdf hok hy8;have HTU:Hid (ac4 prog 68 #[adA #[vi 64,vi sz,aco qx N2 cp2,aco qy N2 qz],vi ok,vb y8] wr.drew λe w'=>∃v,e=ab4 v/\Je w' (λn=>K n\/(n=y\/n=r)) v (F.over aF l (k+1))/\acN wr.drew.heap.size wr.drew w'):=az (by
     have h1:=pW (w:=wr.drew) (Px.o.old au) (λn e=>by
      rcases e with e|e|e
      exact adN (Nf.o n e) HST.o.st.dW.size
      rw[e];exact HST.o.ui.lt
      rw[e];exact HST.o.st.br.lt) ok y8 vM.o.2.2 (by rw[vM.o.1];exact PG _ _ (by rw[<-Wj.o];exact vM.o.2.1)) hy
     rw[vM.o.1,HY8.o,DF.PK,<-HY8.o,<-vM.o.1,show (F.over aF l k).size=sz from jS.o.symm]at h1
     exact h1)
    clear hy;obtain⟨⟨b0,b1,b2,b3⟩,f0,f1,f2,f3⟩:=lG HST.o.ui;have r2:adk.wrap ((k:Int)+1)=((k+1:Nat):Int):=by rw[adl _ (by have:=vM.o;have:=Pq.o;omega)];omega
    go_upto_region 15 with fail;go_region_with ((go_at_call 68;refine HTU.o.mono ?_;rintro e w5 ⟨v5,rfl,⟨Q0,N5,Q3,Q4,Q5,rfl,hd5⟩,hb5⟩;unfold qm;have mY:=az (HST.o.old ((ac3 _ wr).drew.trans hb5));have qG:=az (lG mY.o.ui);obtain⟨⟨e0,e1,e2,e3⟩,k0,k1,k2,k3⟩:=qG.o));all_goals
     have xG:Hid (Dz w x r y #[vi 64,vi sz,aco ap N cp,aco ab N cb] z4 #[vi 64,vi F.size,aco Q0 N5 Q3,aco Q4 N5 Q5] (Dy w5 y (vi 64) (vi (F.over aF l (k+1)).size) (aco Q0 N5 Q3) (aco Q4 N5 Q5))):=az (mY.o.four _ _ _ _);have HD6:Hid (pU (Dy w5 y (vi 64) (vi (F.over aF l (k+1)).size) (aco Q0 N5 Q3) (aco Q4 N5 Q5)) (λn=>K n\/(n=y\/n=r)) (F.over aF l (k+1)) Q0 N5 Q3 Q4 Q5):=az (hd5.jg (acm (ack rfl)) (oP _ _ _ _ _ _));clear hd5 hb5;go_wp2;go_roundw
     case rel=>exact⟨k+1,N5,Q0,Q3,Q4,Q5,by first|rfl|trivial|go_num|(congr 1;omega),by have h1:=vM.o.2.1;have h2:=Wj.o;omega,xG,HD6⟩
     case measure=>have:=vM.o.2.1;simp[intOf];omega
   obtain rfl:k=i:=by have:=Wj.o;omega
   have n2:¬(k:Int)<(k:Int):=aa;have HST:=az hst.o;have Px:=az hdf.o;clear hk C9 hst hdf;have UK:Hid (F.put aF l={F.over aF l k with size:=if l=[] then F.size else max F.size (aF+l.length)}):=az (by rw[Wj.o];exact DF.UJ F aF l);have HDP:Hid (pU wr (λn=>K n\/(n=y\/n=r)) (F.put aF l) qx N2 cp2 qy qz):=az (by
    rw[UK.o]
    refine Px.o.size ?_
    have h1:=aew.o
    have h2:=jS.o
    have h3:=Pq.o
    have h4:=HM.o
    split
    omega
    omega)
   have QR:Hid ((F.put aF l).size=if l=[] then F.size else max F.size (aF+l.length)):=az (by rw[UK.o]);obtain⟨ed,Zn⟩:∃ed,ed=aF+k:=⟨_,rfl⟩;have r3:adk.wrap ((aF:Int)+(k:Int))=(ed:Int):=by rw[adl _ (by have:=Pq.o;omega)];omega
   by_cases h0:0<k
   ·have n6:(0:Int)<(k:Int):=aa;have zx:Hid (¬l=[]):=az (λe=>by have:=Wj.o;rw[e]at this;simp at this;omega);obtain⟨⟨b0,b1,b2,b3⟩,e0,e1,e2,e3⟩:=lG HST.o.ui;by_cases h1:sz<ed
    ·have n7:(sz:Int)<(ed:Int):=aa;have CZ:Hid ((F.put aF l).size=ed):=az (by rw[QR.o,if_neg zx.o,<-jS.o,<-Wj.o];omega);clear h0 h1 Zn b0 b2 b3 e0 e2 e3;go_upto_region 18 with fail;have HT8:Hid (Dz w x r y #[vi 64,vi sz,aco ap N cp,aco ab N cb] z4 #[vi 64,vi ed,aco qx N2 cp2,aco qy N2 qz] (wr.setCell ⟨y,1,none⟩ (vi ed))):=az (HST.o.Lp 1 (vi ed));have HD8:Hid (pU (wr.setCell ⟨y,1,none⟩ (vi ed)) (λn=>K n\/(n=y\/n=r)) (F.put aF l) qx N2 cp2 qy qz):=az (HDP.o.jg (acm (ack rfl)) (aP.set (F:=λn=>n=y) wr (p:=⟨y,1,none⟩) rfl _));clear b1 e1;generalize wr.setCell ⟨y,1,none⟩ (vi ed)=w8 at*
     obtain⟨⟨b0,b1,b2,b3⟩,e0,e1,e2,e3⟩:=lG HT8.o.ui;obtain⟨⟨g0,g1,g2,g3⟩,f0,f1,f2,f3⟩:=lG HT8.o.st.br;have mV:=az ((((HT8.o.st.cO 0 (vi 64)).cO 1 (vi ed)).cO 2 (aco qx N2 cp2)).cO 3 (aco qy N2 qz));go_wp2_with fail;refine ac5 (bZ mV.o.br _ rfl rfl) rfl ?_;unfold WrR;rw[if_neg HE.o];refine⟨_,rfl,⟨qx,N2,cp2,qy,qz,by unfold qm;rw[CZ.o],?_⟩,mV.o.dW⟩;exact(HD8.o.jg (acm (acm rfl)) (oP w8 r (vi 64) (vi ed) (aco qx N2 cp2) (aco qy N2 qz))).sub (λn e=>ack e)
    have n7:¬(sz:Int)<(ed:Int):=aa;have CZ:Hid ((F.put aF l).size=sz):=az (by rw[QR.o,if_neg zx.o,<-jS.o,<-Wj.o];omega);clear h0 h1 Zn b0 b2 b3 e0 e2 e3;go_upto_region 18 with fail;clear b1 e1;obtain⟨⟨b0,b1,b2,b3⟩,e0,e1,e2,e3⟩:=lG HST.o.ui;obtain⟨⟨g0,g1,g2,g3⟩,f0,f1,f2,f3⟩:=lG HST.o.st.br;have mV:=az ((((HST.o.st.cO 0 (vi 64)).cO 1 (vi sz)).cO 2 (aco qx N2 cp2)).cO 3 (aco qy N2 qz));go_wp2_with fail;refine ac5 (bZ mV.o.br _ rfl rfl) rfl ?_;unfold WrR;rw[if_neg HE.o];refine⟨_,rfl,⟨qx,N2,cp2,qy,qz,by unfold qm;rw[CZ.o],?_⟩,mV.o.dW⟩
    exact(HDP.o.jg (acm (acm rfl)) (oP wr r (vi 64) (vi sz) (aco qx N2 cp2) (aco qy N2 qz))).sub (λn e=>ack e)
   have n6:¬(0:Int)<(k:Int):=aa;have zx:Hid (l=[]):=az (List.length_eq_zero_iff.1 (by have:=Wj.o;omega));have CZ:Hid ((F.put aF l).size=sz):=az (by rw[QR.o,if_pos zx.o,<-jS.o]);clear h0 Zn;go_upto_region 18 with fail;obtain⟨⟨b0,b1,b2,b3⟩,e0,e1,e2,e3⟩:=lG HST.o.ui;obtain⟨⟨g0,g1,g2,g3⟩,f0,f1,f2,f3⟩:=lG HST.o.st.br;have mV:=az ((((HST.o.st.cO 0 (vi 64)).cO 1 (vi sz)).cO 2 (aco qx N2 cp2)).cO 3 (aco qy N2 qz));go_wp2_with fail;refine ac5 (bZ mV.o.br _ rfl rfl) rfl ?_;unfold WrR;rw[if_neg HE.o];refine⟨_,rfl,⟨qx,N2,cp2,qy,qz,by unfold qm;rw[CZ.o],?_⟩,mV.o.dW⟩
   exact(HDP.o.jg (acm (acm rfl)) (oP wr r (vi 64) (vi sz) (aco qx N2 cp2) (aco qy N2 qz))).sub (λn e=>ack e)
def gq {w':acL}(hb:aD w' g 34 #[v0,v1,v2,v3])(tmps:Array acK)(h2:tmps[4]?=some (.pointer (some ⟨g,0,none⟩)))(h3:tmps[5]?=some (vi n)) :
  (results Tryz.f42 tmps).run prog w'=.ok (.tuple #[.agg #[v0,v1,v2,v3],vi n]) w':=by
 have g0:w'.cell? ⟨g,0,none⟩=some v0:=hb.cell 0;have g1:w'.cell? ⟨g,1,none⟩=some v1:=hb.cell 1;have g2:w'.cell? ⟨g,2,none⟩=some v2:=hb.cell 2;have g3:w'.cell? ⟨g,3,none⟩=some v3:=hb.cell 3;simp only[results,results42];simp[go_sem,h2,h3,g0,g1,g2,g3,underlying34]
def nu (z:Nat->Bool)(t i:Nat):List Nat:=((pg z).take i).filter λn=>decide (64*n<t)
def Jj (L:List Nat)(f:Nat->Bool)(h:i<L.length):(L.take (i+1)).filter f=(L.take i).filter f++(if f (L.getD i 0)=true then [L.getD i 0] else []):=by
 have hg:L.getD i 0=L[i]:=by rw[aah,aaj h];rfl
 rw[List.take_add_one,List.filter_append,aaj h,hg];congr 1;show List.filter _ [L[i]]=_;rw[List.filter_cons,List.filter_nil]
def PM (z:Nat->Bool)(t:Nat):nu z t 0=[]:=by unfold nu;rw[List.take_zero];rfl
def PN (z:Nat->Bool)(t:Nat){n:Nat}(h:i<(pg z).length)(hn:(pg z).getD i 0=n):nu z t (i+1)=if 64*n<t then nu z t i++[n] else nu z t i:=by
 unfold nu;rw[Jj _ _ h,hn];by_cases c:64*n<t;rw[if_pos c,if_pos (decide_eq_true c)];rw[if_neg c,if_neg (by simp only[decide_eq_true_eq];exact c),List.append_nil]
def UL (F:DF)(t:Nat):nu F.z t (pg F.z).length=pg (F.cut t).z:=by
 unfold nu pg;rw[List.take_length,List.filter_filter];refine List.filter_congr λn _=>?_
 show (decide (64*n<t)&&F.z n)=(F.z n&&decide (64*n<t));rw[Bool.and_comm]
def UM (z:Nat->Bool)(t i:Nat):(nu z t i).length<=1062:=abX (List.length_filter_le _ _) (abX (by rw[acX];omega) (Gg z))
def iX (w:acL)(b:Nat)(bs:List acK)(ls:List (List Nat)):Prop:=bs.length=ls.length/\∀(k:Nat) l,ls[k]?=some l->∃v,bs[k]?=some v/\aR w b 5 v (l.map vb)/\l.length=64/\∀y∈l,y<256
section
variable{w':acL}{b0:Nat}{bs:List acK}{ls:List (List Nat)}{t:acO}{v:acK}{xs:List acK}
def iX.old (h:iX w b0 bs ls)(hb:acN w.heap.size w w'):iX w' b0 bs ls:=⟨h.1,λk l e=>by obtain⟨v,h1,h2,h3⟩:=h.2 k l e;exact⟨v,h1,h2.old hb,h3⟩⟩
def iX.other (h:iX w b0 bs ls)(g:aR w b0 t v xs)(ht:5≠t)(hg:w.grownBy w' v.ownBlock):iX w' b0 bs ls:=⟨h.1,λk l e=>by obtain⟨v,h1,h2,h3⟩:=h.2 k l e;exact⟨v,h1,aR.other h2 g ht hg,h3⟩⟩
def iX.iW (h:iX w b0 bs ls){cs:Array acK}{t2:acO}(hb:aD w g t2 cs)(ht:5≠t2)(j:Nat)(u:acK):iX (w.setCell ⟨g,j,none⟩ u) b0 bs ls:=⟨h.1,λk l e=>by obtain⟨v,h1,h2,h3⟩:=h.2 k l e;exact⟨v,h1,aR.iW h2 hb ht j u,h3⟩⟩
def iX.nil (w:acL)(b:Nat):iX w b [] []:=⟨rfl,λk l e=>by simp at e⟩
def iX.more (h:iX w b0 bs ls)(ho:aR w b0 5 v (l.map vb))(hl:l.length=64)(hs:∀y∈l,y<256):iX w b0 (bs++[v]) (ls++[l]):=by
 refine⟨by rw[acZ,acZ,h.1];rfl,λk l' e=>?_⟩;rcases Nat.lt_or_ge k ls.length with hk|hk;rw[aa9 hk]at e;rw[aa9 (by rw[h.1];exact hk)];exact h.2 k l' e;rw[ae1 hk]at e;rw[ae1 (by rw[h.1];exact hk),h.1];have h0:k-ls.length=0:=by
  have:=(List.getElem?_eq_some_iff.1 e).1;simp at this;omega
 rw[h0]at e ⊢;injection e with e;subst e;exact⟨v,rfl,ho,hl,hs⟩
def iX.rows (h:iX w b0 bs ls)(hK:∀n,K n->n<b0):Rows K w bs ls:=⟨h.1,λk l e=>by
 obtain⟨v,h1,h2,h3,h4⟩:=h.2 k l e
 obtain⟨a,c,rfl,h5⟩:=h2.Du
 rw[abT,h3]at h1 h2
 have hc:=h5.cap
 rw[abT,h3]at hc
 exact⟨a,c,h1,⟨(aR.zu h2 h4).1,Off.own h2 hK⟩,h3,hc⟩⟩
end
def PO (t:Int)(ht:t<0\/67968<t):ac4 prog 42 #[qm F.size ap N cp ab cb,vi t] w λe w'=>e=ab4 (adg #[qm F.size ap N cp ab cb,vi (if t<0 then 1 else 69)])/\acN w.heap.size w w':=by
 unfold qm;generalize F.size=sz at*;go_in;go_upto_region 1 with fail;refine uV λw1 fV _=>?_
 obtain⟨x,hx⟩:∃x,x=w.heap.size:=⟨_,rfl⟩;rw[<-hx]at fV ⊢;clear hx;generalize x+1=r at*;obtain⟨x0,x1,x2,x3⟩:=fV.o.cells;obtain⟨⟨g0,g1,g2,g3⟩,f0,f1,f2,f3⟩:=lG fV.o.br;have vB:=az ((((fV.o.cO 0 (vi 64)).cO 1 (vi sz)).cO 2 (aco ap N cp)).cO 3 (aco ab N cb));by_cases n1:t<0
 ·clear ht;go_wp2;exact ac5 (gq vB.o.br _ rfl rfl) rfl ⟨rfl,vB.o.dW⟩
 have n2:67968<t:=aa;clear ht;go_wp2_with fail;refine kD.mono ?_;rintro e w' ⟨rfl,rfl⟩;go_wp2;exact ac5 (gq vB.o.br _ rfl rfl) rfl ⟨rfl,vB.o.dW⟩
def aR.down {b0 b1:Nat}{t:acO}{v:acK}{xs:List acK}(h:aR w b0 t v xs)(hb:b1<=b0):aR w b1 t v xs :=
 ⟨h.1,h.2.imp id λ⟨g,cap,cur,h1,h2,h3⟩=>⟨g,cap,cur,h1,abX hb h2,h3⟩⟩
def aex (w:acL)(x r y:Nat)(F:DF)(C:Array acK)(t:Nat)(v:acK)(W:acL):Prop :=
 ∃(i N2:Nat) (a2:Option acM) (c2:Nat) (a3:Option acM) (c3:Nat) (cs:List acK),v=vi i/\i<=(pg F.z).length/\Hid (N2=(nu F.z t i).length/\Dz w x r y C z4 #[vi 64,vi t,aco a2 N2 c2,aco a3 N2 c3] W /\
  aR W w.heap.size 3 (aco a2 N2 c2) ((nu F.z t i).map λ(n:Nat)=>vi (n:Int))/\aR W w.heap.size 23 (aco a3 N2 c3) cs/\iX W w.heap.size cs ((nu F.z t i).map (row (F.cut t).b)))
def xW (h:pU w K F ap N cp ab cb)(hK:∀n,K n->n<w.heap.size)(t:Nat)(ht:t<=67968) :
  ac4 prog 42 #[qm F.size ap N cp ab cb,vi t] w λe w'=>∃u,e=.returned (.tuple #[u,vi 0])/\Je w' K u (F.cut t)/\acN w.heap.size w w':=by
 have H:=az h;have Nf:=az hK;have je:=az h.len;have CX:=az ht;obtain⟨bs,hbs⟩:=h.rows;have Lh:=az hbs;have lK:Hid (bs.length=N):=az (by rw[hbs.2.1,abT,je.o]);have lX:=az h.small;clear h hK hbs;unfold qm;generalize F.size=sz at*;have n0:¬(t:Int)<0:=aa;have n1:¬(67968:Int)<(t:Int):=aa;go_in;go_upto_region 1 with fail;refine uV λw1 fV DC=>?_
 obtain⟨x,hx⟩:∃x,x=w.heap.size:=⟨_,rfl⟩;rw[<-hx]at fV ⊢;have Nn:=az hx;clear hx;obtain⟨r,hr⟩:∃r,r=x+1:=⟨_,rfl⟩;rw[<-hr]at fV ⊢;have HRX:=az hr;clear hr;obtain⟨x0,x1,x2,x3⟩:=fV.o.cells;go_wp2_with fail;refine kD.mono ?_;rintro e w' ⟨rfl,rfl⟩;go_upto_region 6 with fail;have HS2:Hid (Dz w x r w'.heap.size #[vi 64,vi sz,.slice ap N cp,.slice ab N cb] z4 #[vi 64,vi t,.slice none 0 0,.slice none 0 0] (w'.alloc (.cells #[vi 64,vi t,.slice none 0 0,.slice none 0 0] 34))):=az ⟨fV.o.alloc _,aD.new w' _ _,by have h1:=DC.o;have h2:=Nn.o;have h3:=HRX.o;omega⟩;clear fV x0 x1 x2 x3 n0 n1
 change Code.wp _ _ _ _ (w'.alloc (.cells #[vi 64,vi t,.slice none 0 0,.slice none 0 0] 34));generalize w'.alloc (.cells #[vi 64,vi t,.slice none 0 0,.slice none 0 0] 34)=w2 at*;generalize w'.heap.size=y at*;go_wp2_with fail;go_loopw [7] (λv wr=>aex w x r y F #[vi 64,vi sz,.slice ap N cp,.slice ab N cb] t v wr) (λi _=>N-(intOf i).toNat)
 case atStart=>exact⟨0,0,none,0,none,0,[],rfl,aaW _,az (by rw[PM];exact⟨rfl,HS2.o,aR.nil _ _ _,aR.nil _ _ _,iX.nil _ _⟩)⟩
 case round =>
  obtain⟨i,N2,a2,c2,a3,c3,cs,rfl,hiN,hin⟩:=hrel;have HI:=az hin.o;clear hin;rw[je.o]at hiN;obtain⟨x0,x1,x2,x3⟩:=HI.o.2.1.st.cells;by_cases hi:i<N
  ·have n1:(i:Int)<(N:Int):=aa;have hil:i<(pg F.z).length:=by rw[je.o];exact hi
   obtain⟨b,o,rfl,e1⟩:=(H.o.zy.below HI.o.2.1.st.dW).lookup (i:=i) (by rw[abT];exact hil);rw[wF hil]at e1;obtain⟨P,hP⟩:∃P,(pg F.z).getD i 0=P:=⟨_,rfl⟩;rw[hP]at e1;have HP:Hid ((pg F.z).getD i 0=P/\i<(pg F.z).length):=az ⟨hP,hil⟩;have hP1:P<1062:=by
    have:P∈pg F.z:=by rw[<-hP,aah,aaj hil];exact List.getElem_mem hil
    exact(Gf.1 this).1
   obtain⟨f,hf⟩:∃f,f=64*P:=⟨_,rfl⟩;have q1:adk.wrap ((P:Int)*64)=(f:Int):=by rw[adl _ aa];omega
   have UN:Hid (f=64*P/\P<1062/\i<N):=az ⟨hf,hP1,hi⟩;clear hP hil hf;have r2:adk.wrap ((i:Int)+1)=((i+1:Nat):Int):=by rw[adl _ (by have:=lX.o;omega)];omega
   go_upto_region 9 with fail;have x0:=Sub.cell x0;have x2:=Sub.cell x2;have e1:=Sub.cell e1;clear x1 x3;go_cut [8] from 31 to 82 (λv wx=>v=vi f/\Hid (acN wr.heap.size wr wx))
   case first =>
    refine aZ ah ah ?_;repeat (go_big_quiet_step (fail))
    refine wpQuiet_nil ?_;rintro _ ⟨nq,rfl⟩;have Ar:=az nq.below;go_wp2;go_meet;exact⟨rfl,Ar⟩
   case rest =>
   obtain⟨rfl,hcut⟩:=hcut;have HI2:Hid (N2=(nu F.z t i).length/\Dz w x r y #[vi 64,vi sz,.slice (some ⟨b,o,none⟩) N cp,.slice ab N cb] z4 #[vi 64,vi t,.slice a2 N2 c2,.slice a3 N2 c3] wc /\
    aR wc w.heap.size 3 (.slice a2 N2 c2) ((nu F.z t i).map λ(n:Nat)=>vi (n:Int))/\aR wc w.heap.size 23 (.slice a3 N2 c3) cs/\iX wc w.heap.size cs ((nu F.z t i).map (row (F.cut t).b))):=az (by
    obtain⟨h1,h2,h3,h4,h5⟩:=HI.o
    exact⟨h1,h2.old hcut.o,h3.old hcut.o,h4.old hcut.o,h5.old hcut.o⟩)
   clear hcut HI x0 x2 e1;generalize wc=w3 at*;have Pt:=az (PN F.z t HP.o.2 HP.o.1);by_cases hft:f<t
   ·have n2:¬(t:Int)<=(f:Int):=aa;rw[if_pos (by rw[<-UN.o.1];exact hft)]at Pt;clear hft;obtain⟨B,hB⟩:∃B,B=row (F.cut t).b P:=⟨_,rfl⟩;have HB:Hid (B=row (F.cut t).b P/\B.length=64/\(∀k,k<64->B.getD k 0=if f+k<t then F.b (64*P+k) else 0)/\∀y∈B,y<256):=az (by
     refine⟨hB,by rw[hB,wE],λk hk=>?_,λy hy=>?_⟩
     rw[hB,sZ _ _ hk,UN.o.1]
     rfl
     rw[hB]at hy
     obtain⟨k,_,rfl⟩:=aay.1 hy
     exact(H.o.ok.cut CX.o).small _)
    clear hB;go_wp2_with fail;go_loopw [9,10] (λv9 v10 wr=>∃k:Nat,v10=vi k/\k<=64/\Hid (acN w3.heap.size w3 wr/\aR wr w3.heap.size 5 v9 ((B.take k).map vb))) (λ_ k _=>64-(intOf k).toNat)
    case atStart=>exact⟨0,rfl,aaW _,az ⟨ak,by rw[List.take_zero];exact aR.nil _ _ _⟩⟩
    case round =>
     obtain⟨k,rfl,aey,hin⟩:=hrel;have eX:=az hin.o;clear hin;have HW:=az (HI2.o.2.1.old eX.o.1);obtain⟨x0,x1,x2,x3⟩:=HW.o.st.cells;by_cases hk:k<64
     ·have m1:(k:Int)<64:=aa;obtain⟨fk,hfk⟩:∃fk,fk=f+k:=⟨_,rfl⟩;have m2:adk.wrap ((f:Int)+(k:Int))=(fk:Int):=by rw[adl _ (by have:=UN.o;omega)];omega
      have m3:adk.wrap ((k:Int)+1)=((k+1:Nat):Int):=by rw[adl _ aa];omega
      have HKK:Hid (k<64/\fk=f+k):=az ⟨hk,hfk⟩;have HBK:=az (HB.o.2.2.1 k hk);have zQ:Hid ((B.take k).map vb++[vb (B.getD k 0)]=(B.take (k+1)).map vb):=az (by
       have hkl:k<B.length:=by rw[HB.o.2.1];exact hk
       rw[List.take_add_one,aaj hkl,aef,aah,aaj hkl]
       rfl)
      have Dx:=eX.o.2;obtain⟨a9,c9,XV,_⟩:=Dx.Le;rw[abT,acX,HB.o.2.1,Nat.min_eq_left aa]at XV;subst XV;clear Dx;clear hk hfk aey;by_cases hc:fk<t
      ·have m4:(fk:Int)<(t:Int):=aa;rw[if_pos (by rw[<-HKK.o.2];exact hc)]at HBK;clear hc;obtain⟨a8,c8,hbj,⟨hrow,_⟩,Dv,Uw⟩:=Lh.o.2.2 i (row F.b P) (by rw[List.getElem?_map,aaj HP.o.2];have h9:=HP.o.1;rw[aah,aaj HP.o.2]at h9;show some (row F.b _)=_;rw[show (pg F.z)[i]'HP.o.2=P from h9]);obtain⟨b5,o5,rfl,e5,hy⟩:=(hrow.below HW.o.st.dW).lookup (k:=k) (by rw[Dv];exact HKK.o.1);rw[sZ _ _ HKK.o.1,<-HBK.o]at e5;obtain⟨b4,o4,aiQ,e4⟩:∃b o,ab=some ⟨b,o,none⟩/\wr.cell? ⟨b,o+i,none⟩=some (.slice (some ⟨b5,o5,none⟩) 64 c8):=by
        rcases Lh.o.1 with⟨_,h0,_⟩|⟨b,o,h0,_,h1⟩;have h9:=lK.o;rw[h0]at h9;have h8:=UN.o.2.2;simp at h9;omega;exact⟨b,o,h0,cell_below ((h1 i (by rw[lK.o];exact UN.o.2.2)).trans hbj) HW.o.st.dW⟩
       subst aiQ;have m5:(i:Int)<(N:Int):=by have:=UN.o.2.2;omega
       have m6:¬(i:Int)<0:=aa;clear hbj hrow Dv Uw hy;obtain⟨Y,hY⟩:∃Y,Y=B.getD k 0:=⟨_,rfl⟩;rw[<-hY]at zQ e5;clear hY;obtain⟨v2,w6,ha,ho,hg⟩:=kU (c:=1) underlying23 mW rfl aa (aR.old eX.o.2 ((ac3 _ wr).alloc aj (.cells #[vb Y] 5))) (kG wr (vb Y) 5) (λu hu=>by simp at hu;rw[hu];rfl) (by have:=HKK.o;simp;omega) (by have:=eX.o.1.size;simp;omega);rw[zQ.o]at ho;have uC:Hid (acN w3.heap.size w3 w6):=az ((eX.o.1.alloc eX.o.1.size _).grown hg (by have:=eX.o.1.size;simp;omega) (λk hk=>((aR.lt eX.o.2 hk).2.1)));have RA:=az ha
       have CW:=az ho;clear ha ho hg;go_wp2_with (at_builtin;refine wpList_append_run rfl (.tmp 53) (.tmp 62) rfl rfl rfl RA.o.run ?_);go_roundw
       case rel=>exact⟨k+1,by first|rfl|trivial|go_num|(congr 1;omega),HKK.o.1,az ⟨uC.o,CW.o⟩⟩
       case measure=>have:=HKK.o.1;simp[intOf];omega
      have m4:¬(fk:Int)<(t:Int):=aa;rw[if_neg (by rw[<-HKK.o.2];exact hc)]at HBK;clear hc;rw[HBK.o]at zQ;obtain⟨v2,w6,ha,ho,hg⟩:=kU (c:=1) underlying23 mW rfl aa (aR.old eX.o.2 ((ac3 _ wr).alloc aj (.cells #[vb 0] 5))) (kG wr (vb 0) 5) (λu hu=>by simp at hu;rw[hu];rfl) (by have:=HKK.o;simp;omega) (by have:=eX.o.1.size;simp;omega);rw[zQ.o]at ho;have uC:Hid (acN w3.heap.size w3 w6):=az ((eX.o.1.alloc eX.o.1.size _).grown hg (by have:=eX.o.1.size;simp;omega) (λk hk=>((aR.lt eX.o.2 hk).2.1)));have RA:=az ha;have CW:=az ho
      clear ha ho hg;go_wp2_with (at_builtin;refine wpList_append_run rfl (.tmp 64) (.tmp 65) rfl rfl rfl RA.o.run ?_);go_roundw
      case rel=>exact⟨k+1,by first|rfl|trivial|go_num|(congr 1;omega),HKK.o.1,az ⟨uC.o,CW.o⟩⟩
      case measure=>have:=HKK.o.1;simp[intOf];omega
     obtain rfl:k=64:=aa;have HO9:Hid (aR wr w.heap.size 5 u9 (B.map vb)):=az (by
      have h9:=eX.o.2
      rw[List.take_of_length_le (by rw[HB.o.2.1];exact aj)]at h9
      exact aR.down h9 HI2.o.2.1.st.dW.size)
     have HI3:Hid (Dz w x r y #[vi 64,vi sz,.slice (some ⟨b,o,none⟩) N cp,.slice ab N cb] z4 #[vi 64,vi t,.slice a2 N2 c2,.slice a3 N2 c3] wr /\
      aR wr w.heap.size 3 (.slice a2 N2 c2) ((nu F.z t i).map λ(n:Nat)=>vi (n:Int))/\aR wr w.heap.size 23 (.slice a3 N2 c3) cs/\iX wr w.heap.size cs ((nu F.z t i).map (row (F.cut t).b))):=az (by
      obtain⟨h1,h2,h3,h4,h5⟩:=HI2.o
      have hb:=eX.o.1
      exact⟨HW.o,h3.old hb,h4.old hb,h5.old hb⟩)
     have GK:Hid (N2=(nu F.z t i).length/\N2<=1062):=az ⟨HI2.o.1,by rw[HI2.o.1];exact UM _ _ _⟩;obtain⟨a9,c9,XV,_,ZB⟩:=HO9.o.Le;rw[abT,HB.o.2.1]at XV ZB;subst XV;clear aey hk x1 x3 eX HW HI2 ZB;go_upto_region 18 with fail;obtain⟨_,_,hbo,e1⟩:=(H.o.zy.below HI3.o.1.st.dW).lookup (i:=i) (by rw[abT];exact HP.o.2);rw[wF HP.o.2,HP.o.1]at e1;injection hbo with hbo;injection hbo with hb1 ho1 _;subst hb1 ho1;have y2:wr.cell? ⟨y,2,none⟩=some (.slice a2 N2 c2):=HI3.o.1.ui.cell 2;obtain⟨v4,w4,ha4,zm,S4,hg4⟩:=jP ((HI3.o.1.st.old (ac3 _ wr).drew).alloc (.cells #[vi P] 3)) underlying31 mgr.jI rfl aa (HI3.o.2.1.old ((ac3 _ wr).drew.alloc aj (.cells #[vi P] 3))) ag (c:=1) (kG wr.drew (vi P) 3) (λu hu=>by simp at hu;rw[hu];rfl) (by have:=GK.o;simp;omega) (m:=1) rfl
     have hbw:acN wr.heap.size wr (wr.drew.alloc (.cells #[vi P] 3)):=(ac3 _ wr).drew.alloc aj (.cells #[vi P] 3);have hy4:aD w4 y 34 #[vi 64,vi t,.slice a2 N2 c2,.slice a3 N2 c3]:=(HI3.o.1.ui.old hbw).grown hg4 (bU (HI3.o.2.1.old hbw) (HI3.o.1.ui.old hbw) ag);have hr4:=aR.other (HI3.o.2.2.1.old hbw) (HI3.o.2.1.old hbw) ag hg4;have hR4:=(HI3.o.2.2.2.old hbw).other (HI3.o.2.1.old hbw) ag hg4;have h94:=aR.other (HO9.o.old hbw) (HI3.o.2.1.old hbw) ag hg4;obtain⟨a4,c4,hv4,_⟩:=zm.Du;rw[acZ,abT,<-GK.o.1,List.length_singleton]at hv4
     subst hv4;have HN4:Hid (((nu F.z t i).map λ(n:Nat)=>vi (n:Int))++[vi (P:Int)]=(nu F.z t (i+1)).map λ(n:Nat)=>vi (n:Int)):=az (by rw[Pt.o,aef];rfl);rw[HN4.o]at zm;have T4:Dz w x r y _ z4 _ w4:=⟨S4,hy4,HI3.o.1.lo⟩;have HT5:=az (T4.Lp 2 (.slice a4 (N2+1) c4));have Dk:=az (aR.iW zm hy4 ag 2 (.slice a4 (N2+1) c4));have ql:=az (aR.iW hr4 hy4 ag 2 (.slice a4 (N2+1) c4));have zt:=az (hR4.iW hy4 ag 2 (.slice a4 (N2+1) c4));have H95:=az (aR.iW h94 hy4 ag 2 (.slice a4 (N2+1) c4));have z2:w4.cell? ⟨y,2,none⟩=some (.slice a2 N2 c2):=hy4.cell 2
     have f2:=hy4.frozen 2;have RA4:=az ha4;have l1:y<wr.heap.size:=HI3.o.1.ui.lt;have l2:x<wr.heap.size:=HI3.o.1.st.bx.lt;have l3:b<wr.heap.size:=lU e1;clear ha4 zm S4 hg4 hbw hy4 hr4 hR4 h94 T4 HI3 HO9;go_cut [9] from 67 to 82 (λv wx=>v=.slice a9 64 c9/\wx=w4.setCell ⟨y,2,none⟩ (.slice a4 (N2+1) c4))
     case first =>
      go_region_law (refine jH (.tmp 68) (.tmp 74) RA4.o (by rfl) (by rfl) (by go_simp) (by go_simp) ?_);all_goals
       go_wp2;go_meet;exact⟨rfl,rfl⟩
     case rest =>
     obtain⟨rfl,hcut⟩:=hcut;clear y2 z2 f2 l1 l2 l3 RA4 e1 x0 x2;generalize w4.setCell ⟨y,2,none⟩ (.slice a4 (N2+1) c4)=w5 at*;subst hcut;obtain⟨v6,w6,ha6,yL,S6,uy⟩:=jP (HT5.o.st.alloc (.cells #[.slice a9 64 c9] 23)) underlying32 fT rfl aa (ql.o.old ((ac3 _ wc).alloc aj (.cells #[.slice a9 64 c9] 23))) ag (c:=1) (kG wc (.slice a9 64 c9) 23) (λu hu=>by simp at hu;rw[hu];rfl) (by have h1:=GK.o;have h2:=zt.o.1;rw[abT]at h2;simp;omega) (m:=1) rfl;have hbw:acN wc.heap.size wc (wc.alloc (.cells #[.slice a9 64 c9] 23)):=(ac3 _ wc).alloc aj (.cells #[.slice a9 64 c9] 23)
     have ZG:aD w6 y 34 _:=(HT5.o.ui.old hbw).grown uy (bU (ql.o.old hbw) (HT5.o.ui.old hbw) ag);have MW:=aR.other (Dk.o.old hbw) (ql.o.old hbw) ag uy;have ZH:=(zt.o.old hbw).other (ql.o.old hbw) ag uy;have h96:=aR.other (H95.o.old hbw) (ql.o.old hbw) ag uy;have hcl:cs.length=N2:=by have h2:=zt.o.1;rw[abT,<-GK.o.1]at h2;exact h2
     obtain⟨a6,c6,hv6,_⟩:=yL.Du;rw[acZ,hcl,List.length_singleton]at hv6;subst hv6;have T6:Dz w x r y _ z4 _ w6:=⟨S6,ZG,HT5.o.lo⟩;have HT7:=az (T6.Lp 3 (.slice a6 (N2+1) c6));have QT:=az (aR.iW MW ZG ag 3 (.slice a6 (N2+1) c6));have Bz:=az (aR.iW yL ZG ag 3 (.slice a6 (N2+1) c6));have HW7:Hid (iX (w6.setCell ⟨y,3,none⟩ (.slice a6 (N2+1) c6)) w.heap.size (cs++[.slice a9 64 c9]) ((nu F.z t (i+1)).map (row (F.cut t).b))):=az (by
      rw[Pt.o,aef]
      have:=(ZH.iW ZG ag 3 (.slice a6 (N2+1) c6)).more (aR.iW h96 ZG ag 3 (.slice a6 (N2+1) c6)) HB.o.2.1 HB.o.2.2.2
      rw[HB.o.1]at this
      exact this)
     have y3:wc.cell? ⟨y,3,none⟩=some (.slice a3 N2 c3):=HT5.o.ui.cell 3;have z3:w6.cell? ⟨y,3,none⟩=some (.slice a3 N2 c3):=ZG.cell 3;have f3:=ZG.frozen 3;have RA6:=az ha6;clear ha6 yL S6 uy hbw ZG MW ZH h96 T6 HT5 Dk ql zt H95 hcl;go_wp2_with (at_builtin;refine wpList_append_run rfl (.tmp 78) (.tmp 80) rfl rfl rfl RA6.o.run ?_);go_roundw
     case rel=>exact⟨i+1,N2+1,a4,c4,a6,c6,_,by first|rfl|trivial|go_num|(congr 1;omega),by rw[je.o];exact UN.o.2.2,az ⟨by rw[Pt.o,acZ,<-GK.o.1];rfl,HT7.o,QT.o,Bz.o,HW7.o⟩⟩
     case measure=>have:=UN.o.2.2;simp[intOf];omega
   have n2:(t:Int)<=(f:Int):=aa;rw[if_neg (by rw[<-UN.o.1];exact hft)]at Pt;clear hft;go_wp2;go_roundw
   case rel=>exact⟨i+1,N2,a2,c2,a3,c3,cs,by first|rfl|trivial|go_num|(congr 1;omega),by rw[je.o];exact UN.o.2.2,by rw[Pt.o];exact HI2⟩
   case measure=>have:=UN.o.2.2;simp[intOf];omega
  obtain rfl:i=N:=aa;have n2:¬(i:Int)<(i:Int):=aa;have HE:Hid (nu F.z t i=pg (F.cut t).z):=az (by rw[<-je.o];exact UL F t);clear hiN hi;obtain⟨⟨b0,b1,b2,b3⟩,e0,e1,e2,e3⟩:=lG HI.o.2.1.ui;obtain⟨⟨g0,g1,g2,g3⟩,f0,f1,f2,f3⟩:=lG HI.o.2.1.st.br;have mV:=az ((((HI.o.2.1.st.cO 0 (vi 64)).cO 1 (vi t)).cO 2 (.slice a2 N2 c2)).cO 3 (.slice a3 N2 c3));have HO8:=az (aR.four HI.o.2.2.1 HI.o.2.1.st ag (vi 64) (vi t) (.slice a2 N2 c2) (.slice a3 N2 c3));have Ei:=az (aR.four HI.o.2.2.2.1 HI.o.2.1.st ag (vi 64) (vi t) (.slice a2 N2 c2) (.slice a3 N2 c3))
  have CY:=az ((((HI.o.2.2.2.2.iW HI.o.2.1.st.br ag 0 (vi 64)).iW (HI.o.2.1.st.cO 0 (vi 64)).br ag 1 (vi t)).iW ((HI.o.2.1.st.cO 0 (vi 64)).cO 1 (vi t)).br ag 2 (.slice a2 N2 c2)).iW (((HI.o.2.1.st.cO 0 (vi 64)).cO 1 (vi t)).cO 2 (.slice a2 N2 c2)).br ag 3 (.slice a3 N2 c3));have Kq:=az HI.o.1;clear x0 x1 x3;go_wp2_with fail;refine ac5 (gq mV.o.br _ rfl rfl) rfl ?_;have hlt:∀n,K n->n<w.heap.size:=Nf.o;refine⟨_,rfl,⟨a2,N2,c2,a3,c3,rfl,?_⟩,mV.o.dW⟩;obtain⟨a',c',e9,Py⟩:=HO8.o.Du;injection e9 with XH e92 XI
  subst XH XI;obtain⟨a'',c'',e9,hp8⟩:=Ei.o.Du;injection e9 with XH e92 XI;subst XH XI;have hrw:=CY.o.rows (K:=K) hlt;have ho9:=Off.own HO8.o hlt;have hr9:=Off.own Ei.o hlt;rw[HE.o]at Py hrw;exact⟨H.o.ok.cut CX.o,by rw[Kq.o,HE.o],Py,ho9,⟨_,hp8,hrw⟩,hr9⟩
def countP_split (a b:Nat)(f:Nat->Bool):(ac9 (a+b)).countP f=(ac9 a).countP f+(ac9 b).countP λk=>f (a+k):=by
 rw[List.range_add,afT,ai6];rfl
variable{g:Nat->Bool}
def flat_count {β:Type}{f:Nat->List β}(h:∀k,k<N->(f k).length=(g k).toNat):((ac9 N).flatMap f).length=(ac9 N).countP g:=by
 induction N with
 |zero=>rfl
 |succ N ih =>
  rw[List.range_succ,List.flatMap_append,acZ,afT,ih (λk hk=>h k aa),List.flatMap_cons,List.flatMap_nil,List.append_nil,h N aa,afV,List.countP_nil];cases g N<;>rfl
def flat_count2 {β:Type}{f:Nat->List β}{h2:Nat->Nat->Bool}(h:∀k,k<N->(f k).length=(g k).toNat+(ac9 32).countP (h2 k)) :
  ((ac9 N).flatMap f).length=(ac9 N).countP g+(ac9 (32*N)).countP λm=>h2 (m/32) (m%32):=by
 induction N with
 |zero=>rfl
 |succ N ih =>
  have e:32*(N+1)=32*N+32:=aa;rw[List.range_succ,List.flatMap_append,acZ,afT,ih (λk hk=>h k aa),List.flatMap_cons,List.flatMap_nil,List.append_nil,h N aa,afV,List.countP_nil,e,countP_split];have e2:(ac9 32).countP (λk=>h2 ((32*N+k)/32) ((32*N+k)%32))=(ac9 32).countP (h2 N):=bN (λm hm=>by
   rw[show (32*N+m)/32=N by omega,show (32*N+m)%32=m by omega])
  rw[e2];cases g N<;>simp<;>omega
section
variable{p p' p1:Po}{is:Nat->PI.bF}{Fs:Nat->DF}{j t:Nat}{i':PI.bF}
def ZI (p:Po)(aB fr:Nat):(p.items 0 aB fr).length=(decide (aB≠0)).toNat:=by
 unfold Po.items;by_cases e:aB=0;rw[if_pos e,decide_eq_false (λh=>h e)];rfl;rw[if_neg e,decide_eq_true e];rfl
def ZJ (p:Po)(aB fr:Nat):(p.items 1 aB fr).length=(decide (aB≠0)).toNat+(ac9 32).countP λk=>decide (p.ptr aB k≠0):=by
 by_cases e:aB=0;have h0:(ac9 32).countP (λk=>decide (p.ptr aB k≠0))=0:=afS.2 (λk _=>by
  unfold Po.ptr
  rw[if_pos e]
  simp)
 rw[h0,decide_eq_false (λh=>h e)];unfold Po.items;rw[if_pos e];rfl;rw[Po.items,if_neg e,decide_eq_true e,adV];have h1:((PI.ptrs (p.get aB)).flatMap λx=>p.items 0 x.2 (fr+x.1*stepOf (0+1))).length=(ac9 32).countP λk=>decide (p.ptr aB k≠0):=by
  unfold PI.ptrs;rw[oL];refine flat_count λk _=>?_
  have h2:p.ptr aB k=PI.two (p.get aB) k:=by unfold Po.ptr;rw[if_neg e]
  rw[h2];split;rename_i h3;rw[decide_eq_false (λh=>h h3)];rfl;exact ZI _ _ _
 rw[h1];show _=1+_;omega
def aez (p:Po)(aB fr:Nat):(p.items 2 aB fr).length=(decide (aB≠0)).toNat+((ac9 32).countP (λk=>decide (p.ptr aB k≠0))+(ac9 (32*32)).countP λm=>decide (p.ptr (p.ptr aB (m/32)) (m%32)≠0)):=by
 by_cases e:aB=0;have h0:(ac9 32).countP (λk=>decide (p.ptr aB k≠0))=0:=afS.2 (λk _=>by
  unfold Po.ptr
  rw[if_pos e]
  simp)
 have h1:(ac9 (32*32)).countP (λm=>decide (p.ptr (p.ptr aB (m/32)) (m%32)≠0))=0:=afS.2 (λk _=>by
  unfold Po.ptr
  rw[if_pos e,if_pos rfl]
  simp)
 rw[h0,h1,decide_eq_false (λh=>h e)];unfold Po.items;rw[if_pos e];rfl;rw[Po.items,if_neg e,decide_eq_true e,adV];have h1:((PI.ptrs (p.get aB)).flatMap λx=>p.items 1 x.2 (fr+x.1*stepOf (1+1))).length=(ac9 32).countP (λk=>decide (p.ptr aB k≠0))+(ac9 (32*32)).countP λm=>decide (p.ptr (p.ptr aB (m/32)) (m%32)≠0):=by
  unfold PI.ptrs;rw[oL];refine flat_count2 (h2:=λa b=>decide (p.ptr (p.ptr aB a) b≠0)) λk _=>?_
  have h2:p.ptr aB k=PI.two (p.get aB) k:=by unfold Po.ptr;rw[if_neg e]
  rw[<-h2];split;rename_i h3;have h4:(ac9 32).countP (λb=>decide (p.ptr (p.ptr aB k) b≠0))=0:=afS.2 (λb _=>by
   unfold Po.ptr at h3 ⊢
   rw[h3,if_pos rfl]
   simp)
  rw[decide_eq_false (λh=>h h3),h4];rfl;exact ZJ _ _ _
 rw[h1];show _=1+_;omega
def XW (σ:Slot->Nat):(XQ σ).length=(decide (σ .one≠0)).toNat+(decide (σ .lQ≠0)).toNat+(ac9 32).countP (λk=>decide (σ (.sec k)≠0))+(ac9 1062).countP λn=>decide (σ (.dat n)≠0):=by
 unfold XQ;rw[<-List.countP_eq_length_filter];unfold Ji;rw[aaF,aaF,aef,List.map_map,List.map_map,afV,afV,afT,ai6,ai6];have e:∀x:Nat,(if decide (x≠0)=true then 1 else 0)=(decide (x≠0)).toNat:=λx=>by cases decide (x≠0)<;>rfl
 rw[e,e];show (ac9 32).countP (λk=>decide (σ (.sec k)≠0))+(ac9 1062).countP (λn=>decide (σ (.dat n)≠0))+_+_=_;omega
def PR (p:Po)(i:PI.bF):(p.jy i).length=(XQ (p.slot i)).length:=by
 rw[XW];unfold Po.jy Po.jY;rw[acZ,acZ,ZJ,aez];have h1:((ac9 6).flatMap λj=>p.items 0 (i.direct.getD j 0) j).length=(ac9 6).countP λj=>decide (i.direct.getD j 0≠0):=flat_count λk _=>ZI _ _ _
 obtain⟨Q,hQ⟩:∃Q,Q=32*32:=⟨_,rfl⟩;rw[<-hQ];have h2:(ac9 (6+(32+Q))).countP (λn=>decide (p.slot i (.dat n)≠0))=(ac9 6).countP (λj=>decide (i.direct.getD j 0≠0))+((ac9 32).countP (λk=>decide (p.ptr i.single k≠0))+(ac9 Q).countP λm=>decide (p.ptr (p.ptr i.double (m/32)) (m%32)≠0)):=by
  rw[countP_split,countP_split];have e1:(ac9 6).countP (λn=>decide (p.slot i (.dat n)≠0))=(ac9 6).countP (λj=>decide (i.direct.getD j 0≠0)):=bN λm hm=>by
   show decide (p.at_ i m≠0)=_;unfold Po.at_;rw[if_pos hm]
  have e2:(ac9 32).countP (λk=>decide (p.slot i (.dat (6+k))≠0))=(ac9 32).countP (λk=>decide (p.ptr i.single k≠0)):=bN λm hm=>by
   show decide (p.at_ i (6+m)≠0)=_;unfold Po.at_;rw[if_neg aa,if_pos aa,show 6+m-6=m by omega]
  have e3:(ac9 Q).countP (λk=>decide (p.slot i (.dat (6+(32+k)))≠0))=(ac9 Q).countP (λm=>decide (p.ptr (p.ptr i.double (m/32)) (m%32)≠0)):=bN λm hm=>by
   show decide (p.at_ i (6+(32+m))≠0)=_;unfold Po.at_;rw[if_neg aa,if_neg aa,if_pos aa,show 6+(32+m)-38=m by omega]
  rw[e1,e2,e3]
 have h3:(ac9 32).countP (λk=>decide (p.slot i (.sec k)≠0))=(ac9 32).countP (λk=>decide (p.ptr i.double k≠0)):=bN (λm hm=>by rw[Po.dJ,if_pos hm]);have h4:(ac9 1062).countP (λn=>decide (p.slot i (.dat n)≠0))=(ac9 (6+(32+Q))).countP (λn=>decide (p.slot i (.dat n)≠0)):=by rw[show 6+(32+Q)=1062 by omega]
 rw[h1,h3,h4,h2];show _=(decide (i.single≠0)).toNat+(decide (i.double≠0)).toNat+_+_;omega
def o6.takes (h:o6 p is)(j:Nat):(p.jy (is j)).length=aH (p.gG (is j)):=by
 rw[PR];exact Nr (h.full j) (λn _=>Ns p (is j) n)
def Fl.gG (h:Fl p N is Fs)(j:Nat):(Fs j).z=p.gG (is j):=funext (h.z j)
def Fl.pages (h:Fl p N is Fs)(j:Nat):p.eO (is j)=pg (Fs j).z:=by
 unfold Po.eO pg;rw[h.gG]
def Fl.takes (h:Fl p N is Fs)(j:Nat):(p.jy (is j)).length=aH (Fs j).z:=by
 rw[o6.takes h.fam,h.gG]
def Fl.aK (h:Fl p N is Fs):p.aK=p.P-(((ac9 N).map λj=>aH (Fs j).z).sum:Nat):=by
 rw[o6.aK h.fam N h.none];have:(ac9 N).map (λj=>aH (p.gG (is j)))=(ac9 N).map λj=>aH (Fs j).z:=List.map_congr_left λj _=>by rw[h.gG]
 rw[this]
def Fl.cut (h:Fl p N is Fs)(hj:j<N)(ht:t<=67968){gone:List Nat}(W:qo p is j gone p1 i')(hg:∀n,n∈gone↔n∈p.eO (is j)/\(t+63)/64<=n)(hp:p'=pX p1 i' t (is j).size) :
  Fl p' N (bW is j {i' with size:=t}) (fsUp Fs j ((Fs j).cut t))/\(p'.T=p.T/\p'.P=p.P/\p'.I=p.I/\(p'.B,p'.G)=(p.B,p.G)):=by
 have hat:∀n,p1.at_ i' n=if (t+63)/64<=n then 0 else p.at_ (is j) n:=λn=>by
  rw[W.at_];by_cases e:n∈gone;rw[if_pos e,if_pos ((hg n).1 e).2]
  ·rw[if_neg e];split
   ·rename_i e2;refine ad2 λc=>e ((hg n).2 ⟨(p.mR _ _).2 ⟨?_,c⟩,e2⟩)
    exact ai9 λe3=>c (p.UF _ e3)
   rfl
 have hct:∀n,¬(t+63)/64<=n->p1.cont i' n=p.cont (is j) n:=λn hn=>W.keep n (λe=>hn ((hg n).1 e).2);obtain⟨E,hE⟩:∃E:Prop,E=(p1.at_ i' (t/64)≠0/\t%64≠0/\t<(is j).size):=⟨_,rfl⟩;have hself:bW is j i' j=i':=aS _ _ _;have key:o6 p' (bW is j i')/\(∀j' m,p'.at_ (bW is j i' j') m=p1.at_ (bW is j i' j') m)/\(∀j' m,j'≠j->p'.cont (bW is j i' j') m=p1.cont (bW is j i' j') m) /\
   (∀x,p'.byte i' x=if x<t then p.byte (is j) x else 0)/\(p'.T=p.T/\p'.P=p.P/\p'.I=p.I/\(p'.B,p'.G)=(p.B,p.G)):=by
  have hb1:∀x,(x<t\/t%64=0\/p1.at_ i' (t/64)=0\/(is j).size<=t)->p1.byte i' x=if x<t then p.byte (is j) x else 0:=λx hx=>by
   by_cases e:(t+63)/64<=x/64;rw[if_neg aa,Po.tC (by rw[hat,if_pos e])];have h1:p1.byte i' x=p.byte (is j) x:=by unfold Po.byte;rw[hct _ e]
   by_cases e2:x<t;rw[if_pos e2,h1];rw[if_neg e2];have e3:x/64=t/64:=aa;rcases hx with hx|hx|hx|hx;exact absurd hx e2;omega;exact Po.tC (by rw[e3];exact hx);rw[h1];exact h.tail j x aa
  by_cases c:E;have c':=c;rw[hE]at c';obtain⟨c1,c2,c3⟩:=c';have hl:=o6.row W.fam (p1.at_ i' (t/64)) (by
   have:=o6.used W.fam (j:=j) (s:=.dat (t/64)) (by rw[hself];exact c1)
   rw[hself]at this
   exact this)
  have hcl:(p1.cont i' (t/64)).length=64/\∀y∈p1.cont i' (t/64),y<256:=by
   unfold Po.cont;rw[if_neg c1];exact hl
  generalize hL:(p1.cont i' (t/64)).take (t%64)++aaA (64-t%64) 0=L at*;have hLL:L.length=64/\∀y∈L,y<256:=by
   rw[<-hL];refine⟨Uz hcl.1 aa,λy hy=>?_⟩;rcases aaS.1 hy with hy|hy;exact hcl.2 y (List.mem_of_mem_take hy);rw[ai7 hy];omega
  have P:=Po.Ni W.fam j (t/64) (by rw[hself];exact c1) hLL;rw[hself]at P;have XJ:p'=p1.put (p1.at_ i' (t/64):Nat) L:=by
   rw[hp];unfold pX;rw[if_pos ⟨c1,c2,c3⟩,hL]
  rw[<-XJ]at P;refine⟨P.fam,λj' m=>P.at_ j' m,λj' m hj'=>P.uh j' m (λe=>hj' e.1),λx=>?_,?_⟩;by_cases e:x/64=t/64;have h2:=P.cont;unfold Po.byte;have h3:p'.cont i' (t/64)=L:=by rw[hself]at h2;exact h2
  rw[e,h3,<-hL];by_cases e2:x<t;rw[if_pos e2,aah,aa9 (by rw[acX];omega),List.getElem?_take,if_pos aa,hct _ aa,aah];rw[if_neg e2,aah,ae1 (by rw[acX];omega),afk];split<;>rfl;have h2:=P.uh j (x/64) (λe3=>e e3.2);rw[hself]at h2;have h3:p'.byte i' x=p1.byte i' x:=by unfold Po.byte;rw[h2]
  rw[h3];by_cases e2:x<t;exact hb1 x (ack e2);rw[if_neg e2,Po.tC (by rw[hat,if_pos aa])];obtain⟨a1,a2,a3,a4⟩:=W.vC;obtain⟨b1,b2,b3,b4⟩:=P.vC;exact⟨b1.trans a1,b2.trans a2,b3.trans a3,b4.trans a4⟩;have XJ:p'=p1:=by
   rw[hp];unfold pX;rw[if_neg (λh=>c (by rw[hE];exact h))]
  rw[XJ];refine⟨W.fam,λ_ _=>rfl,λ_ _ _=>rfl,λx=>hb1 x ?_,W.vC⟩;rw[hE]at c;by_cases c1:p1.at_ i' (t/64)=0;exact acm (acm (ack c1));by_cases c2:t%64=0;exact acm (ack c2);exact acm (acm (acm (Nat.le_of_not_lt λc3=>c ⟨c1,c2,c3⟩)))
 obtain⟨k1,k2,k3,k4,k5⟩:=key;have UH:=o6.size k1 t;have aeA:∀j' m,j'≠j->p'.at_ (is j') m=p.at_ (is j') m:=λj' m e=>by
  have:=k2 j' m;rw[aV _ _ e]at this;rw[this,W.oat j' m e]
 have aeB:∀j' m,j'≠j->p'.cont (is j') m=p.cont (is j') m:=λj' m e=>by
  have:=k3 j' m e;rw[aV _ _ e]at this;rw[this,W.cont j' m e]
 refine⟨⟨UH,λj'=>?_,λj' n=>?_,λj' x=>?_,λj'=>?_,λj' x hx=>?_,λj' hj' s=>?_⟩,k5⟩<;>by_cases e:j'=j;rw[e,fsUp_self,aS];rfl;rw[fsUp_other _ _ e,aV _ _ e];exact h.size j';rw[e,fsUp_self,aS];show ((Fs j).z n&&decide (64*n<t))=p'.gG i' n;have h1:=k2 j n;rw[hself]at h1;unfold Po.gG;rw[h1,hat,h.z];unfold Po.gG;by_cases e2:(t+63)/64<=n;rw[if_pos e2,decide_eq_false (show ¬64*n<t by omega),Bool.and_false];rfl;rw[if_neg e2,decide_eq_true (show 64*n<t by omega),Bool.and_true];rw[fsUp_other _ _ e,aV _ _ e,h.z,Po.Gl (λm=>aeA j' m e)]
 rw[e,fsUp_self,aS];show (if x<t then (Fs j).b x else 0)=p'.byte i' x;rw[k4,h.b];rw[fsUp_other _ _ e,aV _ _ e,h.b,Po.oO (λm=>aeB j' m e)];rw[e,fsUp_self];exact(h.ok j).cut ht;rw[fsUp_other _ _ e];exact h.ok j';rw[e,aS]at hx ⊢;have hx':t<=x:=hx;show p'.byte i' x=0;rw[k4,if_neg aa];rw[aV _ _ e]at hx ⊢;rw[Po.oO (λm=>aeB j' m e)];exact h.tail j' x hx;omega;rw[aV _ _ e];have F:=UH.full j';rw[aV _ _ e]at F;have hd:∀n,p'.slot (is j') (.dat n)=0:=λn=>(aeA j' n e).trans (h.none j' hj' (.dat n));have hs':∀a,a<32->p'.slot (is j') (.sec a)=0:=λa ha=>(F.sec a ha).2 (λb _=>hd _)
 cases s with
 |one=>exact F.one.2 (λk _=>hd _)
 |lQ=>exact F.lQ.2 hs'
 |sec a =>
  by_cases ha:a<32;exact hs' a ha;rw[Po.dJ,if_neg ha]
 |dat n=>exact hd n
def UO (hg:∀n,p'.get n=p.get n)(i:PI.bF)(s:Slot):p'.slot i s=p.slot i s:=by
 have hp:∀a b,p'.ptr a b=p.ptr a b:=λa b=>by unfold Po.ptr;rw[hg]
 cases s with
 |one=>rfl
 |lQ=>rfl
 |sec k=>rw[Po.dJ,Po.dJ,hp]
 |dat n =>
  show p'.at_ i n=p.at_ i n;unfold Po.at_;rw[hp,hp,hp]
def Fl.same (h:Fl p N is Fs)(hg:∀n,p'.get n=p.get n)(hU:p'.U=p.U)(ho:p'.ok):Fl p' N is Fs:=by
 have hs:∀j s,p'.slot (is j) s=p.slot (is j) s:=λj s=>UO hg _ s
 have hat:∀j m,p'.at_ (is j) m=p.at_ (is j) m:=λj m=>hs j (.dat m);have hf:(λj s=>p'.slot (is j) s)=λj s=>p.slot (is j) s:=funext λj=>funext λs=>hs j s
 have hct:∀j m,p'.cont (is j) m=p.cont (is j) m:=λj m=>by unfold Po.cont;rw[hat,hg]
 refine⟨⟨ho,by rw[hf,hU];exact h.fam.sep,λj=>by rw[show p'.slot (is j)=p.slot (is j) from funext (hs j)];exact h.fam.full j,h.fam.six,λx hx=>by rw[hU]at hx;rw[hg];exact h.fam.row x hx⟩,h.size,λj n=>by rw[h.z,Po.Gl (λm=>hat j m)],λj x=>by rw[h.b,Po.oO (λm=>hct j m)],h.ok,λj x hx=>by rw[Po.oO (λm=>hct j m)];exact h.tail j x hx,λj hj s=>by rw[hs];exact h.none j hj s⟩
variable{G:FP.Ft->Prop}
def Fl.abu (h:Fl p N is Fs)(ho:({p with M:=[],B:=p.get,G:=G}:Po).ok):Fl {p with M:=[],B:=p.get,G:=G} N is Fs:=Fl.same h (λn=>rfl) rfl ho
def Fl.other (h:Fl p N is Fs)(ho:({p with G:=G}:Po).ok):Fl {p with G:=G} N is Fs:=Fl.same h (λn=>rfl) rfl ho
end
end df
namespace lw
open RowKit mgr ft pl ino po df
structure RF where
 s:Nat
 ap:Option acM
 N:Nat
 cp:Nat
 ab:Option acM
 cb:Nat
def RF.c (r:RF):Nat->acK:=λj=>if j=0 then vi 64 else if j=1 then vi r.s else if j=2 then aco r.ap r.N r.cp else aco r.ab r.N r.cb
abbrev RF.v (r:RF):acK:=adA #[vi 64,vi r.s,aco r.ap r.N r.cp,aco r.ab r.N r.cb]
def Jk (i:PI.bF):Nat->acK:=λj=>if j=0 then vi i.aL else if j=1 then vi i.links else if j=2 then vi i.size else if j<9 then vi (i.direct.getD (j-3) 0:Nat) else if j=9 then vi i.single else vi i.double
def aO (q:Nat)(is:Nat->PI.bF)(D:Nat->RF):Nat->acK:=λj =>
 if j=0 then ptr q else if j<12 then Jk (is 0) (j-1) else if j<23 then Jk (is 1) (j-12) else if j<34 then Jk (is 2) (j-23) else if j<38 then (D 0).c (j-34) else if j<42 then (D 1).c (j-38) else (D 2).c (j-42)
def Q6 (D:Nat->RF)(k:Nat)(r:RF):Nat->RF:=λj=>if j=k then r else D j
def aI (C:Nat->acK):Array acK:=#[C 0,C 1,C 2,C 3,C 4,C 5,C 6,C 7,C 8,C 9,C 10,C 11,C 12,C 13,C 14,C 15,C 16,C 17,C 18,C 19,C 20,C 21,C 22,C 23,C 24,C 25,C 26,C 27,C 28,C 29,C 30,C 31,C 32,C 33,C 34,C 35,C 36,C 37,C 38,C 39,C 40,C 41,C 42,C 43,C 44,C 45]
def Nt (C:Nat->acK):aI C=((ac9 46).map C).toArray:=rfl
def oQ (C:Nat->acK){j:Nat}(h:j<46):(aI C)[j]?=some (C j):=by
 rw[Nt,List.getElem?_toArray,List.getElem?_map,List.getElem?_range h];rfl
def iD (C:Nat->acK):(aI C).size=46:=rfl
structure One (C:Nat->acK):Prop where
 one:∀j,(C j).oneCell'=true
def Nu (i:PI.bF)(j:Nat):(Jk i j).oneCell'=true:=by
 unfold Jk;repeat' split
 all_goals rfl
def UQ (r:RF)(j:Nat):(r.c j).oneCell'=true:=by
 unfold RF.c;repeat' split
 all_goals rfl
def fu (q:Nat)(is:Nat->PI.bF)(D:Nat->RF):One (aO q is D):=⟨λj=>by
 unfold aO
 repeat' split
 all_goals first|rfl|exact Nu _ _|exact UQ _ _⟩
variable{w:acL}{x:Nat}{C:Nat->acK}
def gu (h:aD w x 37 (aI C)):(∀j,j<46->w.cell? ⟨x,j,none⟩=some (C j))/\∀j,w.frozen? ⟨x,j,none⟩=false :=
 ⟨λj hj=>(h.cell j).trans (oQ C hj),λj=>h.frozen j⟩
variable{g:Nat}
def pY {t:acO}:∀(vs:List acK) (o:Nat) (W:acL) (D:Array acK),aD W g t D->∃D',aD (W.setCells g o vs) g t D'/\D'.size=D.size/\∀j,D'[j]?=if o<=j/\j<o+vs.length/\j<D.size then vs[j-o]? else D[j]?
 |[],o,W,D,h=>⟨D,h,rfl,λj=>by rw[if_neg];intro e;rw[afO]at e;omega⟩
 |v::vs,o,W,D,h=>by
  obtain⟨D',h1,h2,h3⟩:=pY vs (o+1) (W.setCell ⟨g,o,none⟩ v) (D.setIfInBounds o v) (h.bB o v)
  refine⟨D',h1,by rw[h2,Array.size_setIfInBounds],λj=>?_⟩
  rw[h3,Array.size_setIfInBounds]
  by_cases e:o+1<=j/\j<o+1+vs.length/\j<D.size
  rw[if_pos e,if_pos (by rw[adV];omega),show j-o=(j-(o+1))+1 by omega,List.getElem?_cons_succ]
  rw[if_neg e]
  by_cases e2:o=j
  subst e2
  by_cases e3:o<D.size
  rw[if_pos (by rw[adV];omega),Nat.sub_self,Array.getElem?_setIfInBounds_self_of_lt e3]
  rfl
  rw[if_neg aa,Array.getElem?_setIfInBounds]
  simp[e3]
  rw[Array.getElem?_setIfInBounds_ne e2,if_neg (by rw[adV];omega)]
abbrev cZ (W:acL)(r:Nat)(C:Nat->acK):acL:=W.setCells r 0 (aI C).toList
variable{W:acL}
def gy {r:Nat}{t:acO}{D:Array acK}(h:aD W r t D)(hD:D.size=46)(C:Nat->acK):aD (cZ W r C) r t (aI C):=by
 obtain⟨D',h1,h2,h3⟩:=pY (aI C).toList 0 W D h;have:D'=aI C:=by
  refine Array.ext_getElem? λj=>?_
  rw[h3,Array.getElem?_toList,abU,Array.length_toList,iD,hD];by_cases e:j<46;rw[if_pos ⟨aaW _,e,e⟩,Nat.sub_zero];rw[if_neg aa,afE aa,afE (by rw[iD];omega)]
 rw[<-this];exact h1
def dh (W:acL)(r:Nat)(C:Nat->acK):aP (λn=>n=r) W (cZ W r C):=po.l6 r _ _ _
def Ce {C':Nat->acK}(h:∀j,j<46->C j=C' j):aI C=aI C':=by
 refine Array.ext_getElem? λj=>?_
 rcases Nat.lt_or_ge j 46 with hj|hj;rw[oQ _ hj,oQ _ hj,h j hj];rw[afE (by rw[iD];exact hj),afE (by rw[iD];exact hj)]
def Wl (C:Nat->acK)(o:Nat)(vs:List acK):Nat->acK:=λj=>if o<=j/\j<o+vs.length then vs.getD (j-o) undef else C j
def XX {t:acO}(h:aD W g t (aI C))(o:Nat)(vs:List acK):aD (W.setCells g o vs) g t (aI (Wl C o vs)):=by
 obtain⟨D',h1,h2,h3⟩:=pY vs o W _ h;have:D'=aI (Wl C o vs):=by
  refine Array.ext_getElem? λj=>?_
  rw[h3,iD];by_cases hj:j<46;rw[oQ _ hj,oQ _ hj];unfold Wl;by_cases e:o<=j/\j<o+vs.length;rw[if_pos ⟨e.1,e.2,hj⟩,if_pos e,aah,aaj aa];rfl;rw[if_neg (λh=>e ⟨h.1,h.2.1⟩),if_neg e];rw[if_neg aa,afE (by rw[iD];omega),afE (by rw[iD];omega)]
 rw[<-this];exact h1
variable{k m:Nat}
def UT (q:Nat)(is:Nat->PI.bF)(D:Nat->RF)(hk:k<3)(hm:m<11):aO q is D (1+k*11+m)=Jk (is k) m:=by
 unfold aO;rcases (by omega:k=0\/k=1\/k=2) with rfl|rfl|rfl;rw[if_neg aa,if_pos aa];congr 1;omega;rw[if_neg aa,if_neg aa,if_pos aa];congr 1;omega;rw[if_neg aa,if_neg aa,if_neg aa,if_pos aa];congr 1;omega
def XY (q:Nat)(is:Nat->PI.bF)(D:Nat->RF)(hk:k<3)(hm:m<4):aO q is D (34+k*4+m)=(D k).c m:=by
 unfold aO;rcases (by omega:k=0\/k=1\/k=2) with rfl|rfl|rfl;rw[if_neg aa,if_neg aa,if_neg aa,if_neg aa,if_pos aa];congr 1;omega;rw[if_neg aa,if_neg aa,if_neg aa,if_neg aa,if_neg aa,if_pos aa];congr 1;omega;rw[if_neg aa,if_neg aa,if_neg aa,if_neg aa,if_neg aa,if_neg aa];congr 1;omega
def abv (q:Nat)(is:Nat->PI.bF)(D:Nat->RF)(hk:k<3)(kd ln sz d0 d1 d2 d3 d4 d5 sg db:Nat):aI (Wl (aO q is D) (1+k*11) [vi kd,vi ln,vi sz,vi d0,vi d1,vi d2,vi d3,vi d4,vi d5,vi sg,vi db])=aI (aO q (bW is k ⟨kd,ln,sz,[d0,d1,d2,d3,d4,d5],sg,db⟩) D):=by
 refine Ce λj hj=>?_
 unfold Wl;split;rename_i e;obtain⟨m,rfl⟩:∃m,j=1+k*11+m:=⟨j-(1+k*11),aa⟩;have hm:m<11:=by have:=e.2;simp only[adV,afO]at this;omega
 rw[UT _ _ _ hk hm,aS,Nat.add_sub_cancel_left];rcases (by omega:m=0\/m=1\/m=2\/m=3\/m=4\/m=5\/m=6\/m=7\/m=8\/m=9\/m=10) with rfl|rfl|rfl|rfl|rfl|rfl|rfl|rfl|rfl|rfl|rfl<;>rfl
 ·rename_i e;simp only[adV,afO]at e;unfold aO;rcases (by omega:k=0\/k=1\/k=2) with rfl|rfl|rfl;all_goals
   repeat' split
   all_goals first|rfl|(rw[aV _ _ aa])|omega
def aeC (q:Nat)(is:Nat->PI.bF)(D:Nat->RF)(hk:k<3)(s:Nat)(ap:Option acM)(N cp:Nat)(ab:Option acM)(cb:Nat):aI (Wl (aO q is D) (34+k*4) [vi 64,vi s,aco ap N cp,aco ab N cb])=aI (aO q is (Q6 D k ⟨s,ap,N,cp,ab,cb⟩)):=by
 refine Ce λj hj=>?_
 unfold Wl;split;rename_i e;obtain⟨m,rfl⟩:∃m,j=34+k*4+m:=⟨j-(34+k*4),aa⟩;have hm:m<4:=by have:=e.2;simp only[adV,afO]at this;omega
 rw[XY _ _ _ hk hm,Nat.add_sub_cancel_left];unfold Q6;rw[if_pos rfl];rcases (by omega:m=0\/m=1\/m=2\/m=3) with rfl|rfl|rfl|rfl<;>rfl
 ·rename_i e;simp only[adV,afO]at e;unfold aO Q6;rcases (by omega:k=0\/k=1\/k=2) with rfl|rfl|rfl;all_goals
   repeat' split
   all_goals first|rfl|omega
section
variable{ops:Array Oper}{rest:List Oper}{o:Oper}{a:Act}{w:acL}{g:Nat}{C:Nat->acK}{D:Array acK}
def oU (hb:aD w g 37 (aI C)):(loadVar 37 ⟨g,0,none⟩).run prog w=.ok (.agg (aI C)) w:=by
 have h:=run_loadVar_mid (P:=prog) w g 0 37 (aI C).toList _ (λj v hv=>by
  rw[abU,hb.cell j,<-Array.getElem?_toList];exact hv) underlying37 rfl ah
 rw[Array.toArray_toList]at h;exact h
def tF (x:Operand)(ho:o.op=.load 37 x)(hx:a.eval x=adj (some ⟨g,0,none⟩))(hb:aD w g 37 (aI C)):(execOp a.eval o).run prog w=.ok (.value (adA (aI C))) w:=by
 unfold execOp;simp only[ho,hx,Instr.loadAt,Instr.sureAddr,Sem.run_bind,Sem.run_pure,Result.andThen_ok,oU hb]
def rV (h:o.guard=none):afU o (yielded ops a.tmps)=true:=by simp[afU,h]
variable{Q:Exit->Act->acL->Prop}
def mq (hgd:o.guard=none)(x:Operand)(ho:o.op=.load 37 x)(hx:a.eval x=adj (some ⟨g,0,none⟩))(hb:aD w g 37 (aI C))
  (h:wpList prog ops Q rest (a.put o.dst (adA (aI C))) w):wpList prog ops Q (o::rest) a w:=by
 refine wpList_plain hgd λ_ hK=>?_
 unfold Oper.wp;rw[tF x ho hx hb];exact hK _ _ h
def Ez (hb:aD w g 37 D)(hD:D.size=46)(C:Nat->acK):w.there g 0 (aI C).size:=λj hj=>by
 rw[iD]at hj
 refine⟨?_,by rw[abU];exact hb.frozen j⟩
 rw[abU,hb.cell j]
 rw[Array.getElem?_eq_getElem aa]
 rfl
def Nv (h:One C):(aI C).all (·.oneCell')=true:=by
 rw[Array.all_eq_true_iff_forall_mem];intro v hv;rw[Nt,List.mem_toArray]at hv;obtain⟨j,_,rfl⟩:=aay.1 hv;exact h.one j
def Jl:(prog.info? 37).map (·.size)=some (aI C).size:=by rw[iD];kernel_rfl
def ko (hgd:o.guard=none)(x y:Operand)(ho:o.op=.store 37 x y)(hx:a.eval x=adj (some ⟨g,0,none⟩))(hy:a.eval y=adA (aI C))(hb:aD w g 37 D)(hD:D.size=46)(h1:One C)
  (h:wpList prog ops Q rest (a.put o.dst undef) (cZ w g C)):wpList prog ops Q (o::rest) a w :=
 wpList_store_mid hgd 37 x y ho g 0 (aI C) hx hy (Ez hb hD C) Jl (Nv h1) h
def kr {K:Act->acL->Prop}{E:Prop}(hgd:o.guard=none)(x y:Operand)(ho:o.op=.store 37 x y)(hx:a.eval x=adj (some ⟨g,0,none⟩))(hy:a.eval y=adA (aI C))(hb:aD w g 37 D)(hD:D.size=46)(h1:One C)
  (h:K (a.put o.dst undef) (cZ w g C)):if afU o (yielded ops a.tmps)=true then Oper.wp prog o a w K Q else E:=by
 rw[if_pos (rV hgd)];exact wp_store_mid 37 x y ho g 0 (aI C) hx hy (Ez hb hD C) Jl (Nv h1) h
def tH {ty:acO}{aF:Nat}{cs:Array acK}(hgd:o.guard=none)(x y:Operand)(ho:o.op=.store ty x y)(hx:a.eval x=adj (some ⟨g,aF,none⟩))(hy:a.eval y=adA cs)(hb:aD w g 37 (aI C))(hoff:aF+cs.size<=46)(hs:(prog.info? ty).map (·.size)=some cs.size)(h1:cs.all (·.oneCell')=true)
  (h:∀W',aD W' g 37 (aI (Wl C aF cs.toList))->aP (λn=>n=g) w W'->wpList prog ops Q rest (a.put o.dst undef) W'):wpList prog ops Q (o::rest) a w:=by
 refine wpList_store_mid hgd ty x y ho g aF cs hx hy (λj hj=>⟨?_,hb.frozen _⟩) hs h1 (h _ (XX hb aF cs.toList) (po.l6 g _ _ _));rw[hb.cell,oQ _ aa];rfl
def Lr {S:acL->Prop}(hgd:o.guard=none)(x:Operand)(ho:o.op=.load 37 x)(hx:a.eval x=adj (some ⟨g,0,none⟩))(hS:∀w,S w->aD w g 37 (aI C)):YieldsIf prog ops S o (adA (aI C)) a :=
 ack ⟨rV hgd,λw h=>tF x ho hx (hS w h)⟩
end
section
variable{ops:Array Oper}{S:acL->Prop}{Q:Exit->Act->acL->Prop}{fuel:Nat}{listed:Array Bool}{a:Act}{w:acL}{d:Option Tmp}{op:Op}{ty:acO}{ps:String}{af:Array Edge}{gd:Option (Nat×Bool)}{d2:Option Tmp}{op2:Op}{ty2:acO}{ps2:String}{af2:Array Edge}{gd2:Option (Nat×Bool)}
abbrev Ry (ops:Array Oper)(S:acL->Prop)(Q:Exit->Act->acL->Prop)(fuel:Nat)(listed:Array Bool)(a:Act)(w:acL)(i:Nat)(o:Oper):Prop :=
 ∀K':Act->acL->Prop,Shut (∀a w,S w->(S w->wpAnyH prog .any ops Q S fuel (listed.setIfInBounds i true) a w)->K' a w)->if afU o (yielded ops a.tmps)=true then Oper.wp prog o a w K' Q else K' (a.put o.dst undef) w
def rW (i:Nat)(h:Ry ops S Q fuel listed a w i ⟨d,op,ty,ps,af,gd⟩)(hi:ops[i]?=some ⟨d,op,ty,ps,af,gd⟩:=by rfl)(hr:Region.ready .any ops listed=[i]:=by kernel_rfl):wpAnyH prog .any ops Q S (fuel+1) listed a w :=
 wpAnyH_ready hr ai (AllReadyH.cons hi h AllReadyH.nil)
def rd2 (i j:Nat)(h:Ry ops S Q fuel listed a w i ⟨d,op,ty,ps,af,gd⟩)(h2:Ry ops S Q fuel listed a w j ⟨d2,op2,ty2,ps2,af2,gd2⟩)(hi:ops[i]?=some ⟨d,op,ty,ps,af,gd⟩:=by rfl)(hj:ops[j]?=some ⟨d2,op2,ty2,ps2,af2,gd2⟩:=by rfl)(hr:Region.ready .any ops listed=[i,j]:=by kernel_rfl):wpAnyH prog .any ops Q S (fuel+1) listed a w :=
 wpAnyH_ready hr ai (AllReadyH.cons hi h (AllReadyH.cons hj h2 AllReadyH.nil))
def tkr (i:Nat)(x:Operand)(hb:∀w,S w->aD w g 37 (aI C))(h:wpAnyH prog .any ops Q S fuel (listed.setIfInBounds i true) (a.put d (adA (aI C))) w)
  (hi:ops[i]?=some ⟨d,op,ty,ps,af,gd⟩:=by rfl) (hgd:gd=none:=by rfl) (ho:op=.load 37 x:=by rfl) (hx:a.eval x=adj (some ⟨g,0,none⟩):=by rfl) (hs:Region.noSelect ops=true:=by kernel_rfl) (hf:Region.free .any ops listed i=true:=by kernel_rfl) (hr:(Region.ready .any ops listed).contains i=true:=by kernel_rfl)
  (hQ:∀c a w,Q (.panic c) (a.put d (adA (aI C))) w->Q (.panic c) a w:=by exact λ_ _ _ h=>h) (hS:S w:=by assumption):wpAnyH prog .any ops Q S (fuel+1) listed a w :=
 wpAnyH_take hi hs hf hr hQ (Lr hgd x ho hx hb) hS h
end
def tk {d:Option Tmp}{op:Op}{ty:acO}{ps:String}{af:Array Edge}{gd:Option (Nat×Bool)}{ops:Array Oper}{S:acL->Prop}{Q:Exit->Act->acL->Prop}(i:Nat){v:acK}{fuel:Nat}{listed:Array Bool}{a:Act}(h:wpAnyH prog .any ops Q S fuel (listed.setIfInBounds i true) (a.put d v) w)
  (hi:ops[i]?=some ⟨d,op,ty,ps,af,gd⟩:=by rfl) (hs:Region.noSelect ops=true:=by kernel_rfl) (hf:Region.free .any ops listed i=true:=by kernel_rfl) (hr:(Region.ready .any ops listed).contains i=true:=by kernel_rfl)
  (hQ:∀c a w,Q (.panic c) (a.put d v) w->Q (.panic c) a w:=by exact λ_ _ _ h=>h) (hw:afU ⟨d,op,ty,ps,af,gd⟩ (yielded ops a.tmps)=true:=by rfl)
  (hy:∀w,S w->(execOp a.eval ⟨d,op,ty,ps,af,gd⟩).run prog w=.ok (.value v) w:=by intro w hSw;(try dsimp only at hSw);go_simp;(try with_reducible rfl)) (hS:S w:=by assumption):wpAnyH prog .any ops Q S (fuel+1) listed a w :=
 wpAnyH_take hi hs hf hr hQ (ack ⟨hw,hy⟩) hS h
abbrev PS:Array acK:=#[vi 0,vi 0,vi 0,vi 0,vi 0,vi 0,vi 0,vi 0,vi 0,vi 0,vi 0]
def kH {w':acL}{b:Bool}(hb:aD w' g 37 (aI C))(tmps:Array acK)(h2:tmps[12]?=some (adj (some ⟨g,0,none⟩)))(h3:tmps[13]?=some (.bool b)) :
  (results Tryz.f41 tmps).run prog w'=.ok (adg #[adA (aI C),.bool b]) w':=by
 have hl:=oU hb;simp only[results,results41];simp[h2,h3,hl,asAddr,Sem.run_bind]
def jQ:Nat->acK:=λj=>if j=0 then adj none else if j<34 then vi 0 else if j=36\/j=37\/j=40\/j=41\/j=44\/j=45 then aco none 0 0 else vi 0
def nK {t:acO}{v0 v1 v2 v3 v4 v5 v6 v7 v8 v9 v10:acK}(h:aD W x t #[v0,v1,v2,v3,v4,v5,v6,v7,v8,v9,v10]) :
  W.cell? ⟨x,0,none⟩=some v0/\W.cell? ⟨x,1,none⟩=some v1/\W.cell? ⟨x,2,none⟩=some v2/\W.cell? ⟨x,3,none⟩=some v3/\W.cell? ⟨x,4,none⟩=some v4/\W.cell? ⟨x,5,none⟩=some v5/\W.cell? ⟨x,6,none⟩=some v6/\W.cell? ⟨x,7,none⟩=some v7/\W.cell? ⟨x,8,none⟩=some v8/\W.cell? ⟨x,9,none⟩=some v9/\W.cell? ⟨x,10,none⟩=some v10 :=
 ⟨h.cell 0,h.cell 1,h.cell 2,h.cell 3,h.cell 4,h.cell 5,h.cell 6,h.cell 7,h.cell 8,h.cell 9,h.cell 10⟩
def UU (w:acL)(a b c d:Array acK)(ta tb tc td:acO):∃W,W=(((w.alloc (ach a ta)).alloc (ach b tb)).alloc (ach c tc)).alloc (ach d td)/\acN w.heap.size w W/\aD W w.heap.size ta a/\aD W (w.heap.size+1) tb b/\aD W (w.heap.size+1+1) tc c/\aD W (w.heap.size+1+1+1) td d:=by
 refine⟨_,rfl,(((ax.alloc ai _).alloc (by simp;omega) _).alloc (by simp;omega) _),(((aD.new w ta a).alloc _).alloc _).alloc _,?_,?_,?_⟩;have h:=((aD.new (w.alloc (ach a ta)) tb b).alloc (ach c tc)).alloc (ach d td);rwa[size_alloc]at h;have h:=(aD.new ((w.alloc (ach a ta)).alloc (ach b tb)) tc c).alloc (ach d td);rwa[size_alloc,size_alloc]at h;have h:=aD.new (((w.alloc (ach a ta)).alloc (ach b tb)).alloc (ach c tc)) td d;rwa[size_alloc,size_alloc,size_alloc]at h
def Ls (C:Nat->acK)(hC:One C)(k:Nat)(R:RF)(er:Int)(he:er≠0):ac4 prog 41 #[adA (aI C),vi k,adA PS,R.v,vi er,vi er] w λe w'=>e=ab4 (adg #[adA (aI C),.bool true])/\acN w.heap.size w w':=by
 obtain⟨s,ap,N,cp,ab,cb⟩:=R;have n1:(er != er)=false:=ai;have n2:(er != 0)=true:=by simpa using he
 have n3:(er==er)=true:=ai;have he6:∀W,(Op.equalIn 9999 27 (adA #[vi 0,vi 0,vi 0,vi 0,vi 0,vi 0]) (adA #[vi 0,vi 0,vi 0,vi 0,vi 0,vi 0])).run prog W=.ok true W:=λW=>ah
 go_in;go_upto_region 2 with fail;obtain⟨W,hW,hB,hx,hi,hd,hr⟩:=UU w (aI C) PS #[vi 64,vi s,aco ap N cp,aco ab N cb] (aI jQ) 37 29 34 37;change Code.wp _ _ _ _ ((((w.alloc (ach (aI C) 37)).alloc (ach PS 29)).alloc (ach #[vi 64,vi s,aco ap N cp,aco ab N cb] 34)).alloc (ach (aI jQ) 37));rw[<-hW];have HB:=az hB;obtain⟨x,AV⟩:∃x,x=w.heap.size:=⟨_,rfl⟩;have zx:Hid (x+1+1+1≠x/\x+1+1+1≠x+1/\x+1+1+1≠x+1+1/\w.heap.size<=x+1+1+1/\w.heap.size<=x/\x+1≠x/\x+1+1≠x):=az aa;rw[<-AV]at hx hi hd hr ⊢;generalize x+1+1+1=r at*;generalize x+1+1=d at*;generalize x+1=ii at*
 clear hW AV hB;have HX:=az hx;have HI:=az hi;have HR:=az hr;clear hx hi hd hr;have hci:∀W,aD W ii 29 PS->W.cell? ⟨ii,0,none⟩=some (vi 0)/\W.cell? ⟨ii,1,none⟩=some (vi 0)/\W.cell? ⟨ii,2,none⟩=some (vi 0)/\W.cell? ⟨ii,3,none⟩=some (vi 0)/\W.cell? ⟨ii,4,none⟩=some (vi 0)/\W.cell? ⟨ii,5,none⟩=some (vi 0)/\W.cell? ⟨ii,6,none⟩=some (vi 0)/\W.cell? ⟨ii,7,none⟩=some (vi 0)/\W.cell? ⟨ii,8,none⟩=some (vi 0)/\W.cell? ⟨ii,9,none⟩=some (vi 0)/\W.cell? ⟨ii,10,none⟩=some (vi 0):=λW h=>nK h
 have HS2:Hid (aD (cZ W.drew r C) x 37 (aI C)/\aD (cZ W.drew r C) ii 29 PS):=az ⟨HX.o.drew.aJ (dh _ _ _) (λe=>zx.o.1 e.symm),HI.o.drew.aJ (dh _ _ _) (λe=>zx.o.2.1 e.symm)⟩;refine wp_region_held_drew (S:=λW=>aD W x 37 (aI C)/\aD W ii 29 PS) ah (⟨HX.o.drew,HI.o.drew⟩) (λhHeld=>?_);change wpAnyH _ _ _ _ _ 11 #[false,false,false,false,false,false,false,false,false,false,false] _ W.drew;refine tkr 0 (.tmp 6) (λ_ h=>h.1) ?_;simp only[ay,afD];refine tk 1 ?_;simp only[ay,afD]
 refine tk 2 ?_;simp only[ay,afD];refine tk 3 ?_;simp only[ay,afD];refine tk 4 ?_;simp only[ay,afD];refine tk 5 ?_;simp only[ay,afD];refine tk 6 ?_;simp only[ay,afD];refine tk 7 ?_;simp only[ay,afD]
 refine tk 8 ?_;simp only[ay,afD];refine rW 9 λK hK=>?_
 refine kr rfl (.tmp 12) (.tmp 21) rfl rfl rfl HR.o.drew rfl hC ?_;refine hK.out _ _ (HS2.o) (λ_=>?_);clear hK K;simp only[ay,afD];have HW:Hid (aD (cZ W.drew r C) r 37 (aI C)/\acN w.heap.size w (cZ W.drew r C)):=az ⟨gy HR.o.drew rfl C,HB.o.drew.trans ((dh _ _ _).dX (λn _ e=>by rw[e];exact zx.o.2.2.2.1) HB.o.size)⟩;refine rW 10 λK hK=>?_
 go_simp;refine hK.out _ _ (HS2.o) (λ_=>?_);clear hK K;simp only[ay,afD];refine wpAnyH_done ah ?_ _;clear hHeld;generalize cZ W.drew r C=we at*;go_wp2;exact ac5 (kH HW.o.1 _ rfl rfl) rfl ⟨rfl,HW.o.2⟩
def Lt (q:Nat)(is:Nat->PI.bF)(D:Nat->RF)(k:Nat)(hk:k<3)(s d0 d1 d2 d3 d4 d5 sg db:Nat)(ap:Option acM)(N cp:Nat)(ab:Option acM)(cb:Nat):ac4 prog 41 #[adA (aI (aO q is D)),vi k,adA #[vi 1,vi k,vi s,vi d0,vi d1,vi d2,vi d3,vi d4,vi d5,vi sg,vi db],adA #[vi 64,vi s,aco ap N cp,aco ab N cb],vi 0,vi 0] w λe w' =>
  e=ab4 (adg #[adA (aI (aO q (bW is k ⟨1,k,s,[d0,d1,d2,d3,d4,d5],sg,db⟩) (Q6 D k ⟨s,ap,N,cp,ab,cb⟩))),.bool true])/\acN w.heap.size w w':=by
 have HK:=az hk;have n1:(k:Int)<3:=aa;have e1:((s:Int)==(s:Int))=true:=ai;have e2:((k:Int)==(k:Int))=true:=ai;obtain⟨C,hC⟩:∃C,C=aO q is D:=⟨_,rfl⟩;have HC:=az hC;rw[<-hC];clear hC hk;have h1C:One (aO q (bW is k ⟨1,k,s,[d0,d1,d2,d3,d4,d5],sg,db⟩) (Q6 D k ⟨s,ap,N,cp,ab,cb⟩)):=fu _ _ _;go_in;go_upto_region 3 with fail;obtain⟨W,hW,hB,hx,hi,hd,hr⟩:=UU w (aI C) #[vi 1,vi k,vi s,vi d0,vi d1,vi d2,vi d3,vi d4,vi d5,vi sg,vi db] #[vi 64,vi s,aco ap N cp,aco ab N cb] (aI jQ) 37 29 34 37;change Code.wp _ _ _ _ ((((w.alloc (ach (aI C) 37)).alloc (ach #[vi 1,vi k,vi s,vi d0,vi d1,vi d2,vi d3,vi d4,vi d5,vi sg,vi db] 29)).alloc (ach #[vi 64,vi s,aco ap N cp,aco ab N cb] 34)).alloc (ach (aI jQ) 37))
 rw[<-hW];have HB:=az hB;obtain⟨x,AV⟩:∃x,x=w.heap.size:=⟨_,rfl⟩;have zx:Hid (x+1+1+1≠x/\x+1+1+1≠x+1/\x+1+1+1≠x+1+1/\w.heap.size<=x+1+1+1/\w.heap.size<=x/\x+1≠x/\x+1+1≠x):=az aa;rw[<-AV]at hx hi hd hr ⊢;generalize x+1+1+1=r at*;generalize x+1+1=d at*;generalize x+1=ii at*;clear hW AV hB;have HX:=az hx;have HI:=az hi;have HD:=az hd;have HR:=az hr;clear hx hi hd hr;obtain⟨i0,i1,i2,i3,i4,i5,i6,i7,i8,i9,i10⟩:=nK HI.o;go_upto_region 4 with (refine tH (cs:=#[vi 1,vi k,vi s,vi d0,vi d1,vi d2,vi d3,vi d4,vi d5,vi sg,vi db]) rfl (.tmp 33) (.tmp 31) rfl rfl rfl HX.o (by have:=HK.o;simp;omega) ah ah ?_;intro w3 hx3 hq;have aiU:=az hx3;have HI3:=az (HI.o.aJ hq zx.o.2.2.2.2.2.1);have HD3:=az (HD.o.aJ hq zx.o.2.2.2.2.2.2);have HR3:=az (HR.o.aJ hq zx.o.1);have HB3:=az (HB.o.trans (hq.dX (λn _ e=>by rw[e];exact zx.o.2.2.2.2.1) HB.o.size));clear hx3 hq)
 have qF:Hid (aD w3 x 37 (aI (aO q (bW is k ⟨1,k,s,[d0,d1,d2,d3,d4,d5],sg,db⟩) D))):=az (by
  have h:=aiU.o
  rw[HC.o]at h
  rw[<-abv q is D HK.o 1 k s d0 d1 d2 d3 d4 d5 sg db]
  exact h)
 clear i0 i1 i2 i3 i4 i5 i6 i7 i8 i9 i10 HX HI HD HR HB;obtain⟨⟨c0,c1,c2,c3⟩,_⟩:=lG HD3.o;go_upto_region 5 with (refine tH (cs:=#[vi 64,vi s,aco ap N cp,aco ab N cb]) rfl (.tmp 37) (.tmp 35) rfl rfl rfl qF.o (by have:=HK.o;simp;omega) ah ah ?_;intro W hx3 hq;have HXa:=az hx3;have HI:=az (HI3.o.aJ hq zx.o.2.2.2.2.2.1);have HD:=az (HD3.o.aJ hq zx.o.2.2.2.2.2.2);have HR:=az (HR3.o.aJ hq zx.o.1);have HB:=az (HB3.o.trans (hq.dX (λn _ e=>by rw[e];exact zx.o.2.2.2.2.1) HB3.o.size));clear hx3 hq);have HX:Hid (aD W x 37 (aI (aO q (bW is k ⟨1,k,s,[d0,d1,d2,d3,d4,d5],sg,db⟩) (Q6 D k ⟨s,ap,N,cp,ab,cb⟩)))):=az (by
  rw[<-aeC q _ D HK.o s ap N cp ab cb]
  exact HXa.o)
 clear c0 c1 c2 c3 qF HI3 HD3 HR3 HB3;obtain⟨E,hE⟩:∃E,aO q (bW is k ⟨1,k,s,[d0,d1,d2,d3,d4,d5],sg,db⟩) (Q6 D k ⟨s,ap,N,cp,ab,cb⟩)=E:=⟨_,rfl⟩;rw[hE]at h1C HX;have aiV:=az h1C;have HE:=az hE;clear h1C hE;have hci:∀W,aD W ii 29 #[vi 1,vi k,vi s,vi d0,vi d1,vi d2,vi d3,vi d4,vi d5,vi sg,vi db]->W.cell? ⟨ii,0,none⟩=some (vi 1)/\W.cell? ⟨ii,1,none⟩=some (vi k)/\W.cell? ⟨ii,2,none⟩=some (vi s):=λW h=>⟨h.cell 0,h.cell 1,h.cell 2⟩;have hcd:∀W,aD W d 34 #[vi 64,vi s,aco ap N cp,aco ab N cb]->W.cell? ⟨d,1,none⟩=some (vi s):=λW h=>h.cell 1
 have HS2:Hid (aD (cZ W.drew r E) x 37 (aI E)/\aD (cZ W.drew r E) ii 29 #[vi 1,vi k,vi s,vi d0,vi d1,vi d2,vi d3,vi d4,vi d5,vi sg,vi db]/\aD (cZ W.drew r E) d 34 #[vi 64,vi s,aco ap N cp,aco ab N cb]):=az ⟨HX.o.drew.aJ (dh _ _ _) (λe=>zx.o.1 e.symm),HI.o.drew.aJ (dh _ _ _) (λe=>zx.o.2.1 e.symm),HD.o.drew.aJ (dh _ _ _) (λe=>zx.o.2.2.1 e.symm)⟩;refine wp_region_held_drew (S:=λW=>aD W x 37 (aI E)/\aD W ii 29 #[vi 1,vi k,vi s,vi d0,vi d1,vi d2,vi d3,vi d4,vi d5,vi sg,vi db]/\aD W d 34 #[vi 64,vi s,aco ap N cp,aco ab N cb]) ah (⟨HX.o.drew,HI.o.drew,HD.o.drew⟩) (λhHeld=>?_)
 change wpAnyH _ _ _ _ _ 19 #[false,false,false,false,false,false,false,false,false,false,false,false,false,false,false,false,false,false,false] _ W.drew;refine tkr 0 (.tmp 6) (λ_ h=>h.1) ?_;simp only[ay,afD];refine tk 1 ?_;simp only[ay,afD];refine tk 2 ?_;simp only[ay,afD];refine tk 3 ?_;simp only[ay,afD];refine tk 4 ?_;simp only[ay,afD]
 refine tk 5 ?_;simp only[ay,afD];refine tk 6 ?_;simp only[ay,afD];refine tk 7 ?_;simp only[ay,afD];refine tk 8 ?_;simp only[ay,afD];refine tk 9 ?_;simp only[ay,afD];refine tk 10 ?_;simp only[ay,afD]
 refine tk 11 ?_;simp only[ay,afD];refine tk 12 ?_;simp only[ay,afD];refine tk 13 ?_;simp only[ay,afD];refine tk 14 ?_;simp only[ay,afD];refine tk 15 ?_;simp only[ay,afD];refine tk 16 ?_;simp only[ay,afD]
 refine rW 17 λK hK=>?_
 refine kr rfl (.tmp 12) (.tmp 38) rfl rfl rfl HR.o.drew rfl aiV.o ?_;refine hK.out _ _ (HS2.o) (λ_=>?_);clear hK K;simp only[ay,afD];have HW:Hid (aD (cZ W.drew r E) r 37 (aI E)/\acN w.heap.size w (cZ W.drew r E)):=az ⟨gy HR.o.drew rfl E,HB.o.drew.trans ((dh _ _ _).dX (λn _ e=>by rw[e];exact zx.o.2.2.2.1) HB.o.size)⟩;refine rW 18 λK hK=>?_
 go_simp;refine hK.out _ _ (HS2.o) (λ_=>?_);clear hK K;simp only[ay,afD];refine wpAnyH_done ah ?_ _;clear hHeld;generalize cZ W.drew r E=we at*;go_wp2;exact ac5 (kH HW.o.1 _ rfl rfl) rfl ⟨by rw[HE.o],HW.o.2⟩
end lw
namespace FP
open mgr
structure Hd where
 sl:Bool
 aB:Int
 at_:cB
deriving DecidableEq
instance:Inhabited Hd:=⟨⟨false,0,default⟩⟩
def hin (sl:Bool)(m:Mp cB)(k:Int):List Hd:=(m.filter λx=>x.2.block==k).map λx=>⟨sl,x.1,x.2⟩
def ins (h:Hd):List Hd->List Hd
 |[]=>[h]
 |x::l=>if h.at_.aB<=x.at_.aB then h::x::l else x::ins h l
def EA (l:List Hd):List Hd:=l.foldr ins []
def Ft.raw (f:Ft)(k:Int):List Hd:=hin true f.bD k++hin false f.now k
def Ft.needed (f:Ft)(k:Int):List Hd:=EA (f.raw k)
def Ft.dE (f:Ft)(sl:Bool)(n:Int)(p:cB):Ft:=if sl then {f with bD:=MP.put f.bD n p} else {f with now:=MP.put f.now n p}
def Ft.dC (f:Ft)(n:Int):Ft:=if 0<n/\MP.has f.gone n=true then {f with gone:=MP.put f.gone n ((MP.get f.bD n).getD default)} else f
def Ft.copied (f:Ft)(b:List Nat):Option (cB×Ft) :=
 let q:=Mg.program b f.c f.g
 if q.1.2.2≠0 then none
 else
  let s:=NP.bQ q.2.1 q.1.1 q.1.2.1
  if s.1.2≠0\/s.1.1≠b then none
  else some (⟨q.1.1,q.1.2.1⟩,{f with c:=s.2,g:=q.2.2})
def Ft.mv1 (k:Int)(f:Ft)(h:Hd):Option Ft :=
 let r:=NP.bQ f.c k h.at_.aB
 if r.1.2≠0 then none
 else match ({f with c:=r.2}:Ft).copied r.1.1 with
  |none=>none
  |some (p,f1) =>
   let f2:=(f1.dE h.sl h.aB p).dC h.aB
   some {f2 with g:=(f2.g.drop k).2}
def mvTo (k:Int):List Hd->Ft->Option Ft
 |[],f=>some f
 |h::l,f=>match f.mv1 k h with
  |none=>none
  |some f1=>mvTo k l f1
def Ft.move (f:Ft)(k:Int):Option Ft:=mvTo k (f.needed k) f
def Ft.Gm (f:Ft)(k:Int):Option Ft :=
 let e:=f.g.erase f.c k
 if e.1=0 then some {f with c:=e.2.1,g:=e.2.2,later:=f.later.set k.toNat false} else none
def Ft.next (f:Ft):Int×Int:=AU f.g.jD f.c.P
def Ft.act (f:Ft):Option (Int×Ft) :=
 if f.next.1=0 then some (40,f)
 else match f.move f.next.2 with
  |none=>none
  |some f1=>match f1.Gm f.next.2 with
   |none=>none
   |some f2=>some (0,f2)
def ensureTo:Nat->Ft->Option (Int×Ft)
 |0,f=>some (40,f)
 |n+1,f=>if enough f.g f.c.P then some (0,f) else match f.act with
  |none=>none
  |some (e,f1)=>if e=0 then ensureTo n f1 else some (e,f1)
def Ft.Cf (f:Ft):Option (Int×Ft):=ensureTo (8*f.c.B*f.c.P) f
def Ft.xZ (f:Ft)(aL:Int)(aB:Nat)(b:List Nat):Option ((cB×Int)×Ft) :=
 if f.later.all (λx=> !x) then
  match f.Cf with
  |none=>none
  |some (e,f1)=>if e≠0 then some ((⟨0,0⟩,e),f1) else
   match f1.put aL aB b with
   |none=>none
   |some (p,f2)=>some ((p,0),f2)
 else none
def Ft.Cg (f:Ft)(aB:Nat)(b:List Nat):Option (Int×Ft) :=
 if f.logical aB≠0 then some (f.logical aB,f)
 else if b.length≠f.c.S then some (1,f)
 else if f.shut then some (41,f)
 else if MP.has f.now aB=false/\f.cap<=f.used then some (40,f)
 else match f.xZ 1 aB b with
  |none=>none
  |some ((p,e),f1)=>if e≠0 then some (e,f1) else
   some (0,{ft.older f1 aB with now:=MP.put f1.now aB p,gone:=MP.del f1.gone aB})
def Ft.aeD (f1:Ft)(p:cB)(text:List Nat):Ft :=
 let s1:=(MP.put f1.now 0 p).foldl Sl.take ⟨f1.g,f1.bD,f1.gone⟩
 let s2:=s1.gone.foldl Sl.strike s1
 {f1 with g:=s2.g,bD:=s2.bD,now:=[],gone:=[],aM:=f1.aM+1,text:=text}
def Ft.agt (f:Ft)(text:List Nat):Option (Int×Ft) :=
 if f.ready≠0 then some (f.ready,f)
 else if (text.length:Int)≠f.c.S-8 then some (1,f)
 else if f.shut then some (41,f)
 else match f.xZ 2 0 (jJ f.aC f.bad text) with
  |none=>none
  |some ((p,e),f1)=>if e≠0 then some (e,f1) else some (0,f1.aeD p text)
def X5 {h x:Hd}{l:List Hd}:x∈ins h l↔x=h\/x∈l:=by
 induction l with
 |nil=>simp[ins]
 |cons y l ih =>
  unfold ins;split;simp;simp only[aaI,ih];constructor;rintro (e|e|e);exact acm (ack e);exact ack e;exact acm (acm e);rintro (e|e|e);exact acm (ack e);exact ack e;exact acm (acm e)
def UW (h:Hd)(l:List Hd):(ins h l).Perm (h::l):=by
 induction l with
 |nil=>exact aiF _
 |cons y l ih =>
  unfold ins;split;exact aiF _
  ·exact(ih.cons y).trans (List.Perm.swap _ _ _)
def gZ (l:List Hd):(EA l).Perm l:=by
 induction l with
 |nil=>exact aiF _
 |cons h l ih=>exact(UW h _).trans (ih.cons h)
def Ch (h:Hd):∀l:List Hd,l.Pairwise (λx y=>x.at_.aB<=y.at_.aB)->(ins h l).Pairwise (λx y=>x.at_.aB<=y.at_.aB)
 |[],_=>List.pairwise_singleton _ _
 |y::l,hp=>by
  obtain⟨h1,h2⟩:=aaL.1 hp
  unfold ins
  split
  rename_i hle
  exact aaL.2 ⟨λz hz=>by
   rcases aaI.1 hz with rfl|hz
   exact hle
   exact Int.le_trans hle (h1 z hz),hp⟩
  rename_i hle
  exact aaL.2 ⟨λz hz=>by
   rcases X5.1 hz with rfl|hz
   omega
   exact h1 z hz,Ch h l h2⟩
def Gn (l:List Hd):(EA l).Pairwise (λx y=>x.at_.aB<=y.at_.aB):=by
 induction l with
 |nil=>exact List.Pairwise.nil
 |cons h l ih=>exact Ch h _ ih
def tJ:∀{a b:List Hd},a.Perm b->a.Pairwise (λx y=>x.at_.aB<y.at_.aB)->b.Pairwise (λx y=>x.at_.aB<y.at_.aB)->a=b
 |[],b,h,_,_=>(List.nil_perm.1 h).symm
 |x::a,[],h,_,_=>by have:=h.length_eq;simp at this
 |x::a,y::b,h,h1,h2=>by
  obtain⟨p1,q1⟩:=aaL.1 h1
  obtain⟨p2,q2⟩:=aaL.1 h2
  have e:x=y:=by
   rcases aaI.1 (h.subset (List.mem_cons_self (a:=x) (l:=a))) with e|hx;exact e;rcases aaI.1 (h.symm.subset (List.mem_cons_self (a:=y) (l:=b))) with e|hy;exact e.symm;have:=p1 y hy;have:=p2 x hx;omega
  subst e;rw[tJ (List.Perm.cons_inv h) q1 q2]
def EB {l:List Hd}(h:l.Pairwise (λx y=>x.at_.aB≠y.at_.aB)):(EA l).Pairwise (λx y=>x.at_.aB<y.at_.aB):=by
 have h1:=Gn l;have h2:(EA l).Pairwise (λx y=>x.at_.aB≠y.at_.aB):=(gZ l).symm.pairwise h (λ{x y} e=>Ne.symm e);exact List.Pairwise.imp₂ (λx y a b=>aa) h1 h2
open ft
structure CG (c:NP.bX)(g:Mg):Prop where
 good:gW c
 lL:g.ok c
 fs:c.fs=[]
 up:c.down=false
 whole:∀k,k<c.B->(c.blk k).bad=false/\(c.blk k).broken=false
 J2:∀k,k<c.B->(g.blk k).s≠4
 n1:∀k,k<c.B->(g.blk k).s=1->((c.blk k).next:Int)=(g.blk k).n
 n0:∀k,k<c.B->(g.blk k).s=0->(c.blk k).next=0
variable{P:gcs.aD->Bool}{Q:gcs.aD->gcs.aD->Bool}
def yY {bs:List gcs.aD}:∀{k:Nat},gcs.bestTo P Q bs k<0->∀i,i<k->P (bs.getD i default)=false
 |0,_,i,h=>aa
 |k+1,h,i,hi=>by
  unfold gcs.bestTo at h
  split at h
  omega
  rename_i hc
  by_cases e:i=k
  subst e
  rw[decide_eq_true h,Bool.true_or,Bool.and_true]at hc
  simpa using hc
  exact yY h i aa
def PT {bs:List gcs.aD}(h:gcs.iP P Q bs<0):∀i,i<bs.length->P (bs.getD i default)=false:=yY h
def uW {s:Int}{l:List gcs.aD}(h:0<aN s l):∃i,i<l.length/\(l.getD i default).s=s:=by
 unfold aN at h;obtain⟨x,hx⟩:=List.exists_mem_of_length_pos h;obtain⟨h1,h2⟩:=afi.1 hx;obtain⟨i,hi,e⟩:=List.getElem_of_mem h1;refine⟨i,hi,?_⟩;rw[aah,aaj hi,Option.getD_some,e];simpa using h2
section
variable{c:NP.bX}{g:Mg}{b:List Nat}
def CG.len (h:CG c g):g.l.length=c.B:=h.lL.len
def CG.bI (h:CG c g):8<=c.B/\c.B<=128/\4<=c.P/\c.P<=32/\64<=c.S:=sM h.good.ok
def iB (g:Mg){i:Nat}(hi:i<g.l.length)(x:gcs.aD)(j:Nat):(g.put i x).blk j=if i=j then x else g.blk j:=il _ _ _ _ hi
def Ci (g:Mg)(i:Nat)(x:gcs.aD):(g.put i x).l.length=g.l.length:=List.length_set ..
structure aby (c:NP.bX)(g:Mg)(i:Nat):Prop where
 lt:i<c.B
 at_:g.ready.at_=i
 s1:(g.ready.blk i).s=1
 cg:CG c g.ready
 aK:bT g.ready.jD c.P=bT g.jD c.P
 uh:∀j,j≠i->g.ready.blk j=g.blk j
 same:(g.ready=g)\/((g.blk i).s=0/\g.at_= -1/\g.ready=g.gU i)
 live:(g.ready.blk i).l=(g.blk i).l
 eF:(g.ready.blk i).r=(g.blk i).r
def CG.opened (h:CG c g)(hr:0<bT g.jD c.P):∃i,aby c g i:=by
 have hd:=h.bI;by_cases ha:g.at_= -1;have hr':0<(aN 0 g.l:Nat)*(c.P:Int):=by
  have e:bT g.jD c.P=(aN 0 g.l:Nat)*(c.P:Int)+(if g.at_= -1 then 0 else (c.P:Int)-(g.l.getD g.at_.toNat default).n):=rfl;rw[e,if_pos ha]at hr;omega
 have hc:0<aN 0 g.l:=by
  rcases Nat.eq_zero_or_pos (aN 0 g.l) with e|e;rw[e]at hr';simp at hr';exact e
 obtain⟨j,hj,hs⟩:=uW hc;have hf:0<=g.freeI:=by
  refine Int.not_lt.1 λhlt=>?_
  have:=PT hlt j hj;unfold freeB at this;rw[hs]at this;cases this
 have hfl:=g.freeI_lt;have hfs:=Mg.freeI_free hf;obtain⟨i,hi⟩:∃i:Nat,g.freeI=i:=⟨g.freeI.toNat,aa⟩;rw[hi,acW]at hfs;have hil:i<g.l.length:=aa;have hre:g.ready=g.gU i:=by
  unfold Mg.ready Mg.begun;rw[if_pos ha,if_neg aa,hi,acW]
 have hl:=h.len;have hb:∀j,(g.gU i).blk j=if i=j then ⟨1,0,(g.blk i).r,0⟩ else g.blk j:=λj=>iB g hil _ j
 have hl0:(g.blk i).l=0:=h.lL.none_ _ (dG hil) (by rw[hfs];decide) (by rw[hfs];decide);refine⟨i,aa,by rw[hre];rfl,by rw[hre,hb,if_pos rfl],?_,?_,λj hj=>by rw[hre,hb,if_neg (λe=>hj e.symm)],acm ⟨hfs,ha,hre⟩,by rw[hre,hb,if_pos rfl,hl0],by rw[hre,hb,if_pos rfl]⟩;rw[hre];refine⟨h.good,h.lL.gU hil aa ha,h.fs,h.up,h.whole,λk hk=>?_,λk hk=>?_,λk hk=>?_⟩;rw[hb];split;show (1:Int)≠4;decide;exact h.J2 k hk;rw[hb];split;rename_i e;subst e;intro _;rw[h.n0 i hk hfs];rfl;exact h.n1 k hk;rw[hb];split;intro e;cases e;exact h.n0 k hk;have e1:bT g.jD c.P=(aN 0 g.l:Nat)*(c.P:Int)+(if g.at_= -1 then 0 else (c.P:Int)-(g.l.getD g.at_.toNat default).n):=rfl
 have e2:bT (g.gU i).jD c.P=(aN 0 (g.l.set i ⟨1,0,(g.blk i).r,0⟩):Nat)*(c.P:Int)+(if (i:Int)= -1 then 0 else (c.P:Int)-((g.gU i).blk i).n):=rfl;have hcs:=count_set 0 g.l i ⟨1,0,(g.blk i).r,0⟩ hil;rw[if_pos hfs,if_neg (show ¬(1:Int)=0 by decide)]at hcs;rw[hre,e1,e2,if_pos ha,if_neg aa,hb,if_pos rfl];dsimp only;rw[show aN 0 g.l=aN 0 (g.l.set i ⟨1,0,(g.blk i).r,0⟩)+1 by omega];rw[Int.natCast_add,Int.add_mul];omega;rcases h.lL.QP with e|⟨i,e,hi,hs⟩;exact absurd e ha;have hre:g.ready=g:=by unfold Mg.ready;rw[if_neg ha]
 have hl:=h.len;exact⟨i,aa,by rw[hre];exact e,by rw[hre];exact hs,by rw[hre];exact h,by rw[hre],λ_ _=>by rw[hre],ack hre,by rw[hre],by rw[hre]⟩
structure gJ (c:NP.bX)(g:Mg)(b:List Nat)(i:Nat)(c':NP.bX)(g':Mg):Prop where
 lt:i<c.B
 nx:(c.blk i).next<c.P
 aW:c'=NP.ni (NP.stroke c) i b
 cg:CG c' g'
 aK:bT g'.jD c.P=bT g.jD c.P-1
 live:(g'.blk i).l=(g.blk i).l+1
 uh:∀j,j≠i->g'.blk j=g.blk j
 eF:(g'.blk i).r=(g.blk i).r
 st:(g.blk i).s=0\/(g.blk i).s=1
 st':(g'.blk i).s=1\/(g'.blk i).s=2
 same:g'.aC=g.aC/\g'.bad=g.bad/\g'.even=g.even
 QP:(g.blk i).s=0->g.at_= -1/\(i:Int)=g.freeI
 at2:(g.blk i).s=1->g.at_=i
def abz (h:CG c g){i:Nat}(hi:i<c.B){n:Int}(hn:(c.blk i).next<c.P)(hx:((c.blk i).next:Int)=n)(hl:b.length=c.full):NP.program c i n b=(0,NP.ni (NP.stroke c) i b):=by
 have ha:NP.asked c i n=0:=by
  unfold NP.asked;rw[h.up];simp only[Bool.false_eq_true,if_false];rw[if_pos aa]
 have hw:=h.whole i hi;have hf:NP.faultOf c.fs c.since=default:=by rw[h.fs];rfl
 have hk:(default:NP.Rh).aL=0:=rfl;unfold NP.program;dsimp only;rw[acW,if_pos ha,if_pos hl,hw.1,hw.2,hf,hk];subst hx;simp
def CG.program (h:CG c g)(hr:0<bT g.jD c.P)(hl:b.length=c.full)(hs:∀y∈b,y<256) :
  ∃(i:Nat) (c':NP.bX) (g':Mg),Mg.program b c g=(((i:Int),((c.blk i).next:Int),(0:Int)),c',g')/\gJ c g b i c' g':=by
 obtain⟨i,o⟩:=h.opened hr;have hd:=h.bI;have hx:=o.cg.n1 i o.lt o.s1;have hil:i<g.ready.l.length:=by rw[o.cg.len];exact o.lt
 obtain⟨ho1,ho2⟩:=o.cg.lL.open_ _ (dG hil) o.s1;have hn:(c.blk i).next<c.P:=by
  have h2:(g.ready.blk i).n<c.P:=ho2;omega
 have hp:NP.program c i (g.ready.blk i).n b=(0,NP.ni (NP.stroke c) i b):=abz o.cg o.lt hn hx hl;have hat:¬g.ready.at_= -1:=by rw[o.at_];omega
 have hrun:Mg.program b c g=(((i:Int),(g.ready.blk i).n,(0:Int)),NP.ni (NP.stroke c) i b,
   if (g.ready.blk i).n+1=c.P then (g.ready.put i {g.ready.blk i with n:=(g.ready.blk i).n+1,l:=(g.ready.blk i).l+1}).close i else g.ready.put i {g.ready.blk i with n:=(g.ready.blk i).n+1,l:=(g.ready.blk i).l+1}):=by
  unfold Mg.program;rw[h.up,if_neg ai,if_neg (by simp[hl]),nE];unfold Mg.mI;dsimp only;rw[if_neg hat,o.at_,acW,hp];simp
 have hok:(NP.ni (NP.stroke c) i b).ok:=NP.iJ (NP.ek h.good.ok) o.lt hn hl hs;have yZ:=kC (c:=c) (g:=g) hs;have hright:=nP hs h.good h.lL;have hsame:=vU b c g;rw[hrun]at yZ hright hsame;dsimp only at yZ hright hsame;have hB:(NP.ni (NP.stroke c) i b).B=c.B:=rfl;have hP:(NP.ni (NP.stroke c) i b).P=c.P:=rfl;have hcb:∀k,(NP.ni (NP.stroke c) i b).blk k=if i=k then {c.blk i with ps:=(c.blk i).ps.set (c.blk i).next b,next:=(c.blk i).next+1} else c.blk k:=λk=>by
  unfold NP.ni;dsimp only;exact NP.il (c:=NP.stroke c) (by have:=h.good.ok.blocks;show i<c.bs.length;have:=o.lt;omega)
 have hcl:dH {g.ready.blk i with n:=(g.ready.blk i).n+1,l:=(g.ready.blk i).l+1}={g.ready.blk i with s:=2,n:=(g.ready.blk i).n+1,l:=(g.ready.blk i).l+1}:=by
  unfold dH;dsimp only;have h1:=(o.cg.lL.QO _ (dG hil)).2.2.1;have h2:0<=(g.ready.blk i).l:=h1;rw[if_neg aa]
 have ZK:g.ready.even=g.even:=by
  rcases o.same with e|⟨_,_,e⟩;rw[e];rw[e];rfl
 have hcnt:∀z:gcs.aD,z.s≠0->aN 0 (g.ready.l.set i z)=aN 0 g.ready.l:=λz hz=>by
  have:=count_set 0 g.ready.l i z hil;have hs1:(g.ready.l.getD i default).s=1:=o.s1;rw[hs1,if_neg ag,if_neg hz]at this;omega
 have UX:bT g.ready.jD c.P=(aN 0 g.ready.l:Nat)*(c.P:Int)+((c.P:Int)-(g.ready.blk i).n):=by
  have e1:bT g.ready.jD c.P=(aN 0 g.ready.l:Nat)*(c.P:Int)+(if g.ready.at_= -1 then 0 else (c.P:Int)-(g.ready.l.getD g.ready.at_.toNat default).n):=rfl;rw[e1,if_neg hat,o.at_,acW]
 have aeE:(g.blk i).s=0->g.at_= -1/\(i:Int)=g.freeI:=λe=>by
  rcases o.same with e2|⟨_,e3,e2⟩;have:=o.s1;rw[e2,e]at this;cases this;refine⟨e3,?_⟩;have h1:=o.at_;unfold Mg.ready at h1;rw[if_pos e3]at h1;unfold Mg.begun at h1;split at h1;omega;have h2:(g.gU g.freeI.toNat).at_=(g.freeI.toNat:Int):=rfl;rw[h2]at h1;omega
 have UY:(g.blk i).s=1->g.at_=i:=λe=>by
  rcases o.same with e2|⟨e3,_,_⟩;have:=o.at_;rwa[e2]at this;rw[e3]at e;cases e
 have hst:(g.blk i).s=0\/(g.blk i).s=1:=by
  rcases o.same with e|⟨e,_,_⟩;right;have:=o.s1;rwa[e]at this;exact ack e
 by_cases hend:(g.ready.blk i).n+1=c.P;rw[if_pos hend]at hrun hright hsame;have hg':∀j,((g.ready.put i {g.ready.blk i with n:=(g.ready.blk i).n+1,l:=(g.ready.blk i).l+1}).close i).blk j=if i=j then {g.ready.blk i with s:=2,n:=(g.ready.blk i).n+1,l:=(g.ready.blk i).l+1} else g.ready.blk j:=λj=>by
  have aiW:i<(g.ready.put i {g.ready.blk i with n:=(g.ready.blk i).n+1,l:=(g.ready.blk i).l+1}).l.length:=by rw[Ci];exact hil
  have e1:((g.ready.put i {g.ready.blk i with n:=(g.ready.blk i).n+1,l:=(g.ready.blk i).l+1}).close i).blk j=((g.ready.put i {g.ready.blk i with n:=(g.ready.blk i).n+1,l:=(g.ready.blk i).l+1}).put i (dH ((g.ready.put i {g.ready.blk i with n:=(g.ready.blk i).n+1,l:=(g.ready.blk i).l+1}).blk i))).blk j:=rfl;rw[e1,iB _ aiW,iB _ hil,iB _ hil,if_pos rfl,hcl];split<;>rfl
 refine⟨i,_,_,by rw[hrun,hx],o.lt,hn,rfl,⟨yZ.good h.good,hright,h.fs,h.up,λk hk=>?_,λk hk=>?_,λk hk=>?_,λk hk=>?_⟩,?_,?_,λj hj=>?_,?_,hst,?_,⟨hsame.1,hsame.2,ZK⟩,aeE,UY⟩;rw[hcb];split;rename_i e;subst e;exact h.whole i hk;exact h.whole k hk;rw[hg'];split;show (2:Int)≠4;decide;exact o.cg.J2 k hk;rw[hg',hcb];split;intro e;cases e;exact o.cg.n1 k hk;rw[hg',hcb];split;intro e;cases e;exact o.cg.n0 k hk;rw[<-o.aK,UX];have e1:∀q:Mg,q.at_= -1->bT q.jD c.P=(aN 0 q.l:Nat)*(c.P:Int):=λq e=>by
  have e1:bT q.jD c.P=(aN 0 q.l:Nat)*(c.P:Int)+(if q.at_= -1 then 0 else (c.P:Int)-(q.l.getD q.at_.toNat default).n):=rfl;rw[e1,if_pos e];omega
 rw[e1 _ (by show (if (i:Int)=g.ready.at_ then -1 else g.ready.at_)= -1;rw[if_pos o.at_.symm])];have e2:aN 0 ((g.ready.put i {g.ready.blk i with n:=(g.ready.blk i).n+1,l:=(g.ready.blk i).l+1}).close i).l=aN 0 g.ready.l:=by
  have e3:((g.ready.put i {g.ready.blk i with n:=(g.ready.blk i).n+1,l:=(g.ready.blk i).l+1}).close i).l=g.ready.l.set i {g.ready.blk i with s:=2,n:=(g.ready.blk i).n+1,l:=(g.ready.blk i).l+1}:=by
   show (g.ready.l.set i _).set i (dH ((g.ready.put i {g.ready.blk i with n:=(g.ready.blk i).n+1,l:=(g.ready.blk i).l+1}).blk i))=_;rw[iB _ hil,if_pos rfl,hcl,List.set_set]
  rw[e3];exact hcnt _ (show (2:Int)≠0 by decide)
 rw[e2];omega;rw[hg',if_pos rfl,<-o.live];rw[hg',if_neg (λe=>hj e.symm)];exact o.uh j hj;rw[hg',if_pos rfl,<-o.eF];rw[hg',if_pos rfl];exact acm rfl;rw[if_neg hend]at hrun hright hsame;have hg':∀j,(g.ready.put i {g.ready.blk i with n:=(g.ready.blk i).n+1,l:=(g.ready.blk i).l+1}).blk j=if i=j then {g.ready.blk i with n:=(g.ready.blk i).n+1,l:=(g.ready.blk i).l+1} else g.ready.blk j:=λj=>iB _ hil _ j
 refine⟨i,_,_,by rw[hrun,hx],o.lt,hn,rfl,⟨yZ.good h.good,hright,h.fs,h.up,λk hk=>?_,λk hk=>?_,λk hk=>?_,λk hk=>?_⟩,?_,?_,λj hj=>?_,?_,hst,?_,⟨hsame.1,hsame.2,ZK⟩,aeE,UY⟩;rw[hcb];split;rename_i e;subst e;exact h.whole i hk;exact h.whole k hk;rw[hg'];split;exact o.cg.J2 i o.lt;exact o.cg.J2 k hk;rw[hg',hcb];split;intro _;dsimp only;omega;exact o.cg.n1 k hk;rw[hg',hcb];split;intro e;have:=o.s1;dsimp only at e;omega;exact o.cg.n0 k hk;rw[<-o.aK,UX];have e1:bT (g.ready.put i {g.ready.blk i with n:=(g.ready.blk i).n+1,l:=(g.ready.blk i).l+1}).jD c.P=(aN 0 (g.ready.l.set i {g.ready.blk i with n:=(g.ready.blk i).n+1,l:=(g.ready.blk i).l+1}):Nat)*(c.P:Int)+(if g.ready.at_= -1 then 0 else (c.P:Int)-((g.ready.put i {g.ready.blk i with n:=(g.ready.blk i).n+1,l:=(g.ready.blk i).l+1}).blk g.ready.at_.toNat).n):=rfl
 rw[e1,if_neg hat,o.at_,acW,hg',if_pos rfl,hcnt _ (by have:=o.s1;dsimp only;omega)];dsimp only;omega;rw[hg',if_pos rfl,<-o.live];rw[hg',if_neg (λe=>hj e.symm)];exact o.uh j hj;rw[hg',if_pos rfl,<-o.eF];rw[hg',if_pos rfl];exact ack o.s1
end
def cont (c:NP.bX)(p:cB):List Nat:=if (c.blk p.block.toNat).aB p.aB.toNat=[] then aaA c.full 255 else (c.blk p.block.toNat).aB p.aB.toNat
structure EC (c:NP.bX)(p:cB):Prop where
 b0:0<=p.block
 b1:p.block<c.B
 p0:0<=p.aB
 p1:p.aB<((c.blk p.block.toNat).next:Nat)
section
variable{c c':NP.bX}{g g':Mg}{b:List Nat}{i:Nat}{p:cB}
def EC.lt (h:EC c p):p.block.toNat<c.B:=by have:=h.b0;have:=h.b1;omega
def wu (h:c.ok)(hp:EC c p):(cont c p).length=c.full/\∀y∈cont c p,y<256:=by
 unfold cont;split;exact⟨ai,λy hy=>by rw[ai7 hy];decide⟩
 ·rename_i hne;have hm:c.blk p.block.toNat∈c.bs:=h.mem hp.lt;have hpm:(c.blk p.block.toNat).aB p.aB.toNat∈(c.blk p.block.toNat).ps:=by
   refine NP.bL ?_;rw[h.pages _ hm];have:=h.next _ hm;have:=hp.p1;have:=hp.p0;omega
  refine⟨?_,h.small _ hm _ hpm⟩;rcases h.full _ hm _ hpm with e|e;exact absurd e hne;exact e
def zS (h:CG c g)(hp:EC c p):NP.bQ c p.block p.aB=((cont c p,0),{c with reads:=NP.qH (c.reads+1)}):=by
 have hm:c.blk p.block.toNat∈c.bs:=h.good.ok.mem hp.lt;have h1:=h.good.ok.next _ hm;have h2:=hp.p1;have h3:=hp.p0;have h4:=hp.b0;have h5:=hp.b1;have ha:NP.asked c p.block p.aB=0:=by
  unfold NP.asked;rw[h.up];simp only[Bool.false_eq_true,if_false];rw[if_pos aa]
 unfold NP.bQ;dsimp only;rw[if_pos ha];rfl
def CG.reads (h:CG c g)(n:Int):CG {c with reads:=n} g :=
 ⟨⟨⟨h.good.ok.right,h.good.ok.blocks,h.good.ok.pages,h.good.ok.full,h.good.ok.small,h.good.ok.next⟩,h.good.small,h.good.order⟩,h.lL.aW rfl rfl,h.fs,h.up,h.whole,h.J2,h.n1,h.n0⟩
def gJ.blk (h:c.ok)(E:gJ c g b i c' g')(k:Nat):c'.blk k=if i=k then {c.blk i with ps:=(c.blk i).ps.set (c.blk i).next b,next:=(c.blk i).next+1} else c.blk k:=by
 rw[E.aW];unfold NP.ni;dsimp only;exact NP.il (c:=NP.stroke c) (by have:=h.blocks;show i<c.bs.length;have:=E.lt;omega)
def gJ.bI (E:gJ c g b i c' g'):c'.B=c.B/\c'.P=c.P/\c'.S=c.S:=by rw[E.aW];exact⟨rfl,rfl,rfl⟩
def gJ.aB (h:c.ok)(E:gJ c g b i c' g')(k q:Nat):(c'.blk k).aB q=if i=k/\(c.blk i).next=q then b else (c.blk k).aB q:=by
 rw[E.aW];exact NP.Rk (c:=NP.stroke c) (NP.ek h) E.lt E.nx
def gJ.keep (h:c.ok)(E:gJ c g b i c' g')(hp:EC c p):EC c' p/\cont c' p=cont c p:=by
 have h1:=hp.p1;have h2:=hp.p0;constructor;refine⟨hp.b0,by rw[E.bI.1];exact hp.b1,hp.p0,?_⟩;rw[E.blk h];split;rename_i e;rw[<-e]at h1;dsimp only;omega;exact h1;have EZ:(c'.blk p.block.toNat).aB p.aB.toNat=(c.blk p.block.toNat).aB p.aB.toNat:=by
  rw[E.aB h];refine if_neg ?_;rintro⟨e1,e2⟩;rw[<-e1]at h1;omega
 have hfl:c'.full=c.full:=by unfold NP.bX.full;rw[E.bI.2.2]
 unfold cont;rw[EZ,hfl]
def gJ.new (h:c.ok)(E:gJ c g b i c' g')(hl:b.length=c.full):EC c' ⟨(i:Nat),((c.blk i).next:Nat)⟩/\cont c' ⟨(i:Nat),((c.blk i).next:Nat)⟩=b:=by
 constructor
 ·refine⟨Int.natCast_nonneg _,by rw[E.bI.1];have:=E.lt;show (i:Int)<_;omega,Int.natCast_nonneg _,?_⟩;show (((c.blk i).next:Nat):Int)<((c'.blk (i:Int).toNat).next:Nat);rw[acW,E.blk h,if_pos rfl];dsimp only;omega
 unfold cont;have e:(c'.blk (⟨(i:Nat),((c.blk i).next:Nat)⟩:cB).block.toNat).aB (⟨(i:Nat),((c.blk i).next:Nat)⟩:cB).aB.toNat=b:=by
  show (c'.blk (i:Int).toNat).aB (((c.blk i).next:Nat):Int).toNat=b;rw[acW,acW,E.aB h,if_pos ⟨rfl,rfl⟩]
 rw[e,if_neg];intro e0;rw[e0]at hl;unfold NP.bX.full at hl;simp at hl
def gJ.fresh (hp:EC c p):p≠⟨(i:Nat),((c.blk i).next:Nat)⟩:=by
 intro e;have h1:=hp.p1;rw[e]at h1;have:((c.blk (i:Int).toNat).next:Int)=((c.blk i).next:Int):=by rw[acW]
 dsimp only at h1;omega
end
def Ft.gM (f:Ft)(s:Bool)(n:Int):Option cB:=MP.get (if s then f.bD else f.now) n
structure Sound (f:Ft):Prop where
 fit:ft.Fit f
 cg:CG f.c f.g
 over:f.over=false
 later:f.later.all (λx=> !x)=true
 place:∀s n p,f.gM s n=some p->EC f.c p
 inj:∀s n p s' n',f.gM s n=some p->f.gM s' n'=some p->s=s'/\n=n'
 live:∀k:Nat,k<f.c.B->(f.g.blk k).l=((f.raw k).length:Nat)
 gone:∀n,MP.has f.gone n=true->MP.has f.bD n=true
structure jl (f f':Ft):Prop where
 bI:f'.c.B=f.c.B/\f'.c.P=f.c.P/\f'.c.S=f.c.S
 num:f'.aC=f.aC/\f'.bad=f.bad/\f'.text=f.text/\f'.seq=f.seq/\f'.aM=f.aM
 mgr:f'.g.aC=f.g.aC/\f'.g.bad=f.g.bad/\f'.g.even=f.g.even
 gM:∀s n,(f'.gM s n).map (cont f'.c)=(f.gM s n).map (cont f.c)
 gone:∀n,MP.has f'.gone n=MP.has f.gone n
 len:f'.bD.length=f.bD.length/\f'.now.length=f.now.length
def jl.refl (f:Ft):jl f f:=⟨⟨rfl,rfl,rfl⟩,⟨rfl,rfl,rfl,rfl,rfl⟩,⟨rfl,rfl,rfl⟩,λ_ _=>rfl,λ_=>rfl,⟨rfl,rfl⟩⟩
def jl.trans {f f' f'':Ft}(h:jl f f')(k:jl f' f''):jl f f'' :=
 ⟨⟨k.bI.1.trans h.bI.1,k.bI.2.1.trans h.bI.2.1,k.bI.2.2.trans h.bI.2.2⟩,
  ⟨k.num.1.trans h.num.1,k.num.2.1.trans h.num.2.1,k.num.2.2.1.trans h.num.2.2.1,k.num.2.2.2.1.trans h.num.2.2.2.1,k.num.2.2.2.2.trans h.num.2.2.2.2⟩,
  ⟨k.mgr.1.trans h.mgr.1,k.mgr.2.1.trans h.mgr.2.1,k.mgr.2.2.trans h.mgr.2.2⟩,
  λs n=>(k.gM s n).trans (h.gM s n),λn=>(k.gone n).trans (h.gone n),⟨k.len.1.trans h.len.1,k.len.2.trans h.len.2⟩⟩
section
variable{f:Ft}{k:Int}{h:Hd}{m:Mp cB}{n:Int}{p old iE:cB}{sl:Bool}
def zT (hm:MP.Ok m):h∈hin sl m k↔h.sl=sl/\h.at_.block=k/\MP.get m h.aB=some h.at_:=by
 unfold hin;rw[aay];constructor;rintro⟨x,hx,rfl⟩;obtain⟨h1,h2⟩:=afi.1 hx;exact⟨rfl,by simpa using h2,MP.dR hm h1⟩;rintro⟨h1,h2,h3⟩;refine⟨(h.aB,h.at_),afi.2 ⟨MP.get_mem h3,by simp[h2]⟩,?_⟩;rw[<-h1]
def ED (hm:MP.Ok m):(hin sl m k).Nodup:=by
 unfold hin;refine List.Pairwise.map _ ?_ (hm.filter _);intro a b hab e;injection e with _ e2 _;omega
def Sound.sok (h:Sound f):MP.Ok f.bD:=h.fit.slow.1
def Sound.Wm (h:Sound f):MP.Ok f.now:=h.fit.oG.1
def Sound.mem (H:Sound f):h∈f.raw k↔h.at_.block=k/\f.gM h.sl h.aB=some h.at_:=by
 unfold Ft.raw Ft.gM;rw[aaS,zT H.sok,zT H.Wm];obtain⟨s,n,p⟩:=h;cases s<;>simp
def Sound.PU (H:Sound f):(f.raw k).Nodup:=by
 unfold Ft.raw;refine List.nodup_append.2 ⟨ED H.sok,ED H.Wm,λa ha b hb e=>?_⟩;have h1:=((zT H.sok).1 ha).1;have h2:=((zT H.Wm).1 hb).1;rw[e,h2]at h1;cases h1
def Sound.EE (H:Sound f):(f.raw k).Pairwise (λx y=>x.at_.aB≠y.at_.aB):=by
 refine List.Pairwise.imp_of_mem ?_ (H.PU (k:=k));intro x y hx hy hne e;have h1:=H.mem.1 hx;have h2:=H.mem.1 hy;have hp:x.at_=y.at_:=by
  obtain⟨_,_,⟨a,b⟩⟩:=x;obtain⟨_,_,⟨c,d⟩⟩:=y;dsimp only at h1 h2 e;rw[h1.1,h2.1,e]
 have h3:=H.inj _ _ _ _ _ h1.2 (hp▸h2.2);apply hne;obtain⟨a,b,c⟩:=x;obtain⟨a',b',c'⟩:=y;dsimp only at h3 hp;rw[h3.1,h3.2,hp]
def Nw (hm:MP.Ok m)(ho:MP.get m n=some old)(k:Int):(hin sl (MP.put m n iE) k).Perm ((if iE.block=k then [⟨sl,n,iE⟩] else [])++hin sl (MP.del m n) k)/\(hin sl m k).Perm ((if old.block=k then [⟨sl,n,old⟩] else [])++hin sl (MP.del m n) k):=by
 have key:∀q:cB,∀l:Mp cB,l.Perm ((n,q)::MP.del m n)->(hin sl l k).Perm ((if q.block=k then [⟨sl,n,q⟩] else [])++hin sl (MP.del m n) k):=λq l hp=>by
  unfold hin;refine((hp.filter _).map _).trans ?_;rw[List.filter_cons];by_cases e:q.block=k;rw[if_pos (by simp[e]),if_pos e];exact aiF _;rw[if_neg (by simp[e]),if_neg e];exact aiF _
 exact⟨key _ _ (MP.qU hm n iE),key _ _ (MP.fO ho)⟩
def zb (hm:MP.Ok m)(ho:MP.get m n=some old):(MP.put m n iE).length=m.length:=by
 rw[(MP.qU hm n iE).length_eq,(MP.fO ho).length_eq];rfl
end
end FP
end Go.Proofs.YtllmbcigmimgoaaGreat
