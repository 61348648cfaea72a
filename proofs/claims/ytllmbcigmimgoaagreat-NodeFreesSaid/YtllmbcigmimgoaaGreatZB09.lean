/-
  Lemmas for a law's proof, put together from several texts. No conditions of their own.
-/
import Derived.Test.YtllmbcigmimgoaaGreatZB08
import Derived.Test.YtllmbcigmimgoaaGreatZB06
import Derived.Deep.CutRange
import Derived.Deep.CutBlock
import Derived.Deep.LoopGhost
set_option maxRecDepth 100000
set_option maxHeartbeats 20000000
set_option linter.all false
namespace Go.Proofs.YtllmbcigmimgoaaGreat
open _root_.Go.Proofs.Tryz
open _root_.And renaming intro->ae7
open _root_.Bool renaming eq_iff_iff->ae4,or_eq_true->ae5,and_eq_true->ac8,not_eq_true->afg
open _root_.Go renaming World->acL,Value->acK,bodyPost_ret->ac5,run_underlying->acQ
open _root_.Go.Ending renaming returned->ab4
open _root_.Go.IntKind renaming i64->adk
open _root_.Go.IntWalk renaming i64_in->adl
open _root_.Go.Obj renaming cells->ach
open _root_.Go.RowKit renaming Below->acN
open _root_.Go.Value renaming tuple->adg,slice->aco
open _root_.Int renaming tdiv_eq_ediv_of_nonneg->ae3
open _root_.List renaming range->ac9,getElem?_eq_getElem->aaj,getD_eq_getElem?_getD->aah,length_take->acX,flatMap_append->ae0,length_drop->adt,length_append->acZ,getElem?_append_right->ae1,getElem?_append_left->aa9,range_succ->ae2,length_map->abT,pairwise_iff_getElem->aeo,flatMap_cons->aaQ,append_assoc->adM,filter_append->ae8,getElem?_take->ae9,getElem?_drop->afb,flatMap_nil->afe,getElem_mem->aff,getD->afh,mem_filter->afi
open _root_.Nat renaming le_trans->abX,lt_of_lt_of_le->adN
open _root_.Or renaming inl->ack,inr->acm
namespace po
open pl
def Po.gG (p:Po)(i:PI.bF)(n:Nat):Bool:=decide (p.at_ i n≠0)
def Po.eO (p:Po)(i:PI.bF):List Nat:=(ac9 1062).filter (p.gG i)
def Po.rT (p:Po)(i:PI.bF):(p.eO i).Pairwise (·<·):=List.pairwise_lt_range.filter _
def Po.mR (p:Po)(i:PI.bF)(n:Nat):n∈p.eO i↔n<1062/\p.at_ i n≠0:=by
 unfold Po.eO Po.gG;rw[afi,List.mem_range];simp
def Po.BQ (p:Po)(i:PI.bF):(p.eO i).length<=1062:=abX (List.length_filter_le _ _) ai
def nums_append (a b:List It):nums (a++b)=nums a++nums b:=by unfold nums;rw[ae8,List.map_append]
def xQ {α:Type}(l:List α)(f:α->List It):nums (l.flatMap f)=l.flatMap λx=>nums (f x):=by
 induction l with
 |nil=>rfl
 |cons x l ih=>rw[aaQ,aaQ,nums_append,ih]
variable{β:Type}
def oL (l:List Nat)(f:Nat×Nat->List β):∀n,(PI.ptrsTo l n).flatMap f=(ac9 n).flatMap λk=>if PI.two l k=0 then [] else f (k,PI.two l k)
 |0=>rfl
 |n+1=>by
  rw[ae2,ae0,<-oL l f n]
  rw[show PI.ptrsTo l (n+1)=PI.ptrsTo l n++(if PI.two l n=0 then [] else [(n,PI.two l n)]) from rfl,ae0]
  rw[aaQ,afe,List.append_nil]
  by_cases e:PI.two l n=0
  rw[if_pos e,if_pos e,afe]
  rw[if_neg e,if_neg e,aaQ,afe,List.append_nil]
def flat_congr {f g:Nat->List β}{N:Nat}(h:∀k,k<N->f k=g k):(ac9 N).flatMap f=(ac9 N).flatMap g:=by
 induction N with
 |zero=>rfl
 |succ N ih=>rw[ae2,ae0,ae0,ih (λk hk=>h k aa)];simp[h N aa]
def flat_nil {N:Nat}:(ac9 N).flatMap (λ_=>([]:List β))=[]:=by
 induction N with
 |zero=>rfl
 |succ N ih=>rw[ae2,ae0,ih];rfl
def Uc (p:Po)(aB fr:Nat):nums (p.items 0 aB fr)=if aB=0 then [] else [(fr:Int)]:=by
 unfold Po.items;split;rfl;rfl
def Ud (p:Po)(aB fr:Nat):nums (p.items 1 aB fr)=(ac9 32).flatMap λk=>if p.ptr aB k=0 then [] else [((fr+k:Nat):Int)]:=by
 unfold Po.items;by_cases e:aB=0;rw[if_pos e];have:(λk=>if p.ptr aB k=0 then [] else [((fr+k:Nat):Int)])=λ_=>[]:=by
  funext k;unfold Po.ptr;rw[if_pos e,if_pos rfl]
 rw[this,flat_nil];rfl;rw[if_neg e];have h1:nums ((fr,aB,0+1)::(PI.ptrs (p.get aB)).flatMap λx=>p.items 0 x.2 (fr+x.1*stepOf (0+1)))=nums ((PI.ptrs (p.get aB)).flatMap λx=>p.items 0 x.2 (fr+x.1*stepOf (0+1))):=by
  unfold nums;rw[List.filter_cons_of_neg ai]
 rw[h1,xQ];show (PI.ptrsTo (p.get aB) 32).flatMap _=_;rw[oL];refine flat_congr λk _=>?_
 unfold Po.ptr;rw[if_neg e];by_cases c:PI.two (p.get aB) k=0;rw[if_pos c,if_pos c];rw[if_neg c,if_neg c,Uc];dsimp only;rw[if_neg c,show stepOf (0+1)=1 from rfl,Nat.mul_one]
def aa3 (p:Po)(aB fr:Nat):nums (p.items 2 aB fr)=(ac9 32).flatMap λa=>(ac9 32).flatMap λb=>if p.ptr (p.ptr aB a) b=0 then [] else [((fr+(32*a+b):Nat):Int)]:=by
 have h0:∀a,a=0->∀fr,((ac9 32).flatMap λb=>if p.ptr a b=0 then [] else [((fr+b:Nat):Int)])=([]:List Int):=λa ha fr=>by
  have:(λb=>if p.ptr a b=0 then [] else [((fr+b:Nat):Int)])=λ_=>[]:=by
   funext k;unfold Po.ptr;rw[if_pos ha,if_pos rfl]
  rw[this,flat_nil]
 unfold Po.items;by_cases e:aB=0;rw[if_pos e];have:(λa=>(ac9 32).flatMap λb=>if p.ptr (p.ptr aB a) b=0 then [] else [((fr+(32*a+b):Nat):Int)])=λ_=>[]:=by
  funext a;have hz:p.ptr aB a=0:=by unfold Po.ptr;rw[if_pos e]
  have:=h0 (p.ptr aB a) hz (fr+32*a);simpa[Nat.add_assoc] using this
 rw[this,flat_nil];rfl;rw[if_neg e];have h1:nums ((fr,aB,1+1)::(PI.ptrs (p.get aB)).flatMap λx=>p.items 1 x.2 (fr+x.1*stepOf (1+1)))=nums ((PI.ptrs (p.get aB)).flatMap λx=>p.items 1 x.2 (fr+x.1*stepOf (1+1))):=by
  unfold nums;rw[List.filter_cons_of_neg ai]
 rw[h1,xQ];show (PI.ptrsTo (p.get aB) 32).flatMap _=_;rw[oL];refine flat_congr λa _=>?_
 have hp:p.ptr aB a=PI.two (p.get aB) a:=by unfold Po.ptr;rw[if_neg e]
 rw[<-hp];by_cases c:p.ptr aB a=0;rw[if_pos c];have:=h0 (p.ptr aB a) c (fr+32*a);simpa[Nat.add_assoc] using this.symm;rw[if_neg c,Ud];dsimp only;rw[show stepOf (1+1)=32 from rfl];refine flat_congr λb _=>?_
 rw[show fr+a*32+b=fr+(32*a+b) by omega]
def range_split (a b:Nat)(f:Nat->List β):(ac9 (a+b)).flatMap f=(ac9 a).flatMap f++(ac9 b).flatMap λk=>f (a+k):=by
 induction b with
 |zero=>simp
 |succ b ih=>rw[<-Nat.add_assoc,ae2,ae0,ih,ae2,ae0,adM];simp
def KV (m:Nat)(f:Nat->List β):(ac9 (32*m)).flatMap f=(ac9 m).flatMap λa=>(ac9 32).flatMap λb=>f (32*a+b):=by
 induction m with
 |zero=>rfl
 |succ m ih=>rw[Nat.mul_succ,range_split,ih,ae2 (n:=m),ae0,aaQ,afe,List.append_nil]
def filter_flat (f:Nat->Bool)(N:Nat):((ac9 N).filter f).map (λ(n:Nat)=>(n:Int))=(ac9 N).flatMap λn=>if f n=true then [(n:Int)] else []:=by
 induction N with
 |zero=>rfl
 |succ N ih =>
  rw[ae2,ae8,List.map_append,ae0,ih];congr 1;by_cases e:f N=true;simp[e];simp[e]
def Po.BR (p:Po)(i:PI.bF):nums (p.jy i)=(p.eO i).map λ(n:Nat)=>(n:Int):=by
 unfold Po.eO;rw[filter_flat,show 1062=6+(32+32*32) from rfl,range_split,range_split,KV];unfold Po.jy;rw[nums_append,nums_append,Ud,aa3];unfold Po.jY;rw[xQ,adM];congr 1;refine flat_congr λk hk=>?_
 rw[Uc];unfold Po.gG Po.at_;rw[if_pos hk];by_cases e:i.direct.getD k 0=0;rw[if_pos e,if_neg (by simpa using e)];rw[if_neg e,if_pos (by simpa using e)];congr 1;refine flat_congr λk hk=>?_
 unfold Po.gG Po.at_;rw[if_neg (show ¬6+k<6 by omega),if_pos (show 6+k<38 by omega),show 6+k-6=k by omega];by_cases e:p.ptr i.single k=0;rw[if_pos e,if_neg (by simpa using e)];rw[if_neg e,if_pos (by simpa using e)];refine flat_congr λa ha=>flat_congr λb hb=>?_
 unfold Po.gG Po.at_;rw[if_neg (show ¬6+(32+(32*a+b))<6 by omega),if_neg (show ¬6+(32+(32*a+b))<38 by omega),if_pos (show 6+(32+(32*a+b))<1062 by omega),show (6+(32+(32*a+b))-38)/32=a by omega,show (6+(32+(32*a+b))-38)%32=b by omega];by_cases e:p.ptr (p.ptr i.double a) b=0;rw[if_pos e,if_neg (by simpa using e)];rw[if_neg e,if_pos (by simpa using e),show 6+(32+(32*a+b))=38+(32*a+b) by omega]
def Po.Nj (p:Po)(i:PI.bF):jk (p.eO i)=aH (p.gG i):=by
 rw[I9 (p.rT i) (λn hn=>((p.mR i n).1 hn).1)];have key:∀n,n<1062->decide (n∈p.eO i)=p.gG i n:=λn hn=>by
  rw[ae4,decide_eq_true_iff,p.mR];unfold Po.gG;rw[decide_eq_true_iff];exact⟨λh=>h.2,λh=>⟨hn,h⟩⟩
 unfold aH;have h1:(ac9 1062).countP (λn=>decide (n∈p.eO i))=(ac9 1062).countP (p.gG i):=bN λn hn=>key n hn
 have h2:iU (λn=>decide (n∈p.eO i))=iU (p.gG i):=any_congr λk hk=>key _ aa;have h3:∀a,a<32->dU (λn=>decide (n∈p.eO i)) a=dU (p.gG i) a:=λa ha=>any_congr λb hb=>key _ aa;have h4:iC (λn=>decide (n∈p.eO i))=iC (p.gG i):=any_congr λa ha=>h3 a ha
 have h5:(ac9 32).countP (dU λn=>decide (n∈p.eO i))=(ac9 32).countP (dU (p.gG i)):=bN λa ha=>h3 a ha
 rw[h1,h2,h4,h5]
def Nk (is:Nat->PI.bF)(j:Nat)(i i':PI.bF):bW (bW is j i) j i'=bW is j i':=by
 funext j';unfold bW;by_cases e:j'=j;rw[if_pos e,if_pos e];rw[if_neg e,if_neg e,if_neg e]
def KW (z:Nat->Bool)(aF ed n:Nat):Bool:=z n||(decide (aF/64<=n)&&decide (n<(ed+63)/64))
structure BS (p0:Po)(is:Nat->PI.bF)(j aF:Nat)(l:List Nat)(o:Nat)(p:Po)(i:PI.bF):Prop where
 fam:o6 p (bW is j i)
 gG:∀n,p.gG i n=(p0.gG (is j) n||(decide (aF<o)&&decide (aF/64<=n)&&decide (64*n<o)))
 byte:∀x,p.byte i x=if aF<=x/\x<o then l.getD (x-aF) 0 else p0.byte (is j) x
 at_:∀j' m,j'≠j->p.at_ (is j') m=p0.at_ (is j') m
 cont:∀j' m,j'≠j->p.cont (is j') m=p0.cont (is j') m
 tab:∀x:Nat,x<=p0.T->p.get x=p0.get x
 vC:p.T=p0.T/\p.P=p0.P/\p.I=p0.I/\(p.B,p.G)=(p0.B,p0.G)
 ino:i.aL=(is j).aL/\i.links=(is j).links/\i.size=(is j).size
 aK:(aH (KW (p0.gG (is j)) aF (aF+l.length)):Int)-aH (p.gG i)<=p.aK
variable{is:Nat->PI.bF}
def BS.start {p:Po}(h:o6 p is)(j aF:Nat)(l:List Nat)(hr:(aH (KW (p.gG (is j)) aF (aF+l.length)):Int)-aH (p.gG (is j))<=p.aK):BS p is j aF l aF p (is j):=by
 refine⟨by rw[oK];exact h,λn=>?_,λx=>?_,λ_ _ _=>rfl,λ_ _ _=>rfl,λ_ _=>rfl,⟨rfl,rfl,rfl,rfl⟩,⟨rfl,rfl,rfl⟩,hr⟩;rw[show decide (aF<aF)=false by simp];simp;rw[if_neg aa]
def rU (c:List Nat)(a k:Nat)(l:List Nat):List Nat:=c.take a++l.take k++c.drop (a+k)
variable{l:List Nat}{a k:Nat}
def Ev {c:List Nat}(hc:c.length=64)(ha:a+k<=64)(hk:k<=l.length):(rU c a k l).length=64:=by
 unfold rU;rw[acZ,acZ,acX,acX,adt];omega
def yT {c:List Nat}(hc:∀y∈c,y<256)(hl:∀y∈l,y<256):∀y∈rU c a k l,y<256:=by
 intro y hy;unfold rU at hy;rcases List.mem_append.1 hy with hy|hy;rcases List.mem_append.1 hy with hy|hy;exact hc y (List.mem_of_mem_take hy);exact hl y (List.mem_of_mem_take hy);exact hc y (List.mem_of_mem_drop hy)
def Pp {c:List Nat}(hc:c.length=64)(ha:a+k<=64)(hk:k<=l.length)(x:Nat):(rU c a k l).getD x 0=if a<=x/\x<a+k then l.getD (x-a) 0 else c.getD x 0:=by
 unfold rU;simp only[aah];by_cases h1:x<a;rw[if_neg aa,adM,aa9 (by rw[acX];omega),ae9,if_pos h1];by_cases h2:x<a+k;rw[if_pos aa,adM,ae1 (by rw[acX];omega),aa9 (by rw[acX,acX];omega),ae9,if_pos (by rw[acX];omega),acX,Nat.min_eq_left aa];rw[if_neg aa,ae1 (by rw[acZ,acX,acX];omega),afb,acZ,acX,acX]
 congr 2;omega
def sW (p:Po)(i:PI.bF)(n:Nat):p.gG i n=true↔p.at_ i n≠0:=by
 unfold Po.gG;rw[decide_eq_true_iff]
variable{j o:Nat}{i:PI.bF}
def BS.step {p0 p:Po}{aF:Nat}(W:BS p0 is j aF l o p i)(h1:aF<=o)(h2:o<aF+l.length)(h3:aF+l.length<=67968)(hs:∀y∈l,y<256)
  {k:Nat} (hk:k=min (64-o%64) (aF+l.length-o)) :
  Nh p (bW is j i) j (o/64) (p.give i (o/64)).1 (p.give i (o/64)).2/\((p.give i (o/64)).1.cont (p.give i (o/64)).2 (o/64)).length=64/\(∀y∈(p.give i (o/64)).1.cont (p.give i (o/64)).2 (o/64),y<256) /\
   BS p0 is j aF l (o+k) ((p.give i (o/64)).1.put ((p.give i (o/64)).1.at_ (p.give i (o/64)).2 (o/64):Nat) (rU ((p.give i (o/64)).1.cont (p.give i (o/64)).2 (o/64)) (o%64) k (l.drop (o-aF)))) (p.give i (o/64)).2:=by
 obtain⟨n,hn⟩:∃n,n=o/64:=⟨_,rfl⟩;obtain⟨a,ha⟩:∃a,a=o%64:=⟨_,rfl⟩;rw[<-hn,<-ha];rw[<-ha]at hk;have hn2:n<1062:=aa;have hself:bW is j i j=i:=aS _ _ _;have hz:p.at_ i n=0->p.gG i n=false:=λe=>by
  have:=sW p i n;cases hzz:p.gG i n with
  |false=>rfl
  |true=>exact absurd e (this.1 hzz)
 have hwz:wants (p.slot (bW is j i j)) n=pR (p.gG i) n:=Xt (W.fam.full j) (λm _=>by rw[hself];exact sW p i m) hn2;have hstep:p.at_ i n=0->aH (λm=>p.gG i m||m==n)=aH (p.gG i)+1+pR (p.gG i) n:=λe=>yS hn2 (hz e) (λ_=>rfl);have hle:aH (λm=>p.gG i m||m==n)<=aH (KW (p0.gG (is j)) aF (aF+l.length)):=I8 λm hm=>by
  unfold KW;rw[ae5]at hm ⊢;rcases hm with hm|hm;rw[W.gG m,ae5]at hm;rcases hm with hm|hm;exact ack hm;refine acm ?_;simp only[ac8,decide_eq_true_eq]at hm ⊢;omega;refine acm ?_;have Zh:m=n:=by simpa using hm
  simp only[ac8,decide_eq_true_eq];omega
 have hroom:=W.aK;have G:=Po.Ub W.fam j n hn2 (λe=>by
  rw[hself]at e
  have:=hstep e
  rw[hwz]
  omega)
 rw[hself]at G;have hat:=G.at_;have hcl:((p.give i n).1.cont (p.give i n).2 n).length=64/\∀y∈(p.give i n).1.cont (p.give i n).2 n,y<256:=by
  unfold Po.cont;rw[if_neg hat];have hu:=G.fam.used (j:=j) (s:=.dat n) (by show (p.give i n).1.at_ (bW (bW is j i) j (p.give i n).2 j) n≠0;rw[aS];exact hat);have:=G.fam.row _ hu;have he:(p.give i n).1.slot (bW (bW is j i) j (p.give i n).2 j) (.dat n)=(p.give i n).1.at_ (p.give i n).2 n:=by rw[aS];rfl
  rw[he]at this;exact this
 have hcont:=G.cont j;rw[aS,hself]at hcont;refine⟨G,hcl.1,hcl.2,?_⟩;have hf:=G.fam;rw[Nk]at hf;generalize (p.give i n).1=p1 at*;generalize (p.give i n).2=i1 at*;have hs1:bW is j i1 j=i1:=aS _ _ _;have hrl:=Ev (a:=a) (k:=k) (l:=l.drop (o-aF)) hcl.1 aa (by rw[adt];omega);have hrs:=yT (a:=a) (k:=k) (l:=l.drop (o-aF)) hcl.2 (λy hy=>hs y (List.mem_of_mem_drop hy));have P:=Po.Ni hf j n (by rw[hs1];exact hat) (l:=rU (p1.cont i1 n) a k (l.drop (o-aF))) ⟨hrl,hrs⟩;rw[hs1]at P;have hrg:=λx=>Pp (c:=p1.cont i1 n) (l:=l.drop (o-aF)) (a:=a) (k:=k) hcl.1 aa (by rw[adt];omega) x
 generalize rU (p1.cont i1 n) a k (l.drop (o-aF))=row at*;generalize p1.put (p1.at_ i1 n:Nat) row=p2 at*;have hp2:=P.at_ j;rw[hs1]at hp2;have hc2:=P.cont;rw[hs1]at hc2;have ho2:=P.uh j;rw[hs1]at ho2;have hzz:∀m,p2.gG i1 m=(p.gG i m||m==n):=λm=>by
  rw[ae4,sW,hp2,ae5,sW];by_cases e:m=n;rw[e];exact⟨λ_=>acm ai,λ_=>hat⟩;rw[G.was m e,hself];exact⟨ack,λh=>by
   rcases h with h|h
   exact h
   exact absurd (by simpa using h) e⟩
 refine⟨P.fam,λm=>?_,λx=>?_,λj' m hj=>?_,λj' m hj=>?_,λx hx=>?_,?_,?_,?_⟩;rw[hzz,W.gG m,Bool.or_assoc];congr 1;rw[ae4];simp only[ae5,ac8,decide_eq_true_eq,beq_iff_eq];constructor;rintro (h|h)<;>omega;intro h;by_cases e:m=n;exact acm e;exact ack aa;by_cases e:x/64=n;have hb:p2.byte i1 x=row.getD (x%64) 0:=by
  unfold Po.byte;rw[e,hc2]
 have hb0:(p1.cont i1 n).getD (x%64) 0=p.byte i x:=by
  rw[hcont];unfold Po.byte;rw[e]
 rw[hb,hrg,hb0,W.byte];by_cases h4:a<=x%64/\x%64<a+k;rw[if_pos h4,if_pos aa];rw[aah,aah,afb];congr 2;omega;rw[if_neg h4];by_cases h5:aF<=x/\x<o;rw[if_pos h5,if_pos aa];rw[if_neg h5,if_neg aa];have hb:p2.byte i1 x=p.byte i x:=by
  unfold Po.byte;rw[ho2 _ (λh=>e h.2),hcont]
 rw[hb,W.byte];by_cases h5:aF<=x/\x<o;rw[if_pos h5,if_pos aa];rw[if_neg h5,if_neg aa];have h5:=P.at_ j' m;have h6:=G.uh j' m hj;rw[aV _ _ hj]at h5 h6;rw[h5,h6,W.at_ j' m hj];have h5:=P.uh j' m (λh=>hj h.1);have h6:=G.cont j' m;rw[aV _ _ hj]at h5;rw[aV _ _ hj,aV _ _ hj]at h6;rw[h5,h6,W.cont j' m hj];have e1:p.T=p0.T:=W.vC.1;rw[P.tab x (by rw[G.vC.1,e1];exact hx),G.tab x (by rw[e1];exact hx),W.tab x hx];obtain⟨a1,a2,a3,a4⟩:=W.vC;obtain⟨b1,b2,b3,b4⟩:=G.vC;obtain⟨c1,c2,c3,c4⟩:=P.vC;exact⟨c1.trans (b1.trans a1),c2.trans (b2.trans a2),c3.trans (b3.trans a3),c4.trans (b4.trans a4)⟩
 obtain⟨a1,a2,a3⟩:=W.ino;obtain⟨b1,b2,b3⟩:=G.ino;rw[hself]at b1 b2 b3;exact⟨b1.trans a1,b2.trans a2,b3.trans a3⟩;rw[P.aK];have hg:=G.aK;rw[hself]at hg hwz;rw[hwz]at hg;by_cases e:p.at_ i n=0;rw[if_pos e]at hg;have hs3:=hstep e;rw[show p2.gG i1=λm=>p.gG i m||m==n from funext hzz];omega;rw[if_neg e]at hg;have:p2.gG i1=p.gG i:=funext λm=>by
  rw[hzz];by_cases e2:m=n;rw[e2,(sW p i n).2 e];rfl;have:(m==n)=false:=by simp[e2]
  rw[this,Bool.or_false]
 rw[this];omega
open RowKit mgr ft ino nd
section
variable{aA:Nat}{w w' w'':acL}{q:Nat}{p p' p'':Po}{K K' K'':Nat->Prop}{f r:Nat}{i:PI.bF}{Cr:Array acK}{wr:acL}
structure zA (aA:Nat)(w:acL)(q:Nat)(K:Nat->Prop)(f r:Nat)(i:PI.bF)(Cr:Array acK)(wr:acL)(K':Nat->Prop)(p':Po):Prop where
 go:bG aA w q K wr K' p'
 file:aD wr f 74 (fileC q i)
 res:aD wr r 29 Cr
 nf:¬K' f
 nr:¬K' r
 low:w.heap.size<=f/\w.heap.size<=r
def zA.old (S:zA aA w q K f r i Cr wr K' p')(hb:acN wr.heap.size wr w''):zA aA w q K f r i Cr w'' K' p':=⟨S.go.old hb,S.file.old hb,S.res.old hb,S.nf,S.nr,S.low⟩
def zA.on (S:zA aA w q K f r i Cr wr K' p')(g:bG aA wr q K' w'' K'' p''):zA aA w q K f r i Cr w'' K'' p'' :=
 ⟨S.go.trans g,(g.keep S.file S.nf).1,(g.keep S.res S.nr).1,(g.keep S.file S.nf).2,(g.keep S.res S.nr).2,S.low⟩
def zA.ne (S:zA aA w q K f r i Cr wr K' p'):r≠f:=by
 intro e;subst e;have hb:∃t:TypeId,t=74/\aD wr r t (fileC q i):=⟨_,rfl,S.file⟩;obtain⟨t,ht,hb⟩:=hb;have:=bY S.res hb;rw[ht]at this;exact absurd this ag
variable{i':PI.bF}
def zA.gg (S:zA aA w q K f r i Cr wr K' p')(g:IX aA wr q f K' w'' K'' p'' i'):zA aA w q K f r i' Cr w'' K'' p'' :=
 ⟨S.go.gg g S.low.1,g.file,(g.keep S.res S.nr S.ne).1,g.ng,(g.keep S.res S.nr S.ne).2,S.low⟩
def zA.cO {Cr':Array acK}(S:zA aA w q K f r i Cr wr K' p')(h0:PQ aA w q K p)(hc:aP (λn=>n=r) wr w'')(hf:aD w'' r 29 Cr'):zA aA w q K f r i Cr' w'' K' p' :=
 ⟨bG.jg S.go h0 S.res S.low.2 S.nr hc,S.file.aJ hc (λe=>S.ne e.symm),hf,S.nf,S.nr,S.low⟩
def zA.ad7 (S:zA aA w q K f r i Cr wr K' p')(h0:PQ aA w q K p)(hc:aP (λn=>n=f) wr w'')(hf:aD w'' f 74 (fileC q i')):zA aA w q K f r i' Cr w'' K' p' :=
 ⟨bG.jg S.go h0 S.file S.low.1 S.nf hc,hf,S.res.aJ hc (λe=>S.ne e),S.nf,S.nr,S.low⟩
def mU (aA:Nat)(w:acL)(q:Nat)(K:Nat->Prop)(p:Po)(is:Nat->PI.bF)(j aF:Nat)(l:List Nat)(e:Ending)(w':acL):Prop :=
 if p.aK<(aH (KW (p.gG (is j)) aF (aF+l.length)):Int)-aH (p.gG (is j)) then e=ab4 (adg #[dS PI.none_,vi 67])/\∃K',bM aA w q K w' K' p
 else ∃K' p' i',e=ab4 (adg #[dS {i' with size:=max (is j).size (aF+l.length)},vi 0])/\bG aA w q K w' K' p'/\BS p is j aF l (aF+l.length) p' i'
def mU.space {aF:Nat}(h:p.aK<(aH (KW (p.gG (is j)) aF (aF+l.length)):Int)-aH (p.gG (is j)))(hr:bM aA w q K w' K' p):mU aA w q K p is j aF l (ab4 (adg #[.agg Te,vi 67])) w':=by
 unfold mU;rw[if_pos h];exact⟨rfl,K',hr⟩
def mU.done {aF:Nat}(h:¬p.aK<(aH (KW (p.gG (is j)) aF (aF+l.length)):Int)-aH (p.gG (is j)))(hr:bG aA w q K w' K' p')(hW:BS p is j aF l (aF+l.length) p' i') :
  mU aA w q K p is j aF l (ab4 (adg #[dS {i' with size:=max (is j).size (aF+l.length)},vi 0])) w':=by
 unfold mU;rw[if_neg h];exact⟨K',p',i',rfl,hr,hW⟩
def aij (aA:Nat)(w:acL)(q:Nat)(K:Nat->Prop)(p0:Po)(is:Nat->PI.bF)(j aF:Nat)(l:List Nat)(f r b0 o0 c:Nat)(v2 v3:acK)(wr:acL):Prop :=
 ∃o K' p i,v2=vi (o:Nat)/\aF<=o/\o<=aF+l.length/\(o<aF+l.length->v3=aco (some ⟨b0,o0+(o-aF),none⟩) (aF+l.length-o) (c-(o-aF)))/\Hid (zA aA w q K f r i Te wr K' p)/\Hid (BS p0 is j aF l o p i)
variable{d:Nat}
def aa4 {cont:List Nat}(hk:k=min (64-a) (l.length-d)):cont.take a++(l.drop d).take (64-a)++cont.drop (a+min (l.drop d).length (64-a))=rU cont a k (l.drop d):=by
 unfold rU;rw[adt,show min (l.length-d) (64-a)=k by omega];congr 2;by_cases h:64-a<=l.length-d;rw[show k=64-a by omega];rw[List.take_of_length_le (by rw[adt];omega),List.take_of_length_le (by rw[adt];omega)]
def gD.dr {w0 W:acL}(h:gD k w0 W):gD k w0 W.drew:=gD.old h au
variable{ed:Nat}
def Xu {aF:Nat}(h:ed<=67968)(h2:aF<=ed):∃xo e64 e63 yo:Nat,(aF:Int).tdiv 64=(xo:Int)/\(aF:Int)/64=(xo:Int)/\wrap64 (xo:Int)=(xo:Int)/\adk.wrap (xo:Int)=(xo:Int) /\
  adk.wrap ((ed:Int)+64)=(e64:Int)/\adk.wrap ((e64:Int)-1)=(e63:Int)/\(e63:Int).tdiv 64=(yo:Int)/\(e63:Int)/64=(yo:Int)/\wrap64 (yo:Int)=(yo:Int)/\adk.wrap (yo:Int)=(yo:Int) /\
  (xo=aF/64/\yo=(ed+63)/64/\xo<=yo/\yo<=1062):=by
 refine⟨aF/64,ed+64,ed+63,(ed+63)/64,?_,aa,IntWalk.wrap64_in _ aa,adl _ aa,?_,?_,?_,aa,IntWalk.wrap64_in _ aa,adl _ aa,rfl,rfl,aa,aa⟩;rw[ae3 aa];omega;rw[adl _ aa];omega;rw[adl _ aa];omega;rw[ae3 aa];omega
def Ew {z z':Nat->Bool}(h:∀n,n<1062->z n=z' n):aH z=aH z':=by
 unfold aH;have h1:(ac9 1062).countP z=(ac9 1062).countP z':=bN λn hn=>h n hn
 have h2:iU z=iU z':=any_congr λk hk=>h _ aa
 have h3:∀a,a<32->dU z a=dU z' a:=λa ha=>any_congr λb hb=>h _ aa
 have h4:iC z=iC z':=any_congr λa ha=>h3 a ha
 have h5:(ac9 32).countP (dU z)=(ac9 32).countP (dU z'):=bN λa ha=>h3 a ha
 rw[h1,h2,h4,h5]
def kg (z:Nat->Bool):aH z<=1096:=by
 unfold aH;have h1:(ac9 1062).countP z<=1062:=abX List.countP_le_length ai;have h2:(ac9 32).countP (dU z)<=32:=abX List.countP_le_length ai;have h3:(iU z).toNat<=1:=by cases iU z<;>decide
 have h4:(iC z).toNat<=1:=by cases iC z<;>decide
 omega
def KX {L:List Nat}(hL:L=p.eO i)(W:acL)(a:Option Addr)(c:Nat)(hr:jC W a (L.map λ(n:Nat)=>(n:Int)))(aF ed xo yo:Nat)(hx:xo=aF/64/\yo=(ed+63)/64/\xo<=yo/\yo<=1062) :
  Calls prog 29 #[vi 64,aco a L.length c,vi xo,vi yo] W λe w'=>e=ab4 (adg #[vi ((aH (KW (p.gG i) aF ed):Int)-aH (p.gG i)),vi 0])/\acN W.heap.size W w':=by
 have hp:=p.rT i;have hl:=p.BQ i;have hmem:=p.mR i;rw[<-hL]at hp hl hmem;refine(TW a L c hr aa hp (λn hn=>((hmem n).1 hn).1) xo yo hx.2.2.1 hx.2.2.2).mono ?_;rintro e w' ⟨M,rfl,hp2,hm2,hb⟩;have e1:jk L=aH (p.gG i):=by rw[hL];exact p.Nj i
 have e2:jk M=aH (KW (p.gG i) aF ed):=by
  rw[I9 hp2 (λn hn=>by
   rcases (hm2 n).1 hn with h|h
   exact((hmem n).1 h).1
   omega)]
  exact Ew λn hn=>by
   rw[ae4,decide_eq_true_iff,hm2,hmem];unfold KW;rw[ae5,sW,ac8,decide_eq_true_iff,decide_eq_true_iff,<-hx.1,<-hx.2.1];exact⟨λh=>h.elim (λh=>ack h.2) acm,λh=>h.elim (λh=>ack ⟨hn,h⟩) acm⟩
 exact⟨by rw[e1,e2],hb⟩
def Zx (z:Nat->Bool)(aF ed:Nat):(aH (KW z aF ed):Int)<=3000/\(aH z:Int)<=3000:=by
 have h1:=kg (KW z aF ed);have h2:=kg z;omega
def Ue {aF:Nat}(h:o<ed)(h2:ed<=67968)(_h3:aF<=o):∃n a kk d:Nat,(o:Int).tdiv 64=(n:Int)/\(o:Int)/64=(n:Int)/\wrap64 (n:Int)=(n:Int)/\adk.wrap (n:Int)=(n:Int) /\
  (o:Int).tmod 64=(a:Int)/\(o:Int)%64=(a:Int)/\(0:Int)<=(a:Int)/\(a:Int)<=64 /\
  adk.wrap ((o:Int)+(kk:Int))=((o+kk:Nat):Int)/\(0:Int)<=(kk:Int)/\o-aF=d/\(kk:Int)<=((ed-o:Nat):Int)/\a<=64 /\
  (n=o/64/\a=o%64/\kk=min (64-a) (ed-o)/\d=o-aF/\n<1062/\0<kk/\a<64):=by
 refine⟨o/64,o%64,min (64-o%64) (ed-o),o-aF,?_,aa,IntWalk.wrap64_in _ aa,adl _ aa,?_,aa,aa,aa,?_,aa,rfl,aa,aa,rfl,rfl,rfl,rfl,aa,aa,aa⟩;rw[ae3 aa];omega;rw[Int.tmod_eq_emod_of_nonneg aa];omega;rw[adl _ aa];omega
def Uf {aF:Nat}(h:aF+l.length=ed)(hd:d=o-aF)(ho:aF<=o):(l.drop d).length=ed-o:=by
 rw[adt];omega
def aa5 {aF:Nat}(h:aF+l.length=ed)(hd:d=o-aF)(ho:aF<=o)(hk:k=min (64-a) (ed-o)):k=min (64-a) (l.length-d):=by
 rw[hk,show ed-o=l.length-d by omega]
variable{n:Nat}
def ad8 (h:k=min (64-a) n):k=min n (64-a):=by rw[h,Nat.min_comm]
def ad9 (h:k=min (64-a) n)(ha:a<64):a+k<=64:=aa
def Ug (h:k=min (64-a) n):k<=n:=aa
def aea {c:Nat}(ha:a<64)(hc:64<=c):¬c=a:=aa
def Zy {aF:Nat}(h:aF+l.length=ed)(ho:o<ed)(hk:k=min (64-a) (ed-o)):o+k<=aF+l.length:=aa
def KY {b0 o0 c aF:Nat}(h:aF+l.length=ed)(hd:d=o-aF)(ho:aF<=o):acK.slice (some ⟨b0,o0+d+k,none⟩) (ed-o-k) (c-d-k)=aco (some ⟨b0,o0+(o+k-aF),none⟩) (aF+l.length-(o+k)) (c-(o+k-aF)):=by
 rw[show o0+d+k=o0+(o+k-aF) by omega,show ed-o-k=aF+l.length-(o+k) by omega,show c-d-k=c-(o+k-aF) by omega]
def Xv {c aF m:Nat}(h:aF+l.length=ed)(hd:d=o-aF)(ho:aF<=o)(hk:k=min (64-a) (ed-o))(hm:m=l.length)(hc:m<=c)(hcm:c-d=k):¬o+k<aF+l.length:=aa
def Xw (a b:Nat):max (a:Int) (b:Int)=((max a b:Nat):Int):=aa
def Nl (h:o<ed)(hk:0<k):ed-(intOf (vi ((o+k:Nat):Int))).toNat<ed-(intOf (vi (o:Int))).toNat:=by
 simp[intOf];omega
def oM (h:PQ aA w q K p)(is:Nat->PI.bF)(hF:o6 p is)(j aF:Nat)(l:List Nat)(b0 o0 c:Nat)(hr:dx aA w (some ⟨b0,o0,none⟩) l)(hc:l.length<=c)(hl:1<=l.length/\l.length<=1024)(hoff:aF+l.length<=67968) :
  Calls prog 12 #[ptr q,dS (is j),vi aF,aco (some ⟨b0,o0,none⟩) l.length c] w (mU aA w q K p is j aF l):=by
 obtain⟨k,hk,hkk⟩:=h.iN;have Dj:=az hk;have jU:Hid (k<w.heap.size):=az (h.lt _ hkk);have H:=az h;have HR:=az hr;have hw:=hF.wf j;have HWF:=az hw;have qL:=az (ae7 (p.BR (is j)) (p.Nj (is j)));have HST:=az (λhroom=>BS.start hF j aF l hroom);have lX:=az hr.row.small;have HI6:=az (hF.six j);have Pq:=az (ae7 hl (ae7 hoff hc));clear hk hkk h hF hr hw;obtain⟨m,hm⟩:∃m,m=l.length:=⟨_,rfl⟩;obtain⟨ed,Zn⟩:∃e,e=aF+m:=⟨_,rfl⟩;have HM:=az hm;have O7:=az Zn;rw[<-hm];rw[<-hm]at hl hc hoff;have c1:¬(aF:Int)<0:=aa;have c2:¬(1024:Int)<(m:Int):=aa
 have c3:adk.wrap (67968-(m:Int))=67968-(m:Int):=adl _ aa;have c4:¬(67968-(m:Int)<(aF:Int)):=aa;have c5:¬(m:Int)=0:=aa;have c6:adk.wrap ((aF:Int)+(m:Int))=(ed:Int):=by rw[adl _ aa];omega
 generalize hii:is j=i at*;have yD:=az hii;clear hii;obtain⟨kd,ln,sz,dl,sg,db⟩:=i;obtain⟨d0,d1,d2,d3,d4,d5,hdl⟩:=six (l:=dl) HI6.o;subst hdl;simp only[dS,j4];clear hm Zn hl hc hoff;go_in;go_upto_region 1 with fail;refine ny λw1 HB1 lD HR1=>?_
 obtain⟨x,hx⟩:∃x,x=w.heap.size:=⟨_,rfl⟩;rw[<-hx]at lD HR1 ⊢;have Nn:=az hx;clear hx;have jS:Hid (∀W,gD k w W->Calls prog 28 #[ptr q] W λe w'=>e=ab4 (vi 64)/\w'=W):=az (λW hb=>kR (H.o.OW Dj.o hb));have vz:Hid (gD k w w1):=az (gD.of_below HB1.o);go_wp2_with fail;refine(jS.o _ vz.o).mono ?_;rintro e w2 ⟨rfl,rfl⟩;go_wp2_with fail;refine kD.mono ?_;rintro e w3 ⟨rfl,rfl⟩;go_wp2_with fail;refine(jS.o _ vz.o).mono ?_;rintro e w4 ⟨rfl,rfl⟩;clear c1 c2 c3 c4 c5;obtain⟨xo,e64,e63,yo,A1,A2,A3,A4,B1,B2,B3,B4,B5,B6,hxy⟩:=Xu (aF:=aF) (ed:=ed) (by have h1:=Pq.o;have h2:=O7.o;have h3:=HM.o;omega) (by have h2:=O7.o;omega)
 have HXY:=az hxy;clear hxy;have Oe:Hid (∀W,gD k w W->Calls prog 30 #[ptr q,.agg #[vi kd,vi ln,vi sz,vi d0,vi d1,vi d2,vi d3,vi d4,vi d5,vi sg,vi db]] W λe w'=>∃a c,e=ab4 (aco a (p.eO ⟨kd,ln,sz,[d0,d1,d2,d3,d4,d5],sg,db⟩).length c)/\jC w' a ((p.eO ⟨kd,ln,sz,[d0,d1,d2,d3,d4,d5],sg,db⟩).map λ(n:Nat)=>(n:Int))/\gD k W w'):=az (λW hb=>by
  refine(oI (H.o.OW Dj.o hb) (H.o.j6 Dj.o hb) _ HWF.o).mono ?_
  rintro e w' ⟨v,rfl,h1,h2⟩
  rw[qL.o.1]at h1
  obtain⟨a,c,hv,hr,_⟩:=h1.zy
  rw[abT]at hv
  exact⟨a,c,by rw[hv],hr,h2⟩)
 obtain⟨L,hL⟩:∃L,L=p.eO ⟨kd,ln,sz,[d0,d1,d2,d3,d4,d5],sg,db⟩:=⟨_,rfl⟩;rw[<-hL]at Oe;have Kj:=az hL;clear hL;have HMO:=az (λW a c hr=>KX (p:=p) (i:=⟨kd,ln,sz,[d0,d1,d2,d3,d4,d5],sg,db⟩) Kj.o W a c hr aF ed xo yo HXY.o);obtain⟨mo,hmo⟩:∃m:Int,m=(aH (KW (p.gG ⟨kd,ln,sz,[d0,d1,d2,d3,d4,d5],sg,db⟩) aF ed):Int)-aH (p.gG ⟨kd,ln,sz,[d0,d1,d2,d3,d4,d5],sg,db⟩):=⟨_,rfl⟩;rw[<-hmo]at HMO;have HMQ:=az hmo;clear hmo;generalize L.length=Ln at*;have nJ:=lD;clear lD;have HP4:Hid (gD k w4 w4):=az (gD.of_below ak);go_upto_region 11 with fail;go_region_held3 (λW=>(W.cell? ⟨x,0,none⟩=some (vi kd)/\W.cell? ⟨x,1,none⟩=some (vi ln)/\W.cell? ⟨x,2,none⟩=some (vi sz)/\W.cell? ⟨x,3,none⟩=some (vi d0)/\W.cell? ⟨x,4,none⟩=some (vi d1)/\W.cell? ⟨x,5,none⟩=some (vi d2)/\W.cell? ⟨x,6,none⟩=some (vi d3)/\W.cell? ⟨x,7,none⟩=some (vi d4)/\W.cell? ⟨x,8,none⟩=some (vi d5)/\W.cell? ⟨x,9,none⟩=some (vi sg)/\W.cell? ⟨x,10,none⟩=some (vi db)))
  (exact nT (by repeat (with_reducible first|exact nJ.o|exact xR.o|exact BU.o|(refine aD.drew ?_))))
  (first
   |(go_at_call 29;have hx5:=xR.o;refine(HMO.o _ _ _ (by repeat (with_reducible first | exact Uh.o | (refine ac1 ?_)))).mono ?_;rintro e w6 ⟨rfl,hb6⟩;have Ps:Hid (gD k w w6):=az (gD.old (by repeat (with_reducible first | exact Ex.o | (refine gD.dr ?_))) hb6);have HP6:Hid (gD k w4 w6):=az (gD.old (by repeat (with_reducible first | exact HP5.o | (refine gD.dr ?_))) hb6);have BU:Hid (aD w6 x 29 #[vi kd,vi ln,vi sz,vi d0,vi d1,vi d2,vi d3,vi d4,vi d5,vi sg,vi db]):=az (aD.old (by repeat (with_reducible first | exact xR.o | (refine aD.drew ?_))) hb6))
   |(go_at_call 30;refine(Oe.o _ (by repeat (with_reducible first | exact vz.o | (refine gD.dr ?_)))).mono ?_;rintro e w5 ⟨a5,c5,rfl,qJ,hq5⟩;have Uh:=az qJ;have Ex:Hid (gD k w w5):=az (gD.trans (by repeat (with_reducible first | exact vz.o | (refine gD.dr ?_))) hq5);have HP5:Hid (gD k w4 w5):=az (gD.trans (by repeat (with_reducible first | exact HP4.o | (refine gD.dr ?_))) hq5);have xR:Hid (aD w5 x 29 #[vi kd,vi ln,vi sz,vi d0,vi d1,vi d2,vi d3,vi d4,vi d5,vi sg,vi db]):=az (aD.aJ (cs:=#[vi kd,vi ln,vi sz,vi d0,vi d1,vi d2,vi d3,vi d4,vi d5,vi sg,vi db]) (by repeat (with_reducible first | exact nJ.o | (refine aD.drew ?_))) hq5.1 (λe=>by have h1:=jU.o;have h2:=Nn.o;omega)))
   |(go_at_call 28;refine(jS.o _ (by repeat (with_reducible first | exact vz.o | (refine gD.dr ?_)))).mono ?_;rintro e w9 ⟨rfl,rfl⟩))
 clear qJ hq5 A1 A2 A3 A4 B1 B2 B3 B4 B5 B6 xR nJ Uh Ex HMO Oe;have GM:Hid (aD w6 (x+1) 29 Te):=az (HR1.o.aJ HP6.o.1 (λe=>by have h1:=jU.o;have h2:=Nn.o;omega));have Ja:=az (fP (H.o.OW Dj.o Ps.o));obtain⟨rm,hrm⟩:∃rm,rm=p.aK:=⟨_,rfl⟩;rw[<-hrm]at Ja;have Zz:=az hrm;clear hrm;clear HR1 HP4 HP5;go_upto_region 12 with fail;have Wd:Hid (∀W,gD k w W->Calls prog 21 #[ptr q] W λe w'=>e=ab4 (vi rm)/\acN W.heap.size W w'):=az (λW hb=>by rw[Zz.o];exact fP (H.o.OW Dj.o hb));clear Ja;by_cases hsp:rm<mo
 ·go_wp2_with fail;refine(Wd.o _ Ps.o).mono ?_;rintro e w7 ⟨rfl,tZ⟩;have HQ7:=az (Ps.o.old tZ);have BG:=az (BU.o.old tZ);have Bz:=az (GM.o.old tZ);have WQ:=az hsp;clear tZ BU GM Ps Wd;obtain⟨r,hrr⟩:∃r,r=x+1:=⟨_,rfl⟩;have HRR:=az hrr;rw[<-hrr]at Bz ⊢;clear hrr;obtain⟨z0,fz0,z1,fz1,z2,fz2,z3,fz3,z4,fz4,z5,fz5,z6,fz6,z7,fz7,z8,fz8,z9,fz9,Ui,fz10⟩:=pJ Bz.o;go_wp2_with fail;obtain⟨hf,hw⟩:=iA (vi 0) (vi 0) (vi 0) (vi 0) (vi 0) (vi 0) (vi 0) (vi 0) (vi 0) (vi 0) (vi 0) Bz.o;refine ac5 (bZ hf _ rfl rfl) rfl (mU.space ?_ (bM.pM H.o Dj.o (HQ7.o.far (hw.mono (λn _ e=>by have h1:=HRR.o;have h2:=Nn.o;omega)) jU.o)))
  rw[yD.o,<-HM.o,<-O7.o,<-HMQ.o,<-Zz.o];exact WQ.o
 go_wp2_with fail;refine(Wd.o _ Ps.o).mono ?_;rintro e w7 ⟨rfl,tZ⟩;have HQ7:=az (Ps.o.old tZ);have BG:=az (BU.o.old tZ);have Bz:=az (GM.o.old tZ);have WQ:=az hsp;clear tZ BU GM Ps Wd;obtain⟨x0,x1,x2,x3,x4,x5,x6,x7,x8,x9,JW⟩:=nT BG.o;go_wp2_with fail;clear x0 x1 x2 x3 x4 x5 x6 x7 x8 x9 JW;refine mD λw8 wX TG=>?_
 have Ei:=az (Bz.o.old wX.o);have We:=az (HQ7.o.old wX.o);have Dt:Hid (w.heap.size<=w7.heap.size/\w.heap.size<=x+1):=az ⟨HQ7.o.1.size,by have:=Nn.o;omega⟩;generalize w7.heap.size=f at*;generalize x+1=r at*;have mV:Hid (zA aA w q K f r (is j) Te w8 K p):=az ⟨(bM.pM H.o Dj.o We.o).go,by rw[yD.o];exact TG.o,Ei.o,λe=>by have h1:=H.o.lt _ e;have h2:=Dt.o;omega,λe=>by have h1:=H.o.lt _ e;have h2:=Dt.o;omega,Dt.o⟩;have CY:Hid (BS p is j aF l aF p (is j)):=az (by
  rw[yD.o]
  refine HST.o ?_
  rw[<-HM.o,<-O7.o,<-HMQ.o,<-Zz.o]
  have h1:=WQ.o
  omega)
 clear TG wX Ei We BG Bz HQ7;go_loopw [2,3] (λv2 v3 wr=>aij aA w q K p is j aF l f r b0 o0 c v2 v3 wr) (λv2 _ _=>ed-(intOf v2).toNat)
 case atStart=>exact⟨aF,K,p,is j,rfl,aj,by have:=Pq.o;omega,λ_=>by rw[Nat.sub_self,Nat.add_zero,Nat.sub_zero,HM.o,Nat.add_sub_cancel_left],mV,CY⟩
 case round =>
  clear mV CY;obtain⟨o,K1,p1,i1,rfl,ho1,ho2,hb,HS,HW⟩:=hrel;have he:aF+l.length=ed:=by rw[<-HM.o,<-O7.o]
  rw[he]at ho2 hb;by_cases hlt:o<ed
  ·obtain rfl:=hb hlt;have xS:Hid (aF<=o/\o<ed/\ed<=67968/\aF+l.length=ed/\m=l.length/\m<=c):=az ⟨ho1,hlt,by have:=Pq.o;omega,he,HM.o,by have h1:=Pq.o;have h2:=HM.o;omega⟩;have n1:(o:Int)<(ed:Int):=aa;clear hb he ho1 ho2 hlt;obtain⟨n,a,kk,d,C1,C2,C3,C4,D1,D2,D3,D4,E1,E2,E3,E4,E5,hna⟩:=Ue xS.o.2.1 xS.o.2.2.1 xS.o.1;have wD:=az hna;clear hna;rw[E3];have Xx:Hid (zA aA w q K f r i1 Te wr.drew K1 p1):=az (HS.o.old au);have Jb:Hid (p1.wf i1):=az (by have:=HW.o.fam.wf j;rwa[aS]at this);have HAT:=az (pG Xx.o.go.at_ i1 Jb.o Xx.o.file Xx.o.nf n (Nat.le_of_lt (adN wD.o.2.2.2.2.1 ag)))
   go_upto_region 16 with fail;go_region;clear HS;generalize wr.drew=w9 at*;go_wp2_with fail;refine HAT.o.mono ?_;rintro e Xy ⟨K2,rfl,hrd⟩;have Gc:=az (Xx.o.on hrd.go);clear hrd HAT Xx;obtain⟨p2,i2,hgv⟩:=Ga (p1.give i1 n);obtain⟨G,hcl,hcs,hW2⟩:=HW.o.step xS.o.1 (by rw[xS.o.2.2.2.1];exact xS.o.2.1) (by rw[xS.o.2.2.2.1];exact xS.o.2.2.1) lX.o (k:=kk) (by rw[xS.o.2.2.2.1,<-wD.o.2.1];exact wD.o.2.2.1);rw[<-wD.o.1,<-wD.o.2.1,<-wD.o.2.2.2.1,hgv]at hW2;rw[<-wD.o.1,hgv]at G hcl hcs;dsimp only at G hcl hcs hW2;have HGV:=az hgv;have HG:=az G;have FE:=az (ae7 hcl hcs)
   have HW2:=az hW2;have hal:(bW is j i1 j)=i1:=aS _ _ _;have GN:=az hal;clear hgv G hcl hcs hW2 hal;go_upto_if 99 with fail;go_cut [17] from 95 to 108 (λv17 wx=>∃K3,v17=vi (p2.at_ i2 n)/\Hid (zA aA w q K f r i2 Te wx K3 p2))
   case first =>
    obtain⟨A,hA⟩:∃A,A=p1.at_ i1 n:=⟨_,rfl⟩;rw[<-hA];by_cases hz:A=0
    ·have hz':p1.at_ (bW is j i1 j) n=0:=by rw[GN.o,<-hA];exact hz
     obtain⟨g1,g2,g3,g4⟩:=HG.o.may hz';obtain⟨g5,g6⟩:=HG.o.val hz';rw[GN.o]at g3 g4;have yU:p1.give i1 n=(p1.alloc p1.first).set i1 n p1.first.toNat:=by unfold Po.give;rw[if_pos (by rw[<-hA];exact hz)]
     rw[HGV.o]at yU;have Xz:=az (Ef Gc.o.go.at_ g1);obtain⟨v,hv⟩:∃v,v=p1.first.toNat:=⟨_,rfl⟩;rw[<-hv]at g2 g4 g5 g6 yU;have HVF:Hid (p1.first=(v:Int)):=az g6;rw[HVF.o]at Xz g3 g4 yU;have HV:=az (ae7 g2 (ae7 g3 (ae7 g4 (ae7 g5 yU))));have c1:((A:Int)==0)=true:=by simp[hz]
     clear g1 g2 g3 g4 g5 g6 yU hz' hA hz hv;go_wp2_with fail;refine Xz.o.mono ?_;rintro e w11 ⟨rfl,K8⟩;have xU:=az (Gc.o.on K8);have CZ:=az (MX xU.o.go.at_ i1 HV.o.2.1.p xU.o.file xU.o.nf (abX H.o.low xU.o.low.1) n v wD.o.2.2.2.2.1 HV.o.1 HV.o.2.2.1);clear K8 Xz Gc;go_wp2_with fail;refine CZ.o.mono ?_;rintro e w12 ⟨rfl,K3,hgg⟩;have aba:=az (xU.o.gg hgg);clear hgg CZ xU;go_wp2;go_meet;have h5:=HV.o.2.2.2.2;have hp:((p1.alloc (v:Int)).set i1 n v).1=p2:=by rw[<-h5]
     have hi:((p1.alloc (v:Int)).set i1 n v).2=i2:=by rw[<-h5]
     exact⟨K3,by rw[HV.o.2.2.2.1],az (by have h6:=aba.o;rwa[hp,hi]at h6)⟩
    have c1:((A:Int)==0)=false:=by simp[hz]
    have yU:p1.give i1 n=(p1,i1):=by unfold Po.give;rw[if_neg (by rw[<-hA];exact hz)]
    rw[HGV.o]at yU;injection yU with hp hi;have Bv:=az (ae7 hp (ae7 hi hA));clear hp hi hA hz;go_wp2;go_meet;exact⟨K2,by rw[Bv.o.1,Bv.o.2.1,Bv.o.2.2],by rw[Bv.o.1,Bv.o.2.1];exact Gc⟩
   case rest =>
    obtain⟨K3,rfl,ZA⟩:=hcut;clear Gc;have QU:Hid (p2.at_ i2 n≠0):=az HG.o.at_;have oC:Hid (p2.good (p2.at_ i2 n)):=az (by have:=HG.o.fam.good j (.dat n);rwa[aS]at this);have Pt:Hid (p2.cont i2 n=p2.get (p2.at_ i2 n:Nat)):=az (by unfold Po.cont;rw[if_neg QU.o]);have IU:=az (sS ZA.o.go.at_ (p2.at_ i2 n) (Nat.le_of_lt (adN oC.o.1 ag)) (oC.o.2 QU.o));clear HG HGV GN Jb HW;generalize p2.at_ i2 n=A2 at*;go_wp2_with fail;refine IU.o.mono ?_;rintro e w13 ⟨K4,g7,c7,rfl,Fw,yO,Tv,Xn,El⟩;rw[<-Pt.o]at Fw;obtain⟨k2,hk2,Uj⟩:=ZA.o.go.at_.iN
    have hrd:=El.rd k2 hk2;have hsrc:=(El.go.row ZA.o.go.at_ (ZA.o.go.row H.o HR.o)).drop d;have hdl:=Uf xS.o.2.2.2.1 wD.o.2.2.2.1 xS.o.1;obtain⟨w14,hrun,abb,hgr⟩:=pz Fw FE.o.1.symm a E5 hsrc.row (c-d) (c7-a);rw[aa4 (aa5 xS.o.2.2.2.1 wD.o.2.2.2.1 xS.o.1 wD.o.2.2.1)]at abb;rw[hdl,<-ad8 wD.o.2.2.1]at hrun;have lF:Hid (vH 23 23 3 (aco (some ⟨g7,a,none⟩) (64-a) (c7-a)) (aco (some ⟨b0,o0+d,none⟩) (ed-o) (c-d)) w13 (vi (kk:Nat)) w14):=az hrun;have Uk:gD k2 wc w14:=hrd.far ⟨hgr.os,hgr.tape,hgr.output,hgr.size,λn hn e=>hgr.block n hn (λe2=>e (by injection e2 with e2;rw[e2];exact yO))⟩ (ZA.o.go.at_.lt _ Uj)
    have La:=az (ZA.o.on (bM.pM ZA.o.go.at_ hk2 Uk).go);have hln:=Ev (a:=a) (k:=kk) (l:=l.drop d) FE.o.1 (ad9 wD.o.2.2.1 wD.o.2.2.2.2.2.2) (by rw[hdl];exact Ug wD.o.2.2.1);have hsm:=yT (a:=a) (k:=kk) (l:=l.drop d) FE.o.2 (λy hy=>lX.o y (List.mem_of_mem_drop hy));have Bq:=az (FH La.o.go.at_ A2 (oC.o.2 QU.o) (some ⟨g7,0,none⟩) c7 _ (Own.zu abb hln hsm) hln);have q1:¬c7=a:=aea wD.o.2.2.2.2.2.2 Tv;have q2:a<=c7:=abX E5 Tv;have q3:(a:Int)<=(c7:Int):=Int.ofNat_le.2 q2;clear Fw yO Tv Xn El hk2 Uj hrd hsrc hrun abb hgr Uk hln hsm IU ZA Pt hdl
    go_wp2_with (refine wpList_copy_run rfl (.tmp 121) (.tmp 122) rfl rfl rfl lF.o ?_);refine Bq.o.mono ?_;rintro e w15 ⟨rfl,aed⟩;have aee:=az (La.o.on aed);clear aed Bq lF La q1 q2 q3;have q4:kk<=ed-o:=Ug wD.o.2.2.1;by_cases hcm:c-d=kk
    ·go_wp2;exact⟨⟨o+kk,K3,_,i2,rfl,abX xS.o.1 (Nat.le_add_right _ _),Zy xS.o.2.2.2.1 xS.o.2.1 wD.o.2.2.1,λhh=>absurd hh (Xv xS.o.2.2.2.1 wD.o.2.2.2.1 xS.o.1 wD.o.2.2.1 xS.o.2.2.2.2.1 xS.o.2.2.2.2.2 hcm),aee,HW2⟩,Nl xS.o.2.1 wD.o.2.2.2.2.2.1⟩
    go_wp2;go_roundw
    case rel=>exact⟨o+kk,K3,_,i2,rfl,abX xS.o.1 (Nat.le_add_right _ _),Zy xS.o.2.2.2.1 xS.o.2.1 wD.o.2.2.1,λ_=>KY xS.o.2.2.2.1 wD.o.2.2.2.1 xS.o.1,aee,HW2⟩
    case measure=>exact Nl xS.o.2.1 wD.o.2.2.2.2.2.1
  have hoe:o=ed:=Nat.le_antisymm ho2 (Nat.le_of_not_lt hlt);subst hoe;have c5:¬(o:Int)<(o:Int):=Int.lt_irrefl _;have h6:i1.direct.length=6:=by have:=HW.o.fam.six j;rwa[aS]at this
  have hin:=HW.o.ino.2.2;rw[yD.o]at hin;have HWP:Hid (∀w2,bG aA w q K w2 K1 p1->mU aA w q K p is j aF l (ab4 (adg #[dS {i1 with size:=max i1.size o},vi 0])) w2):=az (λw2 hg=>by
   have h1:=mU.done (is:=is) (j:=j) (l:=l) (aF:=aF) (i':=i1) (by
    rw[yD.o,<-HM.o,<-O7.o,<-HMQ.o,<-Zz.o]
    exact Int.not_lt.2 WQ.o) hg (by rw[he];exact HW.o)
   rw[yD.o,he,<-hin]at h1
   exact h1)
  clear hb he ho1 ho2 hlt hin HW;obtain⟨ka,la,za,dl,sa,da⟩:=i1;obtain⟨e0,e1,e2,e3,e4,e5,hdl⟩:=six (l:=dl) h6;subst hdl;obtain⟨mx,hmx⟩:∃mx,mx=max za o:=⟨_,rfl⟩;have Xg:max (za:Int) (o:Int)=(mx:Int):=by rw[hmx];exact Xw _ _
  rw[<-hmx]at HWP;clear hmx h6;have y3:wr.cell? ⟨f,3,none⟩=some (vi za):=HS.o.file.cell 3;have fy3:=HS.o.file.frozen 3;have vK:Hid (aD (wr.setCell ⟨f,3,none⟩ (vi mx)) f 74 (fileC q ⟨ka,la,mx,[e0,e1,e2,e3,e4,e5],sa,da⟩)):=az (HS.o.file.bB 3 (vi mx));have HS2:=az (HS.o.ad7 (i':=⟨ka,la,mx,[e0,e1,e2,e3,e4,e5],sa,da⟩) H.o ((aP.refl _ wr).setCell (F:=λn=>n=f) (p:=⟨f,3,none⟩) (ack rfl) (vi mx)) vK.o);clear HS vK;go_upto_region 28 with fail;change Code.wp _ _ _ _ (wr.setCell ⟨f,3,none⟩ (vi mx));generalize wr.setCell ⟨f,3,none⟩ (vi mx)=w2 at*;clear y3 fy3 Xg c5;obtain⟨y1,y2,y3,y4,y5,y6,y7,y8,y9,y10,y11⟩:=ffacts HS2.o.file
  obtain⟨z0,fz0,z1,fz1,z2,fz2,z3,fz3,z4,fz4,z5,fz5,z6,fz6,z7,fz7,z8,fz8,z9,fz9,Ui,fz10⟩:=pJ HS2.o.res;go_wp2_with fail;obtain⟨hf,hw⟩:=iA (vi ka) (vi la) (vi mx) (vi e0) (vi e1) (vi e2) (vi e3) (vi e4) (vi e5) (vi sa) (vi da) HS2.o.res;exact ac5 (bZ hf _ rfl rfl) rfl (HWP.o _ (HS2.o.cO H.o hw hf).go)
end
end po
namespace df
open po
def pg (z:Nat->Bool):List Nat:=(ac9 1062).filter z
def Gd (z:Nat->Bool):(pg z).Pairwise (·<·):=List.pairwise_lt_range.filter _
variable{z:Nat->Bool}{n:Nat}
def Gf :n∈pg z↔n<1062/\z n=true:=by
 unfold pg;rw[afi,List.mem_range]
def Gg (z:Nat->Bool):(pg z).length<=1062:=abX (List.length_filter_le _ _) ai
def post (z:Nat->Bool)(n:Nat):List Nat:=((ac9 (1061-n)).map (λk=>n+1+k)).filter z
def pre (z:Nat->Bool)(n:Nat):List Nat:=(ac9 n).filter z
def oN (z:Nat->Bool)(hn:n<1062):pg z=pre z n++((if z n=true then [n] else [])++post z n):=by
 unfold pg pre post;have h1:ac9 1062=ac9 n++([n]++(ac9 (1061-n)).map (λk=>n+1+k)):=by
  have e:1062=(n+1)+(1061-n):=aa;rw[show ac9 1062=ac9 ((n+1)+(1061-n)) by rw[<-e],List.range_add,ae2,adM]
 have h2:[n].filter z=(if z n=true then [n] else []):=by
  rw[List.filter_cons,List.filter_nil]
 rw[h1,ae8,ae8,h2]
variable{x:Nat}
def abd (h:x∈pre z n):x<n:=List.mem_range.1 (afi.1 h).1
def XA (h:x∈post z n):n<x:=by
 obtain⟨k,_,rfl⟩:=List.mem_map.1 (afi.1 h).1;omega
def GX (z:Nat->Bool)(n:Nat):Nat->Bool:=λm=>z m||m==n
def Ul (z:Nat->Bool)(n:Nat):GX z n n=true:=by unfold GX;simp
def Um (h:z n=true):GX z n=z:=by
 funext m;unfold GX;by_cases e:m=n;rw[e,h];rfl;rw[show (m==n)=false from beq_false_of_ne e,Bool.or_false]
def xV {m:Nat}(e:m≠n):GX z n m=z m:=by
 unfold GX;rw[show (m==n)=false from beq_false_of_ne e,Bool.or_false]
def abe (hn:n<1062):pg (GX z n)=pre z n++n::post z n:=by
 rw[oN _ hn,if_pos (Ul z n)];have h1:pre (GX z n) n=pre z n:=by
  unfold pre;refine List.filter_congr λx hx=>xV ?_
  have:=List.mem_range.1 hx;omega
 have h2:post (GX z n) n=post z n:=by
  unfold post;refine List.filter_congr λx hx=>xV ?_
  obtain⟨k,_,rfl⟩:=List.mem_map.1 hx;omega
 rw[h1,h2];rfl
def row (b:Nat->Nat)(n:Nat):List Nat:=(ac9 64).map λx=>b (64*n+x)
def wE (b:Nat->Nat)(n:Nat):(row b n).length=64:=by unfold row;simp
def sZ (b:Nat->Nat)(n:Nat)(h:x<64):(row b n).getD x 0=b (64*n+x):=by
 unfold row;rw[aah,List.getElem?_map,List.getElem?_range h];rfl
def Lb {l:List Nat}{b:Nat->Nat}(hl:l.length=64)(h:∀x,x<64->l.getD x 0=b (64*n+x)):l=row b n:=by
 refine List.ext_getElem (by rw[hl,wE]) λx h1 h2=>?_
 have:=h x aa;rw[<-sZ b n aa]at this;rwa[aah,aah,aaj h1,aaj h2]at this
structure DF where
 size:Nat
 z:Nat->Bool
 b:Nat->Nat
structure DF.ok (F:DF):Prop where
 size:F.size<=67968
 there:∀n,F.z n=true->n<1062
 zero:∀x,F.z (x/64)=false->F.b x=0
 small:∀x,F.b x<256
def DF.none_:DF:=⟨0,λ_=>false,λ_=>0⟩
def DF.Np:DF.none_.ok:=⟨Nat.zero_le _,λn h=>(by cases h),λ_ _=>rfl,λ_=>Nat.zero_lt_succ _⟩
def Gh:pg (λ_=>false)=[]:=by
 unfold pg;exact List.filter_eq_nil_iff.2 (λa _=>ai)
def DF.with_ (F:DF)(n:Nat):DF:={F with z:=GX F.z n}
def DF.turn (F:DF)(x v:Nat):DF:={F with b:=λy=>if y=x then v else F.b y}
variable{F:DF}
def DF.ok.with_ (h:F.ok)(hn:n<1062):(F.with_ n).ok:=by
 refine⟨h.size,λm hm=>?_,λx hx=>h.zero x ?_,h.small⟩;by_cases e:m=n;omega;have:GX F.z n m=true:=hm;rw[xV e]at this;exact h.there m this;have:GX F.z n (x/64)=false:=hx;unfold GX at this;exact(Bool.or_eq_false_iff.1 this).1
def DF.ok.turn (h:F.ok){v:Nat}(hx:F.z (x/64)=true)(hv:v<256):(F.turn x v).ok:=by
 refine⟨h.size,h.there,λy hy=>?_,λy=>?_⟩;have:F.z (y/64)=false:=hy;show (if y=x then v else F.b y)=0;rw[if_neg (λe=>by rw[e,hx]at this;cases this)];exact h.zero y this;show (if y=x then v else F.b y)<256;split;exact hv;exact h.small y
def lvl (m:Nat):Nat:=if m<6 then 0 else if m<38 then 1 else 2
def fst_ (m:Nat):Nat:=if m<6 then m else if m<38 then m-6 else (m-38)/32
def XB (m:Nat):Nat:=if m<6 then 0 else if m<38 then 0 else (m-38)%32
def zk (l:List Nat)(k:Nat):Nat->Bool:=λm=>decide (m∈l.take k)
variable{k:Nat}
def Lc {l:List Nat}(hr:l.Pairwise (·<·))(hl:∀n∈l,n<1062)(hk:k<l.length){wl wf:Nat}(hw:(k=0->wl=0)/\(0<k->wl=lvl (l.getD (k-1) 0)/\wf=fst_ (l.getD (k-1) 0))) :
  aH (zk l (k+1))=aH (zk l k)+1+(if lvl (l.getD k 0)≠0/\wl≠lvl (l.getD k 0) then 1 else 0)+(if lvl (l.getD k 0)=2/\(wl≠2\/wf≠fst_ (l.getD k 0)) then 1 else 0):=by
 have hm:l.getD k 0=l[k]:=by simp[afh,hk]
 rw[hm];have hlt:∀x∈l.take k,x<l[k]:=λx hx=>by
  obtain⟨i,hi,e⟩:=List.getElem_of_mem hx;rw[acX]at hi;rw[List.getElem_take]at e;have:=(aeo.1 hr) i k aa hk aa;omega
 have hle:∀x∈l.take k,0<k/\x<=l.getD (k-1) 0:=λx hx=>by
  obtain⟨i,hi,e⟩:=List.getElem_of_mem hx;rw[acX]at hi;rw[List.getElem_take]at e;have hg:l.getD (k-1) 0=l[k-1]'(by omega):=by simp[afh,show k-1<l.length by omega]
  refine⟨aa,?_⟩;rw[hg];by_cases c:i=k-1;subst c;omega;have:=(aeo.1 hr) i (k-1) aa aa aa;omega
 have hin:0<k->l.getD (k-1) 0∈l.take k:=λh=>by
  have hg:l.getD (k-1) 0=l[k-1]'(by omega):=by simp[afh,show k-1<l.length by omega]
  rw[hg];exact List.mem_take_iff_getElem.2 ⟨k-1,aa,rfl⟩
 have hz0:zk l k l[k]=false:=decide_eq_false (λh=>Nat.lt_irrefl _ (hlt _ h));have hz:∀m,zk l (k+1) m=(zk l k m||m==l[k]):=λm=>by
  unfold zk;rw[ae4,decide_eq_true_iff,ae5,decide_eq_true_iff,beq_iff_eq,List.take_add_one,List.mem_append];rw[aaj hk];simp
 rw[yS (hl _ (aff hk)) hz0 hz];obtain⟨m,he⟩:∃m,m=l[k]:=⟨_,rfl⟩;have hm2:m<1062:=by rw[he];exact hl _ (aff hk)
 obtain⟨L,hL⟩:∃L,L=l.getD (k-1) 0:=⟨_,rfl⟩;rw[<-he]at hlt ⊢;rw[<-hL]at hle hin hw;have hone:6<=m->m<38->(iU (zk l k)=true↔0<k/\6<=L):=λh1 h2=>by
  unfold iU;rw[bR];constructor;rintro⟨b,hb,e⟩;have:=hle _ (of_decide_eq_true e);omega;rintro⟨h3,h4⟩;have h5:=hin h3;have:=hlt _ h5;exact⟨L-6,aa,decide_eq_true (by rw[show 6+(L-6)=L by omega];exact h5)⟩
 have BL:∀a,38<=m->a=(m-38)/32->(dU (zk l k) a=true↔0<k/\38<=L/\(L-38)/32=a):=λa h1 h2=>by
  unfold dU;rw[bR];constructor;rintro⟨b,hb,e⟩;have h3:=of_decide_eq_true e;have:=hle _ h3;have h4:=hlt _ (hin this.1);omega;rintro⟨h3,h4,h6⟩;have h5:=hin h3;exact⟨(L-38)%32,aa,decide_eq_true (by rw[show 38+32*a+(L-38)%32=L by omega];exact h5)⟩
 have Dr:38<=m->(iC (zk l k)=true↔0<k/\38<=L):=λh1=>by
  unfold iC;rw[bR];constructor;rintro⟨a,ha,e⟩;unfold dU at e;obtain⟨b,hb,e⟩:=bR.1 e;have:=hle _ (of_decide_eq_true e);omega;rintro⟨h3,h4⟩;have h5:=hin h3;have:=hlt _ h5;refine⟨(L-38)/32,aa,?_⟩;unfold dU;exact bR.2 ⟨(L-38)%32,aa,decide_eq_true (by rw[show 38+32*((L-38)/32)+(L-38)%32=L by omega];exact h5)⟩
 have hLm:0<k->L<m:=λh=>hlt _ (hin h)
 rcases Nat.lt_or_ge m 6 with c1|c1;have e1:lvl m=0:=by unfold lvl;rw[if_pos c1]
 unfold pR;rw[if_pos c1,e1];simp
 ·rcases Nat.lt_or_ge m 38 with c2|c2
  ·have e1:lvl m=1:=by unfold lvl;rw[if_neg aa,if_pos c2]
   unfold pR;rw[if_neg aa,if_pos c2,e1];have h1:=hone c1 c2;have hwl:wl=1↔0<k/\6<=L:=by
    rcases Nat.eq_zero_or_pos k with h0|h0;rw[hw.1 h0];omega;have h2:=hLm h0;rw[(hw.2 h0).1];unfold lvl;split;omega;rw[if_pos aa];omega
   by_cases h2:iU (zk l k)=true;rw[h2,if_neg (by rw[hwl.2 (h1.1 h2)];simp),if_neg ai];rfl
   ·rw[if_pos ⟨ag,λe=>h2 (h1.2 (hwl.1 e))⟩,if_neg ai];rw[afg]at h2;rw[h2];generalize aH (zk l k)=T;first|rfl|(simp;done)|trace_state
  have e1:lvl m=2:=by unfold lvl;rw[if_neg aa,if_neg aa]
  have e2:fst_ m=(m-38)/32:=by unfold fst_;rw[if_neg aa,if_neg aa]
  unfold pR;rw[if_neg aa,if_neg aa,e1,e2];have h1:=Dr c2;have h3:=BL _ c2 rfl;have hwl:wl=2↔0<k/\38<=L:=by
   rcases Nat.eq_zero_or_pos k with h0|h0;rw[hw.1 h0];omega;rw[(hw.2 h0).1];unfold lvl;split;omega;split<;>omega
  have hwf:0<k->38<=L->wf=(L-38)/32:=λh0 h4=>by
   rw[(hw.2 h0).2];unfold fst_;rw[if_neg aa,if_neg aa]
  by_cases h2:iC (zk l k)=true;have h4:=h1.1 h2;rw[h2,if_neg (by rw[hwl.2 h4];simp)];by_cases h5:dU (zk l k) ((m-38)/32)=true;rw[h5,if_neg (by rw[hwl.2 h4,hwf h4.1 h4.2,(h3.1 h5).2.2];simp)];rfl;rw[if_pos ⟨rfl,acm (λe=>h5 (h3.2 ⟨h4.1,h4.2,by rw[<-hwf h4.1 h4.2];exact e⟩))⟩];rw[afg]at h5;rw[h5];rfl
  ·have h6:wl≠2:=λe=>h2 (h1.2 (hwl.1 e))
   rw[if_pos ⟨ag,h6⟩,if_pos ⟨rfl,ack h6⟩];have h5:dU (zk l k) ((m-38)/32)=false:=by
    rw[<-afg];intro e;exact h2 (h1.2 ⟨(h3.1 e).1,(h3.1 e).2.1⟩)
   rw[afg]at h2;rw[h2,h5];generalize aH (zk l k)=T;first|rfl|(simp;done)|trace_state
def Ld (l:List Nat):aH (zk l 0)=0:=by
 have h0:zk l 0=λ_=>false:=by funext m;unfold zk;simp
 rw[h0];have h1:∀N,(ac9 N).any (λ_=>false)=false:=λN=>List.any_eq_false.2 (λ_ _=>ai);have h2:∀N,(ac9 N).countP (λ_=>false)=0:=λN=>List.countP_eq_zero.2 (λ_ _=>ai);have h3:dU (λ_=>false)=λ_=>false:=by funext a;unfold dU;exact h1 32
 unfold aH iU iC;rw[h3,h1,h2,h2];rfl
def Pv (z:Nat->Bool):aH (zk (pg z) (pg z).length)=aH z:=by
 refine Ew λn hn=>?_
 unfold zk;rw[List.take_length,ae4,decide_eq_true_iff,Gf];exact⟨λh=>h.2,λh=>⟨hn,h⟩⟩
open RowKit mgr ft pl
def fT:(prog.info? 23).map (λi=>(i.zero,i.size,i.bytes))=some (some (aco none 0 0),1,24):=ah
abbrev aR (w:acL)(b:Nat)(t:TypeId)(v:acK)(xs:List acK):Prop:=w.ownsRow b t 1 v xs.length xs
def kT (w:acL)(a:Option Addr)(xs:List acK):Prop:=xs=[]\/∃b o,a=some ⟨b,o,none⟩/\∀i,i<xs.length->w.cell? ⟨b,o+i,none⟩=xs[i]?
section
variable{w w':acL}{b0:Nat}{v:acK}{xs ys:List acK}{t:TypeId}
def aR.kept {row:Option Nat}(h:aR w b0 t v xs)(hg:w.grownBy w' row)(hn:∀r,row=some r->v.ownBlock≠some r):aR w' b0 t v xs :=
 acL.ownsRow.kept h hg (by
  cases hv:v.ownBlock with
  |none=>exact ack rfl
  |some g =>
   refine acm (λe=>?_)
   exact hn g e.symm hv)
def aR.old (h:aR w b0 t v xs)(hb:acN w.heap.size w w'):aR w' b0 t v xs :=
 aR.kept h (row:=none) (mP hb) (λr e=>by cases e)
def aR.lt (h:aR w b0 t v xs){g:Nat}(hg:v.ownBlock=some g):g<w.heap.size/\b0<=g/\∃cur,aD w g t cur:=by
 rcases h.2 with⟨rfl,_⟩|⟨g',cap,cur,rfl,hb,hh,_⟩;simp[acK.ownBlock]at hg;have:g'=g:=by simpa[acK.ownBlock] using hg
 subst this;have hb':aD w g' t cur:=hh;exact⟨hb'.lt,hb,cur,hb'⟩
def aR.nil (w:acL)(b:Nat)(t:TypeId):aR w b t (aco none 0 0) []:=acL.ownsRow_nil _ _ _ _
def aR.Le (h:aR w b0 t v xs):∃a c,v=aco a xs.length c/\kT w a xs/\xs.length<=c:=by
 have h':=h;rcases h'.2 with⟨rfl,h0⟩|⟨g,cap,cur,rfl,_,_,hnc,_⟩;have:xs=[]:=List.eq_nil_of_length_eq_zero h0;subst this;exact⟨none,0,rfl,ack rfl,aj⟩;refine⟨_,cap,rfl,acm ⟨g,0,rfl,λi hi=>?_⟩,hnc⟩;rw[Nat.zero_add,acL.ownsRow.cellAt h i aa]
variable{a:Option Addr}
def kT.old (h:kT w a xs)(hb:acN w.heap.size w w'):kT w' a xs:=by
 rcases h with h0|⟨b,o,rfl,h1⟩;exact ack h0;refine acm ⟨b,o,rfl,λi hi=>?_⟩;have:=h1 i hi;rw[aaj hi]at this ⊢;exact cell_below this hb
def kT.take (h:kT w a xs)(n:Nat):kT w a (xs.take n):=by
 rcases h with rfl|⟨b,o,rfl,h1⟩;exact ack ai;refine acm ⟨b,o,rfl,λi hi=>?_⟩;have hi':i<n/\i<xs.length:=by simpa[Nat.lt_min] using hi
 rw[h1 i hi'.2,ae9,if_pos hi'.1]
def kT.news {ad:Addr}(h:kT w (some ad) xs):∀j u,xs[j]?=some u->w.cell? (ad.add j)=some u:=by
 intro j u hu;rcases h with rfl|⟨b,o,he,h1⟩;simp at hu;injection he with he;subst he;rw[add_plain,h1 j (List.getElem?_eq_some_iff.1 hu).1];exact hu
def jC.ain {l:List Int}(h:kT w a (l.map vi)):jC w a l:=by
 rcases h with h0|⟨b,o,rfl,h1⟩;exact ack (List.map_eq_nil_iff.1 h0);refine acm ⟨b,o,rfl,λi hi=>?_⟩;rw[h1 i (by rw[abT];exact hi),List.getElem?_map,aaj hi];simp[afh,hi]
variable{ts:TypeId}{z:acK}{ui:Nat}
def kU (hu:prog.underlying ts=some (.slice t))(Lf:(prog.info? t).map (λi=>(i.zero,i.size,i.bytes))=some (some z,1,ui))(hz:z.cells.size=1)(hby:ui<=24)(hown:aR w b0 t v xs){c:Nat}
  (hr:kT w a ys) (h1c:∀u∈ys,u.oneCell'=true) (hn:xs.length+ys.length<=1000000) (hb:b0<=w.heap.size) :
  ∃v' w',eH ts ts ts v (.slice a ys.length c) w v' w'/\aR w' b0 t v' (xs++ys)/\w.grownBy w' v.ownBlock:=by
 obtain⟨i0,hi,hz0,hz1,hz2⟩:=info_parts Lf;cases a with
 |some ad =>
  obtain⟨v',w',h1,h2,h3,_⟩:=run_append_own_at (P:=prog) w b0 ts ts t i0 _ 1 ui hu hi hz0 hz1 hz2 hz aa v xs.length xs hown ad ys.length c ys aa hr.news h1c (by unfold maxLen;omega) (abX (Nat.mul_le_mul hn hby) ag) hb;refine⟨v',w',⟨h1⟩,?_,h3⟩;unfold aR;rw[acZ];exact h2
 |none =>
  have h0:ys=[]:=by
   rcases hr with h|⟨b,o,he,_⟩;exact h;cases he
  subst h0;refine⟨v,w,⟨?_⟩,by simpa using hown,acL.grownBy.refl w _⟩;rcases hown.2 with⟨rfl,h00⟩|⟨g,cap,cur,rfl,_,_,hnc,_⟩;simp[Builtin.append_,acQ hu,sizeOf,typeInfo,hi,Builtin.lenOf,Builtin.firstCells];simp[Builtin.append_,acQ hu,sizeOf,typeInfo,hi,Builtin.lenOf,Builtin.firstCells,hnc,storeCells]
def iM (w:acL)(a:Option Addr)(c:Nat)(xs:List acK):Prop:=(a=none/\xs=[]/\c=0)\/∃b o,a=some ⟨b,o,none⟩/\xs.length<=c/\∀i,i<xs.length->w.cell? ⟨b,o+i,none⟩=xs[i]?
def iM.old {c:Nat}(h:iM w a c xs)(hb:acN w.heap.size w w'):iM w' a c xs:=by
 rcases h with h0|⟨b,o,rfl,hc,h1⟩;exact ack h0;refine acm ⟨b,o,rfl,hc,λi hi=>?_⟩;have:=h1 i hi;rw[aaj hi]at this ⊢;exact cell_below this hb
def iM.toV {c:Nat}(h:iM w a c xs):kT w a xs:=by
 rcases h with⟨_,h0,_⟩|⟨b,o,rfl,_,h1⟩;exact ack h0;exact acm ⟨b,o,rfl,h1⟩
def iM.cap {c:Nat}(h:iM w a c xs):xs.length<=c:=by
 rcases h with⟨_,h0,_⟩|⟨b,o,rfl,hc,h1⟩;rw[h0];simp;exact hc
def Off (K:Nat->Prop)(w:acL)(a:Option Addr):Prop:=∀ad,a=some ad->ad.block<w.heap.size/\¬K ad.block
def Off.none (K:Nat->Prop)(w:acL):Off K w none:=λ_ e=>by cases e
variable{K:Nat->Prop}
def Off.old (h:Off K w a)(hb:acN w.heap.size w w'):Off K w' a:=λad e=>⟨adN (h ad e).1 hb.size,(h ad e).2⟩
def Off.go {K':Nat->Prop}(h:Off K w a)(hs:w.heap.size<=w'.heap.size)(hK:∀n,K' n->K n\/w.heap.size<=n):Off K' w' a:=λad e=>⟨adN (h ad e).1 hs,λk=>(hK _ k).elim (h ad e).2 (λk=>by have:=(h ad e).1;omega)⟩
def Off.own {c:Nat}(h:aR w b0 t (aco a n c) xs)(hK:∀n,K n->n<b0):Off K w a:=by
 rcases h.2 with⟨e,_⟩|⟨g,cap,cur,e,hb,hh,_⟩;injection e with e1 e2 e3;subst e1;exact Off.none _ _;injection e with e1 e2 e3;subst e1;have hb':aD w g t cur:=hh;intro ad e;injection e with e;subst e;exact⟨hb'.lt,λk=>by have h9:g<b0:=hK _ k;omega⟩
def iM.aJ {c:Nat}(h:iM w a c xs)(q:aP K w w')(ho:Off K w a):iM w' a c xs:=by
 rcases h with h0|⟨b,o,rfl,hc,h1⟩;exact ack h0;refine acm ⟨b,o,rfl,hc,λi hi=>?_⟩;have:=h1 i hi;rw[aaj hi]at this ⊢;exact q.cell this (ho _ rfl).2
def Un {l:List Nat}(h:bE w a l)(q:aP K w w')(ho:Off K w a):bE w' a l:=by
 refine⟨h.small,?_⟩;rcases h.at_ with h0|⟨b,o,rfl,h1⟩;exact ack h0;exact acm ⟨b,o,rfl,λi hi=>q.cell (h1 i hi) (ho _ rfl).2⟩
def aR.Du (h:aR w b0 t v xs):∃a c,v=aco a xs.length c/\iM w a c xs:=by
 have h':=h;rcases h'.2 with⟨rfl,h0⟩|⟨g,cap,cur,rfl,_,_,hnc,_⟩;have:xs=[]:=List.eq_nil_of_length_eq_zero h0;subst this;exact⟨none,0,rfl,ack ⟨rfl,rfl,rfl⟩⟩;refine⟨_,cap,rfl,acm ⟨g,0,rfl,hnc,λi hi=>?_⟩⟩;rw[Nat.zero_add,acL.ownsRow.cellAt h i aa]
def Uo (hu:prog.underlying ts=some (.slice t))(Lf:(prog.info? t).map (λi=>(i.zero,i.size,i.bytes))=some (some z,1,ui)){N c:Nat}(h:iM w a c xs)(hk:k<=c)(W:acL) :
  (Instr.sliceAt ts (.slice a N c) none (some (vi k)) none).run prog W=.ok (.slice a k c) W:=by
 obtain⟨i0,hi,hz0,hz1,hz2⟩:=info_parts Lf;have h1:(0:Int)<=(k:Int)/\(k:Int)<=(c:Int):=⟨aa,aa⟩;have h2:(if c=0 then a else a.map (·.add 0))=a:=by
  split;rfl;rcases h with⟨rfl,_⟩|⟨b,o,rfl,_⟩;rfl;simp[add_plain]
 simp[Instr.sliceAt,Instr.slice,Instr.sliceBounds,Instr.sliceBound,asIntOf,acQ hu,sizeOf,typeInfo,hi,hz1,h1,go_sem];intro h3;exact absurd h3 aa
def Jc (hu:prog.underlying ts=some (.slice t))(Lf:(prog.info? t).map (λi=>(i.zero,i.size,i.bytes))=some (some z,1,ui)){c:Nat}(h:iM w a c xs)(hk:k<=xs.length) :
  ∃a',(∀W,(Instr.sliceAt ts (.slice a xs.length c) (some (vi k)) none none).run prog W=.ok (.slice a' (xs.length-k) (c-k)) W)/\kT w a' (xs.drop k):=by
 obtain⟨i0,hi,hz0,hz1,hz2⟩:=info_parts Lf;have h1:(0:Int)<=(k:Int)/\(k:Int)<=(xs.length:Int):=⟨aa,aa⟩;refine⟨if c=k then a else a.map (·.add k),λW=>?_,?_⟩
 ·simp[Instr.sliceAt,Instr.slice,Instr.sliceBounds,Instr.sliceBound,asIntOf,acQ hu,sizeOf,typeInfo,hi,hz1,h1,go_sem];intro h3;exact absurd h3 aa
 rcases h with⟨rfl,rfl,_⟩|⟨b,o,rfl,hc,h1⟩;exact .inl ai;split;rename_i e;exact .inl (List.drop_eq_nil_iff.2 aa);refine .inr ⟨b,o+k,by simp[add_plain],λi hi=>?_⟩;rw[adt]at hi;rw[afb,Nat.add_assoc,h1 _ aa]
end
variable{w w':acL}
def BV:Calls prog 77 #[vi 64] w λe w'=>e=ab4 (.bool true)/\w'=w:=by
 go_in;go_wp2;go_ret;exact⟨rfl,rfl⟩
def Jd:Calls prog 103 #[vi 64] w λe w'=>e=ab4 (vi 1062)/\w'=w:=by
 go_in;go_wp2;go_ret;exact⟨rfl,rfl⟩
def kD:Calls prog 66 #[vi 64] w λe w'=>e=ab4 (vi 67968)/\w'=w:=by
 go_in;go_wp2_with fail;refine BV.mono ?_;rintro e w' ⟨rfl,rfl⟩;go_wp2_with fail;refine Jd.mono ?_;rintro e w' ⟨rfl,rfl⟩;go_wp2;go_ret;exact⟨rfl,rfl⟩
def jv {g:Nat}{v0 v1 v2:acK}{n:Int}(hb:aD w' g 134 #[v0,v1,v2])(tmps:Array acK)(h2:tmps[4]?=some (.pointer (some ⟨g,0,none⟩)))(h3:tmps[5]?=some (vi n)) :
  (results Tryz.f78 tmps).run prog w'=.ok (adg #[.agg #[v0,v1,v2],vi n]) w':=by
 have g0:w'.cell? ⟨g,0,none⟩=some v0:=hb.cell 0;have g1:w'.cell? ⟨g,1,none⟩=some v1:=hb.cell 1;have g2:w'.cell? ⟨g,2,none⟩=some v2:=hb.cell 2;simp only[results,results78];simp[go_sem,h2,h3,g0,g1,g2]
def jL {w1:acL}{g:Nat}{u0 u1 u2:acK}(v0 v1 v2:acK)(h:aD w1 g 134 #[u0,u1,u2])(hb:acN w.heap.size w w1)(hg:w.heap.size<=g) :
  aD (((w1.setCell ⟨g,0,none⟩ v0).setCell ⟨g,1,none⟩ v1).setCell ⟨g,2,none⟩ v2) g 134 #[v0,v1,v2]/\acN w.heap.size w (((w1.setCell ⟨g,0,none⟩ v0).setCell ⟨g,1,none⟩ v1).setCell ⟨g,2,none⟩ v2) :=
 ⟨((h.bB 0 v0).bB 1 v1).bB 2 v2,((hb.setCell (p:=⟨g,0,none⟩) hg v0).setCell (p:=⟨g,1,none⟩) hg v1).setCell (p:=⟨g,2,none⟩) hg v2⟩
def Ba (n:Nat)(hn:n<1062):Calls prog 78 #[vi 64,vi n] w λe w'=>e=ab4 (adg #[.agg #[vi (lvl n),vi (fst_ n),vi (XB n)],vi 0])/\acN w.heap.size w w':=by
 have HB:Hid (acN w.heap.size w (w.alloc (ach #[vi 0,vi 0,vi 0] 134))):=az ax;have HF:=az (aD.new w 134 #[vi 0,vi 0,vi 0]);have HT:Hid ((lvl n=if n<6 then 0 else if n<38 then 1 else 2)/\(fst_ n=if n<6 then n else if n<38 then n-6 else (n-38)/32)/\(XB n=if n<6 then 0 else if n<38 then 0 else (n-38)%32)):=az ⟨rfl,rfl,rfl⟩;generalize lvl n=T0 at*;generalize fst_ n=T1 at*;generalize XB n=T2 at*;have w6:adk.wrap ((n:Int)-6)=(n:Int)-6:=adl _ aa;have n1:¬(n:Int)<0:=aa;have n2:¬(1062:Int)<=(n:Int):=aa;go_in;go_upto_region 1 with fail
 change Code.wp _ _ _ _ (w.alloc (ach #[vi 0,vi 0,vi 0] 134));generalize w.alloc (ach #[vi 0,vi 0,vi 0] 134)=w1 at*;have r0:w1.cell? ⟨w.heap.size,0,none⟩=some (vi 0):=HF.o.cell 0;have f0:=HF.o.frozen 0;have r1:w1.cell? ⟨w.heap.size,1,none⟩=some (vi 0):=HF.o.cell 1;have f1:=HF.o.frozen 1;have r2:w1.cell? ⟨w.heap.size,2,none⟩=some (vi 0):=HF.o.cell 2;have f2:=HF.o.frozen 2;go_wp2_with fail;refine BV.mono ?_;rintro e w2 ⟨rfl,rfl⟩;go_wp2_with fail;refine Jd.mono ?_;rintro e w2 ⟨rfl,rfl⟩;by_cases h6:n<6
 ·have c1:(n:Int)<6:=aa;go_wp2_with fail;obtain⟨hf,hw⟩:=jL (vi 0) (vi n) (vi 0) HF.o HB.o aj;exact ac5 (jv hf _ rfl rfl) rfl ⟨by rw[HT.o.1,HT.o.2.1,HT.o.2.2,if_pos h6,if_pos h6,if_pos h6];rfl,hw⟩
 have c1:¬(n:Int)<6:=aa;by_cases zN:n<38
 ·have c2:(n:Int)<38:=aa;go_wp2_with fail;obtain⟨hf,hw⟩:=jL (vi 1) (vi ((n:Int)-6)) (vi 0) HF.o HB.o aj;exact ac5 (jv hf _ rfl rfl) rfl ⟨by rw[HT.o.1,HT.o.2.1,HT.o.2.2,if_neg h6,if_neg h6,if_neg h6,if_pos zN,if_pos zN,if_pos zN];simp;omega,hw⟩
 have c2:¬(n:Int)<38:=aa;have w7:adk.wrap ((n:Int)-6-32)=((n-38:Nat):Int):=by rw[adl _ aa];omega
 have q1:adk.wrap (((n-38:Nat):Int).tdiv 32)=(((n-38)/32:Nat):Int):=by rw[ae3 aa];rw[adl _ aa];omega
 have q3:adk.wrap ((((n-38)/32:Nat):Int)*32)=(((n-38)/32*32:Nat):Int):=by rw[adl _ aa];omega
 have q4:adk.wrap (((n-38:Nat):Int)-(((n-38)/32*32:Nat):Int))=(((n-38)%32:Nat):Int):=by rw[adl _ aa];omega
 have q5:((n-38:Nat):Int)/32=(((n-38)/32:Nat):Int):=aa;have q6:((n-38:Nat):Int)-(((n-38)/32:Nat):Int)*32=(((n-38)%32:Nat):Int):=aa;generalize (n-38)/32=A at*;generalize A*32=B at*;generalize (n-38)%32=C at*;go_upto_region 11 with fail;go_region;go_wp2_with fail;obtain⟨hf,hw⟩:=jL (vi 2) (vi (A:Nat)) (vi (C:Nat)) HF.o HB.o aj;refine ac5 (jv (aD.drew hf) _ rfl rfl) rfl ⟨?_,hw.drew⟩;rw[HT.o.1,HT.o.2.1,HT.o.2.2,if_neg h6,if_neg h6,if_neg h6,if_neg zN,if_neg zN,if_neg zN];rfl
def wC (a:Option Addr)(l:List Nat)(c:Nat)(h:jC w a (l.map λ(n:Nat)=>(n:Int)))(hl:∀n∈l,n<1062)(hln:l.length<=1062)(hr:l.Pairwise (·<·)) :
  Calls prog 45 #[vi 64,aco a l.length c] w λe w'=>e=ab4 (adg #[vi (aH (zk l l.length):Nat),vi 0])/\acN w.heap.size w w':=by
 have HR:=az h;have HL:=az hl;have HP:=az hr;have je:=az hln;have HZ0:=az (Ld l);clear h hl hr hln;obtain⟨n,hn⟩:∃n,n=l.length:=⟨_,rfl⟩;have HN:=az hn;rw[<-hn];clear hn;go_in;go_wp2_with fail;refine BV.mono ?_;rintro e w' ⟨rfl,rfl⟩;go_wp2_with fail;go_loopw [6] (λi wr=>∃k:Nat,1<=k/\(k=1\/k<=n)/\i=vi k/\Hid (acN w'.heap.size w' wr)) (λi _=>n-(intOf i).toNat)
 case atStart=>exact⟨1,aj,ack rfl,rfl,az ak⟩
 case round =>
  obtain⟨k,h1,h2,rfl,hb⟩:=hrel;by_cases hk:k<n
  ·obtain⟨b,o,rfl,c1⟩:=(HR.o.below hb.o).lookup (i:=k) (by rw[abT,<-HN.o];exact hk);obtain⟨b',o',e,c0⟩:=(HR.o.below hb.o).lookup (i:=k-1) (by rw[abT,<-HN.o];omega);injection e with e;injection e with e1 e2;subst e1 e2;have hlt:=Er (l:=l.map λ(n:Nat)=>(n:Int)) (List.pairwise_map.2 (HP.o.imp (λh=>aa))) h1 (by rw[abT,<-HN.o];exact hk);generalize (l.map λ(n:Nat)=>(n:Int)).getD k 0=x at*;generalize (l.map λ(n:Nat)=>(n:Int)).getD (k-1) 0=y at*;have r1:adk.wrap ((k:Int)-1)=((k-1:Nat):Int):=by rw[adl _ (by have:=je.o;have:=HN.o;omega)];omega
   have r2:adk.wrap ((k:Int)+1)=((k+1:Nat):Int):=by rw[adl _ (by have:=je.o;have:=HN.o;omega)];omega
   have n1:(k:Int)<(n:Int):=aa;have n2:¬x<=y:=aa;have n3:(0:Int)<=((k-1:Nat):Int):=aa;have n4:((k-1:Nat):Int)<(n:Int):=aa;have HK:Hid (1<=k/\k<n):=az ⟨h1,hk⟩;have HB2:=az (hb.o.drew);clear hb hlt h1 h2 hk;go_upto_region 6 with fail;go_region;go_wp2;go_roundw
   case rel=>exact⟨k+1,aa,acm (by have:=HK.o;omega),rfl,HB2⟩
   case measure=>have:=HK.o;simp[intOf];omega
  have n1:¬(k:Int)<(n:Int):=aa;clear h1 h2 hk;have HW0:Hid (w'.heap.size<=wr.heap.size):=az hb.o.size;have uz:=az hb.o;have hgw:w'.heap.size<=wr.heap.size:=HW0.o;clear hb;go_upto_block 2 with fail;have HB0:Hid (acN w'.heap.size w' (wr.alloc (ach #[vi 0,vi 0,vi 0] 134))/\aD (wr.alloc (ach #[vi 0,vi 0,vi 0] 134)) wr.heap.size 134 #[vi 0,vi 0,vi 0]):=az ⟨uz.o.alloc uz.o.size _,aD.new _ _ _⟩;change Code.wp _ _ _ _ (wr.alloc (ach #[vi 0,vi 0,vi 0] 134));generalize wr.alloc (ach #[vi 0,vi 0,vi 0] 134)=w1 at*;generalize wr.heap.size=gw at*;clear n1;go_wp2_with fail;go_loopg [7,9] n (λf v7 v9 wr=>∃(k cnt wl wf ws:Nat),v7=vi cnt/\v9=vi k/\k<=n/\n-k<=f/\cnt<=3*k/\Hid (cnt=aH (zk l k)/\((k=0->wl=0)/\(0<k->wl=lvl (l.getD (k-1) 0)/\wf=fst_ (l.getD (k-1) 0)))/\acN w'.heap.size w' wr/\aD wr gw 134 #[vi wl,vi wf,vi ws]))
  case atStart=>exact⟨0,0,0,0,0,rfl,rfl,Nat.zero_le _,aa,aa,az ⟨HZ0.o.symm,⟨λ_=>rfl,λh=>aa⟩,HB0.o⟩⟩
  case round =>
   clear HB0 uz HW0;obtain⟨k,cnt,wl,wf,ws,rfl,rfl,hkn,hfu,hc3,hrd⟩:=hrel;have bK:=az hrd.o;clear hrd;by_cases hk:k<n
   ·have hk2:k<l.length:=by rw[<-HN.o];exact hk
    obtain⟨b,o,rfl,c1⟩:=(HR.o.below bK.o.2.2.1).lookup (i:=k) (by rw[abT];exact hk2);have hx1:(l.map λ(n:Nat)=>(n:Int)).getD k 0=((l.getD k 0:Nat):Int):=by simp[afh,hk2]
    rw[hx1]at c1;have HXL:Hid (l.getD k 0<1062):=az (HL.o _ (by simp[afh,hk2]));have HST:=az (Lc HP.o HL.o hk2 bK.o.2.1);obtain⟨x,hx⟩:∃x,l.getD k 0=x:=⟨_,rfl⟩;rw[hx]at c1 HXL HST;have HX:=az hx;clear hx hx1 hk2;have n1:(k:Int)<(n:Int):=aa;have ana:k<1062:=by have:=je.o;have:=HN.o;omega
    have n2:adk.wrap ((k:Int)+1)=(k:Int)+1:=adl _ aa;have HTO:=az (λW=>Ba (w:=W) x HXL.o);have hA2:lvl x<=2:=by unfold lvl;split;omega;split<;>omega
    obtain⟨A,hA⟩:∃A,lvl x=A:=⟨_,rfl⟩;obtain⟨B,hB⟩:∃B,fst_ x=B:=⟨_,rfl⟩;obtain⟨C,hC⟩:∃C,XB x=C:=⟨_,rfl⟩;rw[hA]at HTO HST hA2;rw[hB]at HTO HST;rw[hC]at HTO;have FK:Hid (lvl x=A/\fst_ x=B):=az ⟨hA,hB⟩;clear hA hB hC;go_upto_region 13 with (go_at_call 78;refine(HTO.o _).mono ?_;rintro e w3 ⟨rfl,hb3⟩;have HB3:=az hb3;clear hb3);have nk:Hid (aD (w3.alloc (ach #[vi A,vi B,vi C] 134)) w3.heap.size 134 #[vi A,vi B,vi C]/\aD (w3.alloc (ach #[vi A,vi B,vi C] 134)) gw 134 #[vi wl,vi wf,vi ws]/\acN w'.heap.size w' (w3.alloc (ach #[vi A,vi B,vi C] 134))/\gw≠w3.heap.size/\w'.heap.size<=gw):=az (by
     have h1:=bK.o.2.2.2.old HB3.o
     have h2:=bK.o.2.2.1.trans (HB3.o.mono bK.o.2.2.1.size)
     exact⟨aD.new _ _ _,h1.alloc _,h2.alloc h2.size _,by have:=h1.lt;omega,hgw⟩)
    clear HTO;generalize w3.alloc (ach #[vi A,vi B,vi C] 134)=w4 at*;generalize w3.heap.size=gx at*;have x0:w4.cell? ⟨gx,0,none⟩=some (vi A):=nk.o.1.cell 0;have x1:w4.cell? ⟨gx,1,none⟩=some (vi B):=nk.o.1.cell 1;have x2:w4.cell? ⟨gx,2,none⟩=some (vi C):=nk.o.1.cell 2;have y0:w4.cell? ⟨gw,0,none⟩=some (vi wl):=nk.o.2.1.cell 0;have y1:w4.cell? ⟨gw,1,none⟩=some (vi wf):=nk.o.2.1.cell 1;have m1:adk.wrap ((cnt:Int)+1)=((cnt+1:Nat):Int):=by rw[adl _ aa];omega
    obtain⟨c1v,aeh⟩:∃z,cnt+1=z:=⟨_,rfl⟩;rw[aeh]at m1;go_upto_region 16 with fail;go_cut [60] from 32 to 80 (λv wx=>v=.bool (decide (A≠0/\wl≠A))/\wx=w4)
    case first =>
     by_cases JY:A=0
     ·have a1:¬(0:Int)<(A:Int):=aa;go_wp2;go_meet;exact⟨by simp[JY],rfl⟩
     have a1:(0:Int)<(A:Int):=aa;by_cases hwA:wl=A
     ·have a2:((wl:Int) != (A:Int))=false:=by simp[hwA]
      go_wp2;go_meet;exact⟨by simp[hwA],rfl⟩
     have a2:((wl:Int) != (A:Int))=true:=by simp;omega
     go_wp2;go_meet;exact⟨by simp[hwA,JY],rfl⟩
    case rest =>
    obtain⟨rfl,rfl⟩:=hcut;go_upto_if 60 with fail;go_cut [7] from 32 to 80 (λv wx=>v=vi ((c1v+(if A≠0/\wl≠A then 1 else 0):Nat):Int)/\wx=wc)
    case first =>
     by_cases hcd:A≠0/\wl≠A
     ·rw[decide_eq_true hcd];go_wp2;go_meet;exact⟨by rw[if_pos hcd];first|rfl|go_num|(congr 1;rw[adl _ aa];omega),rfl⟩
     rw[decide_eq_false hcd];go_wp2;go_meet;exact⟨by rw[if_neg hcd];rfl,rfl⟩
    case rest =>
    obtain⟨rfl,rfl⟩:=hcut;obtain⟨c2v,XC⟩:∃z,c1v+(if A≠0/\wl≠A then 1 else 0)=z:=⟨_,rfl⟩;have anb:c2v<=c1v+1:=by rw[<-XC];split<;>omega
    rw[XC];have JQ:=az XC;clear XC;go_upto_region 18 with fail;go_cut [77] from 32 to 80 (λv wx=>v=.bool (decide (A=2/\(wl≠2\/wf≠B)))/\wx=wc)
    case first =>
     by_cases JY:A=2
     ·have a1:((A:Int)==2)=true:=by simp[JY]
      by_cases hw2:wl=2
      ·have a2:((wl:Int) != 2)=false:=by simp[hw2]
       by_cases hwB:wf=B
       ·have a3:((wf:Int) != (B:Int))=false:=by simp[hwB]
        go_wp2;go_meet;exact⟨by simp[JY,hw2,hwB],rfl⟩
       have a3:((wf:Int) != (B:Int))=true:=by simp;omega
       go_wp2;go_meet;exact⟨by simp[JY,hw2,hwB],rfl⟩
      have a2:((wl:Int) != 2)=true:=by simp;omega
      go_wp2;go_meet;exact⟨by simp[JY,hw2],rfl⟩
     have a1:((A:Int)==2)=false:=by simp;omega
     go_wp2;go_meet;exact⟨by simp[JY],rfl⟩
    case rest =>
    obtain⟨rfl,rfl⟩:=hcut;go_upto_if 77 with fail;go_cut [7] from 32 to 80 (λv wx=>v=vi ((c2v+(if A=2/\(wl≠2\/wf≠B) then 1 else 0):Nat):Int)/\wx=wc)
    case first =>
     by_cases hcd:A=2/\(wl≠2\/wf≠B)
     ·rw[decide_eq_true hcd];go_wp2;go_meet;exact⟨by rw[if_pos hcd];first|rfl|go_num|(congr 1;rw[adl _ aa];omega),rfl⟩
     rw[decide_eq_false hcd];go_wp2;go_meet;exact⟨by rw[if_neg hcd];rfl,rfl⟩
    case rest =>
    obtain⟨rfl,rfl⟩:=hcut;obtain⟨c3v,XD⟩:∃z,c2v+(if A=2/\(wl≠2\/wf≠B) then 1 else 0)=z:=⟨_,rfl⟩;have anc:c3v<=c2v+1:=by rw[<-XD];split<;>omega
    rw[XD];have Ij:Hid (c3v=aH (zk l (k+1))):=az (by rw[HST.o,<-bK.o.1,<-XD,<-JQ.o,<-aeh]);have HWF:Hid (acN w'.heap.size w' (((wc.setCell ⟨gw,0,none⟩ (vi A)).setCell ⟨gw,1,none⟩ (vi B)).setCell ⟨gw,2,none⟩ (vi C))/\aD (((wc.setCell ⟨gw,0,none⟩ (vi A)).setCell ⟨gw,1,none⟩ (vi B)).setCell ⟨gw,2,none⟩ (vi C)) gw 134 #[vi A,vi B,vi C]):=az (by
     obtain⟨k1,k2⟩:=jL (vi A) (vi B) (vi C) nk.o.2.1 nk.o.2.2.1 nk.o.2.2.2.2
     exact⟨k2,k1⟩)
    have JZ:Hid (k+1=0->A=0):=az (λh=>aa);have HWW:Hid (0<k+1->A=lvl (l.getD (k+1-1) 0)/\B=fst_ (l.getD (k+1-1) 0)):=az (λ_=>by rw[Nat.add_sub_cancel,HX.o,FK.o.1,FK.o.2];exact⟨rfl,rfl⟩);have y2:wc.cell? ⟨gw,2,none⟩=some (vi ws):=nk.o.2.1.cell 2;have g0:=nk.o.2.1.frozen 0;have g1:=nk.o.2.1.frozen 1;have g2:=nk.o.2.1.frozen 2;clear XD bK HST JQ;go_wp2_with fail;go_roundg (n-(k+1))
    case measure=>omega
    case rel=>exact⟨k+1,c3v,A,B,C,rfl,by first|rfl|go_num|(congr 1;omega),aa,aa,aa,az ⟨Ij.o,⟨JZ.o,HWW.o⟩,HWF.o.1,HWF.o.2⟩⟩
   obtain rfl:k=n:=aa;have n1:¬(k:Int)<(k:Int):=aa;go_wp2;go_ret2;exact⟨congrArg (λz:Nat=>Ending.returned (adg #[vi z,vi 0])) bK.o.1,bK.o.2.2.1⟩
def Rows (K:Nat->Prop)(w:acL)(bs:List acK)(ls:List (List Nat)):Prop:=bs.length=ls.length/\∀(k:Nat) l,ls[k]?=some l->∃a c,bs[k]?=some (aco a 64 c)/\(bE w a l/\Off K w a)/\l.length=64/\64<=c
section
variable{K K':Nat->Prop}{bs cs:List acK}{ls ms:List (List Nat)}
def Rows.old (h:Rows K w bs ls)(hb:acN w.heap.size w w'):Rows K w' bs ls :=
 ⟨h.1,λk l e=>by obtain⟨a,c,h1,h2,h3⟩:=h.2 k l e;exact⟨a,c,h1,⟨h2.1.below hb,h2.2.old hb⟩,h3⟩⟩
def Rows.aJ (h:Rows K w bs ls)(q:aP K w w')(hK:∀n,K' n->K n\/w.heap.size<=n):Rows K' w' bs ls :=
 ⟨h.1,λk l e=>by obtain⟨a,c,h1,h2,h3⟩:=h.2 k l e;exact⟨a,c,h1,⟨Un h2.1 q h2.2,h2.2.go q.size hK⟩,h3⟩⟩
def Rows.append (h:Rows K w bs ls)(g:Rows K w cs ms):Rows K w (bs++cs) (ls++ms):=by
 refine⟨by rw[acZ,acZ,h.1,g.1],λk l e=>?_⟩;rcases Nat.lt_or_ge k ls.length with hk|hk;rw[aa9 hk]at e;rw[aa9 (by rw[h.1];exact hk)];exact h.2 k l e;rw[ae1 hk]at e;rw[ae1 (by rw[h.1];exact hk),h.1];exact g.2 _ l e
def Rows.take (h:Rows K w bs ls)(n:Nat):Rows K w (bs.take n) (ls.take n):=by
 refine⟨by rw[acX,acX,h.1],λk l e=>?_⟩;rw[ae9]at e ⊢;split at e;rename_i hk;rw[if_pos hk];exact h.2 k l e;cases e
def Rows.drop (h:Rows K w bs ls)(n:Nat):Rows K w (bs.drop n) (ls.drop n):=by
 refine⟨by rw[adt,adt,h.1],λk l e=>?_⟩;rw[afb]at e ⊢;exact h.2 _ l e
variable{a:Option Addr}{l:List Nat}
def Rows.one {c:Nat}(h:bE w a l)(ho:Off K w a)(hl:l.length=64)(hc:64<=c):Rows K w [aco a 64 c] [l]:=by
 refine⟨rfl,λk l' e=>?_⟩;cases k with
 |zero=>simp at e;subst e;exact⟨a,c,rfl,⟨h,ho⟩,hl,hc⟩
 |succ k=>simp at e
def Rows.set (h:Rows K w bs ls){j:Nat}{c:Nat}(hr:bE w a l)(ho:Off K w a)(hl:l.length=64)(hc:64<=c):Rows K w (bs.set j (aco a 64 c)) (ls.set j l):=by
 refine⟨by rw[List.length_set,List.length_set,h.1],λk l' e=>?_⟩;rw[List.getElem?_set]at e ⊢;split at e;rename_i hk;rw[if_pos hk];subst hk;split at e;rename_i hj;injection e with e;subst e;rw[if_pos (by rw[h.1];exact hj)];exact⟨a,c,rfl,⟨hr,ho⟩,hl,hc⟩;cases e;rename_i hk;rw[if_neg hk];exact h.2 k l' e
def Rows.one_cell (h:Rows K w bs ls):∀u∈bs,u.oneCell'=true:=by
 intro u hu;obtain⟨k,hk,e⟩:=List.getElem_of_mem hu;have hkl:k<ls.length:=by rw[<-h.1];exact hk
 obtain⟨a,c,h1,_⟩:=h.2 k (ls[k]'hkl) (aaj hkl);rw[aaj hk,e]at h1;injection h1 with h1;rw[h1];rfl
end
def qm (s:Nat)(ap:Option Addr)(N cp:Nat)(ab:Option Addr)(cb:Nat):acK:=.agg #[vi 64,vi s,aco ap N cp,aco ab N cb]
structure pU (w:acL)(K:Nat->Prop)(F:DF)(ap:Option Addr)(N cp:Nat)(ab:Option Addr)(cb:Nat):Prop where
 ok:F.ok
 len:(pg F.z).length=N
 aB:iM w ap cp ((pg F.z).map λ(n:Nat)=>vi (n:Int))
 Uq:Off K w ap
 rows:∃bs,iM w ab cb bs/\Rows K w bs ((pg F.z).map (row F.b))
 XE:Off K w ab
variable{K:Nat->Prop}{ap ab:Option Addr}{N cp cb:Nat}
def pU.zy (h:pU w K F ap N cp ab cb):jC w ap ((pg F.z).map λ(n:Nat)=>(n:Int)) :=
 jC.ain (by rw[List.map_map];exact h.aB.toV)
def pU.old (h:pU w K F ap N cp ab cb)(hb:acN w.heap.size w w'):pU w' K F ap N cp ab cb:=by
 obtain⟨bs,h1,h2⟩:=h.rows;exact⟨h.ok,h.len,h.aB.old hb,h.Uq.old hb,⟨bs,h1.old hb,h2.old hb⟩,h.XE.old hb⟩
def pU.aJ {K':Nat->Prop}(h:pU w K F ap N cp ab cb)(q:aP K w w')(hK:∀n,K' n->K n\/w.heap.size<=n):pU w' K' F ap N cp ab cb:=by
 obtain⟨bs,h1,h2⟩:=h.rows;exact⟨h.ok,h.len,h.aB.aJ q h.Uq,h.Uq.go q.size hK,⟨bs,h1.aJ q h.XE,h2.aJ q hK⟩,h.XE.go q.size hK⟩
def pU.small (h:pU w K F ap N cp ab cb):N<=1062:=by
 rw[<-h.len];exact Gg _
def Je (w:acL)(K:Nat->Prop)(v:acK)(F:DF):Prop:=∃ap N cp ab cb,v=qm F.size ap N cp ab cb/\pU w K F ap N cp ab cb
def ix (z:Nat->Bool)(n:Nat):Int:=if z n=true then ((pre z n).length:Nat) else -1
variable{K:Nat->Prop}{F:DF}{ap ab:Option Addr}{N cp cb:Nat}
def BX (hn:n<1062)(hz:z n=true):(pg z)[(pre z n).length]?=some n/\(pre z n).length<(pg z).length:=by
 rw[oN z hn,if_pos hz];constructor;rw[ae1 aj,Nat.sub_self];rfl;rw[acZ];simp
def wF {l:List Nat}(h:k<l.length):(l.map λ(n:Nat)=>(n:Int)).getD k 0=((l.getD k 0:Nat):Int):=by
 simp[afh,h]
def Pw (hn:n<1062)(hk:k<(pre z n).length):(pg z).getD k 0<n:=by
 rw[oN z hn,aah,aa9 hk,aaj hk];exact abd (aff hk)
def Jf {L:List Nat}(hr:L.Pairwise (·<·)){K:Nat}(hk:k<L.length)(e:L.getD k 0=n)(h1:L[K]?=some n/\K<L.length):k=K:=by
 rw[aah,aaj hk]at e;have h2:L[K]'h1.2=n:=by have:=h1.1;rw[aaj h1.2]at this;injection this
 simp at e;rcases Nat.lt_trichotomy k K with c|c|c;have:=(aeo.1 hr) _ _ hk h1.2 c;omega;exact c;have:=(aeo.1 hr) _ _ h1.2 hk c;omega
def abf (hn:n<1062)(hk:k<(pg z).length)(e:(pg z).getD k 0=n):z n=true/\k=(pre z n).length:=by
 have hm:n∈pg z:=by rw[<-e,aah,aaj hk];exact aff hk
 have hz:=(Gf.1 hm).2;exact⟨hz,Jf (Gd z) hk e (BX hn hz)⟩
def pG (h:pU w K F ap N cp ab cb)(n:Nat)(hn:n<1062):Calls prog 69 #[qm F.size ap N cp ab cb,vi n] w λe w'=>e=ab4 (vi (ix F.z n))/\acN w.heap.size w w':=by
 have H:=az h;have HN:=az hn;have HS:=az h.small;clear h hn;generalize F.size=sz;unfold qm;go_in;go_upto_region 2 with fail;refine mD λw1 HB1 lD=>?_
 obtain⟨x,hx⟩:∃x,x=w.heap.size:=⟨_,rfl⟩;rw[<-hx]at lD ⊢;have Tk:=az (H.o.zy.below HB1.o);clear hx;go_loopw [5] (λi wr=>∃k:Nat,k<=N/\i=vi k/\wr=w1/\Hid (∀j,j<k->(pg F.z).getD j 0≠n)) (λi _=>N-(intOf i).toNat)
 case atStart=>exact⟨0,Nat.zero_le _,rfl,rfl,az (λj hj=>aa)⟩
 case round =>
  obtain⟨k,hk,rfl,rfl,hz⟩:=hrel;have x2:wr.cell? ⟨x,2,none⟩=some (aco ap N cp):=lD.o.cell 2;by_cases hkn:k<N
  ·have n1:(k:Int)<(N:Int):=aa;have hkl:k<(pg F.z).length:=by rw[H.o.len];exact hkn
   obtain⟨b,o,hab,c1⟩:=Tk.o.lookup (i:=k) (by rw[abT];exact hkl);subst hab;rw[wF hkl]at c1;obtain⟨m,hm⟩:∃m,m=(pg F.z).getD k 0:=⟨_,rfl⟩;have HM:=az hm;rw[<-hm]at c1;have r2:adk.wrap ((k:Int)+1)=((k+1:Nat):Int):=by rw[adl _ (by have:=HS.o;omega)];omega
   have Wh:Hid (k<N):=az hkn;have jU:Hid (k<(pg F.z).length):=az hkl;clear hm hkl hkn hk;by_cases Zh:m=n
   ·have hin:=abf HN.o jU.o (by rw[<-HM.o];exact Zh);have HI:Hid (ix F.z n=k):=az (by unfold ix;rw[if_pos hin.1,<-hin.2]);have b1:((m:Int)==(n:Int))=true:=by rw[Zh];simp
    clear hin Zh;go_wp2;go_ret;exact⟨by rw[HI.o];first|done|rfl,HB1.o⟩
   have b1:((m:Int)==(n:Int))=false:=beq_eq_false_iff_ne.2 aa;have HZ2:Hid (∀j,j<k+1->(pg F.z).getD j 0≠n):=az (λj hj=>by
    by_cases c:j=k
    rw[c,<-HM.o];exact Zh
    exact hz.o j aa)
   clear hz Zh;go_wp2;go_roundw
   case rel=>exact⟨k+1,Wh.o,by first|rfl|trivial,by first|rfl|trivial,HZ2⟩
   case measure=>have:=Wh.o;simp[intOf];omega
  have n1:¬(k:Int)<(N:Int):=aa;have HI:Hid (ix F.z n= -1):=az (by
   unfold ix
   rw[if_neg]
   intro e
   have h1:=BX HN.o e
   have h2:=hz.o _ (adN h1.2 (by rw[H.o.len];exact Nat.le_of_not_lt hkn))
   rw[aah,h1.1]at h2
   exact h2 rfl)
  clear hz hk hkn;go_wp2;go_ret;exact⟨by rw[HI.o];first|done|rfl,HB1.o⟩
def mi (h:pU w K F ap N cp ab cb):Calls prog 18 #[qm F.size ap N cp ab cb] w λe w'=>e=ab4 (vi (aH F.z:Nat))/\acN w.heap.size w w':=by
 have HB1:Hid (acN w.heap.size w (w.alloc (ach #[vi 64,vi F.size,aco ap N cp,aco ab N cb] 34))):=az ax;have HFI:=az (wC (w:=w.alloc (ach #[vi 64,vi F.size,aco ap N cp,aco ab N cb] 34)) ap (pg F.z) cp (h.zy.below HB1.o) (λn hn=>(Gf.1 hn).1) (Gg _) (Gd _));rw[Pv,h.len]at HFI;clear h;generalize aH F.z=T at*;generalize F.size=sz at*;unfold qm;go_in;go_upto_region 1 with fail;have lD:=az (aD.new w 34 #[vi 64,vi sz,aco ap N cp,aco ab N cb]);change Code.wp _ _ _ _ (w.alloc (ach #[vi 64,vi sz,aco ap N cp,aco ab N cb] 34))
 generalize w.alloc (ach #[vi 64,vi sz,aco ap N cp,aco ab N cb] 34)=w1 at*;have x0:w1.cell? ⟨w.heap.size,0,none⟩=some (vi 64):=lD.o.cell 0;have x2:w1.cell? ⟨w.heap.size,2,none⟩=some (aco ap N cp):=lD.o.cell 2;go_wp2_with fail;refine HFI.o.mono ?_;rintro e w2 ⟨rfl,hb2⟩;have HB2:Hid (acN w.heap.size w w2):=az (HB1.o.trans (hb2.mono HB1.o.size));clear hb2;go_wp2;go_ret;exact⟨rfl,HB2.o⟩
end df
end Go.Proofs.YtllmbcigmimgoaaGreat
