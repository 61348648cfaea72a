/-
  Lemmas for a law's proof, put together from several texts. No conditions of their own.
-/
import Derived.Test.YtllmbcigmimgoaaGreatRows
import Derived.WalkKit
import Derived.WalkLawsBesides
import Derived.WalkSpells
import Derived.ProofKit
import Derived.Lib.Hide
import Derived.BigQuiet
import Derived.Deep.Slices
import Derived.Deep.Fields
import Derived.OpenShut
import Derived.Laws.EntriesVeiled
import Derived.Maps.AppendAt
import Derived.Lib.AppendStr
import Derived.Laws.BytesArg
import Derived.Laws.IdiomStrings
import Derived.Deep.Draws
import Derived.IntWalk
import Derived.Laws.BitsAllLaws
import Derived.Deep.RegionLaw
import Derived.Deep.DeepCutAuto
import Derived.Deep.CutBlock
import Derived.Laws.CopyOwn
import Derived.Deep.OwnRows
import Derived.Laws.Bits64b
import Derived.StillTailTactics
import Derived.Maps.RangeRun
import Derived.Maps.RangeWalk
set_option maxRecDepth 100000
set_option maxHeartbeats 20000000
set_option linter.all false
namespace Go.RowKit
theorem Hid.o{p:Prop}(h:Hid p):p:=h
end Go.RowKit
namespace Go.Proofs
theorem hS{A:Type}{a:Option A}{b c:A}(h:a=some b)(h2:b=c:=by kernel_rfl):a=some c:=h.trans (congrArg some h2)
end Go.Proofs
namespace Go.Proofs.YtllmbcigmimgoaaGreat
open _root_.Go.Proofs.Tryz
open _root_.Array renaming getElem?_eq_some_iff->aaz,length_toList->ahO
open _root_.Bool renaming or_eq_true->ae5
open _root_.Go renaming Value->acK,World->acL,Addr->acM,Calls->ac4,Oper->aiT,Operand->ahW,TypeId->acO,wpList_plain->acP,run_underlying->acQ,IntKind->acS,bodyPost_ret->ac5,MapEntry->acT
open _root_.Go.Builtin renaming append_->aaR,delete_->abq
open _root_.Go.Ending renaming returned->ab4
open _root_.Go.Exit renaming noGoto_ret->acY
open _root_.Go.Instr renaming mapUpdate->abl,lookup->abw,index->ado
open _root_.Go.MapKept renaming run_getObj_map->aav,run_findKey->acU,run_setObj_map->acV
open _root_.Go.Obj renaming cells->ach
open _root_.Go.Result renaming andThen->aax,andThen_ok->ahc
open _root_.Go.RowKit renaming Below->acN
open _root_.Go.RowKit.Below renaming heap_setCell->aha
open _root_.Go.Value renaming bool->acg,slice->aco,agg->adA,pointer->adj,tuple->adg
open _root_.Go.World renaming setCell->ahu
open _root_.List renaming getD_eq_getElem?_getD->aah,replicate->aaA,getElem?_eq_getElem->aaj,length_drop->adt,mem_or_eq_of_mem_set->aat,length_take->acX,map_cons->aaF,length_replicate->abP,length_append->acZ,mem_replicate->aaE,mem_map->aay,pairwise_cons->aaL,flatMap_cons->aaQ,eq_nil_of_length_eq_zero->aaY,mem_cons->aaI,getElem?_set->aa6,drop_drop->adv,mem_of_mem_take->afp,mem_of_getElem?->aa8,getElem?_eq_some_iff->aaB,length_set->abZ,map_nil->abQ,ext_getElem?->abA,map_toArray->ahs,getElem_mem->aff,getD->afh,mem_append->aaS,map_set->ade
open _root_.List.Perm renaming swap->abx
open _root_.Nat renaming zero_le->aaW,lt_of_lt_of_le->adN,zero_add->abU
open _root_.Or renaming inl->ack,inr->acm
theorem az {p : Prop} (h : p) : Go.RowKit.Hid p := h
theorem ay:(forall (a:Go.Act)(v:Go.Value)(d:Go.Tmp),a.put (some d) v={tmps:=a.tmps.setIfInBounds d v,defers:=a.defers})/\(forall {A:Type}(l:List A)(i:Nat)(a:A),l.toArray.setIfInBounds i a=(l.set i a).toArray)/\(forall {A:Type}(x:A)(xs:List A)(a:A),(x::xs).set 0 a=a::xs)/\forall {A:Type}(x:A)(xs:List A)(i:Nat)(a:A),(x::xs).set (i+1) a=x::xs.set i a:=⟨fun _ _ _=>rfl,fun _ _ _=>List.setIfInBounds_toArray ..,fun _ _ _=>rfl,fun _ _ _ _=>rfl⟩
theorem aa{p:Prop}(h:p:=by omega):p:=h
theorem ag{p:Prop}(h:p:=by decide):p:=h
theorem ah{p:Prop}(h:p:=by kernel_rfl):p:=h
theorem ai{p:Prop}(h:p:=by simp):p:=h
theorem aj{n:Nat}:n<=n:=Nat.le_refl n
theorem ak{n:Nat}{w:Go.World}:Go.RowKit.Below n w w:=Go.RowKit.Below.refl n w
theorem au{w:Go.World}:Go.RowKit.Below w.heap.size w w.drew:=(Go.RowKit.Below.refl _ w).drew
theorem ax{w:Go.World}{o:Go.Obj}:Go.RowKit.Below w.heap.size w (w.alloc o):=(Go.RowKit.Below.refl _ w).alloc (Nat.le_refl _) o
namespace HP
def step (r:Nat):Nat:=if r%2=1 then (r/2) ^^^ 3988292384 else r/2
def steps:Nat->Nat->Nat
 |0,r=>r
 |n+1,r=>step (steps n r)
def put (r b:Nat):Nat:=steps 8 (r ^^^ b)
def reg (r:Nat)(l:List Nat):Nat:=l.foldl put r
def sum (l:List Nat):Nat:=4294967295-reg 4294967295 l
variable{x y:Nat}
def GZ (h:x ^^^ y=0):x=y:=by
 have h1:x ^^^ (x ^^^ y)=y:=by rw[<-Nat.xor_assoc,Nat.xor_self,Nat.zero_xor]
 rw[h,Nat.xor_zero]at h1;exact h1
variable{r:Nat}
def Mr (h:r<4294967296):step r<4294967296:=by
 unfold step;split;exact Nat.xor_lt_two_pow (n:=32) aa aa;omega
def Rc (n:Nat)(h:r<4294967296):steps n r<4294967296:=by
 induction n with
 |zero=>exact h
 |succ n ih=>exact Mr ih
def J4 (hx:x<4294967296)(hy:y<4294967296):x ^^^ y<4294967296:=Nat.xor_lt_two_pow (n:=32) hx hy
def Re {b:Nat}(h:r<4294967296)(hb:b<256):put r b<4294967296:=Rc 8 (J4 h aa)
def Rf:∀(l:List Nat) {r:Nat},r<4294967296->(∀b∈l,b<256)->reg r l<4294967296
 |[],_,h,_=>h
 |b::l,_,h,hl=>Rf l (Re h (hl b ai)) (λx hx=>hl x (by simp[hx]))
def J5 (l m:List Nat)(r:Nat):reg r (l++m)=reg (reg r l) m:=List.foldl_append ..
def num:List Nat->Nat
 |[]=>0
 |b::l=>b+num l*256
def J6:∀(l:List Nat),(∀b∈l,b<256)->num l<256 ^ l.length
 |[],_=>by simp[num]
 |b::l,h=>by
  have h1:=J6 l (λx hx=>h x (by simp[hx]))
  have h2:=h b ai
  rw[num,List.length_cons,Nat.pow_succ]
  omega
def xor_not (hx:x<4294967296):x ^^^ (4294967295-x)=4294967295:=by
 apply Nat.eq_of_testBit_eq;intro i;rw[Nat.testBit_xor,show 4294967295-x=2 ^ 32-(x+1) by omega,Nat.testBit_two_pow_sub_succ (by simpa using hx),show (4294967295:Nat)=2 ^ 32-1 by decide,Nat.testBit_two_pow_sub_one];by_cases hi:i<32;simp[hi];have:x.testBit i=false:=Nat.testBit_lt_two_pow (adN hx (by
  have:2 ^ 32<=2 ^ i:=Nat.pow_le_pow_right aa aa
  simpa using this))
 simp[hi,this]
def le:Nat->Nat->List Nat
 |0,_=>[]
 |n+1,x=>x%256::le n (x/256)
def eU:∀(n x:Nat),(le n x).length=n
 |0,_=>rfl
 |n+1,x=>by rw[le,List.length_cons,eU]
def nY:∀(n x:Nat),∀y∈le n x,y<256
 |n+1,x,y,h=>by
  rw[le]at h
  rcases aaI.1 h with rfl|h
  omega
  exact nY n _ y h
def Ms:∀(n x:Nat),le (n+1) x=le n x++[x/256 ^ n%256]
 |0,x=>by simp[le]
 |n+1,x=>by
  rw[le,Ms n,le,Nat.div_div_eq_div_mul,Nat.pow_succ,Nat.mul_comm 256]
  rfl
def wZ:∀(n x:Nat),num (le n x)=x%256 ^ n
 |0,x=>by simp[num,le,Nat.mod_one]
 |n+1,x=>by
  rw[le,num,wZ n,Nat.pow_succ,Nat.mul_comm (256 ^ n),Nat.mod_mul,Nat.mul_comm]
structure HOp where
 aL:Int
 path:List Nat
 dest:List Nat
 handle:Int
 n:Int
 aF:Int
 bytes:List Nat
instance:Inhabited HOp:=⟨⟨0,[],[],0,0,0,[]⟩⟩
def u64 (x:Int):Nat:=(x%18446744073709551616).toNat
def Mt (x:Int):Bool:=decide (-2147483648<=x)&&decide (x<=2147483647)
def bH (o:HOp):Bool :=
 decide (1<=o.aL)&&decide (o.aL<=14)&&decide (o.path.length<=255)&&decide (o.dest.length<=255)&&decide (o.bytes.length<=1024)&&Mt o.handle&&Mt o.n
def enc (o:HOp):List Nat :=
 [u64 o.aL%256,o.path.length%256]++o.path++[o.dest.length%256]++o.dest++le 4 (u64 o.handle)++le 4 (u64 o.n)++le 8 (u64 o.aF)++le 2 o.bytes.length++o.bytes
def sum_lt (l:List Nat):sum l<4294967296:=by
 unfold sum;omega
end HP
namespace PI
structure bF where
 aL:Nat
 links:Nat
 size:Nat
 direct:List Nat
 single:Nat
 double:Nat
deriving DecidableEq
def none_:bF:=⟨0,0,0,[0,0,0,0,0,0],0,0⟩
instance:Inhabited bF:=⟨none_⟩
def aB (p:Nat):Bool:=decide (p<8192)
def right (i:bF):Bool :=
 if i.aL=0 then decide (i=none_)
 else i.direct.all aB&&(decide (i.aL=1)||decide (i.aL=2))&&decide (i.links<=1000)&&decide (i.size<=2147483647)&&aB i.single&&aB i.double
def bytes (i:bF):List Nat:=[i.aL%256,0]++HP.le 2 i.links++HP.le 4 i.size++i.direct.flatMap (HP.le 2)++HP.le 2 i.single++HP.le 2 i.double
def take (b:List Nat)(at_ n:Nat):Nat:=HP.num ((b.drop at_).take n)
def ofBytes (b:List Nat):bF:=⟨take b 0 1,take b 2 2,take b 4 4,[take b 8 2,take b 10 2,take b 12 2,take b 14 2,take b 16 2,take b 18 2],take b 20 2,take b 22 2⟩
def read (b:List Nat):bF×Int :=
 if b.length≠24 then (none_,1)
 else if b.getD 1 0≠0\/right (ofBytes b)=false then (none_,51)
 else (ofBytes b,0)
def WM (size:Int):Int:=if size=64\/size=128\/size=256\/size=512 then size/24 else 0
def there (b:List Nat)(k:Int):Bool:=decide (0<=k)&&decide (k<WM b.length)
def get (b:List Nat)(k:Nat):bF×Int:=if there b k then read ((b.drop (k*24)).take 24) else (none_,1)
def lay (b:List Nat)(k:Nat)(i:bF):List Nat:=b.take (k*24)++bytes i++b.drop (k*24+24)
end PI
open RowKit
abbrev vi (n:Int):acK:=.int .i64 n
def bS {a b:Int}(h:a=b):Ending.returned (vi a)=ab4 (vi b):=by rw[h]
def aU {a b:Bool}(h:a=b):Ending.returned (acg a)=ab4 (acg b):=by rw[h]
variable{w:acL}{a:acM}
def lU {v:acK}(h:w.cell? a=some v):a.block<w.heap.size:=by
 rcases Nat.lt_or_ge a.block w.heap.size with hlt|hge;exact hlt;simp[acL.cell?,Array.getElem?_eq_none hge]at h
variable{w':acL}
def cell_below {v:acK}(h:w.cell? a=some v)(hb:acN w.heap.size w w'):w'.cell? a=some v :=
 (hb.cell (lU h)).trans h
structure Sub (W:acL) where
 w:acL
 below:acN W.heap.size W w
instance {W:acL}:Nonempty (Sub W):=⟨⟨W,ak⟩⟩
variable{W:acL}
def Sub.cell {v:acK}(h:W.cell? a=some v):∀n:Sub W,n.w.cell? a=some v:=λn=>cell_below h n.below
def Sub.grow (n:Sub W)(h:acN n.w.heap.size n.w w'):acN W.heap.size W w':=n.below.trans (h.mono n.below.size)
variable{P:Program}{f:FuncId}
def fM {args:Array acK}{n:Sub W}{v:acK}
  (h:ac4 P f args n.w λe w'=>e=ab4 v/\acN n.w.heap.size n.w w') :
  ac4 P f args n.w λe w''=>e=ab4 v/\∃m:Sub W,w''=m.w :=
 h.mono λ_ _ ⟨he,hb⟩=>⟨he,⟨_,n.grow hb⟩,rfl⟩
variable{Q:Exit->Act->acL->Prop}{a:Act}
def aZ {id:Nat}{l:List aiT}(hm:P.follows .mixedOrders=true)(hB:Region.lexB .any l.toArray=true)
  (h:wpQuiet P l.toArray (λw'=>∃n:Sub w,w'=n.w) (λa'=>∀w',(∃n:Sub w,w'=n.w)->Q .normal a' w') l a):(Code.region id l.toArray true).wp P Q a w :=
 wp_region_quiet (C:=λw'=>∃n:Sub w,w'=n.w) hm hB ⟨⟨_,au⟩,rfl⟩ (by simpa using h)
def dI {fn:Func}{c:Code}(hf:P.funcs[f]?=some fn)(hname:(fn.name== "runtime.NumGoroutine")=false)(hb:fn.body=some c)(args:Array acK)(w:acL) :
  (callFunc f args).run P w=.ok (.enter f args) w:=by
 have h1:fn.name≠ "runtime.NumGoroutine":=by simpa using hname
 simp[callFunc,hf,h1,hb]
variable{rest:List aiT}
def wpList_append_run {ops:Array aiT}{o:aiT}(hgd:o.guard=none)(s x:ahW){t:acO}
  (ho:o.op=.call {callee:=.builtin .append,args:=#[s,x],argTypes:=#[t,t]}) {v src v':acK} (hs:a.eval s=v) (hx:a.eval x=src)
  (hrun:(aaR #[t,t] o.type #[v,src]).run P w=.ok v' w') (h:wpList P ops Q rest (a.put o.dst v') w'):wpList P ops Q (o::rest) a w:=by
 refine acP hgd λK hK=>?_
 unfold aiT.wp execOp;simp only[ho,resolve,invoke,builtin,Sem.run_bind,Sem.run_pure,ahc,ahs,aaF,abQ,hs,hx,hrun];exact hK _ _ h
abbrev vb (n:Nat):acK:=.int .u8 n
abbrev vq (n:Nat):acK:=.int .u64 n
abbrev vw (n:Nat):acK:=.int .u32 n
def add_plain (b o k:Nat):(⟨b,o,none⟩:acM).add k=⟨b,o+k,none⟩:=by unfold acM.add;split<;>simp[*]
def aD (w:acL)(g:Nat)(t:acO)(cs:Array acK):Prop:=w.heap[g]?=some (ach cs t (0,0))
section
variable{w w':acL}{g:Nat}{t:acO}{cs:Array acK}
def aD.lt (h:aD w g t cs):g<w.heap.size:=by
 rcases Nat.lt_or_ge g w.heap.size with hlt|hge;exact hlt;unfold aD at h;rw[Array.getElem?_eq_none hge]at h;cases h
def aD.cell (h:aD w g t cs)(i:Nat):w.cell? ⟨g,i,none⟩=cs[i]?:=cell_of_row w g i cs t (0,0) h
def aD.frozen (h:aD w g t cs)(i:Nat):w.frozen? ⟨g,i,none⟩=false:=by
 unfold aD at h;simp[acL.frozen?,h]
def aD.new (w:acL)(t:acO)(cs:Array acK):aD (w.alloc (ach cs t)) w.heap.size t cs:=heap_alloc_new w _
def aD.alloc (h:aD w g t cs)(o:Obj):aD (w.alloc o) g t cs:=(acN.heap_alloc w o g h.lt).trans h
def mD {c:Code}(h:∀W,Hid (acN w.heap.size w W)->Hid (aD W w.heap.size t cs)->c.wp P Q a W):c.wp P Q a (w.alloc (ach cs t)) :=
 h _ (az ax) (az (aD.new w t cs))
def ny {c:Code}{s:acO}{ds:Array acK}(h:∀W,Hid (acN w.heap.size w W)->Hid (aD W w.heap.size t cs)->Hid (aD W (w.heap.size+1) s ds)->c.wp P Q a W):c.wp P Q a ((w.alloc (ach cs t)).alloc (ach ds s)) :=
 h _ (az (ax.alloc ai _)) (az ((aD.new w t cs).alloc _)) (az (by have h:=aD.new (w.alloc (ach cs t)) s ds;rwa[show (w.alloc (ach cs t)).heap.size=w.heap.size+1 by simp]at h))
def aD.bB (h:aD w g t cs)(i:Nat)(u:acK):aD (w.setCell ⟨g,i,none⟩ u) g t (cs.setIfInBounds i u):=by
 unfold aD at h ⊢;simp[ahu,Array.getElem?_modify,h]
def aD.far (h:aD w g t cs){p:acM}(hp:g≠p.block)(u:acK):aD (w.setCell p u) g t cs:=(aha w p u g hp).trans h
def aD.below {B:Nat}(h:aD w g t cs)(hb:acN B w w')(hg:g<B):aD w' g t cs:=(hb.block g hg).trans h
def aD.old (h:aD w g t cs)(hb:acN w.heap.size w w'):aD w' g t cs:=h.below hb h.lt
def aD.grown {row:Option Nat}(h:aD w g t cs)(hb:w.grownBy w' row)(hg:some g≠row):aD w' g t cs:=(hb.block g h.lt hg).trans h
def bU {aA:Nat}{e:acO}{size n:Nat}{v:acK}{xs:List acK}(h:w.ownsRow aA e size v n xs)(hg:aD w g t cs)(hne:t≠e):some g≠v.ownBlock:=by
 rcases h.2 with⟨rfl,_⟩|⟨g',cap,cur,rfl,_,hh,_⟩;simp[acK.ownBlock];intro he;have:g=g':=by simpa[acK.ownBlock] using he
 subst this;unfold aD at hg;rw[hg]at hh;injection hh with hh;injection hh with _ ht;exact hne ht
end
def bv (l:List Nat):List acK:=l.map vb
def sj (l:List Nat):(bv l).length=l.length:=List.length_map ..
def wY (l m:List Nat):bv (l++m)=bv l++bv m:=List.map_append ..
def Q8 (l:List Nat):∀u∈bv l,u.oneCell'=true:=by
 intro u hu;obtain⟨x,_,rfl⟩:=aay.1 hu;rfl
variable{l:List Nat}{i:Nat}
def EM (h:i<l.length):(bv l)[i]?=some (vb (l.getD i 0)):=by
 simp[bv,h,afh]
structure bE (w:acL)(a:Option acM)(l:List Nat):Prop where
 small:∀x∈l,x<256
 at_:l=[]\/∃b o,a=some ⟨b,o,none⟩/\∀i,i<l.length->w.cell? ⟨b,o+i,none⟩=some (vb (l.getD i 0))
variable{a:Option acM}
def bE.below (h:bE w a l)(hb:acN w.heap.size w w'):bE w' a l:=by
 refine⟨h.small,?_⟩;rcases h.at_ with h0|⟨b,o,rfl,h1⟩;exact ack h0;exact acm ⟨b,o,rfl,λi hi=>cell_below (h1 i hi) hb⟩
def bE.news {ad:acM}(h:bE w (some ad) l):∀j u,(bv l)[j]?=some u->w.cell? (ad.add j)=some u:=by
 intro j u hu;rcases h.at_ with rfl|⟨b,o,he,h1⟩;simp[bv]at hu;injection he with he;subst he;have hj:j<l.length:=by
  have:=(aaB.1 hu).1;simpa[bv] using this
 rw[EM hj]at hu;rw[add_plain,h1 j hj];exact hu
def zZ (h:∀b∈l,b<256)(i:Nat):l.getD i 0<256:=by
 rcases Nat.lt_or_ge i l.length with hi|hi;have:l.getD i 0=l[i]:=by simp[afh,hi]
 rw[this];exact h _ (aff hi);rw[aah,List.getElem?_eq_none hi];decide
def bE.lookup (h:bE w a l){k:Nat}(hk:k<l.length):∃b o,a=some ⟨b,o,none⟩/\w.cell? ⟨b,o+k,none⟩=some (vb (l.getD k 0))/\l.getD k 0<256:=by
 rcases h.at_ with rfl|⟨b,o,rfl,h1⟩;simp at hk;exact⟨b,o,rfl,h1 k hk,zZ h.small k⟩
variable{n:Nat}
def getD_take (h:i<n):(l.take n).getD i 0=l.getD i 0:=by
 simp[afh,h]
def getD_drop (l:List Nat)(n i:Nat):(l.drop n).getD i 0=l.getD (n+i) 0:=by
 simp[afh]
def bE.take (h:bE w a l)(n:Nat):bE w a (l.take n):=by
 refine⟨λx hx=>h.small x (afp hx),?_⟩;rcases h.at_ with rfl|⟨b,o,rfl,h1⟩;exact ack ai;refine acm ⟨b,o,rfl,λi hi=>?_⟩;have hi':i<n/\i<l.length:=by simpa[Nat.lt_min] using hi
 rw[getD_take hi'.1];exact h1 i hi'.2
def bE.drop {b o:Nat}(h:bE w (some ⟨b,o,none⟩) l)(n:Nat):bE w (some ⟨b,o+n,none⟩) (l.drop n):=by
 refine⟨λx hx=>h.small x (List.mem_of_mem_drop hx),?_⟩;rcases h.at_ with rfl|⟨b',o',he,h1⟩;exact ack ai;injection he with he;injection he with hb ho _;subst hb ho;refine acm ⟨b,o+n,rfl,λi hi=>?_⟩;have hi':n+i<l.length:=by have:=adt (i:=n) (l:=l);omega
 rw[getD_drop,Nat.add_assoc];exact h1 _ hi'
def bE.nil (w:acL)(a:Option acM):bE w a []:=⟨by simp,ack rfl⟩
variable{g:Nat}
def bE.Q9 {t:acO}{cs:Array acK}(h:aD w g t cs)(hc:cs=(bv l).toArray)(hs:∀x∈l,x<256):bE w (some ⟨g,0,none⟩) l:=by
 subst hc;refine⟨hs,acm ⟨g,0,rfl,λi hi=>?_⟩⟩;rw[abU,h.cell,List.getElem?_toArray,EM hi]
def l8:(prog.info? 5).map (λi=>(i.zero,i.size,i.bytes))=some (some (.int .u8 0),1,1):=ah
def Own (w:acL)(aA:Nat)(v:acK)(l:List Nat):Prop:=w.ownsRow aA 5 1 v l.length (bv l)
def Own.nil (w:acL)(aA:Nat):Own w aA (aco none 0 0) []:=acL.ownsRow_nil _ _ _ _
variable{aA:Nat}
def Own.row {v:acK}(h:Own w aA v l)(hs:∀x∈l,x<256):∃a c,v=aco a l.length c/\bE w a l/\l.length<=c:=by
 have h':=h;rcases h'.2 with⟨rfl,h0⟩|⟨g,cap,cur,rfl,_,_,hnc,_⟩;have:l=[]:=aaY h0;subst this;exact⟨none,0,rfl,bE.nil _ _,aj⟩;refine⟨_,cap,rfl,⟨hs,acm ⟨g,0,rfl,λi hi=>?_⟩⟩,hnc⟩;rw[abU,acL.ownsRow.cellAt h i aa,EM hi]
def Own.old {v:acK}(h:Own w aA v l)(hb:acN w.heap.size w w'):Own w' aA v l :=
 acL.ownsRow.kept h (row:=none) ⟨hb.os,hb.tape,hb.output,hb.size,λk hk _=>hb.block k hk⟩ (by
  cases hv:v.ownBlock
  exact ack rfl
  exact acm ai)
def Own.more {base':Nat}{v:acK}(h:Own w aA v l)(hb:base'<=aA):Own w base' v l:=by
 refine⟨h.1,?_⟩;rcases h.2 with h|⟨g,cap,cur,h1,h2,h3⟩;exact ack h;exact acm ⟨g,cap,cur,h1,Nat.le_trans hb h2,h3⟩
def Own.drew {v:acK}(h:Own w aA v l):Own w.drew aA v l:=h
def aD.drew {t:acO}{cs:Array acK}(h:aD w g t cs):aD w.drew g t cs:=h
def bE.drew (h:bE w a l):bE w.drew a l:=⟨h.small,h.at_⟩
def Own.lit (hb:aA<=w.heap.size)(l:List Nat)(hl:l.length<=1000000){cs:Array acK}(hc:cs=(bv l).toArray) :
  Own (w.alloc (ach cs 5)) aA (aco (some ⟨w.heap.size,0,none⟩) l.length l.length) l:=by
 subst hc;exact acL.ownsRow_lit w (bv l).toArray l.length hb (by unfold maxLen;omega) (by simp[sj])
structure Stp (aA:Nat)(w w':acL):Prop where
 below:acN aA w w'
 blk:∀g t cs,t≠5->aD w g t cs->aD w' g t cs
def Stp.refl (aA:Nat)(w:acL):Stp aA w w:=⟨ak,λ_ _ _ _ h=>h⟩
def Stp.trans {a b c:acL}(h:Stp aA a b)(k:Stp aA b c):Stp aA a c:=⟨h.below.trans k.below,λg t cs ht hb=>k.blk g t cs ht (h.blk g t cs ht hb)⟩
def Stp.of_below (h:acN w.heap.size w w')(hb:aA<=w.heap.size):Stp aA w w':=⟨h.mono hb,λ_ _ _ _ hg=>hg.old h⟩
def Stp.alloc (h:Stp aA w w')(hb:aA<=w'.heap.size)(o:Obj):Stp aA w (w'.alloc o):=⟨h.below.alloc hb o,λg t cs ht hg=>(h.blk g t cs ht hg).alloc o⟩
def Stp.size (h:Stp aA w w'):w.heap.size<=w'.heap.size:=h.below.size
variable{m:List Nat}
def uo {v:acK}(hown:Own w aA v l){c:Nat}
  (hr:bE w a m) (hn:l.length+m.length<=1000000) (hb:aA<=w.heap.size) :
  ∃v' w',(aaR #[23,23] 23 #[v,.slice a m.length c]).run prog w=.ok v' w'/\Own w' aA v' (l++m)/\Stp aA w w'/\w.grownBy w' v.ownBlock:=by
 obtain⟨i0,hi,hz0,hz1,hz2⟩:=info_parts l8;cases a with
 |some ad =>
  obtain⟨v',w',h1,h2,h3,_⟩:=run_append_own_at (P:=prog) w aA 23 23 5 i0 _ 1 1 underlying23 hi hz0 hz1 hz2 rfl aa v l.length (bv l) hown ad m.length c (bv m) (by rw[sj];omega) hr.news (Q8 m)
   (by unfold maxLen;omega) aa hb
  refine⟨v',w',h1,?_,⟨(acN.refl aA w).grown h3 hb (λk hk=>(hown.lt k hk).1),λg t cs ht hg=>hg.grown h3 (bU hown hg ht)⟩,h3⟩;unfold Own;rw[acZ,wY];exact h2
 |none =>
  have h0:m=[]:=by
   rcases hr.at_ with h|⟨b,o,he,_⟩;exact h;cases he
  subst h0;refine⟨v,w,?_,by simpa using hown,Stp.refl _ _,acL.grownBy.refl w _⟩;rcases hown.2 with⟨rfl,h00⟩|⟨g,cap,cur,rfl,_,_,hnc,_⟩;simp[aaR,acQ underlying23,sizeOf,typeInfo,hi,Builtin.lenOf,Builtin.firstCells];simp[aaR,acQ underlying23,sizeOf,typeInfo,hi,Builtin.lenOf,Builtin.firstCells,hnc,storeCells]
def ik {v:acK}(hown:Own w aA v l){c:Nat}
  (hr:bE w a m) (hn:l.length+m.length<=1000000) (hb:aA<=w.heap.size) :
  ∃v' w',(aaR #[23,23] 23 #[v,aco a m.length c]).run prog w=.ok v' w'/\Own w' aA v' (l++m)/\Stp aA w w' :=
 let ⟨v',w',h1,h2,h3,_⟩:=uo hown (c:=c) hr hn hb
 ⟨v',w',h1,h2,h3⟩
def bE.grown {o:Nat}{row:Option Nat}(h:bE w (some ⟨g,o,none⟩) l)(hg:w.grownBy w' row)(hne:some g≠row):bE w' (some ⟨g,o,none⟩) l:=by
 refine⟨h.small,?_⟩;rcases h.at_ with h0|⟨b,o',he,h1⟩;exact ack h0;injection he with he;injection he with hb ho _;subst hb ho;exact acm ⟨g,o,rfl,λi hi=>hg.cell (h1 i hi) hne⟩
variable{K:Act->acL->Prop}{E:Prop}
def qf {ops:Array aiT}{o:aiT}{a:Act}(hgd:o.guard=none)(s x:ahW){t u:acO}
  (ho:o.op=.call {callee:=.builtin .append,args:=#[s,x],argTypes:=#[t,u]}) {v src v':acK} (hs:a.eval s=v) (hx:a.eval x=src)
  (hrun:(aaR #[t,u] o.type #[v,src]).run P w=.ok v' w') (h:K (a.put o.dst v') w'):if Region.wanted o (yielded ops a.tmps)=true then aiT.wp P o a w K Q else E:=by
 have hw:Region.wanted o (yielded ops a.tmps)=true:=by simp[Region.wanted,hgd]
 rw[if_pos hw];unfold aiT.wp execOp;simp only[ho,resolve,invoke,builtin,Sem.run_bind,Sem.run_pure,ahc,ahs,aaF,abQ,hs,hx,hrun];exact h
def size_alloc (w:acL)(o:Obj):(w.alloc o).heap.size=w.heap.size+1:=ai
def J3 {v:acK}(hown:Own w aA v l)(xs:List Nat)(hs:∀x∈xs,x<256){H:Nat}(hl:xs.length=n)(hH:w.heap.size=H){cs:Array acK}(hc:cs=(bv xs).toArray)
  (hn:l.length+n<=1000000) (hb:aA<=w.heap.size) :
  ∃v' w',(aaR #[23,23] 23 #[v,aco (some ⟨H,0,none⟩) n n]).run prog (w.alloc (ach cs 5))=.ok v' w'/\Own w' aA v' (l++xs)/\Stp aA w w':=by
 subst hl hH;obtain⟨v',w',h1,h2,h3⟩:=ik (c:=xs.length) (hown.old (ak.alloc aj (ach cs 5))) (bE.Q9 (aD.new w 5 cs) hc hs) hn (by simp;omega);exact⟨v',w',h1,h2,((Stp.refl _ _).alloc hb _).trans h3⟩
def bs (l:List Nat):ByteArray:=⟨(l.map UInt8.ofNat).toArray⟩
def run_text (h:bE w a l)(c:Nat):(convert 23 9 (.slice a l.length c)).run prog w=.ok (.string (bs l)) w:=by
 rcases h.at_ with rfl|⟨b,o,rfl,h1⟩;cases a with
 |none=>exact run_convert_bytes_nil w _ _ underlying23 underlying5 _ _ _ underlying9
 |some ad =>
  have:=run_convert_bytes_back (P:=prog) w 23 9 5 ad c [] underlying23 underlying5 underlying9 (λj hj=>by simp at hj);exact this
 have:=run_convert_bytes_arg (P:=prog) w _ _ underlying23 underlying5 b o l.length c (l.map (λn:Nat=>(n:Int))) ai (λi hi=>by
  rw[h1 i hi]
  simp[afh,hi]) _ underlying9
 rw[this];have e:strOfNums (l.map (λn:Nat=>(n:Int)))=bs l:=by
  simp[strOfNums,bs,Function.comp_def]
 rw[e]
def Ra (w:acL)(x:Nat)(h:x<256):bE (w.alloc (ach #[vb x] 5)) (some ⟨w.heap.size,0,none⟩) [x] :=
 bE.Q9 (aD.new w _ _) (by simp[bv]) (by simpa using h)
variable{j:Nat}
def bE.zK {t:acO}{cs:Array acK}{u:acK}(hm:bE w a m)(hb:aD w g t cs)(hv:∀j n:Nat,cs[j]?≠some (vb n)):bE (w.setCell ⟨g,j,none⟩ u) a m:=by
 refine⟨hm.small,?_⟩;rcases hm.at_ with h0|⟨b,o,rfl,h1⟩;exact ack h0;by_cases hbg:b=g;refine ack ?_;subst hbg;rcases m with _|⟨x,m⟩;rfl;have h2:=h1 0 ai;rw[hb.cell]at h2;exact absurd h2 (hv _ _);refine acm ⟨b,o,rfl,λi hi=>?_⟩;rw[acL.cell?_setCell_other _ _ _ _ (λe=>hbg (by injection e with e1;exact e1.symm))];exact h1 i hi
def below_drewN {B:Nat}{a:acL}(h:acN B a w)(n:Nat):acN B a (w.drewN n):=⟨h.os,h.tape,h.output,h.size,h.block⟩
namespace NP
def qH (n:Int):Int:=(n+9223372036854775808)%18446744073709551616-9223372036854775808
structure Rh where
 at_:Int
 aL:Int
 data:List Nat
instance:Inhabited Rh:=⟨⟨0,0,[]⟩⟩
structure NZ where
 ps:List (List Nat)
 next:Nat
 broken:Bool
 bad:Bool
 eF:Int
instance:Inhabited NZ:=⟨⟨[],0,false,false,0⟩⟩
structure bX where
 B:Nat
 P:Nat
 S:Nat
 bs:List NZ
 fs:List Rh
 since:Int
 down:Bool
 dQ:Int
 reads:Int
def bH (b p s:Int):Bool:=decide (8<=b)&&decide (b<=128)&&decide (4<=p)&&decide (p<=32)&&(s==64||s==128||s==256||s==512)
abbrev bX.full (c:bX):Nat:=c.S+32
abbrev bX.blk (c:bX)(k:Nat):NZ:=c.bs.getD k default
abbrev NZ.aB (x:NZ)(i:Nat):List Nat:=x.ps.getD i []
structure bX.ok (c:bX):Prop where
 right:bH c.B c.P c.S=true
 blocks:c.bs.length=c.B
 pages:∀x∈c.bs,x.ps.length=c.P
 full:∀x∈c.bs,∀l∈x.ps,l=[]\/l.length=c.full
 small:∀x∈c.bs,∀l∈x.ps,∀y∈l,y<256
 next:∀x∈c.bs,x.next<=c.P
def bX.order (c:bX):Prop:=∀x∈c.bs,x.broken=false->∀i,x.next<=i->x.aB i=[]
def Ri (p:Nat):NZ:=⟨aaA p [],0,false,false,0⟩
def blank (b p s:Nat):bX:=⟨b,p,s,aaA b (Ri p),[],0,false,0,0⟩
def gI (c:bX)(k:Nat)(x:NZ):bX:={c with bs:=c.bs.set k x}
def Ac (c:bX)(k:Nat):bX:=gI c k {c.blk k with bad:=true}
def badTo (c:bX):List Int->Option bX
 |[]=>some c
 |k::l=>if 0<=k/\k<c.B then badTo (Ac c k.toNat) l else none
def new (b p s:Int)(bad:List Int):Option bX:=if bH b p s then badTo (blank b.toNat p.toNat s.toNat) bad else none
def asked (c:bX)(k aB:Int):Int:=if c.down then 4 else if 0<=k/\k<c.B/\0<=aB/\aB<c.P then 0 else 12
def Ad (n:Nat)(data:List Nat):List Nat:=data.take n++aaA (n-data.length) 255
def bQ (c:bX)(k aB:Int):(List Nat×Int)×bX :=
 let e:=asked c k aB
 if e=0 then
  let b:=(c.blk k.toNat).aB aB.toNat
  ((if b=[] then aaA c.full 255 else b,0),{c with reads:=qH (c.reads+1)})
 else (([],e),c)
def faultOf:List Rh->Int->Rh
 |[],_=>default
 |f::l,a=>if f.at_=a then f else faultOf l a
def stroke (c:bX):bX:={c with since:=qH (c.since+1),dQ:=qH (c.dQ+1)}
def ni (c:bX)(k:Nat)(l:List Nat):bX :=
 let x:=c.blk k
 gI c k {x with ps:=x.ps.set x.next l,next:=x.next+1}
def qg (c:bX):bX:={c with down:=true}
def program (c:bX)(k aB:Int)(b:List Nat):Int×bX :=
 let e:=asked c k aB
 if e=0 then
  let x:=c.blk k.toNat
  if b.length=c.full then
   if x.bad then (13,c)
   else if x.broken||decide (aB≠x.next) then (10,c)
   else
    let f:=faultOf c.fs c.since
    if f.aL=1 then (4,qg (stroke c))
    else if f.aL=2 then (4,qg (ni (stroke c) k.toNat (Ad c.full f.data)))
    else if f.aL=3 then (11,ni (stroke c) k.toNat (Ad c.full f.data))
    else (0,ni (stroke c) k.toNat b)
  else (1,c)
 else (e,c)
def Ae (n:Nat)(y:Nat)(l:List Nat):List Nat:=if y=0 then l else if 1<y then aaA n y else []
def cutTo (n:Nat)(data:List Nat)(ps:List (List Nat)):Nat->List (List Nat)
 |0=>ps
 |k+1=>let q:=cutTo n data ps k;q.set k (Ae n (data.getD k 0) (q.getD k []))
def kK (c:bX)(k:Nat)(data:List Nat):bX :=
 let x:=c.blk k
 gI c k {x with ps:=cutTo c.full data x.ps x.ps.length,broken:=true,eF:=qH (x.eF+1)}
def erase (c:bX)(k:Int):Int×bX :=
 let e:=asked c k 0
 if e=0 then
  let x:=c.blk k.toNat
  if x.bad then (13,c)
  else
   let f:=faultOf c.fs c.since
   if f.aL=1 then (4,qg (stroke c))
   else if f.aL=2 then (4,qg (kK (stroke c) k.toNat f.data))
   else if f.aL=3 then (11,kK (stroke c) k.toNat f.data)
   else (0,gI (stroke c) k.toNat ⟨aaA c.P [],0,false,false,qH (x.eF+1)⟩)
 else (e,c)
def mark (c:bX)(k:Int):Int×bX :=
 let e:=asked c k 0
 if e=0 then (0,Ac c k.toNat) else (e,c)
def script (c:bX)(l:List Rh):Int×bX :=
 if l.all (λf=>decide (0<=f.at_)) then (0,{c with fs:=l,since:=0}) else (1,c)
def upP (c:bX):bX:={c with down:=false}
def qO (c:bX)(k:Int):Bool:=if 0<=k/\k<c.B then (c.blk k.toNat).bad else true
def bC (c:bX)(k:Int):Int:=if 0<=k/\k<c.B then (c.blk k.toNat).eF else 0
inductive Act where
 |program (k aB:Int) (b:List Nat)
 |erase (k:Int)
 |mark (k:Int)
 |read (k aB:Int)
 |Wv
 |start
 |script (l:List Rh)
 |none
def act (c:bX):Act->bX
 |.program k p b=>(program c k p b).2
 |.erase k=>(erase c k).2
 |.mark k=>(mark c k).2
 |.read k p=>(bQ c k p).2
 |.Wv=>qg c
 |.start=>upP c
 |.script l=>(script c l).2
 |.none=>c
section
variable{c:bX}
def bL {α:Type}{l:List α}{d:α}(h:i<l.length):l.getD i d∈l:=by
 rw[aah,aaj h];exact aff h
def iO {α:Type}(l:List α)(d x:α)(i j:Nat)(hi:i<l.length):(l.set i x).getD j d=if i=j then x else l.getD j d:=by
 simp only[aah,aa6];split;rename_i h;subst h;simp;rfl
def fB {k aB:Int}(h:asked c k aB=0):c.down=false/\0<=k/\k<c.B/\0<=aB/\aB<c.P:=by
 unfold asked at h;split at h;simp at h;split at h;rename_i h1 h2;exact⟨by simpa using h1,h2⟩;simp at h
variable{k:Nat}
def bX.ok.mem (h:c.ok)(hk:k<c.B):c.blk k∈c.bs:=bL (by rw[h.blocks];exact hk)
variable{x:NZ}
def bX.ok.set (h:c.ok)(h1:x.ps.length=c.P)(h2:∀l∈x.ps,l=[]\/l.length=c.full)(h3:∀l∈x.ps,∀y∈l,y<256)(h4:x.next<=c.P):(gI c k x).ok:=by
 have hm:∀y∈c.bs.set k x,y=x\/y∈c.bs:=λy hy=>(aat hy).symm
 refine⟨h.right,by simp[gI,h.blocks],?_,?_,?_,?_⟩;intro y hy;rcases hm y hy with rfl|hy;exact h1;exact h.pages y hy;intro y hy;rcases hm y hy with rfl|hy;exact h2;exact h.full y hy;intro y hy;rcases hm y hy with rfl|hy;exact h3;exact h.small y hy
 ·intro y hy;rcases hm y hy with rfl|hy;exact h4
  ·exact h.next y hy
def nA (n:Nat)(data:List Nat):(Ad n data).length=n:=by
 simp only[Ad,acZ,acX,abP];omega
variable{data:List Nat}
def uL (h:∀y∈data,y<256):∀y∈Ad n data,y<256:=by
 intro y hy;rcases aaS.1 hy with hy|hy;exact h y (afp hy);rw[aaE]at hy;omega
def vE (n:Nat)(data:List Nat)(ps:List (List Nat)):∀k,(cutTo n data ps k).length=ps.length
 |0=>rfl
 |k+1=>by simp[cutTo,vE n data ps k]
def xe (n:Nat)(data:List Nat)(ps:List (List Nat))(Q:List Nat->Prop)(h0:Q [])(hq:∀l∈ps,Q l)(hr:∀y∈data,Q (aaA n y)):∀k,∀l∈cutTo n data ps k,Q l
 |0=>hq
 |k+1=>by
  intro l hl
  have ih:=xe n data ps Q h0 hq hr k
  rcases aat hl with hl|rfl
  exact ih l hl
  unfold Ae
  split
  rw[aah]
  cases hg:(cutTo n data ps k)[k]? with
  |none=>exact h0
  |some l=>exact ih l (aa8 hg)
  split
  rename_i h2
  rw[aah]at h2 ⊢
  cases hg:data[k]? with
  |none=>rw[hg]at h2;simp at h2
  |some y=>exact hr y (aa8 hg)
  exact h0
def ek (h:c.ok):(stroke c).ok:=⟨h.right,h.blocks,h.pages,h.full,h.small,h.next⟩
def vF (h:c.ok):(qg c).ok:=⟨h.right,h.blocks,h.pages,h.full,h.small,h.next⟩
def adh (h:c.ok):(upP c).ok:=⟨h.right,h.blocks,h.pages,h.full,h.small,h.next⟩
def iJ (h:c.ok)(hk:k<c.B)(hn:(c.blk k).next<c.P)(hl:l.length=c.full)(hs:∀y∈l,y<256):(ni c k l).ok:=by
 have hx:=h.mem hk;have hm:∀q∈(c.blk k).ps.set (c.blk k).next l,q=l\/q∈(c.blk k).ps:=λq hq=>(aat hq).symm;refine h.set ((abZ ..).trans (h.pages _ hx)) ?_ ?_ hn;intro q hq;rcases hm q hq with rfl|hq;exact acm hl;exact h.full _ hx q hq;intro q hq;rcases hm q hq with rfl|hq;exact hs;exact h.small _ hx q hq
def Mv (h:c.ok)(hk:k<c.B):(Ac c k).ok:=by
 have hx:=h.mem hk;exact h.set (x:={c.blk k with bad:=true}) (h.pages (c.blk k) hx) (h.full (c.blk k) hx) (h.small (c.blk k) hx) (h.next (c.blk k) hx)
def He (h:c.ok)(hk:k<c.B)(hd:∀y∈data,y<256):(kK c k data).ok:=by
 have hx:=h.mem hk;refine h.set ((vE ..).trans (h.pages _ hx)) ?_ ?_ (h.next (c.blk k) hx);exact xe _ _ _ (λl=>l=[]\/l.length=c.full) (ack rfl) (h.full _ hx) (λy _=>acm ai) _;refine xe _ _ _ (λl=>∀y∈l,y<256) ai (h.small _ hx) (λy hy z hz=>?_) _;rw[aaE]at hz;exact hz.2▸hd y hy
def fresh_ok (h:c.ok)(w:Int):(gI c k ⟨aaA c.P [],0,false,false,w⟩).ok:=by
 refine h.set ai ?_ ?_ (aaW _);intro l hl;exact ack (aaE.1 hl).2;intro l hl;rw[(aaE.1 hl).2];simp
def small (fs:List Rh):Prop:=∀f∈fs,∀y∈f.data,y<256
def fault_small:∀{fs:List Rh},small fs->∀a,∀y∈(faultOf fs a).data,y<256
 |[],_,a=>by simp[faultOf,default]
 |f::l,h,a=>by
  unfold faultOf
  split
  exact h f ai
  exact fault_small (λg hg=>h g (by simp[hg])) a
def Act.fine:Act->Prop
 |.program _ _ b=>∀y∈b,y<256
 |.script l=>small l
 |_=>True
def qP (h:c.ok)(hf:small c.fs)(a:Act)(ha:a.fine):(act c a).ok/\small (act c a).fs:=by
 cases a with
 |program k p b =>
  unfold act program;dsimp only;split
  ·rename_i he;obtain⟨_,h0,h1,h2,h3⟩:=fB he;have hk:k.toNat<c.B:=aa;split
   ·rename_i hl;split;exact⟨h,hf⟩
    ·split;exact⟨h,hf⟩
     ·rename_i hb;simp only[ae5,decide_eq_true_eq,not_or,Decidable.not_not]at hb;have hn:(c.blk k.toNat).next<c.P:=aa;have hs:=fault_small hf c.since;split;exact⟨vF (ek h),hf⟩;split;exact⟨vF (iJ (ek h) hk hn (nA _ _) (uL hs)),hf⟩;split;exact⟨iJ (ek h) hk hn (nA _ _) (uL hs),hf⟩;exact⟨iJ (ek h) hk hn hl ha,hf⟩
   exact⟨h,hf⟩
  exact⟨h,hf⟩
 |erase k =>
  unfold act erase;dsimp only;split;rename_i he;obtain⟨_,h0,h1,h2,h3⟩:=fB he;have hk:k.toNat<c.B:=aa;have hs:=fault_small hf c.since;split;exact⟨h,hf⟩;split;exact⟨vF (ek h),hf⟩;split;exact⟨vF (He (ek h) hk hs),hf⟩;split;exact⟨He (ek h) hk hs,hf⟩;exact⟨fresh_ok (ek h) _,hf⟩;exact⟨h,hf⟩
 |mark k =>
  unfold act mark;dsimp only;split;rename_i he;obtain⟨_,h0,h1,h2,h3⟩:=fB he;exact⟨Mv h aa,hf⟩;exact⟨h,hf⟩
 |read k p =>
  unfold act bQ;dsimp only;split
  ·exact⟨⟨h.right,h.blocks,h.pages,h.full,h.small,h.next⟩,hf⟩
  exact⟨h,hf⟩
 |Wv=>exact⟨vF h,hf⟩
 |start=>exact⟨adh h,hf⟩
 |script l =>
  show (script c l).2.ok/\small (script c l).2.fs;unfold script;split
  ·exact⟨⟨h.right,h.blocks,h.pages,h.full,h.small,h.next⟩,ha⟩
  exact⟨h,hf⟩
 |none=>exact⟨h,hf⟩
variable{k':Nat}
def Rj {p:Nat}(hk:k<c.bs.length):((gI c k x).blk k').aB p=if k=k' then x.aB p else (c.blk k').aB p:=by
 show ((c.bs.set k x).getD k' default).aB p=_;rw[iO _ _ _ _ _ hk];split<;>rfl
def Rk (h:c.ok){p:Nat}(hk:k<c.B)(hn:(c.blk k).next<c.P):((ni c k l).blk k').aB p=if k=k'/\(c.blk k).next=p then l else (c.blk k').aB p:=by
 unfold ni;dsimp only;rw[Rj (by rw[h.blocks];exact hk)];by_cases e:k=k'
 ·subst e;rw[if_pos rfl];show ((c.blk k).ps.set (c.blk k).next l).getD p []=_;rw[iO _ _ _ _ _ (by rw[h.pages _ (h.mem hk)];exact hn)];simp
 rw[if_neg e,if_neg (λh=>e h.1)]
def il (hk:k<c.bs.length):(gI c k x).blk k'=if k=k' then x else c.blk k':=iO _ _ _ _ _ hk
def nZ (h:c.order)(hx:x.broken=false->∀i,x.next<=i->x.aB i=[]):(gI c k x).order:=by
 intro y hy hb i hi;rcases aat hy with hy|rfl;exact h y hy hb i hi;exact hx hb i hi
def xh (h:c.ok)(ho:c.order)(hk:k<c.B)(hn:(c.blk k).next<c.P):(ni c k l).order:=by
 refine nZ ho ?_;intro hb i hi;show ((c.blk k).ps.set (c.blk k).next l).getD i []=[];rw[iO _ _ _ _ _ (by rw[h.pages _ (h.mem hk)];exact hn),if_neg (by dsimp only at hi;omega)];exact ho _ (h.mem hk) hb i (by dsimp only at hi;omega)
def Af (h:c.ok)(ho:c.order)(hk:k<c.B):(Ac c k).order:=nZ ho (λhb i hi=>ho _ (h.mem hk) hb i hi)
def Hg (ho:c.order)(w:Int):(gI c k ⟨aaA c.P [],0,false,false,w⟩).order:=by
 refine nZ ho ?_;intro _ i _;show (aaA c.P []).getD i []=[];rw[aah,List.getElem?_replicate];split<;>rfl
def N7 (h:c.ok)(ho:c.order)(a:Act):(act c a).order:=by
 cases a with
 |program k p b =>
  unfold act program;dsimp only;split
  ·rename_i he;obtain⟨_,h0,h1,h2,h3⟩:=fB he;have hk:k.toNat<c.B:=aa;split
   ·rename_i hl;split;exact ho
    ·split;exact ho
     ·rename_i hb;simp only[ae5,decide_eq_true_eq,not_or,Decidable.not_not]at hb;have hn:(c.blk k.toNat).next<c.P:=aa;split;exact ho;split;exact xh (ek h) ho hk hn;split;exact xh (ek h) ho hk hn;exact xh (ek h) ho hk hn
   exact ho
  exact ho
 |erase k =>
  unfold act erase;dsimp only;split;rename_i he;split;exact ho;split;exact ho;split;exact nZ (c:=stroke c) ho (λhb=>by cases hb);split;exact nZ (c:=stroke c) ho (λhb=>by cases hb);exact Hg (c:=stroke c) ho _;exact ho
 |mark k =>
  unfold act mark;dsimp only;split;rename_i he;obtain⟨_,h0,h1,h2,h3⟩:=fB he;exact Af h ho aa;exact ho
 |read k p =>
  unfold act bQ;dsimp only;split;exact ho;exact ho
 |Wv=>exact ho
 |start=>exact ho
 |script l =>
  show (script c l).2.order;unfold script;split;exact ho;exact ho
 |none=>exact ho
def Rl {b p s:Nat}(h:bH b p s=true):(blank b p s).ok:=by
 refine⟨h,abP ..,?_,?_,?_,?_⟩;all_goals intro x hx;obtain⟨_,rfl⟩:=aaE.1 hx
 exact abP ..;intro l hl;exact ack (aaE.1 hl).2;intro l hl;rw[(aaE.1 hl).2];simp;exact aaW _
def Hl (b p s:Nat):(blank b p s).order:=by
 intro x hx _ i _;obtain⟨_,rfl⟩:=aaE.1 hx;show (aaA p []).getD i []=[];rw[aah,List.getElem?_replicate];split<;>rfl
def Ho:∀{bad:List Int} {c d:bX},c.ok->c.order->badTo c bad=some d->d.ok/\d.order/\d.fs=c.fs/\d.B=c.B/\d.P=c.P/\d.S=c.S
 |[],c,d,h,ho,e=>by injection e with e;subst e;exact⟨h,ho,rfl,rfl,rfl,rfl⟩
 |k::l,c,d,h,ho,e=>by
  unfold badTo at e
  split at e
  rename_i hk
  exact Ho (bad:=l) (c:=Ac c k.toNat) (Mv h aa) (Af h ho aa) e
  cases e
def aal {b p s:Int}{bad:List Int}{d:bX}(e:new b p s bad=some d):d.ok/\d.order/\d.fs=[]/\(d.B:Int)=b/\(d.P:Int)=p/\(d.S:Int)=s:=by
 unfold new at e;split at e;rename_i hr;have hr':=hr;simp only[bH,Bool.and_eq_true,decide_eq_true_eq,ae5,beq_iff_eq]at hr';have hb:((b.toNat:Int)=b):=aa;have hp:((p.toNat:Int)=p):=aa;have hs:((s.toNat:Int)=s):=aa;obtain⟨h1,h2,h3,h4,h5,h6⟩:=Ho (Rl (by rw[hb,hp,hs];exact hr)) (Hl _ _ _) e;exact⟨h1,h2,h3,by rw[h4];exact hb,by rw[h5];exact hp,by rw[h6];exact hs⟩;cases e
end
end NP
structure aP (F:Nat->Prop)(w w':acL):Prop where
 os:w'.os=w.os
 tape:w'.tape=w.tape
 output:w'.output=w.output
 size:w.heap.size<=w'.heap.size
 block:∀k,k<w.heap.size->¬F k->w'.heap[k]?=w.heap[k]?
variable{F F':Nat->Prop}{w w' w'':acL}
def aP.refl (F:Nat->Prop)(w:acL):aP F w w:=⟨rfl,rfl,rfl,aj,λ_ _ _=>rfl⟩
def aP.trans (h:aP F w w')(k:aP F' w' w'')(hF:∀n,n<w.heap.size->F' n->F n):aP F w w'' :=
 ⟨k.os.trans h.os,k.tape.trans h.tape,k.output.trans h.output,Nat.le_trans h.size k.size,λi hi hn=>(k.block i (adN hi h.size) (λe=>hn (hF i hi e))).trans (h.block i hi hn)⟩
def aP.of_below (h:acN w.heap.size w w'):aP F w w':=⟨h.os,h.tape,h.output,h.size,λk hk _=>h.block k hk⟩
def aP.below (h:aP F w w')(k:acN w'.heap.size w' w''):aP F w w'':=h.trans (F':=F) (aP.of_below k) (λ_ _ e=>e)
def aP.mono (h:aP F w w')(hF:∀n,n<w.heap.size->F n->F' n):aP F' w w':=⟨h.os,h.tape,h.output,h.size,λk hk hn=>h.block k hk (λe=>hn (hF k hk e))⟩
def aP.set (w:acL){p:acM}(hp:F p.block)(u:acK):aP F w (w.setCell p u) :=
 ⟨rfl,rfl,rfl,by simp[ahu],λk _ hn=>aha w p u k (λe=>hn (by rw[e];exact hp))⟩
def aP.setCell (h:aP F w w'){p:acM}(hp:F p.block\/w.heap.size<=p.block)(u:acK):aP F w (w'.setCell p u) :=
 ⟨h.os,h.tape,h.output,by have:=h.size;simpa[ahu] using this,λk hk hn=>(aha w' p u k (by
  rintro rfl
  rcases hp with hp|hp
  exact hn hp
  omega)).trans (h.block k hk hn)⟩
def aP.alloc (h:aP F w w')(o:Obj):aP F w (w'.alloc o):=h.below ax
def aP.drew (h:aP F w w'):aP F w w'.drew:=⟨h.os,h.tape,h.output,h.size,h.block⟩
def aP.grown {row:Option Nat}(h:aP F w w')(g:w'.grownBy w'' row)(hr:∀k,row=some k->F k\/w.heap.size<=k):aP F w w'' :=
 ⟨g.os.trans h.os,g.tape.trans h.tape,g.output.trans h.output,Nat.le_trans h.size g.size,λk hk hn=>(g.block k (adN hk h.size) (by
  intro e
  rcases hr k e.symm with h1|h1
  exact hn h1
  omega)).trans (h.block k hk hn)⟩
def aP.dX (h:aP F w w')(hF:∀k,k<w.heap.size->F k->aA<=k)(hb:aA<=w.heap.size):acN aA w w' :=
 ⟨h.os,h.tape,h.output,h.size,λk hk=>h.block k aa (λe=>by have:=hF k aa e;omega)⟩
def aP.cell (h:aP F w w'){p:acM}{v:acK}(hc:w.cell? p=some v)(hn:¬F p.block):w'.cell? p=some v :=
 (acL.cell?_of_block (h.block p.block (lU hc) hn)).trans hc
def aD.aJ {t:acO}{cs:Array acK}(h:aD w g t cs)(q:aP F w w')(hn:¬F g):aD w' g t cs:=(q.block g h.lt hn).trans h
def qQ (t:acO):Bool:=t==5||t==186
def Safe (t:acO)(aA:Nat)(w:acL)(b:Nat):Prop:=b<aA\/∃cur,aD w b t cur
def Mine (aA:Nat)(w:acL)(b:Nat):Prop:=aA<=b/\∃t cur,qQ t=false/\aD w b t cur
def Safe.no {t:acO}{b:Nat}(h:Safe t aA w b)(m:Mine aA w b)(ht:qQ t=true:=by decide):False:=by
 obtain⟨m1,t',cur,ht',hb⟩:=m;rcases h with h|⟨cur',hb'⟩;omega;unfold aD at hb hb';rw[hb]at hb';injection hb' with hb';injection hb' with _ hb';subst hb';rw[ht]at ht';cases ht'
def Safe.aJ {t:acO}{b:Nat}(h:Safe t aA w b)(q:aP F w w')(hF:∀k,F k->Mine aA w k)(ht:qQ t=true:=by decide):Safe t aA w' b:=by
 rcases h with h|⟨cur,hb⟩;exact ack h;exact acm ⟨cur,hb.aJ q (λe=>Safe.no (t:=t) (acm ⟨cur,hb⟩) (hF b e) ht)⟩
def Safe.byte {b:Nat}{cur:Array acK}(h:aD w b 5 cur):Safe 5 aA w b:=acm ⟨cur,h⟩
structure dx (aA:Nat)(w:acL)(a:Option acM)(l:List Nat):Prop where
 row:bE w a l
 safe:l=[]\/∃b o,a=some ⟨b,o,none⟩/\Safe 5 aA w b
def dx.aJ (h:dx aA w a l)(q:aP F w w')(hF:∀k,F k->Mine aA w k):dx aA w' a l:=by
 rcases h.safe with rfl|⟨b,o,rfl,hs⟩;exact⟨bE.nil _ _,ack rfl⟩;refine⟨⟨h.row.small,?_⟩,acm ⟨b,o,rfl,hs.aJ q hF⟩⟩;rcases h.row.at_ with h0|⟨b',o',he,h1⟩;exact ack h0;injection he with he;injection he with hb ho;subst hb ho;exact acm ⟨b,o,rfl,λi hi=>q.cell (h1 i hi) (λe=>hs.no (hF b e))⟩
def dx.old (h:dx aA w a l)(q:acN w.heap.size w w'):dx aA w' a l:=h.aJ (F:=λ_=>False) (aP.of_below q) (λ_ e=>e.elim)
def dx.nil (aA:Nat)(w:acL)(a:Option acM):dx aA w a []:=⟨bE.nil _ _,ack rfl⟩
def dx.drop {b o:Nat}(h:dx aA w (some ⟨b,o,none⟩) l)(n:Nat):dx aA w (some ⟨b,o+n,none⟩) (l.drop n):=by
 refine⟨h.row.drop n,?_⟩;rcases h.safe with rfl|⟨b',o',he,hs⟩;exact ack ai;injection he with he;injection he with hb ho;subst hb ho;exact acm ⟨b,o+n,rfl,hs⟩
def Own.Db {base':Nat}{v:acK}(h:Own w base' v l)(hs:∀x∈l,x<256):∃a c,v=aco a l.length c/\dx aA w a l/\l.length<=c/\c<=maxLen/\(l=[]\/a≠none):=by
 have h':=h;rcases h'.2 with⟨rfl,h0⟩|⟨g,cap,cur,rfl,_,hg,hnc,hcm,_⟩;have:l=[]:=aaY h0;subst this;exact⟨none,0,rfl,dx.nil _ _ _,aj,aaW _,ack rfl⟩;obtain⟨a,c,hv,hr,hc⟩:=h.row hs;injection hv with h1 _ h3;subst h1 h3;exact⟨_,cap,rfl,⟨hr,acm ⟨g,0,rfl,Safe.byte hg⟩⟩,hnc,hcm,acm ai⟩
def kY (w:acL)(t:acO)(size g n c:Nat)(xs:List acK):Prop:=w.ownsRow 0 t size (aco (some ⟨g,0,none⟩) n c) n xs
section
variable{t t':acO}{size size' g g' n n' c c':Nat}{xs xs':List acK}
def kY.blk (h:kY w t size g n c xs):∃cur,aD w g t cur/\n<=c/\c<=maxLen/\cur.size=c*size/\cur.toList.take (n*size)=xs:=by
 rcases h.2 with⟨h1,_⟩|⟨g',cap,cur,hv,_,hb,h1,h2,h3,h4⟩;cases h1;injection hv with hv _ hc;injection hv with hv;injection hv with hv;subst hv hc;exact⟨cur,hb,h1,h2,h3,h4⟩
def kY.lt (h:kY w t size g n c xs):g<w.heap.size:=by
 obtain⟨cur,hb,_⟩:=h.blk;exact hb.lt
def kY.cell (h:kY w t size g n c xs)(hj:j<n*size):w.cell? ⟨g,j,none⟩=xs[j]?:=acL.ownsRow.cellAt h j hj
def kY.frozen (h:kY w t size g n c xs)(j:Nat):w.frozen? ⟨g,j,none⟩=false:=acL.ownsRow.frozenAt h j
def kY.set (h:kY w t size g n c xs)(j:Nat)(u:acK):kY (w.setCell ⟨g,j,none⟩ u) t size g n c (xs.set j u):=(acL.ownsRow.stored h j u).1
def kY.aJ (h:kY w t size g n c xs)(q:aP F w w')(hn:¬F g):kY w' t size g n c xs:=by
 refine⟨h.1,?_⟩;rcases h.2 with h1|⟨g',cap,cur,hv,hb,hg,h1⟩;exact ack h1;have e:=hv;injection e with e _ _;injection e with e;injection e with e;subst e;exact acm ⟨_,cap,cur,hv,hb,(q.block _ h.lt hn).trans hg,h1⟩
def kY.far (h:kY w t size g n c xs){p:acM}(hp:g≠p.block)(u:acK):kY (w.setCell p u) t size g n c xs :=
 h.aJ (F:=λk=>k=p.block) (aP.set (F:=λk=>k=p.block) w (p:=p) rfl u) hp
def kY.old (h:kY w t size g n c xs)(q:acN w.heap.size w w'):kY w' t size g n c xs:=h.aJ (F:=λ_=>False) (aP.of_below q) (λe=>e)
def kY.ne (h:kY w t size g n c xs)(h':kY w t' size' g' n' c' xs')(ht:t≠t'):g≠g':=by
 intro e;subst e;obtain⟨cur,hb,_⟩:=h.blk;obtain⟨cur',hb',_⟩:=h'.blk;unfold aD at hb hb';rw[hb]at hb';injection hb' with hb';injection hb' with _ hb';exact ht hb'
def kY.dM (h:kY w t size g n c xs){cs:Array acK}(h':aD w g' t' cs)(ht:t≠t'):g≠g':=by
 intro e;subst e;obtain⟨cur,hb,_⟩:=h.blk;unfold aD at hb h';rw[hb]at h';injection h' with h';injection h' with _ h';exact ht h'
def kY.lit (w:acL)(t:acO)(size n:Nat)(cs:Array acK)(hm:n<=maxLen)(hs:cs.size=n*size):kY (w.alloc (ach cs t)) t size w.heap.size n n cs.toList :=
 acL.ownsRow_lit w cs n (aaW _) hm hs
def kY.Rm {v:acK}{m:Nat}(h:w.ownsRow aA t size v m xs)(hm:0<m):∃g c,v=aco (some ⟨g,0,none⟩) m c/\kY w t size g m c xs/\aA<=g:=by
 rcases h.2 with⟨_,h0⟩|⟨g,cap,cur,rfl,hb,h1⟩;omega;exact⟨g,cap,rfl,⟨h.1,acm ⟨g,cap,cur,rfl,aaW _,h1⟩⟩,hb⟩
end
variable{α:Type}{f:α->List acK}{m:Nat}
def flat_length (hf:∀x,(f x).length=m):∀l:List α,(l.flatMap f).length=l.length*m
 |[]=>ai
 |x::l=>by rw[aaQ,acZ,hf,flat_length hf l,List.length_cons,Nat.add_mul];omega
def flat_get (hf:∀x,(f x).length=m)(d:α):∀(l:List α) (i j:Nat),i<l.length->j<m->(l.flatMap f)[i*m+j]?=(f (l.getD i d))[j]?
 |x::l,0,j,_,hj=>by
  rw[aaQ,Nat.zero_mul,abU,List.getElem?_append_left (by rw[hf];exact hj)]
  rfl
 |x::l,i+1,j,hi,hj=>by
  rw[aaQ,List.getElem?_append_right (by rw[hf,Nat.add_mul];omega),hf]
  have:=flat_get hf d l i j (by simpa using hi) hj
  rw[show (i+1)*m+j-m=i*m+j by rw[Nat.add_mul];omega,this]
  rfl
def flat_set (hf:∀x,(f x).length=m)(d:α):∀(l:List α) (i j:Nat) (y:α) (u:acK),i<l.length->j<m->f y=(f (l.getD i d)).set j u->(l.flatMap f).set (i*m+j) u=(l.set i y).flatMap f
 |x::l,0,j,y,u,_,hj,h=>by
  rw[aaQ,Nat.zero_mul,abU,List.set_append_left _ _ (by rw[hf];exact hj),List.set_cons_zero,aaQ,h]
  rfl
 |x::l,i+1,j,y,u,hi,hj,h=>by
  rw[aaQ,List.set_append_right _ _ (by rw[hf,Nat.add_mul];omega),hf,List.set_cons_succ,aaQ]
  rw[show (i+1)*m+j-m=i*m+j by rw[Nat.add_mul];omega,flat_set hf d l i j y u (by simpa using hi) hj h]
structure sD where
 a:Option acM
 l:List Nat
 c:Nat
instance:Inhabited sD:=⟨⟨none,[],0⟩⟩
abbrev sD.v (p:sD):acK:=aco p.a p.l.length p.c
structure sD.ok (aA:Nat)(w:acL)(p:sD):Prop where
 row:dx aA w p.a p.l
 len:p.l.length<=p.c
 cap:p.c<=maxLen
 nil:p.l=[]->p=⟨none,[],0⟩
def sD.ok.some {p:sD}(h:p.ok aA w)(hl:p.l≠[]):∃b o,p.a=some ⟨b,o,none⟩:=by
 rcases h.row.row.at_ with h|⟨b,o,h,_⟩;exact absurd h hl;exact⟨b,o,h⟩
def sD.ok.aJ {p:sD}(h:p.ok aA w)(q:aP F w w')(hF:∀k,F k->Mine aA w k):p.ok aA w':=⟨h.row.aJ q hF,h.len,h.cap,h.nil⟩
def sD.ok.none (aA:Nat)(w:acL):(⟨.none,[],0⟩:sD).ok aA w:=⟨dx.nil _ _ _,aj,aaW _,λ_=>rfl⟩
structure eG where
 g:Nat
 c:Nat
 ps:List sD
 next:Nat
 broken:Bool
 bad:Bool
 eF:Int
instance:Inhabited eG:=⟨⟨0,0,[],0,false,false,0⟩⟩
abbrev eG.cells (x:eG):List acK:=[aco (some ⟨x.g,0,none⟩) x.ps.length x.c,vi x.next,acg x.broken,acg x.bad,vi x.eF]
def eG.view (x:eG):NP.NZ:=⟨x.ps.map (·.l),x.next,x.broken,x.bad,x.eF⟩
structure tY where
 at_:Int
 aL:Int
 a:Option acM
 l:List Nat
 c:Nat
instance:Inhabited tY:=⟨⟨0,0,none,[],0⟩⟩
abbrev tY.cs (f:tY):Array acK:=#[vi f.at_,vi f.aL,aco f.a f.l.length f.c]
def tY.view (f:tY):NP.Rh:=⟨f.at_,f.aL,f.l⟩
structure uM (aA:Nat)(w:acL)(a:Option acM)(fs:List tY):Prop where
 at_:fs=[]\/∃b o,a=some ⟨b,o,none⟩/\Safe 186 aA w b/\∀i,i<fs.length->∀j u,(fs.getD i default).cs[j]?=some u->w.cell? ⟨b,o+i*3+j,none⟩=some u
 data:∀f∈fs,dx aA w f.a f.l/\f.l.length<=f.c/\f.c<=maxLen
 len:fs.length<=maxLen
def uM.nil (aA:Nat)(w:acL)(a:Option acM):uM aA w a []:=⟨ack rfl,by simp,by decide⟩
def uM.aJ {fs:List tY}(h:uM aA w a fs)(q:aP F w w')(hF:∀k,F k->Mine aA w k):uM aA w' a fs:=by
 refine⟨?_,λf hf=>⟨(h.data f hf).1.aJ q hF,(h.data f hf).2⟩,h.len⟩;rcases h.at_ with h0|⟨b,o,rfl,hs,h1⟩;exact ack h0;exact acm ⟨b,o,rfl,hs.aJ q hF,λi hi j u hu=>q.cell (h1 i hi j u hu) (λe=>hs.no (hF b e))⟩
def bL {l:List α}{d:α}(h:i<l.length):l.getD i d∈l:=NP.bL h
def uM.lookup {fs:List tY}(h:uM aA w a fs){k:Nat}(hk:k<fs.length):∃b o,a=some ⟨b,o,none⟩ /\
  (∀j u,(fs.getD k default).cs[j]?=some u->w.cell? ⟨b,o+k*3+j,none⟩=some u)/\dx aA w (fs.getD k default).a (fs.getD k default).l/\(fs.getD k default).l.length<=(fs.getD k default).c/\(fs.getD k default).c<=maxLen:=by
 rcases h.at_ with rfl|⟨b,o,rfl,_,h1⟩;simp at hk;exact⟨b,o,rfl,h1 k hk,h.data _ (bL hk)⟩
structure dA where
 B:Nat
 P:Nat
 S:Nat
 kb:Nat
 kc:Nat
 bs:List eG
 fa:Option acM
 fs:List tY
 fc:Nat
 since:Int
 down:Bool
 dQ:Int
 reads:Int
abbrev dA.cs (M:dA):Array acK:=#[vi M.B,vi M.P,vi M.S,aco (some ⟨M.kb,0,none⟩) M.bs.length M.kc,aco M.fa M.fs.length M.fc,vi M.since,acg M.down,vi M.dQ,vi M.reads]
def dA.view (M:dA):NP.bX:=⟨M.B,M.P,M.S,M.bs.map (·.view),M.fs.map (·.view),M.since,M.down,M.dQ,M.reads⟩
def dA.foot (M:dA)(k n:Nat):Prop:=n=k\/n=M.kb\/n∈M.bs.map (·.g)
structure aT (aA:Nat)(w:acL)(k:Nat)(M:dA):Prop where
 aW:aD w k 144 M.cs
 blocks:kY w 140 5 M.kb M.bs.length M.kc (M.bs.flatMap eG.cells)
 pages:∀x∈M.bs,kY w 23 1 x.g x.ps.length x.c (x.ps.map (·.v))
 nodup:(M.bs.map (·.g)).Nodup
 rows:∀x∈M.bs,∀p∈x.ps,p.ok aA w
 faults:uM aA w M.fa M.fs
 low:∀n,M.foot k n->aA<=n
variable{aA:Nat}{k:Nat}{M:dA}
def aT.Mw (h:aT aA w k M):M.kb≠k:=h.blocks.dM h.aW ag
def aT.EN (h:aT aA w k M){x:eG}(hx:x∈M.bs):x.g≠k/\x.g≠M.kb:=⟨(h.pages x hx).dM h.aW ag,(h.pages x hx).ne h.blocks ag⟩
def aT.mine (h:aT aA w k M):∀n,M.foot k n->Mine aA w n:=by
 intro n hn;refine⟨h.low n hn,?_⟩;rcases hn with rfl|rfl|hn;exact⟨_,_,ag,h.aW⟩;obtain⟨cur,hb,_⟩:=h.blocks.blk;exact⟨_,cur,ag,hb⟩;obtain⟨x,hx,rfl⟩:=aay.1 hn;obtain⟨cur,hb,_⟩:=(h.pages x hx).blk;exact⟨_,cur,ag,hb⟩
def aT.cells (h:aT aA w k M):w.cell? ⟨k,0,none⟩=some (vi M.B)/\w.cell? ⟨k,1,none⟩=some (vi M.P)/\w.cell? ⟨k,2,none⟩=some (vi M.S)/\w.cell? ⟨k,3,none⟩=some (aco (some ⟨M.kb,0,none⟩) M.bs.length M.kc) /\
  w.cell? ⟨k,4,none⟩=some (aco M.fa M.fs.length M.fc)/\w.cell? ⟨k,5,none⟩=some (vi M.since)/\w.cell? ⟨k,6,none⟩=some (acg M.down)/\w.cell? ⟨k,7,none⟩=some (vi M.dQ)/\w.cell? ⟨k,8,none⟩=some (vi M.reads) :=
 ⟨h.aW.cell 0,h.aW.cell 1,h.aW.cell 2,h.aW.cell 3,h.aW.cell 4,h.aW.cell 5,h.aW.cell 6,h.aW.cell 7,h.aW.cell 8⟩
def aT.aJ (h:aT aA w k M)(q:aP F w w')(hF:∀n,F n->Mine aA w n)(hn:∀n,M.foot k n->¬F n):aT aA w' k M :=
 ⟨h.aW.aJ q (hn _ (ack rfl)),h.blocks.aJ q (hn _ (acm (ack rfl))),λx hx=>(h.pages x hx).aJ q (hn _ (acm (acm (List.mem_map_of_mem hx)))),h.nodup,
  λx hx p hp=>(h.rows x hx p hp).aJ q hF,h.faults.aJ q hF,h.low⟩
def aT.old (h:aT aA w k M)(q:acN w.heap.size w w'):aT aA w' k M:=h.aJ (F:=λ_=>False) (aP.of_below q) (λ_ e=>e.elim) (λ_ _ e=>e)
structure Goes (aA:Nat)(w:acL)(k:Nat)(M:dA)(w':acL)(M':dA):Prop where
 at_:aT aA w' k M'
 aJ:aP (M.foot k) w w'
 foot:∀n,M'.foot k n->M.foot k n\/w.heap.size<=n
def Goes.refl (h:aT aA w k M):Goes aA w k M w M:=⟨h,aP.refl _ _,λ_ h=>ack h⟩
variable{M':dA}
def Goes.trans {M'':dA}(h:Goes aA w k M w' M')(q:Goes aA w' k M' w'' M''):Goes aA w k M w'' M'':=by
 refine⟨q.at_,h.aJ.trans q.aJ λn hn e=>?_,λn hn=>?_⟩;rcases h.foot n e with h1|h1;exact h1;omega;rcases q.foot n hn with h1|h1;exact h.foot n h1;exact acm (Nat.le_trans h.aJ.size h1)
def Goes.old (h:Goes aA w k M w' M')(q:acN w'.heap.size w' w''):Goes aA w k M w'' M':=⟨h.at_.old q,h.aJ.below q,h.foot⟩
def Goes.aX (h:aT aA w k M)(q:acN w.heap.size w w'):Goes aA w k M w' M:=(Goes.refl h).old q
def Goes.size (h:Goes aA w k M w' M'):w.heap.size<=w'.heap.size:=h.aJ.size
def aT.field (h:aT aA w k M)(j:Nat)(v:acK)(hc:M'.cs=M.cs.setIfInBounds j v)(h1:M'.kb=M.kb)(h2:M'.kc=M.kc)(h3:M'.bs=M.bs)(hf:uM aA w M'.fa M'.fs):Goes aA w k M (w.setCell ⟨k,j,none⟩ v) M':=by
 have hq:aP (M.foot k) w (w.setCell ⟨k,j,none⟩ v):=aP.set w (p:=⟨k,j,none⟩) (ack rfl) v;refine⟨⟨?_,?_,?_,?_,?_,hf.aJ hq h.mine,?_⟩,hq,?_⟩;rw[hc];exact h.aW.bB j v;rw[h1,h2,h3];exact h.blocks.far (p:=⟨k,j,none⟩) h.Mw v;rw[h3];exact λx hx=>(h.pages x hx).far (p:=⟨k,j,none⟩) (h.EN hx).1 v;rw[h3];exact h.nodup;rw[h3];exact λx hx p hp=>(h.rows x hx p hp).aJ hq h.mine;intro n hn;exact h.low n (by unfold dA.foot at hn ⊢;rw[h1,h3]at hn;exact hn);intro n hn;exact ack (by unfold dA.foot at hn ⊢;rw[h1,h3]at hn;exact hn)
def aT.fields (h:aT aA w k M)(q:aP (λn=>n=k) w w')(hb:aD w' k 144 M'.cs)(h1:M'.kb=M.kb)(h2:M'.kc=M.kc)(h3:M'.bs=M.bs)(hf:M'.fa=M.fa/\M'.fs=M.fs):Goes aA w k M w' M':=by
 have hF:∀n,n=k->Mine aA w n:=λn e=>h.mine n (ack e)
 refine⟨⟨hb,?_,?_,?_,?_,?_,?_⟩,q.mono (λn _ e=>ack e),?_⟩;rw[h1,h2,h3];exact h.blocks.aJ q h.Mw;rw[h3];exact λx hx=>(h.pages x hx).aJ q (h.EN hx).1;rw[h3];exact h.nodup;rw[h3];exact λx hx p hp=>(h.rows x hx p hp).aJ q hF;rw[hf.1,hf.2];exact h.faults.aJ q hF;intro n hn;exact h.low n (by unfold dA.foot at hn ⊢;rw[h1,h3]at hn;exact hn);intro n hn;exact ack (by unfold dA.foot at hn ⊢;rw[h1,h3]at hn;exact hn)
def eG.jq (x:eG):x.cells.length=5:=rfl
def aT.iG (h:aT aA w k M)(hi:i<M.bs.length)(hj:j<5):w.cell? ⟨M.kb,i*5+j,none⟩=(M.bs.getD i default).cells[j]?:=by
 rw[h.blocks.cell aa,flat_get eG.jq default _ _ _ hi hj]
def aT.Hq (h:aT aA w k M){p:Nat}(hi:i<M.bs.length)(hp:p<(M.bs.getD i default).ps.length):w.cell? ⟨(M.bs.getD i default).g,p,none⟩=some ((M.bs.getD i default).ps.getD p default).v:=by
 rw[(h.pages _ (bL hi)).cell aa,List.getElem?_map,aah (l:=(M.bs.getD i default).ps),aaj hp];rfl
variable{l:List eG}{y:eG}
def DV (hy:y.g=(l.getD i default).g):(l.set i y).map (·.g)=l.map (·.g):=by
 rw[ade];apply abA;intro n;rw[aa6];split;rename_i h;subst h;split;rename_i h2;have h3:i<l.length:=by simpa using h2
 rw[List.getElem?_map,aaj h3,hy,aah,aaj h3];rfl;rename_i h2;rw[List.getElem?_eq_none (by simpa using h2)];rfl
def aT.Ag (h:aT aA w k M)(hi:i<M.bs.length)(hj:j<5)(v:acK)(y:eG)(hy:y.cells=(M.bs.getD i default).cells.set j v)(hg:y.g=(M.bs.getD i default).g)(hp:y.ps=(M.bs.getD i default).ps)(hc:y.c=(M.bs.getD i default).c) :
  Goes aA w k M (w.setCell ⟨M.kb,i*5+j,none⟩ v) {M with bs:=M.bs.set i y}:=by
 have hq:aP (M.foot k) w (w.setCell ⟨M.kb,i*5+j,none⟩ v):=aP.set w (p:=⟨M.kb,i*5+j,none⟩) (acm (ack rfl)) v;have hm:∀x∈M.bs.set i y,x=y\/x∈M.bs:=λx hx=>(aat hx).symm
 have V3:=DV hg;have hD:=bL (d:=default) hi;refine⟨⟨?_,?_,?_,?_,?_,h.faults.aJ hq h.mine,?_⟩,hq,?_⟩;have:=h.aW.far (p:=⟨M.kb,i*5+j,none⟩) h.Mw.symm v;simpa[dA.cs] using this;dsimp only;rw[abZ,<-flat_set eG.jq default _ _ _ y v hi hj hy];exact h.blocks.set _ v;intro x hx;rcases hm x hx with rfl|hx;rw[hp,hg,hc];exact(h.pages _ hD).far (p:=⟨M.kb,i*5+j,none⟩) (h.EN hD).2 v;exact(h.pages x hx).far (p:=⟨M.kb,i*5+j,none⟩) (h.EN hx).2 v;dsimp only;rw[V3];exact h.nodup;intro x hx p hpx;rcases hm x hx with rfl|hx;rw[hp]at hpx;exact(h.rows _ hD p hpx).aJ hq h.mine
 exact(h.rows x hx p hpx).aJ hq h.mine;intro n hn;exact h.low n (by unfold dA.foot at hn ⊢;dsimp only at hn;rw[V3]at hn;exact hn);intro n hn;exact ack (by unfold dA.foot at hn ⊢;dsimp only at hn;rw[V3]at hn;exact hn)
def nM {x:eG}(hx:x∈l.set i y):x=y\/∃n,n≠i/\n<l.length/\x=l.getD n default:=by
 obtain⟨n,hn,rfl⟩:=List.mem_iff_getElem.1 hx;have hn':n<l.length:=by simpa using hn
 by_cases e:n=i;subst e;exact ack ai;refine acm ⟨n,e,hn',?_⟩;rw[List.getElem_set_ne (λh=>e h.symm),aah,aaj hn'];rfl
def Rn (h:(l.map (·.g)).Nodup)(hi:i<l.length)(hn:n<l.length)(hne:n≠i):(l.getD n default).g≠(l.getD i default).g:=by
 intro e;simp only[aah,aaj hi,aaj hn,Option.getD_some]at e;have hp:=List.pairwise_iff_getElem.1 h;rcases Nat.lt_or_gt_of_ne hne with h1|h1;exact hp n i (by simpa using hn) (by simpa using hi) h1 (by simpa using e);exact hp i n (by simpa using hi) (by simpa using hn) h1 (by simpa using e.symm)
def aT.aB (h:aT aA w k M){p:Nat}(hi:i<M.bs.length)(q:sD)(hq:q.ok aA w) :
  Goes aA w k M (w.setCell ⟨(M.bs.getD i default).g,p,none⟩ q.v) {M with bs:=M.bs.set i {M.bs.getD i default with ps:=(M.bs.getD i default).ps.set p q}}:=by
 have hD:=bL (d:=default) hi;have hf:M.foot k (M.bs.getD i default).g:=acm (acm (List.mem_map_of_mem hD));have hch:aP (M.foot k) w (w.setCell ⟨(M.bs.getD i default).g,p,none⟩ q.v):=aP.set w (p:=⟨(M.bs.getD i default).g,p,none⟩) hf _;have V3:=DV (l:=M.bs) (i:=i) (y:={M.bs.getD i default with ps:=(M.bs.getD i default).ps.set p q}) rfl;have hset:M.bs.flatMap eG.cells=(M.bs.set i {M.bs.getD i default with ps:=(M.bs.getD i default).ps.set p q}).flatMap eG.cells:=by
  have:=flat_set eG.jq default M.bs i 0 {M.bs.getD i default with ps:=(M.bs.getD i default).ps.set p q} (M.bs.getD i default).cells[0] hi ag ai;rw[<-this];have h0:=flat_get eG.jq default M.bs i 0 hi ag;apply abA;intro n;rw[aa6];split;rename_i e;subst e;rw[h0];split;rfl;rename_i hlt;rw[flat_length eG.jq]at hlt;exact absurd aa hlt;rfl
 refine⟨⟨?_,?_,?_,?_,?_,h.faults.aJ hch h.mine,?_⟩,hch,?_⟩;have:=h.aW.far (p:=⟨(M.bs.getD i default).g,p,none⟩) (h.EN hD).1.symm q.v;simpa[dA.cs] using this;dsimp only;rw[abZ,<-hset];exact h.blocks.far (p:=⟨(M.bs.getD i default).g,p,none⟩) (h.EN hD).2.symm _;intro x hx;rcases nM hx with rfl|⟨n,hne,hn,rfl⟩;dsimp only;rw[abZ,ade];exact(h.pages _ hD).set p q.v;exact(h.pages _ (bL hn)).far (p:=⟨(M.bs.getD i default).g,p,none⟩) (Rn h.nodup hi hn hne) _;dsimp only;rw[V3];exact h.nodup;intro x hx z hz;rcases (aat hx).symm with rfl|hx
 rcases aat hz with hz|rfl;exact(h.rows _ hD z hz).aJ hch h.mine;exact hq.aJ hch h.mine;exact(h.rows x hx z hz).aJ hch h.mine;intro n hn;exact h.low n (by unfold dA.foot at hn ⊢;dsimp only at hn;rw[V3]at hn;exact hn);intro n hn;exact ack (by unfold dA.foot at hn ⊢;dsimp only at hn;rw[V3]at hn;exact hn)
namespace TP
structure Tag where
 aL:Int
 aB:Nat
 seq:Nat
 aM:Nat
deriving DecidableEq
def zero:Tag:=⟨0,0,0,0⟩
instance:Inhabited Tag:=⟨zero⟩
def sized (n:Int):Bool:=n==64||n==128||n==256||n==512
def right (t:Tag):Bool:=(t.aL==1||t.aL==2)&&decide (t.aB<8192)&&decide (1<=t.seq)&&decide (t.seq<4611686018427387904)&&decide (1<=t.aM)&&decide (t.aM<4611686018427387904)
def qN (k:Int):Nat:=(k%256).toNat
def head (t:Tag)(p:List Nat):List Nat:=p++[67,85,qN t.aL,0]++HP.le 4 t.aB++HP.le 8 t.seq++HP.le 8 t.aM
def bytes (t:Tag)(p:List Nat):List Nat:=head t p++HP.le 4 (HP.sum (head t p))++HP.le 4 0
def write (t:Tag)(p:List Nat):List Nat×Int:=if right t&&sized p.length then (bytes t p,0) else ([],1)
def ones (l:List Nat):Bool:=l.all (·==255)
def Ab (r:List Nat):Tag:=⟨HP.num ((r.drop 2).take 1),HP.num ((r.drop 4).take 4),HP.num ((r.drop 8).take 8),HP.num ((r.drop 16).take 8)⟩
def jW (b r:List Nat)(n:Nat):Bool:=HP.num (r.take 2)==21827&&HP.num ((r.drop 3).take 1)==0&&HP.num ((r.drop 28).take 4)==0&&right (Ab r)&&HP.num ((r.drop 24).take 4)==HP.sum (b.take (n+24))
def read (b:List Nat):Tag×List Nat×Int :=
 if sized ((b.length:Int)-32)=false then (zero,[],1)
 else if ones b then (zero,[],20)
 else
  let n:=b.length-32
  let r:=b.drop n
  if jW b r n then (Ab r,b.take n,0) else (zero,[],21)
def yu (t:Tag)(p:List Nat):(head t p).length=p.length+24:=by simp[head,HP.eU]
def vD (t:Tag)(p:List Nat):(bytes t p).length=p.length+32:=by simp[bytes,yu,HP.eU]
def G7 (k:Int):qN k<256:=by unfold qN;omega
def o7 {t:Tag}{p:List Nat}(h:∀y∈p,y<256):∀y∈head t p,y<256:=by
 intro y hy;simp only[head,aaS,aaI,List.not_mem_nil,or_false]at hy;rcases hy with (((hy|hy)|hy)|hy)|hy;exact h y hy;have:=G7 t.aL;omega;exact HP.nY _ _ y hy;exact HP.nY _ _ y hy;exact HP.nY _ _ y hy
def Ha {t:Tag}{p:List Nat}(h:∀y∈p,y<256):∀y∈bytes t p,y<256:=by
 intro y hy;simp only[bytes,aaS]at hy;rcases hy with (hy|hy)|hy;exact o7 h y hy;exact HP.nY _ _ y hy;exact HP.nY _ _ y hy
end TP
def Fv (a b:Nat)(ha:a<4294967296)(hb:b<4294967296):bits .xor .u32 (a:Int) (b:Int)=((a ^^^ b:Nat):Int):=u32_xor_nat a b ha hb
def Sr (a:Nat)(ha:a<4294967296):bits .and .u32 (a:Int) 1=((a%2:Nat):Int):=by
 have:=u32_and_nat a 1 ha ag;rw[nat_mask1]at this;exact this
def WN (z:Nat)(h:z<4294967296):bits .xor .u32 acS.u32.max (z:Int)=((4294967295-z:Nat):Int):=by
 have:=Fv 4294967295 z ag h;rw[show 4294967295 ^^^ z=4294967295-z by
  have:=HP.GZ (x:=4294967295-z) (y:=4294967295 ^^^ z) (by
   rw[<-Nat.xor_assoc,Nat.xor_comm (4294967295-z),Nat.xor_assoc,Nat.xor_comm (4294967295-z),HP.xor_not h,Nat.xor_self])
  exact this.symm]at this
 exact this
def Su (z:Nat)(h:z<4294967296):bits .xor .u32 ((z:Int)/2) 3988292384=((z/2 ^^^ 3988292384:Nat):Int):=Fv (z/2) 3988292384 aa aa
def Sv (r b:Nat)(w:acL)(hr:r<4294967296)(hb:b<256) :
  ac4 prog 183 #[vw r,vb b] w λe w'=>e=ab4 (vw (HP.put r b))/\w'=w:=by
 have hx:=Fv r b hr aa;have hxl:r ^^^ b<4294967296:=HP.J4 hr aa;go_in;go_wp2_with fail;go_loop [0,9] (λy i=>∃j z:Nat,j<=8/\i=vi j/\y=vw z/\Hid (z=HP.steps j (r ^^^ b))/\z<4294967296) (λ_ i=>8-(intOf i).toNat)
 case atStart=>exact⟨0,r ^^^ b,aa,rfl,rfl,az rfl,hxl⟩
 case round =>
  obtain⟨j,z,hj,rfl,rfl,hz,hzl⟩:=hrel;have h1:=Sr z hzl;have h2:=Su z hzl;have hstep:HP.steps (j+1) (r ^^^ b)=HP.step z:=by rw[HP.steps,hz.o]
  have hlt':=HP.Mr hzl;have HS:=az hstep;clear hstep;by_cases hlt:j<8
  ·rcases Nat.mod_two_eq_zero_or_one z with hm|hm
   ·have Hs:Hid (HP.step z=z/2):=az (by rw[HP.step,if_neg aa]);clear hlt';rw[hm]at h1;have Hm:=az hm;clear hm;go_wp2_with fail;go_round
    case rel=>exact⟨j+1,z/2,aa,by go_num,by go_num,az (by rw[HS.o,Hs.o]),aa⟩
    case measure=>simp[intOf];omega
   have Hs:Hid (HP.step z=z/2 ^^^ 3988292384):=az (by rw[HP.step,if_pos hm]);have hlt2:z/2 ^^^ 3988292384<4294967296:=HP.J4 aa aa;clear hlt';rw[hm]at h1;have Hm:=az hm;clear hm;go_wp2_with fail;go_round
   case rel=>exact⟨j+1,z/2 ^^^ 3988292384,aa,by go_num,rfl,az (by rw[HS.o,Hs.o]),hlt2⟩
   case measure=>simp[intOf];omega
  obtain rfl:j=8:=aa;have Hz:=hz;go_wp2;go_ret;exact⟨by rw[Hz.o];rfl,rfl⟩
def OE (a:Option acM)(l:List Nat)(c:Nat)(w:acL)(h:bE w a l)(hl:l.length<=9000000) :
  ac4 prog 164 #[vw 0,aco a l.length c] w λe w'=>e=ab4 (vw (HP.sum l))/\w'=w:=by
 have HR:=az h;have hs:=HP.Rf l (r:=4294967295) aa h.small;clear h;go_in;go_wp2_with fail;go_loop [5,12] (λy i=>∃k z:Nat,k<=l.length/\i=vi k/\y=vw z/\Hid (z=HP.reg 4294967295 (l.take k))/\z<4294967296) (λ_ i=>l.length-(intOf i).toNat)
 case atStart=>exact⟨0,4294967295,aa,rfl,rfl,az rfl,aa⟩
 case round =>
  obtain⟨k,z,hk,rfl,rfl,hz,hzl⟩:=hrel;by_cases hlt:k<l.length
  ·obtain⟨b,o,rfl,hc,hsm⟩:=HR.o.lookup hlt;have HS:=az (show HP.reg 4294967295 (l.take (k+1))=HP.put z (l.getD k 0) by
    rw[List.take_succ_eq_append_getElem hlt,HP.J5,<-hz.o]
    simp[HP.reg,afh,hlt])
   have hp:=HP.Re hzl hsm;generalize l.getD k 0=x at hc hsm HS hp;go_wp2_with (go_at_call 183;refine(Sv _ _ _ hzl hsm).mono ?_;rintro e w1 ⟨rfl,rfl⟩);go_round
   case rel=>exact⟨k+1,HP.put z x,aa,by go_num,rfl,az (by rw[HS.o]),hp⟩
   case measure=>simp[intOf];omega
  obtain rfl:k=l.length:=aa;have Hz:=hz;go_wp2;go_ret;refine⟨congrArg (λx=>Ending.returned (acK.int .u32 x)) ?_,rfl⟩;have hz':=hz.o;rw[List.take_length]at hz';rw[WN z hzl,hz'];rfl
def Iq (a:Option acM)(l:List Nat)(c:Nat)(w:acL)(h:bE w a l)(hl:l.length<=9000000) :
  ac4 prog 137 #[aco a l.length c] w λe w'=>e=ab4 (vw (HP.sum l))/\w'=w:=by
 have HR:=az h;clear h;go_in;go_wp2_with (go_at_call 164;refine(OE _ _ _ _ HR.o hl).mono ?_;rintro e w1 ⟨rfl,rfl⟩);go_ret;exact⟨rfl,rfl⟩
variable{l:List Nat}
def OG {wr:acL}{x y:Nat}{m:acK}(hy:y=x/256 ^ j)(hown:Own wr aA m (l++HP.le j x))(hb:aA<=wr.heap.size)(hB:Stp aA w wr)(hn:l.length+j+1<=1000000) :
  ∃v' w',(aaR #[23,23] 23 #[m,aco (some ⟨wr.heap.size,0,none⟩) 1 1]).run prog (wr.alloc (ach #[.int .u8 ((y:Int)%256)] 5))=.ok v' w' /\
   Own w' aA v' (l++HP.le (j+1) x)/\aA<=w'.heap.size/\Stp aA w w':=by
 subst hy;obtain⟨v',w',hrun,ho,hg⟩:=ik (c:=1) (hown.old ax) (Ra wr (x/256 ^ j%256) aa) (by simp[HP.eU];omega) (by simp;omega);have hst:=(hB.alloc hb _).trans hg;refine⟨v',w',hrun,?_,by have:=hg.size;simp at this;omega,hst⟩;rw[HP.Ms,<-List.append_assoc];exact ho
def Sy {x y:Nat}(h:y=x/256 ^ j):y/256=x/256 ^ (j+1):=by
 rw[h,Nat.div_div_eq_div_mul,Nat.pow_succ]
def ry (aA:Nat)(v:acK)(l:List Nat)(x k:Nat)(w:acL)(hown:Own w aA v l)(hb:aA<=w.heap.size)(hx:x<18446744073709551616)(hn:l.length+k<=1000000)(hk:k<=8) :
  ac4 prog 172 #[v,vq x,vi k] w λe w'=>∃v',e=ab4 v'/\Own w' aA v' (l++HP.le k x)/\Stp aA w w':=by
 have HO:=az hown;clear hown;go_in;go_wp2_with fail;go_loopw [0,1,8] (λm y i wr=>∃j z:Nat,j<=k/\i=vi j/\y=vq z/\Hid (z=x/256 ^ j)/\z<18446744073709551616/\Hid (Own wr aA m (l++HP.le j x))/\Hid (aA<=wr.heap.size/\Stp aA w wr)) (λ_ _ i _=>k-(intOf i).toNat)
 case atStart=>exact⟨0,x,aaW _,rfl,rfl,az ai,hx,az (by simpa[HP.le] using HO.o),az ⟨hb,Stp.refl _ _⟩⟩
 case round =>
  obtain⟨j,y,hj,rfl,rfl,hy,hyl,ho,hB⟩:=hrel;by_cases hlt:j<k
  ·obtain⟨v',w',hrun,ho',hb',hB'⟩:=OG hy.o ho.o hB.o.1 hB.o.2 aa;have Og:=az hrun;have yz:=az ho';have HB2:=az (And.intro hb' hB');clear hrun ho' hb' hB' ho hB;go_wp2_with (at_builtin;refine wpList_append_run rfl (.tmp 10) (.tmp 13) rfl rfl rfl Og.o ?_);go_roundw
   case rel=>exact⟨j+1,y/256,aa,rfl,rfl,az (Sy hy.o),aa,yz,HB2⟩
   case measure=>simp[intOf];omega
  obtain rfl:j=k:=aa;have HB2:=hB;have yz:=ho;go_wp2;go_ret;exact⟨_,rfl,yz.o,HB2.o.2⟩
def agM (n:Int)(w:acL):ac4 prog 133 #[vi n] w λe w'=>e=ab4 (acg (TP.sized n))/\w'=w:=by
 unfold TP.sized;go_in;by_cases h1:n=64
 ·subst h1;go_wp2;go_ret;exact⟨rfl,rfl⟩
 have q1:(n==64)=false:=beq_eq_false_iff_ne.2 h1;by_cases h2:n=128
 ·subst h2;go_wp2;go_ret;exact⟨rfl,rfl⟩
 have q2:(n==128)=false:=beq_eq_false_iff_ne.2 h2;by_cases h3:n=256
 ·subst h3;go_wp2;go_ret;exact⟨rfl,rfl⟩
 have q3:(n==256)=false:=beq_eq_false_iff_ne.2 h3;by_cases h4:n=512
 ·subst h4;go_wp2;go_ret;exact⟨rfl,rfl⟩
 have q4:(n==512)=false:=beq_eq_false_iff_ne.2 h4;go_wp2;go_ret;exact⟨by rw[q1,q2,q3,q4];rfl,rfl⟩
abbrev aaD (t:TP.Tag):acK:=adA #[vi t.aL,vw t.aB,vq t.seq,vq t.aM]
def Ir {t:TP.Tag}:acN w.heap.size w (w.alloc (ach #[vi t.aL,vw t.aB,vq t.seq,vq t.aM] 170)):=ax
def A7 (t:TP.Tag)(w:acL):ac4 prog 136 #[aaD t] w λe w'=>e=ab4 (acg (TP.right t))/\acN w.heap.size w w':=by
 obtain⟨kd,pg,sq,ep⟩:=t;have HB:=az (Ir (w:=w) (t:=⟨kd,pg,sq,ep⟩));have HD:Hid (TP.right ⟨kd,pg,sq,ep⟩=((kd==1||kd==2)&&decide (pg<8192)&&decide (1<=sq)&&decide (sq<4611686018427387904)&&decide (1<=ep)&&decide (ep<4611686018427387904))):=az rfl;rw[HD.o];clear HD;go_in;have key:∀b:Bool,(kd==1||kd==2)=b->(b=false->(kd==1)=false/\(kd==2)=false)/\(b=true->kd=1\/(kd=2/\(kd==1)=false)):=by
  intro b hb;subst hb;refine⟨λh=>by simpa using h,λh=>?_⟩;by_cases h1:kd=1;exact ack h1;simp[h1]at h;exact acm ⟨h,beq_eq_false_iff_ne.2 h1⟩
 cases hk:(kd==1||kd==2)
 ·obtain⟨q1,q2⟩:=(key _ hk).1 rfl;clear hk key;go_wp2;go_ret;exact⟨ai,HB.o⟩
 have hk2:=(key _ hk).2 rfl;clear hk key;by_cases p1:pg<8192
 ·have p1':(pg:Int)<8192:=aa;by_cases p2:1<=sq
  ·have p2':(1:Int)<=sq:=aa;by_cases p3:sq<4611686018427387904
   ·have p3':(sq:Int)<4611686018427387904:=aa;by_cases p4:1<=ep
    ·have p4':(1:Int)<=ep:=aa;by_cases p5:ep<4611686018427387904
     ·have p5':(ep:Int)<4611686018427387904:=aa;rcases hk2 with rfl|⟨rfl,q1⟩;all_goals
       go_wp2;go_ret;exact⟨by first|rfl|simp,HB.o⟩
     have p5':¬(ep:Int)<4611686018427387904:=aa;rcases hk2 with rfl|⟨rfl,q1⟩;all_goals
      go_wp2;go_ret;exact⟨by first|rfl|simp,HB.o⟩
    have p4':¬(1:Int)<=ep:=aa;rcases hk2 with rfl|⟨rfl,q1⟩;all_goals
     go_wp2;go_ret;exact⟨by first|rfl|simp,HB.o⟩
   have p3':¬(sq:Int)<4611686018427387904:=aa;rcases hk2 with rfl|⟨rfl,q1⟩;all_goals
    go_wp2;go_ret;exact⟨by first|rfl|simp,HB.o⟩
  have p2':¬(1:Int)<=sq:=aa;rcases hk2 with rfl|⟨rfl,q1⟩;all_goals
   go_wp2;go_ret;exact⟨by first|rfl|simp,HB.o⟩
 have p1':¬(pg:Int)<8192:=aa;rcases hk2 with rfl|⟨rfl,q1⟩;all_goals
  go_wp2;go_ret;exact⟨by first|rfl|simp,HB.o⟩
def Kr (a:Option acM)(l:List Nat)(c:Nat)(w:acL)(h:bE w a l)(hl:l.length<=9000000) :
  ac4 prog 134 #[aco a l.length c] w λe w'=>e=ab4 (acg (TP.ones l))/\w'=w:=by
 have HR:=az h;clear h;have HD:Hid (TP.ones l=l.all (·==255)):=az rfl;go_in;go_wp2_with fail;go_loop [7] (λi=>∃k:Nat,k<=l.length/\i=vi k/\Hid (∀j,j<k->l.getD j 0=255)) (λi=>l.length-(intOf i).toNat)
 case atStart=>exact⟨0,aa,rfl,az aa⟩
 case round =>
  obtain⟨k,hk,rfl,hall⟩:=hrel;by_cases hlt:k<l.length
  ·obtain⟨b,o,rfl,hc,hsm⟩:=HR.o.lookup hlt;have HX:Hid (l.getD k 0∈l):=az (NP.bL hlt);have HN:Hid (∀j,j<k+1->l.getD j 0=255\/j=k):=az (λj hj=>by
    by_cases e:j=k
    exact acm e
    exact ack (hall.o j aa))
   by_cases hx:l.getD k 0=255
   ·have Kq:Hid (∀j,j<k+1->l.getD j 0=255):=az (λj hj=>by
     rcases HN.o j hj with e|e
     exact e
     rw[e];exact hx)
    rw[hx]at hc;clear HN HX hsm hx;go_wp2_with fail;go_round
    case rel=>exact⟨k+1,aa,by go_num,Kq⟩
    case measure=>simp[intOf];omega
   have HF:Hid (l.all (·==255)=false):=az (List.all_eq_false.2 ⟨_,HX.o,by simpa using hx⟩);generalize l.getD k 0=x at hc hsm hx;have hq:((x:Int) != 255)=true:=by simp;omega
   clear HN HX hall;go_wp2;go_ret;exact⟨by rw[HD.o,HF.o];rfl,rfl⟩
  obtain rfl:k=l.length:=aa;have HT:Hid (l.all (·==255)=true):=az (List.all_eq_true.2 λx hx=>by
   obtain⟨j,hj,rfl⟩:=List.mem_iff_getElem.1 hx
   have:=hall.o j hj
   rw[aah,aaj hj]at this
   simpa using this)
  clear hall;go_wp2;go_ret;exact⟨by rw[HD.o,HT.o];rfl,rfl⟩
namespace ino
open RowKit
abbrev j4:PI.bF->Array acK
 |⟨kd,ln,sz,[d0,d1,d2,d3,d4,d5],sg,db⟩=>#[vi kd,vi ln,vi sz,vi d0,vi d1,vi d2,vi d3,vi d4,vi d5,vi sg,vi db]
 |_=>#[]
abbrev dS (i:PI.bF):acK:=adA (j4 i)
def six (h:l.length=6):∃d0 d1 d2 d3 d4 d5,l=[d0,d1,d2,d3,d4,d5]:=by
 match l,h with
 |[d0,d1,d2,d3,d4,d5],_=>exact⟨d0,d1,d2,d3,d4,d5,rfl⟩
def oD:ac4 prog 52 #[vi 64] w λe w'=>e=ab4 (acg true)/\w'=w:=by
 go_in;go_wp2;go_ret;exact⟨rfl,rfl⟩
def Kt:ac4 prog 91 #[vi 64] w λe w'=>e=ab4 (vi 2)/\w'=w:=by
 go_in;go_wp2_with fail;refine oD.mono ?_;rintro e w' ⟨rfl,rfl⟩;go_wp2;go_ret;exact⟨rfl,rfl⟩
def OH (d0 d1 d2 d3 d4 d5:Int)(w:acL):(ado 27 (adA #[vi d0,vi d1,vi d2,vi d3,vi d4,vi d5]) (vi 0)).run prog w=.ok (vi d0) w/\(ado 27 (adA #[vi d0,vi d1,vi d2,vi d3,vi d4,vi d5]) (vi 1)).run prog w=.ok (vi d1) w /\
  (ado 27 (adA #[vi d0,vi d1,vi d2,vi d3,vi d4,vi d5]) (vi 2)).run prog w=.ok (vi d2) w/\(ado 27 (adA #[vi d0,vi d1,vi d2,vi d3,vi d4,vi d5]) (vi 3)).run prog w=.ok (vi d3) w /\
  (ado 27 (adA #[vi d0,vi d1,vi d2,vi d3,vi d4,vi d5]) (vi 4)).run prog w=.ok (vi d4) w/\(ado 27 (adA #[vi d0,vi d1,vi d2,vi d3,vi d4,vi d5]) (vi 5)).run prog w=.ok (vi d5) w:=by
 refine⟨?_,?_,?_,?_,?_,?_⟩<;>kernel_rfl
end ino
abbrev ptr (k:Nat):acK:=adj (some ⟨k,0,none⟩)
def ET (h:aT aA w k M):ac4 prog 81 #[ptr k] w λe w'=>e=ab4 (acg (!M.down))/\w'=w:=by
 obtain⟨c0,c1,c2,c3,c4,c5,c6,c7,c8⟩:=h.cells;clear h c0 c1 c2 c3 c4 c5 c7 c8;go_in;go_wp2;go_ret;exact⟨rfl,rfl⟩
def iZ (h:aT aA w k M):ac4 prog 82 #[ptr k] w λe w'=>e=ab4 (adA #[vi M.B,vi M.P,vi M.S])/\acN w.heap.size w w':=by
 obtain⟨c0,c1,c2,c3,c4,c5,c6,c7,c8⟩:=h.cells;have hk:=h.aW.lt;clear h c3 c4 c5 c6 c7 c8;go_in;go_wp2;exact ac5 (v:=adA #[vi M.B,vi M.P,vi M.S]) (by simp[results,results82,go_sem]) rfl ⟨rfl,ax⟩
def full_any (h:aT aA w k M)(hS:M.S<=512):ac4 prog 132 #[ptr k] w λe w'=>e=ab4 (vi (M.S+32:Nat))/\w'=w:=by
 obtain⟨c0,c1,c2,c3,c4,c5,c6,c7,c8⟩:=h.cells;clear h c0 c1 c3 c4 c5 c6 c7 c8;go_in;go_wp2;go_ret;exact⟨by go_num,rfl⟩
def fC (M:dA)(j:Int):Bool:=decide (0<=j/\j<M.bs.length)
def dP (h:aT aA w k M)(j:Int):ac4 prog 119 #[ptr k,vi j] w λe w'=>e=ab4 (acg (fC M j))/\w'=w:=by
 obtain⟨c0,c1,c2,c3,c4,c5,c6,c7,c8⟩:=h.cells;clear h c0 c1 c2 c4 c5 c6 c7 c8;by_cases h0:0<=j
 ·by_cases h1:j<M.bs.length
  ·have H:=az (show fC M j=true by simp[fC,h0,h1]);go_in;go_wp2;go_ret;exact⟨aU (by rw[H.o]),rfl⟩
  have H:=az (show fC M j=false by simp[fC];omega);go_in;go_wp2;go_ret;exact⟨aU (by rw[H.o]),rfl⟩
 have H:=az (show fC M j=false by simp[fC];omega);go_in;go_wp2;go_ret;exact⟨aU (by rw[H.o]),rfl⟩
def cu (h:aT aA w k M)(hB:M.bs.length=M.B)(j p:Int):ac4 prog 120 #[ptr k,vi j,vi p] w λe w'=>e=ab4 (vi (NP.asked M.view j p))/\w'=w:=by
 obtain⟨c0,c1,c2,c3,c4,c5,c6,c7,c8⟩:=h.cells;have HC:=az h;clear h c0 c2 c3 c4 c5 c7 c8;obtain⟨B,P,S,kb,kc,bs,fa,fs,fc,since,down,dQ,reads⟩:=M;dsimp only at c1 c6 hB;cases down
 ·by_cases hj:0<=j/\j<B
  ·have ht:Hid (fC _ j=true):=az (show fC ⟨B,P,S,kb,kc,bs,fa,fs,fc,since,false,dQ,reads⟩ j=true by simp[fC,hj,hB]);by_cases hp0:0<=p
   ·by_cases hp1:p<P
    ·have H:=az (show NP.asked (dA.view ⟨B,P,S,kb,kc,bs,fa,fs,fc,since,false,dQ,reads⟩) j p=0 by simp[NP.asked,dA.view,hj,hp0,hp1]);clear hj hB;go_in;go_wp2_with fail;refine(dP HC.o j).mono ?_;rintro e w' ⟨rfl,rfl⟩;rw[ht.o];go_wp2;go_ret;exact⟨bS H.o.symm,rfl⟩
    have H:=az (show NP.asked (dA.view ⟨B,P,S,kb,kc,bs,fa,fs,fc,since,false,dQ,reads⟩) j p=12 by simp[NP.asked,dA.view,hp1]);clear hj hB;go_in;go_wp2_with fail;refine(dP HC.o j).mono ?_;rintro e w' ⟨rfl,rfl⟩;rw[ht.o];go_wp2;go_ret;exact⟨bS H.o.symm,rfl⟩
   have H:=az (show NP.asked (dA.view ⟨B,P,S,kb,kc,bs,fa,fs,fc,since,false,dQ,reads⟩) j p=12 by simp[NP.asked,dA.view,hp0]);clear hj hB;go_in;go_wp2_with fail;refine(dP HC.o j).mono ?_;rintro e w' ⟨rfl,rfl⟩;rw[ht.o];go_wp2;go_ret;exact⟨bS H.o.symm,rfl⟩
  have ht:Hid (fC _ j=false):=az (show fC ⟨B,P,S,kb,kc,bs,fa,fs,fc,since,false,dQ,reads⟩ j=false by simp[fC,hB];omega);have H:=az (show NP.asked (dA.view ⟨B,P,S,kb,kc,bs,fa,fs,fc,since,false,dQ,reads⟩) j p=12 by simp[NP.asked,dA.view];omega);clear hj hB;go_in;go_wp2_with fail;refine(dP HC.o j).mono ?_;rintro e w' ⟨rfl,rfl⟩;rw[ht.o];go_wp2;go_ret;exact⟨bS H.o.symm,rfl⟩
 have H:=az (show NP.asked (dA.view ⟨B,P,S,kb,kc,bs,fa,fs,fc,since,true,dQ,reads⟩) j p=4 by simp[NP.asked,dA.view]);go_in;go_wp2;go_ret;exact⟨bS H.o.symm,rfl⟩
structure eH (t u ty:acO)(v src:acK)(w:acL)(v':acK)(w':acL):Prop where
 run:(aaR #[t,u] ty #[v,src]).run prog w=.ok v' w'
structure vH (t u ty:acO)(v src:acK)(w:acL)(v':acK)(w':acL):Prop where
 run:(Builtin.copy_ #[t,u] ty #[v,src]).run prog w=.ok v' w'
def wpList_copy_run {ops:Array aiT}{o:aiT}{a:Act}(hgd:o.guard=none)(s x:ahW){t u:acO}
  (ho:o.op=.call {callee:=.builtin .copy,args:=#[s,x],argTypes:=#[t,u]}) {v src v':acK} (hs:a.eval s=v) (hx:a.eval x=src)
  (hrun:vH t u o.type v src w v' w') (h:wpList prog ops Q rest (a.put o.dst v') w'):wpList prog ops Q (o::rest) a w:=by
 refine acP hgd λK hK=>?_
 unfold aiT.wp execOp;simp only[ho,resolve,invoke,builtin,Sem.run_bind,Sem.run_pure,ahc,ahs,aaF,abQ,hs,hx,hrun.run];exact hK _ _ h
def o9 {c:Nat}(h:Own w aA (aco (some ⟨g,0,none⟩) n c) l)(hn:n=l.length)(j x:Nat) :
  Own (w.setCell ⟨g,j,none⟩ (vb x)) aA (aco (some ⟨g,0,none⟩) n c) (l.set j x):=by
 subst hn;have:=(acL.ownsRow.stored h j (vb x)).1;unfold Own bv;rw[abZ,ade];exact this
def jd {c:Nat}(h:Own w aA (aco (some ⟨g,0,none⟩) n c) l)(hn:n=l.length)(j:Nat):w.frozen? ⟨g,j,none⟩=false:=by
 subst hn;exact acL.ownsRow.frozenAt h j
def mH {c:Nat}(h:Own w aA (aco (some ⟨g,0,none⟩) n c) l)(hn:n=l.length)(hj:j<n):w.cell? ⟨g,j,none⟩=some (vb (l.getD j 0)):=by
 subst hn;rw[acL.ownsRow.cellAt h j aa,EM hj]
def xz (w:acL)(n:Nat)(hn:n<=1000000):Own (w.alloc (ach (madeCells #[vb 0] n) 5)) w.heap.size (aco (some ⟨w.heap.size,0,none⟩) n n) (aaA n 0):=by
 have:=acL.ownsRow_lit (base:=w.heap.size) (size:=1) (e:=5) w (madeCells #[vb 0] n) n aj (by unfold maxLen;omega) (by simp[madeCells]);rw[toList_madeCells_one]at this;unfold Own bv;rw[abP,List.map_replicate];exact this
def gp (n:Nat)(hn:n<=1000000)(w:acL):(Instr.makeSlice 23 (.int .i64 (n:Int)) (.int .i64 (n:Int))).run prog w=.ok (.slice (some ⟨w.heap.size,0,none⟩) n n) (w.alloc (.cells (madeCells #[vb 0] n) 5)) :=
 run_make_row' 23 5 (vb 0) 1 underlying23 l8 rfl .i64 .i64 n aa aa w
def pz {c:Nat}{m:List Nat}(h:Own w aA (.slice (some ⟨g,0,none⟩) n c) l)(hn:n=l.length)(j:Nat)(hj:j<=n)(hr:bE w a m)(cm:Nat)(cj:Nat) :
  ∃w',vH 23 23 3 (.slice (some ⟨g,j,none⟩) (n-j) cj) (.slice a m.length cm) w (vi (min m.length (n-j):Nat)) w' /\
   Own w' aA (.slice (some ⟨g,0,none⟩) n c) (l.take j++m.take (n-j)++l.drop (j+min m.length (n-j)))/\w.grownBy w' (some g):=by
 subst hn;obtain⟨h1,h2⟩:=h;rcases h2 with⟨h2,_⟩|⟨g',cap,cur,hv,hb,hg,hnc,hcm,hcs,htk⟩;cases h2;injection hv with hv _ hc;injection hv with hv;injection hv with hv;subst hv hc;have hcs':(bv (m.take (l.length-j))).length=min m.length (l.length-j):=by rw[sj,acX];omega
 have hlen:(l.take j++m.take (l.length-j)++l.drop (j+min m.length (l.length-j))).length=l.length:=by
  simp only[acZ,acX,adt];omega
 by_cases hz:min m.length (l.length-j)=0;have hrun:=run_copy_none (P:=prog) w 23 23 3 5 (some ⟨g,j,none⟩) a (l.length-j) cj m.length cm underlying23 (by
  have:=l8
  cases hq:prog.info? 5 with
  |none=>rw[hq]at this;cases this
  |some i=>rw[hq]at this;simp at this;simp[this]) hz
 refine⟨w,⟨by rw[hrun,hz];rfl⟩,?_,acL.grownBy.refl w _⟩;have e:l.take j++m.take (l.length-j)++l.drop (j+min m.length (l.length-j))=l:=by
  have:m.take (l.length-j)=[]:=aaY (by rw[acX];omega);rw[this,hz,List.append_nil,Nat.add_zero,List.take_append_drop]
 rw[e];exact⟨h1,.inr ⟨g,c,cur,rfl,hb,hg,hnc,hcm,hcs,htk⟩⟩;obtain⟨b,o,rfl,_⟩:=hr.lookup (k:=0) aa;have hrun:=run_copy_row (P:=prog) w 23 23 3 5 g j (l.length-j) cj ⟨b,o,none⟩ m.length cm cur 5 (bv (m.take (l.length-j))) underlying23 (by
  have:=l8
  cases hq:prog.info? 5 with
  |none=>rw[hq]at this;cases this
  |some i=>rw[hq]at this;simp at this;simp[this]) hg hcs' ((hr.take _).news) (by rw[hcs'];omega) (Q8 _)
 rw[hcs']at hrun;refine⟨_,⟨hrun⟩,⟨by rw[hlen,sj,hlen,Nat.mul_one],.inr ⟨g,c,_,by rw[hlen],hb,setRow_heap w g _ _ _ _ hg,by rw[hlen];exact hnc,hcm,?_,?_⟩⟩,⟨rfl,rfl,rfl,by simp[acL.setRow],λk _ hne=>setRow_other w g k _ (λe=>hne (by rw[e]))⟩⟩;simp only[List.size_toArray,acZ,acX,adt,hcs',ahO];omega;rw[hlen,Nat.mul_one];rw[Nat.mul_one]at htk;have hcl:cur.toList.length=c:=by rw[ahO,hcs,Nat.mul_one]
 have e1:cur.toList.take j=bv (l.take j):=by
  have:=congrArg (List.take j) htk;rw[List.take_take,Nat.min_eq_left hj]at this;rw[this];exact(List.map_take ..).symm
 have e2:(cur.toList.drop (j+min m.length (l.length-j))).take (l.length-(j+min m.length (l.length-j)))=bv (l.drop (j+min m.length (l.length-j))):=by
  have:=congrArg (List.drop (j+min m.length (l.length-j))) htk;rw[List.drop_take]at this;rw[this];exact(List.map_drop ..).symm
 rw[List.toList_toArray,wY,wY,<-e1,<-e2,List.take_append,acZ,hcs',acX,hcl,Nat.min_eq_left aa,List.take_of_length_le (by rw[acZ,acX,hcs',hcl];omega)]
def Av (n:Nat)(w:acL)(hn:n<=900000):ac4 prog 131 #[vi n] w λe w'=>∃v',e=ab4 v'/\Own w' w.heap.size v' (aaA n 255)/\acN w.heap.size w w':=by
 have hmk:=gp n aa;have HO:=az (xz w n aa);have HB:=az ((acN.refl w.heap.size w).alloc aj (ach (madeCells #[vb 0] n) 5));go_in;go_wp2_with fail;clear hmk;generalize w.alloc (ach (madeCells #[vb 0] n) 5)=w1 at*;generalize hg:w.heap.size=g at*;have HG:=az hg;clear hg;go_loopw [9] (λi wr=>∃k:Nat,k<=n/\i=vi k/\Hid (Own wr g (aco (some ⟨g,0,none⟩) n n) (aaA k 255++aaA (n-k) 0))/\Hid (acN g w wr)) (λi _=>n-(intOf i).toNat)
 case atStart=>exact⟨0,aaW _,rfl,HO,HB⟩
 case round =>
  obtain⟨k,hk,rfl,ho,hb⟩:=hrel;by_cases hlt:k<n
  ·have hl:n=(aaA k 255++aaA (n-k) 0).length:=by simp;omega
   have hc:=mH ho.o hl hlt;have hf:=jd ho.o hl k;have HS:Hid (Own (wr.setCell ⟨g,k,none⟩ (vb 255)) g (aco (some ⟨g,0,none⟩) n n) (aaA (k+1) 255++aaA (n-(k+1)) 0)):=az (by
    have:=o9 ho.o hl k 255
    rw[List.set_append_right _ _ ai,abP,Nat.sub_self,show n-k=(n-(k+1))+1 by omega,List.replicate_succ,List.set_cons_zero]at this
    rw[List.replicate_succ',List.append_assoc]
    exact this)
   clear hl ho;go_wp2;go_roundw
   case rel=>exact⟨k+1,aa,by go_num,HS,az (hb.o.setCell aj _)⟩
   case measure=>simp[intOf];omega
  obtain rfl:k=n:=aa;have ho':=ho.o;rw[Nat.sub_self,List.replicate_zero,List.append_nil]at ho';have HO':=az ho';clear ho ho';go_wp2;go_ret;exact⟨_,rfl,by rw[HG.o];exact HO'.o,by rw[HG.o];exact hb.o⟩
def jr (a:Option acM)(l:List Nat)(c:Nat)(w:acL)(h:bE w a l)(hl:l.length<=900000) :
  ac4 prog 63 #[.slice a l.length c] w λe w'=>∃v',e=.returned v'/\Own w' w.heap.size v' l/\acN w.heap.size w w':=by
 have hen:=λ(w:acL) (a:Option acM) (n c:Nat)=>Lib.run_eql_slice_nil (P:=prog) w 23 5 a n c 0 0 underlying23;cases a with
 |none =>
  have h0:l=[]:=by
   rcases h.at_ with h|⟨b,o,he,_⟩;exact h;cases he
  subst h0;go_in;go_wp2;go_ret;exact⟨_,rfl,Own.nil _ _,ak⟩
 |some ad =>
  obtain⟨v',w',hrun,ho,hs⟩:=ik (c:=c) (Own.lit (Nat.le_refl w.heap.size) [] ai (cs:=#[]) rfl) (h.below ((acN.refl _ w).alloc aj _)) (by simp;omega) ai;have R:eH 23 23 23 (.slice (some ⟨w.heap.size,0,none⟩) 0 0) (.slice (some ad) l.length c) (w.alloc (.cells #[] 5)) v' w':=⟨hrun⟩;have HB:=az (((acN.refl w.heap.size w).alloc aj (.cells #[] 5)).trans hs.below);have HO:=az ho;clear hrun ho hs;go_in;go_wp2_with (at_builtin;refine wpList_append_run rfl (.tmp 5) (.tmp 6) rfl rfl rfl R.run ?_);go_ret;exact⟨_,rfl,HO.o,HB.o⟩
def Ib (h:aT aA w k M)(hS:M.S<=512)(a:Option acM)(l:List Nat)(c:Nat)(hr:bE w a l) :
  ac4 prog 232 #[ptr k,aco a l.length c] w λe w'=>∃v',e=ab4 v'/\Own w' w.heap.size v' (NP.Ad (M.S+32) l)/\acN w.heap.size w w':=by
 have HC:=az h;have HR:=az hr;clear h hr;go_in;go_wp2_with fail;refine(full_any HC.o hS).mono ?_;rintro e w' ⟨rfl,rfl⟩;go_wp2_with fail;refine(Av (M.S+32) _ aa).mono ?_;rintro e w2 ⟨v2,rfl,ho2,hb2⟩;rcases ho2.2 with⟨_,h0⟩|⟨g,cap,cur,hv,hg,_⟩;simp at h0;rw[abP]at hv;subst hv;obtain⟨w3,hrun,ho3,hg3⟩:=pz ho2 (abP ..).symm 0 (aaW _) (HR.o.below hb2) c cap;have Og:=az hrun;have EW:Hid (Own w3 w'.heap.size (aco (some ⟨g,0,none⟩) (M.S+32) cap) (NP.Ad (M.S+32) l)):=az (by
  have e:NP.Ad (M.S+32) l=(aaA (M.S+32) 255).take 0++l.take (M.S+32-0)++(aaA (M.S+32) 255).drop (0+min l.length (M.S+32-0)):=by
   simp only[NP.Ad,List.take_zero,List.nil_append,Nat.sub_zero,abU,List.drop_replicate]
   congr 2
   omega
  rw[e]
  exact ho3)
 have HB3:=az (hb2.grown hg3 hb2.size (λx hx=>by injection hx with hx;omega));clear hrun ho3 hg3 ho2;go_wp2_with (refine wpList_copy_run rfl (.tmp 9) (.tmp 10) rfl rfl rfl Og.o ?_);go_ret;exact⟨_,rfl,EW.o,HB3.o⟩
def RD (w:acL)(g:Nat)(l:List Nat):Prop:=∃a c,aD w g 23 #[aco a l.length c]/\bE w a l/\l.length<=c/\c<=maxLen/\∀ad,a=some ad->ad.block<g
def block_add (a:acM)(n:Nat):(a.add n).block=a.block:=by unfold acM.add;split<;>rfl
def bE.dropped (h:bE w a l)(n:Nat):bE w (Option.map (λx=>x.add n) a) (l.drop n):=by
 rcases h.at_ with rfl|⟨b,o,rfl,h1⟩;simpa using bE.nil w _;rw[Option.map_some,add_plain];exact h.drop n
def bE.A8 {v u:acK}{m:List Nat}(hm:bE w a m)(hb:aD w g 23 #[v])(hv:∀n,v≠vb n):bE (w.setCell ⟨g,0,none⟩ u) a m:=by
 refine⟨hm.small,?_⟩;rcases hm.at_ with h0|⟨b,o,rfl,h1⟩;exact ack h0;by_cases hbg:b=g;refine ack ?_;subst hbg;rcases m with _|⟨x,m⟩;rfl;have h2:=h1 0 ai;rw[hb.cell]at h2;rcases o with _|o;simp at h2;exact absurd h2 (hv x);simp at h2;refine acm ⟨b,o,rfl,λi hi=>?_⟩;rw[acL.cell?_setCell_other _ _ _ _ (λe=>hbg (by injection e with e1;exact e1.symm))];exact h1 i hi
def RD.turn {c:Nat}(hb:aD w g 23 #[aco a l.length c])(hr:bE w a l)(hn:n<=l.length)(hc:l.length<=c)(hm:c<=maxLen)(ho:∀ad,a=some ad->ad.block<g){u:acK}
  (hu:(c=n/\u=aco a (l.length-n) 0)\/u=aco (Option.map (λx=>x.add n) a) (l.length-n) (c-n)) :
  bE (w.setCell ⟨g,0,none⟩ u) a (l.take n)/\RD (w.setCell ⟨g,0,none⟩ u) g (l.drop n)/\w.grownBy (w.setCell ⟨g,0,none⟩ u) (some g):=by
 have hset:=hb.bB 0 u;refine⟨(hr.take n).A8 hb ai,?_,⟨rfl,rfl,rfl,by simp[ahu],λk _ hne=>aha w _ u k (λe=>hne (by rw[e]))⟩⟩;rcases hu with⟨rfl,rfl⟩|rfl;have e:l.drop c=[]:=List.drop_eq_nil_of_le hc;refine⟨a,0,?_,by rw[e];exact bE.nil _ _,by rw[e];exact aj,aaW _,ho⟩;rw[adt];exact hset;refine⟨_,c-n,?_,(hr.dropped n).A8 hb ai,by rw[adt];omega,aa,λad hd=>?_⟩;rw[adt];exact hset;cases a with
 |none=>cases hd
 |some a0 =>
  injection hd with hd;subst hd;rw[block_add];exact ho a0 rfl
def WO (z x:Nat)(hz:z<72057594037927936)(hx:x<256):bits .or .u64 (acS.u64.wrap ((z:Int)*256)) (x:Int)=((x+256*z:Nat):Int):=by
 have e:acS.u64.wrap ((z:Int)*256)=((z*256:Nat):Int):=by
  simp only[acS.wrap,acS.bits,acS.signed];simp;omega
 rw[e,u64_or_nat _ _ aa aa,nat_join 8 (z*256) x aa aa];congr 1;omega
def Sz (z x:Nat)(hz:z<72057594037927936)(hx:x<256):bits .or .u64 ((z:Int)*256) (x:Int)=((x+256*z:Nat):Int):=by
 rw[show (z:Int)*256=((z*256:Nat):Int) by simp,u64_or_nat _ _ aa aa,nat_join 8 (z*256) x aa aa];congr 1;omega
def SE (hj:j<l.length):HP.num (l.drop j)=l.getD j 0+256*HP.num (l.drop (j+1)):=by
 rw[List.drop_eq_getElem_cons hj,HP.num];simp[afh,hj,Nat.mul_comm]
def Iu (h:∀y∈l,y<256)(hl:l.length<=8)(hj:0<j):HP.num (l.drop j)<72057594037927936:=by
 have h1:=HP.J6 (l.drop j) (λy hy=>h y (List.mem_of_mem_drop hy));have h2:256 ^ (l.drop j).length<=256 ^ 7:=Nat.pow_le_pow_right aa (by rw[adt];omega);omega
def kP (g k:Nat)(l:List Nat)(w:acL)(h:RD w g l)(hk:k<=l.length)(hk8:k<=8) :
  ac4 prog 135 #[vi k,adj (some ⟨g,0,none⟩)] w λe w'=>e=ab4 (vq (HP.num (l.take k)))/\RD w' g (l.drop k)/\w.grownBy w' (some g):=by
 obtain⟨a,c,hb,hr,hc,hm,ho⟩:=h;have g0:w.cell? ⟨g,0,none⟩=some (aco a l.length c):=hb.cell 0;have f0:=hb.frozen 0;have HB:=az hb;have HR:=az hr;have HO:=az ho;have HT:Hid ((l.take k).length=k/\∀y∈l.take k,y<256):=az ⟨by rw[acX];omega,λy hy=>hr.small y (afp hy)⟩;clear hb hr ho;go_in;go_wp2_with fail;go_loop [4,5] (λx i=>∃j z:Nat,j<=k/\i=vi ((j:Int)-1)/\x=vq z/\Hid (z=HP.num ((l.take k).drop j))) (λ_ i=>(intOf i+1).toNat)
 case atStart=>exact⟨k,0,aj,by go_num,rfl,az (by rw[List.drop_eq_nil_of_le (by rw[HT.o.1];exact aj)];rfl)⟩
 case round =>
  obtain⟨j,z,hj,rfl,rfl,hz⟩:=hrel;by_cases h0:0<j
  ·have hjl:j-1<l.length:=aa;obtain⟨b,o,rfl,hcell,hsm⟩:=HR.o.lookup hjl;have HX:Hid (HP.num ((l.take k).drop (j-1))=l.getD (j-1) 0+256*z):=az (by
    rw[SE (by rw[HT.o.1];omega),hz.o,show j-1+1=j by omega]
    congr 1
    simp only[aah,List.getElem?_take]
    rw[if_pos aa])
   have hzl:z<72057594037927936:=by rw[hz.o];exact Iu HT.o.2 (by rw[HT.o.1];exact hk8) h0
   have hor:=WO z _ hzl hsm;have ahh:=Sz z _ hzl hsm;have hi:((j:Int)-1).toNat=j-1:=aa;have hi0:(0:Int)<=(j:Int)-1:=aa;have hi1:(j:Int)-1<(l.length:Int):=aa;generalize l.getD (j-1) 0=x at hcell hsm HX hor ahh;clear HT;go_wp2_with fail;go_round
   case rel=>exact⟨j-1,x+256*z,aa,by go_num,by go_num,az (by rw[HX.o])⟩
   case measure=>simp[intOf];omega
  obtain rfl:j=0:=aa;have HZ:=hz;go_wp2_with fail;all_goals go_ret
  all_goals refine⟨by have:=HZ.o;rw[List.drop_zero]at this;rw[this];rfl,?_⟩
  all_goals exact(RD.turn HB.o HR.o hk hc hm HO.o (by first|exact acm rfl|exact ack ⟨by assumption,rfl⟩|exact ack ⟨rfl,rfl⟩)).2
def lW {t:TP.Tag}(h:aD w' w.heap.size 170 #[vi t.aL,vw t.aB,vq t.seq,vq t.aM]):w'.cell? ⟨w.heap.size,0,none⟩=some (vi t.aL)/\w'.cell? ⟨w.heap.size,1,none⟩=some (vw t.aB)/\w'.cell? ⟨w.heap.size,2,none⟩=some (vq t.seq)/\w'.cell? ⟨w.heap.size,3,none⟩=some (vq t.aM) :=
 ⟨h.cell 0,h.cell 1,h.cell 2,h.cell 3⟩
def OI (k:Int):k%256=((TP.qN k:Nat):Int):=by
 unfold TP.qN;omega
def yJ {t:TP.Tag}(h:TP.right t=true):t.aB<8192/\t.seq<4611686018427387904/\t.aM<4611686018427387904:=by
 unfold TP.right at h;simp only[Bool.and_eq_true,decide_eq_true_eq]at h;obtain⟨⟨⟨⟨⟨_,h1⟩,_⟩,h2⟩,_⟩,h3⟩:=h;exact⟨h1,h2,h3⟩
variable{n:Int}
def vP (h:TP.sized n=true):64<=n/\n<=512:=by
 unfold TP.sized at h;simp only[ae5,beq_iff_eq]at h;omega
def Ku (t:TP.Tag)(a:Option acM)(p:List Nat)(c:Nat)(w:acL)(h:bE w a p)(hl:p.length<=900000) :
  ac4 prog 145 #[aaD t,.slice a p.length c] w λe w'=>∃v,e=.returned (.tuple #[v,vi (TP.write t p).2])/\Own w' w.heap.size v (TP.write t p).1/\acN w.heap.size w w':=by
 obtain⟨kd,pg,sq,ep⟩:=t;have HD:Hid (TP.write ⟨kd,pg,sq,ep⟩ p=if TP.right ⟨kd,pg,sq,ep⟩&&TP.sized p.length then (TP.bytes ⟨kd,pg,sq,ep⟩ p,0) else ([],1)):=az rfl;have F0:Hid (aD (w.alloc (.cells #[vi kd,vw pg,vq sq,vq ep] 170)) w.heap.size 170 #[vi kd,vw pg,vq sq,vq ep]):=az (aD.new _ _ _);have HB:Hid (acN w.heap.size w (w.alloc (.cells #[vi kd,vw pg,vq sq,vq ep] 170))):=az ax;have HR:=az (h.below HB.o);have WQ:=az h.small;clear h;go_in;go_wp2_with fail;generalize w.alloc (.cells #[vi kd,vw pg,vq sq,vq ep] 170)=w0 at*;refine(A7 ⟨kd,pg,sq,ep⟩ _).mono ?_
 rintro e w1 ⟨rfl,hb1⟩;have HB1:=az (HB.o.trans (hb1.mono HB.o.size));have F1:=az (F0.o.old hb1);have HR1:=az (HR.o.below hb1);clear hb1 HB F0 HR;cases hrt:TP.right ⟨kd,pg,sq,ep⟩
 ·rw[hrt]at HD;go_wp2;go_ret2;rw[HD.o];exact⟨_,rfl,Own.nil _ _,HB1.o⟩
 rw[hrt]at HD;go_wp2_with fail;refine(agM _ _).mono ?_;rintro e w' ⟨rfl,rfl⟩;cases hsz:TP.sized p.length
 ·rw[hsz]at HD;go_wp2;go_ret2;rw[HD.o];exact⟨_,rfl,Own.nil _ _,HB1.o⟩
 rw[hsz]at HD;obtain⟨h1,h2,h3⟩:=yJ hrt;have hse:=vP hsz;dsimp only at h1 h2 h3;have HD2:Hid (TP.write ⟨kd,pg,sq,ep⟩ p=(TP.head ⟨kd,pg,sq,ep⟩ p++HP.le 4 (HP.sum (TP.head ⟨kd,pg,sq,ep⟩ p))++HP.le 4 0,0)):=HD;obtain⟨i0,hi,hz0,hz1,hz2⟩:=info_parts l8;obtain⟨wm,hmk,hom,hgm⟩:=run_make_own (P:=prog) w' w.heap.size 23 5 i0 _ 1 underlying23 hi hz0 hz1 .i64 .i64 (p.length+32) (by rw[hz2];omega) (by unfold maxLen;omega) HB1.o.size;rw[show ((p.length+32:Nat):Int)=(p.length:Int)+32 by simp]at hmk;have HO:Hid (Own wm w.heap.size (.slice (some ⟨w'.heap.size,0,none⟩) 0 (p.length+32)) []):=az hom
 have hbm:acN w'.heap.size w' wm:=ak.grown hgm aj (λk hk=>by cases hk);have HBm:=az (HB1.o.trans (hbm.mono HB1.o.size));have Fm:=az (F1.o.old hbm);have HRm:=az (HR1.o.below hbm);clear hom hgm hbm HB1 F1 HR1 hi hz0 hz1 hz2;obtain⟨v1,wa,hr1,ho1,hs1⟩:=ik (c:=c) HO.o HRm.o (by simp;omega) HBm.o.size;have yK:=az ho1;have RA:eH 23 23 23 (.slice (some ⟨w'.heap.size,0,none⟩) 0 (p.length+32)) (.slice a p.length c) wm v1 wa:=⟨hr1⟩;have fV:=az ((Stp.of_below HBm.o aj).trans hs1);have Fa:=az (hs1.blk _ _ _ ag Fm.o);clear ho1 hr1 hs1 HO HRm HBm Fm
 have hwa:=fV.o.size;have hkd:=OI kd;have ads:=TP.G7 kd;obtain⟨v2,wb,hr2,ho2,hs2⟩:=J3 yK.o [67,85,TP.qN kd,0] (by simp;omega) rfl rfl (cs:=#[.int .u8 67,.int .u8 85,.int .u8 (kd%256),.int .u8 0]) (by rw[hkd];rfl) (by simp;omega) hwa;have yz:=az ho2;have RB:eH 23 23 23 v1 (.slice (some ⟨wa.heap.size,0,none⟩) 4 4) (wa.alloc (.cells #[.int .u8 67,.int .u8 85,.int .u8 (kd%256),.int .u8 0] 5)) v2 wb:=⟨hr2⟩;have HS2:=az (fV.o.trans hs2);have Fb:=az (hs2.blk _ _ _ ag Fa.o);obtain⟨d0,d1,d2,d3⟩:=lW (t:=⟨kd,pg,sq,ep⟩) Fa.o;obtain⟨e0,e1,e2,e3⟩:=lW (t:=⟨kd,pg,sq,ep⟩) Fb.o
 clear ho2 hr2 hs2 yK fV hkd ads hwa;go_wp2_with (at_builtin;first|refine wpList_append_run rfl (.tmp 20) (.tmp 21) rfl rfl rfl RA.run ?_|refine wpList_append_run rfl (.tmp 23) (.tmp 27) rfl rfl rfl RB.run ?_);refine(ry w.heap.size v2 _ pg 4 _ yz.o HS2.o.size aa (by simp;omega) ag).mono ?_;rintro e wc ⟨v3,rfl,ho3,hs3⟩;have EW:=az ho3;have GL:=az (HS2.o.trans hs3);have Fc:=az (hs3.blk _ _ _ ag Fb.o);clear d0 d1 d2 d3 e0 e1 e2 e3 yz HS2 Fb Fa RA RB ho3 hs3;obtain⟨d0,d1,d2,d3⟩:=lW (t:=⟨kd,pg,sq,ep⟩) Fc.o;go_wp2_with fail;refine(ry w.heap.size v3 _ sq 8 _ EW.o GL.o.size aa (by simp[HP.eU];omega) ag).mono ?_
 rintro e wd ⟨v4,rfl,zm,hs4⟩;have HO4:=az zm;have vB:=az (GL.o.trans hs4);have Fd:=az (hs4.blk _ _ _ ag Fc.o);clear d0 d1 d2 d3 EW GL Fc zm hs4;obtain⟨d0,d1,d2,d3⟩:=lW (t:=⟨kd,pg,sq,ep⟩) Fd.o;go_wp2_with fail;refine(ry w.heap.size v4 _ ep 8 _ HO4.o vB.o.size aa (by simp[HP.eU];omega) ag).mono ?_;rintro e we ⟨v5,rfl,jT,hs5⟩;have mY:=az (vB.o.trans hs5);have hhead:[]++p++[67,85,TP.qN kd,0]++HP.le 4 pg++HP.le 8 sq++HP.le 8 ep=TP.head ⟨kd,pg,sq,ep⟩ p:=by simp[TP.head]
 rw[hhead]at jT;have lX:=az (TP.o7 (t:=⟨kd,pg,sq,ep⟩) WQ.o);obtain⟨a5,c5,rfl,qJ,_⟩:=jT.row lX.o;have Dk:=az jT;have ql:=az qJ;have HHL:=az (TP.yu ⟨kd,pg,sq,ep⟩ p);clear d0 d1 d2 d3 HO4 vB Fd jT hs5 hhead qJ;go_wp2_with fail;have HL9:Hid ((TP.head ⟨kd,pg,sq,ep⟩ p).length<=9000000/\(TP.head ⟨kd,pg,sq,ep⟩ p).length+8<=1000000):=az ⟨by rw[HHL.o];omega,by rw[HHL.o];omega⟩;have hsum:=HP.sum_lt (TP.head ⟨kd,pg,sq,ep⟩ p);have SF:=Iq a5 (TP.head ⟨kd,pg,sq,ep⟩ p) c5 we ql.o HL9.o.1;generalize TP.head ⟨kd,pg,sq,ep⟩ p=hd at*;generalize HP.sum hd=sm at*
 refine SF.mono ?_;rintro e wf ⟨rfl,rfl⟩;go_wp2_with fail;refine(ry w.heap.size _ _ sm 4 _ Dk.o mY.o.size aa (by have:=HL9.o;omega) ag).mono ?_;rintro e wg ⟨v6,rfl,yL,hs6⟩;have CW:=az yL;have xG:=az (mY.o.trans hs6);clear Dk mY ql yL hs6;go_wp2_with fail;refine(ry w.heap.size v6 _ 0 4 _ CW.o xG.o.size aa (by rw[acZ,HP.eU];have:=HL9.o;omega) ag).mono ?_;rintro e wh ⟨v7,rfl,Fw,hs7⟩;have QT:=az Fw;have mZ:=az (xG.o.trans hs7);clear CW xG Fw hs7;go_wp2;go_ret2;rw[HD2.o];exact⟨_,rfl,QT.o,mZ.o.below⟩
variable{v0 v1 v2 v3:acK}
def fq {r:acK}(hb:aD w' g 170 #[v0,v1,v2,v3])(tmps:Array acK)(h2:tmps[2]?=some (adj (some ⟨g,0,none⟩)))(h3:tmps[3]?=some r)(h4:tmps[4]?=some (vi n)) :
  (results Tryz.f102 tmps).run prog w'=.ok (adg #[adA #[v0,v1,v2,v3],r,vi n]) w':=by
 have g0:w'.cell? ⟨g,0,none⟩=some v0:=hb.cell 0;have g1:w'.cell? ⟨g,1,none⟩=some v1:=hb.cell 1;have g2:w'.cell? ⟨g,2,none⟩=some v2:=hb.cell 2;have g3:w'.cell? ⟨g,3,none⟩=some v3:=hb.cell 3;simp only[results,results102];simp[go_sem,h2,h3,h4,g0,g1,g2,g3]
variable{u0 u1 u2 u3:acK}
def jK (v0 v1 v2 v3:acK)(hb:aD W g 170 #[u0,u1,u2,u3])(hw:acN w.heap.size w W)(hg:w.heap.size<=g) :
  aD ((((W.setCell ⟨g,0,none⟩ v0).setCell ⟨g,1,none⟩ v1).setCell ⟨g,2,none⟩ v2).setCell ⟨g,3,none⟩ v3) g 170 #[v0,v1,v2,v3] /\
   acN w.heap.size w ((((W.setCell ⟨g,0,none⟩ v0).setCell ⟨g,1,none⟩ v1).setCell ⟨g,2,none⟩ v2).setCell ⟨g,3,none⟩ v3):=by
 refine⟨(((hb.bB 0 v0).bB 1 v1).bB 2 v2).bB 3 v3,?_⟩;exact(((hw.setCell hg v0).setCell hg v1).setCell hg v2).setCell hg v3
def nG (h:∀y∈l,y<256)(m k:Nat):HP.num ((l.drop m).take k)<256 ^ k:=by
 have h1:=HP.J6 ((l.drop m).take k) (λy hy=>h y (List.mem_of_mem_drop (afp hy)));exact adN h1 (Nat.pow_le_pow_right aa (by rw[acX];omega))
def SG (a b c d:Nat):∀j n:Nat,(#[vi a,vw b,vq c,vq d]:Array acK)[j]?≠some (vb n):=by
 intro j n;match j with
 |0=>simp
 |1=>simp
 |2=>simp
 |3=>simp
 |j+4=>simp
def OJ {ops:Array aiT}{o:aiT}{a:Act}(s x:ahW){t u:acO}{v src v':acK}
  (hrun:eH t u o.type v src w v' w') (hgd:o.guard=none) (ho:o.op=.call {callee:=.builtin .append,args:=#[s,x],argTypes:=#[t,u]}) (hs:a.eval s=v) (hx:a.eval x=src) (h:K (a.put o.dst v') w'):if Region.wanted o (yielded ops a.tmps)=true then aiT.wp prog o a w K Q else E :=
 qf hgd s x ho hs hx hrun.run h
structure SH (w W:acL)(g bb oo:Nat)(b l:List Nat):Prop where
 f:aD W w.heap.size 170 #[vi 0,vw 0,vq 0,vq 0]
 below:acN w.heap.size w W
 rd:RD W g l
 row:bE W (some ⟨bb,oo,none⟩) b
 lt:w.heap.size<g
 bg:bb<g
variable{W':acL}{bb oo:Nat}
def SH.step {b l':List Nat}(h:SH w W g bb oo b l)(hr:RD W' g l')(hg:W.grownBy W' (some g)):SH w W' g bb oo b l' :=
 ⟨h.f.grown hg (by have:=h.lt;simp;omega),h.below.grown hg h.below.size (λk hk=>by injection hk with hk;have:=h.lt;omega),hr,h.row.grown hg (by have:=h.bg;simp;omega),h.lt,h.bg⟩
def RD.old (h:RD W g l)(hb:acN W.heap.size W W'):RD W' g l:=by
 obtain⟨a,c,h1,h2,h3⟩:=h;exact⟨a,c,h1.old hb,h2.below hb,h3⟩
def SH.old {b:List Nat}(h:SH w W g bb oo b l)(hb:acN W.heap.size W W'):SH w W' g bb oo b l :=
 ⟨h.f.old hb,h.below.trans (hb.mono h.below.size),h.rd.old hb,h.row.below hb,h.lt,h.bg⟩
variable{u:acK}
def RD.zK {q:Nat}{cs:Array acK}(h:RD W g l)(hq:aD W q 170 cs)(hv:∀j n:Nat,cs[j]?≠some (vb n)):RD (W.setCell ⟨q,j,none⟩ u) g l:=by
 obtain⟨a,c,h1,h2,h3⟩:=h;have hne:g≠q:=by
  intro e;subst e;unfold aD at h1 hq;rw[h1]at hq;injection hq with hq;injection hq with _ hq;exact absurd hq ag
 exact⟨a,c,h1.far (p:=⟨q,j,none⟩) hne u,h2.zK hq hv,h3⟩
def SH.set {q:Nat}{b:List Nat}{cs:Array acK}(h:SH w W g bb oo b l)(hq:aD W q 170 cs)(hv:∀j n:Nat,cs[j]?≠some (vb n))(hn:w.heap.size<q):SH w (W.setCell ⟨q,j,none⟩ u) g bb oo b l :=
 ⟨h.f.far (p:=⟨q,j,none⟩) (by dsimp only;omega) u,h.below.setCell (p:=⟨q,j,none⟩) (by dsimp only;omega) u,h.rd.zK hq hv,h.row.zK hq hv,h.lt,h.bg⟩
def RD.len (h:RD W g l):∀y∈l,y<256:=by
 obtain⟨a,c,h1,h2,h3⟩:=h;exact h2.small
def Own.far {v:acK}{t:acO}{cs:Array acK}(h:Own w aA v l)(hg:aD w g t cs)(ht:t≠5):Own (w.setCell ⟨g,j,none⟩ u) aA v l :=
 acL.ownsRow.kept h (row:=some g) ⟨rfl,rfl,rfl,by simp[ahu],λk _ hk=>aha w _ u k (λe=>hk (by rw[e]))⟩ (acm (bU h hg ht).symm)
def Own.WR {v:acK}(h:Own w aA v l)(hb:aD w g 170 #[u0,u1,u2,u3]) :
  Own ((((w.setCell ⟨g,0,none⟩ v0).setCell ⟨g,1,none⟩ v1).setCell ⟨g,2,none⟩ v2).setCell ⟨g,3,none⟩ v3) aA v l :=
 (((h.far hb ag).far (hb.bB 0 v0) ag).far ((hb.bB 0 v0).bB 1 v1) ag).far (((hb.bB 0 v0).bB 1 v1).bB 2 v2) ag
def j5 (b:List Nat)(w:acL)(e:Ending)(w':acL):Prop:=∃v,e=ab4 (adg #[aaD (TP.read b).1,v,vi (TP.read b).2.2])/\Own w' w.heap.size v (TP.read b).2.1/\acN w.heap.size w w'
def j5.none {b:List Nat}(h:TP.read b=(TP.zero,[],n))(hb:acN w.heap.size w w'):j5 b w (ab4 (adg #[adA #[vi 0,vw 0,vq 0,vq 0],aco none 0 0,vi n])) w':=by
 unfold j5;rw[h];exact⟨_,rfl,Own.nil _ _,hb⟩
def OL (a:Option acM)(b:List Nat)(c:Nat)(w:acL)(h:bE w a b)(hc:b.length<=c)(hm:c<=maxLen):ac4 prog 102 #[aco a b.length c] w (j5 b w):=by
 have HD:Hid (TP.read b=if TP.sized ((b.length:Int)-32)=false then (TP.zero,[],1) else if TP.ones b then (TP.zero,[],20) else
  if TP.jW b (b.drop (b.length-32)) (b.length-32) then (TP.Ab (b.drop (b.length-32)),b.take (b.length-32),0) else (TP.zero,[],21)):=az rfl
 have F0:Hid (aD (w.alloc (ach #[vi 0,vw 0,vq 0,vq 0] 170)) w.heap.size 170 #[vi 0,vw 0,vq 0,vq 0]):=az (aD.new _ _ _);have HB:Hid (acN w.heap.size w (w.alloc (ach #[vi 0,vw 0,vq 0,vq 0] 170))):=az ax;have HR:=az (h.below HB.o);clear h;have Df:maxLen=9223372036854775807:=rfl;have HM:=az Df;rw[Df]at hm;clear Df;by_cases h32:b.length<32
 ·have hlt:(b.length:Int)-32<0:=aa;have hs:TP.sized ((b.length:Int)-32)=false:=by
   cases hq:TP.sized ((b.length:Int)-32);rfl;have:=vP hq;omega
  rw[if_pos hs]at HD;go_in;go_upto_region 2 with fail;generalize w.alloc (ach #[vi 0,vw 0,vq 0,vq 0] 170)=w0 at*;obtain⟨d0,d1,d2,d3⟩:=lW (t:=TP.zero) F0.o;have f0:=F0.o.frozen 0;have f1:=F0.o.frozen 1;have f2:=F0.o.frozen 2;have f3:=F0.o.frozen 3;go_wp2_with fail;obtain⟨hf,hw⟩:=jK (vi 0) (vw 0) (vq 0) (vq 0) F0.o HB.o aj;exact ac5 (fq hf _ rfl rfl rfl) rfl (j5.none HD.o hw)
 obtain⟨n,hn⟩:∃n,b.length=n+32:=⟨b.length-32,aa⟩;have HN:=az hn;have Za:=Kr a b c (w.alloc (ach #[vi 0,vw 0,vq 0,vq 0] 170)) HR.o;rw[hn]at Za hc HD;rw[show ((n+32:Nat):Int)-32=n by omega,show n+32-32=n by omega]at HD;rw[hn];clear hn h32;go_in;go_upto_region 2 with fail;generalize w.alloc (ach #[vi 0,vw 0,vq 0,vq 0] 170)=w0 at*;obtain⟨d0,d1,d2,d3⟩:=lW (t:=TP.zero) F0.o;have f0:=F0.o.frozen 0;have f1:=F0.o.frozen 1;have f2:=F0.o.frozen 2;have f3:=F0.o.frozen 3;go_wp2_with fail;refine(agM _ _).mono ?_;rintro e w' ⟨rfl,rfl⟩;cases hsz:TP.sized n
 ·rw[hsz]at HD;go_wp2_with fail;obtain⟨hf,hw⟩:=jK (vi 0) (vw 0) (vq 0) (vq 0) F0.o HB.o aj;exact ac5 (fq hf _ rfl rfl rfl) rfl (j5.none HD.o hw)
 rw[hsz]at HD;have hse:=vP hsz;have adu:=az (Za aa);clear Za;go_wp2_with fail;refine adu.o.mono ?_;rintro e w1 ⟨rfl,rfl⟩;clear adu;cases hone:TP.ones b
 ·rw[hone]at HD;have HDD:Hid (TP.read b=if TP.jW b (b.drop n) n then (TP.Ab (b.drop n),b.take n,0) else (TP.zero,[],21)):=HD;clear HD;have hb0:0<b.length:=by rw[HN.o];omega
  obtain⟨bb,oo,rfl,hcell,_⟩:=HR.o.lookup hb0;have hbb:=lU hcell;clear hcell hb0;have hcn:¬c=n:=aa;clear d0 d1 d2 d3 f0 f1 f2 f3;go_upto_region 7 with fail;have hdl:(b.drop n).length=32:=by rw[adt,HN.o];omega
  have T1:Hid (SH w (w1.alloc (ach #[aco (some ⟨bb,oo+n,none⟩) 32 (c-n)] 23)) w1.heap.size bb oo b (b.drop n)):=az
   ⟨F0.o.alloc _,HB.o.alloc HB.o.size _,⟨some ⟨bb,oo+n,none⟩,c-n,by rw[hdl];exact aD.new _ _ _,(HR.o.drop n).below ax,by rw[hdl];omega,by rw[HM.o];omega,
    λad e=>by injection e with e;rw[<-e];exact hbb⟩,HR.o.below ax,F0.o.lt,hbb⟩
  clear F0 HB HR hbb hcn;generalize w1.alloc (ach #[aco (some ⟨bb,oo+n,none⟩) 32 (c-n)] 23)=w2 at*;generalize w1.heap.size=g at*;have vQ:=az hdl;clear hdl;obtain⟨r,hr0⟩:∃r,r=b.drop n:=⟨_,rfl⟩;rw[<-hr0]at HDD vQ T1;clear hr0;have SI:=T1.o.rd.len;have lX:=az SI;clear SI;go_wp2_with fail;refine(kP g 2 r _ T1.o.rd (by rw[vQ.o];omega) aa).mono ?_;rintro e w3 ⟨rfl,hr,hg⟩;have T2:=az (T1.o.step hr hg);generalize hx:HP.num (r.take 2)=x0;have X0:=az hx;clear hr hg hx T1;go_wp2_with fail;refine(kP g 1 _ _ T2.o.rd (by rw[adt,vQ.o];omega) aa).mono ?_
  rintro e w4 ⟨rfl,hr,hg⟩;rw[adv]at hr;have T3:=az (T2.o.step hr hg);have hb1:=nG lX.o 2 1;generalize hx:HP.num ((r.drop 2).take 1)=x1 at*;have X1:=az hx;clear hr hg hx T2;go_wp2_with fail;refine(kP g 1 _ _ T3.o.rd (by rw[adt,vQ.o];omega) aa).mono ?_;rintro e w5 ⟨rfl,hr,hg⟩;rw[adv]at hr;have T4:=az (T3.o.step hr hg);generalize hx:HP.num ((r.drop (2+1)).take 1)=x3;have X3:=az hx;have hw1:wrap64 (x1:Int)=x1:=by unfold wrap64;omega
  clear hr hg hx T3;go_wp2_with fail;refine(kP g 4 _ _ T4.o.rd (by rw[adt,vQ.o];omega) aa).mono ?_;rintro e w6 ⟨rfl,hr,hg⟩;rw[adv]at hr;have T5:=az (T4.o.step hr hg);have hb4:=nG lX.o (2+1+1) 4;generalize hx:HP.num ((r.drop (2+1+1)).take 4)=x4 at*;have X4:=az hx;have hw4:(x4:Int)%4294967296=x4:=aa;clear hr hg hx T4;go_upto_region 10 with fail;have T6:Hid (SH w (w6.alloc (ach #[vi x1,vw x4,vq 0,vq 0] 170)) g bb oo b (r.drop (2+1+1+4))):=az (T5.o.old ax);have G6:Hid (aD (w6.alloc (ach #[vi x1,vw x4,vq 0,vq 0] 170)) w6.heap.size 170 #[vi x1,vw x4,vq 0,vq 0]):=az (aD.new _ _ _)
  have ig:Hid (w.heap.size<w6.heap.size):=az T5.o.f.lt;have HGH:Hid (some w6.heap.size≠some g):=az (λe=>by
   injection e with e
   obtain⟨_,_,hq,_⟩:=T5.o.rd
   have:=hq.lt;omega)
  clear T5 hw1 hw4;generalize (w6.alloc (ach #[vi x1,vw x4,vq 0,vq 0] 170))=w7 at*;generalize w6.heap.size=h at*;go_wp2_with fail;refine(kP g 8 _ _ T6.o.rd (by rw[adt,vQ.o];omega) aa).mono ?_;rintro e w8 ⟨rfl,hr,hg⟩;rw[adv]at hr;have T8:=az (T6.o.step hr hg);have G8:=az (G6.o.grown hg HGH.o);have wT:=nG lX.o (2+1+1+4) 8;generalize hx:HP.num ((r.drop (2+1+1+4)).take 8)=x8 at*;have X8:=az hx;clear hr hg hx T6 G6;go_wp2_with fail;refine(kP g 8 _ _ T8.o.rd (by rw[adt,vQ.o];omega) aa).mono ?_;rintro e w9 ⟨rfl,hr,hg⟩
  rw[adv]at hr;have T9:=az (T8.o.step hr hg);have G9:=az (G8.o.grown hg HGH.o);have ahk:=nG lX.o (2+1+1+4+8) 8;generalize hx:HP.num ((r.drop (2+1+1+4+8)).take 8)=OM at*;have X16:=az hx;have hf2:=G9.o.frozen 2;have hf3:=G9.o.frozen 3;have hc2:w9.cell? ⟨h,2,none⟩=some (vq 0):=G9.o.cell 2;have hc3:w9.cell? ⟨h,3,none⟩=some (vq 0):=G9.o.cell 3;have TA:=az ((T9.o.set (j:=2) (u:=vq x8) G9.o (SG _ _ _ _) ig.o).set (j:=3) (u:=vq OM) (G9.o.bB 2 (vq x8)) (SG x1 x4 x8 0) ig.o);have GA:Hid (aD ((w9.setCell ⟨h,2,none⟩ (vq x8)).setCell ⟨h,3,none⟩ (vq OM)) h 170 #[vi x1,vw x4,vq x8,vq OM]):=az ((G9.o.bB 2 (vq x8)).bB 3 (vq OM))
  clear hr hg hx T8 G8 T9 G9;go_upto_region 11 with fail;clear wT ahk hf2 hf3 hc2 hc3;generalize ((w9.setCell ⟨h,2,none⟩ (vq x8)).setCell ⟨h,3,none⟩ (vq OM))=wa at*;go_wp2_with fail;refine(kP g 4 _ _ TA.o.rd (by rw[adt,vQ.o];omega) aa).mono ?_;rintro e wb ⟨rfl,hr,hg⟩;rw[adv]at hr;have TB:=az (TA.o.step hr hg);have GB:=az (GA.o.grown hg HGH.o);generalize hx:HP.num ((r.drop (2+1+1+4+8+8)).take 4)=x24 at*;have X24:=az hx;clear hr hg hx TA GA;go_wp2_with fail;refine(kP g 4 _ _ TB.o.rd (by rw[adt,vQ.o];omega) aa).mono ?_
  rintro e wc ⟨rfl,hr,hg⟩;have TC:=az (TB.o.step hr hg);have GC:=az (GB.o.grown hg HGH.o);generalize hx:HP.num ((r.drop (2+1+1+4+8+8+4)).take 4)=x28 at*;have X28:=az hx;clear hr hg hx TB GB;have HTG:Hid (TP.Ab r=⟨x1,x4,x8,OM⟩):=az (by rw[<-X1.o,<-X4.o,<-X8.o,<-X16.o];rfl);have oC:Hid (TP.jW b r n=(x0==21827&&x3==0&&x28==0&&TP.right ⟨x1,x4,x8,OM⟩&&x24==HP.sum (b.take (n+24)))):=az (by
   unfold TP.jW
   rw[HTG.o,<-X0.o,<-X3.o,<-X28.o,<-X24.o])
  clear X0 X1 X3 X4 X8 X16 X24 X28 lX vQ;have k0:wc.cell? ⟨h,0,none⟩=some (vi x1):=GC.o.cell 0;have k1:wc.cell? ⟨h,1,none⟩=some (vw x4):=GC.o.cell 1;have k2:wc.cell? ⟨h,2,none⟩=some (vq x8):=GC.o.cell 2;have k3:wc.cell? ⟨h,3,none⟩=some (vq OM):=GC.o.cell 3;obtain⟨d0,d1,d2,d3⟩:=lW (t:=TP.zero) TC.o.f;have f0:=TC.o.f.frozen 0;have f1:=TC.o.f.frozen 1;have f2:=TC.o.f.frozen 2;have f3:=TC.o.f.frozen 3;by_cases q0:x0=21827
  ·subst q0;by_cases q3:x3=0
   ·subst q3;by_cases q28:x28=0
    ·subst q28;go_wp2_with fail;refine(A7 ⟨x1,x4,x8,OM⟩ _).mono ?_;rintro e wd ⟨rfl,hbl⟩;have TD:=az (TC.o.old hbl);have GDD:=az (GC.o.old hbl);clear hbl TC GC k0 k1 k2 k3 d0 d1 d2 d3 f0 f1 f2 f3;have k0:wd.cell? ⟨h,0,none⟩=some (vi x1):=GDD.o.cell 0;have k1:wd.cell? ⟨h,1,none⟩=some (vw x4):=GDD.o.cell 1;have k2:wd.cell? ⟨h,2,none⟩=some (vq x8):=GDD.o.cell 2;have k3:wd.cell? ⟨h,3,none⟩=some (vq OM):=GDD.o.cell 3;obtain⟨d0,d1,d2,d3⟩:=lW (t:=TP.zero) TD.o.f;have f0:=TD.o.f.frozen 0;have f1:=TD.o.f.frozen 1;have f2:=TD.o.f.frozen 2;have f3:=TD.o.f.frozen 3;cases hrt:TP.right ⟨x1,x4,x8,OM⟩
     ·rw[hrt]at oC;go_wp2_with fail;obtain⟨hf,hw⟩:=jK (vi 0) (vw 0) (vq 0) (vq 0) TD.o.f TD.o.below aj;exact ac5 (fq hf _ rfl rfl rfl) rfl (j5.none (by rw[HDD.o,if_neg (by rw[oC.o];simp)]) hw)
     rw[hrt]at oC;have hcs:=Iq (some ⟨bb,oo,none⟩) (b.take (n+24)) c wd (TD.o.row.take _) (by rw[acX,HN.o];omega);rw[show (b.take (n+24)).length=n+24 by rw[acX,HN.o];omega]at hcs;have SF:=az hcs;have hsl:=HP.sum_lt (b.take (n+24));generalize HP.sum (b.take (n+24))=sm at*;clear hcs;go_wp2_with fail;refine SF.o.mono ?_;rintro e we ⟨rfl,rfl⟩;clear SF;by_cases q24:x24=sm
     ·subst q24;have hlt:(b.take n).length=n:=by rw[acX,HN.o];omega
      obtain⟨v5,w5,hrun,jT,hs5⟩:=ik (c:=c) (Own.nil we.drew w.heap.size) (TD.o.row.take n).drew (by rw[hlt];simp;omega) TD.o.below.size;rw[hlt]at hrun;have RA:eH 23 23 23 (aco none 0 0) (aco (some ⟨bb,oo,none⟩) n c) we.drew v5 w5:=⟨hrun⟩;have F5:=az (hs5.blk _ _ _ ag TD.o.f.drew);have G5:=az (hs5.blk _ _ _ ag GDD.o.drew);have B5:=az ((TD.o.below.drew).trans hs5.below);have Dk:=az jT;clear hrun jT hs5 hlt;have k0':w5.cell? ⟨h,0,none⟩=some (vi x1):=G5.o.cell 0;have k1':w5.cell? ⟨h,1,none⟩=some (vw x4):=G5.o.cell 1;have k2':w5.cell? ⟨h,2,none⟩=some (vq x8):=G5.o.cell 2
      have k3':w5.cell? ⟨h,3,none⟩=some (vq OM):=G5.o.cell 3;obtain⟨d0',d1',d2',d3'⟩:=lW (t:=TP.zero) F5.o;have f0':=F5.o.frozen 0;have f1':=F5.o.frozen 1;have f2':=F5.o.frozen 2;have f3':=F5.o.frozen 3;have hnc:n<=c:=aa;go_upto_region 14 with fail;go_region_law (refine OJ (.const (aco none 0 0)) (.tmp 85) RA (by rfl) (by rfl) (by go_simp) (by go_simp) ?_);all_goals go_wp2_with fail
      all_goals obtain⟨hf,hw⟩:=jK (vi x1) (vw x4) (vq x8) (vq OM) F5.o B5.o aj
      all_goals refine ac5 (fq hf _ rfl rfl rfl) rfl ?_
      all_goals unfold j5
      all_goals rw[HDD.o,if_pos (by rw[oC.o];simp),HTG.o]
      all_goals exact⟨_,rfl,by
       have:=Dk.o
       rw[List.nil_append]at this
       exact this.WR F5.o,hw⟩
     have amK:((x24:Int) != (sm:Int))=true:=by simp;omega
     go_wp2_with fail;obtain⟨hf,hw⟩:=jK (vi 0) (vw 0) (vq 0) (vq 0) TD.o.f TD.o.below aj;exact ac5 (fq hf _ rfl rfl rfl) rfl (j5.none (by rw[HDD.o,if_neg (by rw[oC.o];simp[q24])]) hw)
    have amL:((x28:Int) != 0)=true:=by simp;omega
    go_wp2_with fail;obtain⟨hf,hw⟩:=jK (vi 0) (vw 0) (vq 0) (vq 0) TC.o.f TC.o.below aj;exact ac5 (fq hf _ rfl rfl rfl) rfl (j5.none (by rw[HDD.o,if_neg (by rw[oC.o];simp[q28])]) hw)
   have q3':((x3:Int) != 0)=true:=by simp;omega
   go_wp2_with fail;obtain⟨hf,hw⟩:=jK (vi 0) (vw 0) (vq 0) (vq 0) TC.o.f TC.o.below aj;exact ac5 (fq hf _ rfl rfl rfl) rfl (j5.none (by rw[HDD.o,if_neg (by rw[oC.o];simp[q3])]) hw)
  have q0':((x0:Int) != 21827)=true:=by simp;omega
  go_wp2_with fail;obtain⟨hf,hw⟩:=jK (vi 0) (vw 0) (vq 0) (vq 0) TC.o.f TC.o.below aj;exact ac5 (fq hf _ rfl rfl rfl) rfl (j5.none (by rw[HDD.o,if_neg (by rw[oC.o];simp[q0])]) hw)
 rw[hone]at HD;go_wp2_with fail;obtain⟨hf,hw⟩:=jK (vi 0) (vw 0) (vq 0) (vq 0) F0.o HB.o aj;exact ac5 (fq hf _ rfl rfl rfl) rfl (j5.none HD.o hw)
namespace ino
open RowKit
def oF {v:acK}(h:Own w aA v l)(hn:0<l.length):∃g cap,v=aco (some ⟨g,0,none⟩) l.length cap/\aA<=g/\l.length<=cap/\cap<=maxLen:=by
 rcases h.2 with⟨_,h0⟩|⟨g,cap,cur,hv,hb,_,hnc,hcm,_⟩;omega;exact⟨g,cap,hv,hb,hnc,hcm⟩
end ino
namespace PI
def way (n:Nat):Nat×Nat×Nat:=if n<6 then (0,n,0) else if n<38 then (1,n-6,0) else (2,(n-38)/32,(n-38)%32)
end PI
namespace ino
open RowKit
def A9:ac4 prog 53 #[vi 64] w λe w'=>e=ab4 (vi 1062)/\w'=w:=by
 go_in;go_wp2;go_ret;exact⟨rfl,rfl⟩
def kD:ac4 prog 27 #[vi 64] w λe w'=>e=ab4 (vi 67968)/\w'=w:=by
 go_in;go_wp2_with fail;refine oD.mono ?_;rintro e w' ⟨rfl,rfl⟩;go_wp2_with fail;refine A9.mono ?_;rintro e w' ⟨rfl,rfl⟩;go_wp2;go_ret;exact⟨rfl,rfl⟩
def Iw {t:acO}{cs:Array acK}(h:aD w g t cs):aD w.drew g t cs:=h
def jv (hb:aD w' g 111 #[v0,v1,v2])(tmps:Array acK)(h2:tmps[4]?=some (adj (some ⟨g,0,none⟩)))(h3:tmps[5]?=some (vi n)) :
  (results Tryz.f57 tmps).run prog w'=.ok (adg #[adA #[v0,v1,v2],vi n]) w':=by
 have g0:w'.cell? ⟨g,0,none⟩=some v0:=hb.cell 0;have g1:w'.cell? ⟨g,1,none⟩=some v1:=hb.cell 1;have g2:w'.cell? ⟨g,2,none⟩=some v2:=hb.cell 2;simp only[results,results57];simp[go_sem,h2,h3,g0,g1,g2]
def jL {w1:acL}(v0 v1 v2:acK)(h:aD w1 g 111 #[u0,u1,u2])(hb:acN w.heap.size w w1)(hg:w.heap.size<=g) :
  aD (((w1.setCell ⟨g,0,none⟩ v0).setCell ⟨g,1,none⟩ v1).setCell ⟨g,2,none⟩ v2) g 111 #[v0,v1,v2]/\acN w.heap.size w (((w1.setCell ⟨g,0,none⟩ v0).setCell ⟨g,1,none⟩ v1).setCell ⟨g,2,none⟩ v2) :=
 ⟨((h.bB 0 v0).bB 1 v1).bB 2 v2,((hb.setCell (p:=⟨g,0,none⟩) hg v0).setCell (p:=⟨g,1,none⟩) hg v1).setCell (p:=⟨g,2,none⟩) hg v2⟩
def Ba (n:Nat)(hn:n<1062):ac4 prog 57 #[vi 64,vi n] w λe w'=>e=ab4 (adg #[adA #[vi (PI.way n).1,vi (PI.way n).2.1,vi (PI.way n).2.2],vi 0])/\acN w.heap.size w w':=by
 have HB:Hid (acN w.heap.size w (w.alloc (ach #[vi 0,vi 0,vi 0] 111))):=az ax;have HF:=az (aD.new w 111 #[vi 0,vi 0,vi 0]);have HT:Hid (PI.way n=if n<6 then (0,n,0) else if n<38 then (1,n-6,0) else (2,(n-38)/32,(n-38)%32)):=az rfl;generalize PI.way n=T at*;have w6:acS.i64.wrap ((n:Int)-6)=(n:Int)-6:=IntWalk.i64_in _ aa;have n1:¬(n:Int)<0:=aa;have n2:¬(1062:Int)<=(n:Int):=aa;go_in;go_upto_region 1 with fail;change Code.wp _ _ _ _ (w.alloc (ach #[vi 0,vi 0,vi 0] 111));generalize w.alloc (ach #[vi 0,vi 0,vi 0] 111)=w1 at*
 have r0:w1.cell? ⟨w.heap.size,0,none⟩=some (vi 0):=HF.o.cell 0;have f0:=HF.o.frozen 0;have r1:w1.cell? ⟨w.heap.size,1,none⟩=some (vi 0):=HF.o.cell 1;have f1:=HF.o.frozen 1;have r2:w1.cell? ⟨w.heap.size,2,none⟩=some (vi 0):=HF.o.cell 2;have f2:=HF.o.frozen 2;go_wp2_with fail;refine oD.mono ?_;rintro e w2 ⟨rfl,rfl⟩;go_wp2_with fail;refine A9.mono ?_;rintro e w2 ⟨rfl,rfl⟩;by_cases h6:n<6
 ·have c1:(n:Int)-6<0:=aa;go_wp2_with fail;obtain⟨hf,hw⟩:=jL (vi 0) (vi n) (vi 0) HF.o HB.o aj;exact ac5 (jv hf _ rfl rfl) rfl ⟨by rw[HT.o,if_pos h6];rfl,hw⟩
 have c1:¬(n:Int)-6<0:=aa;by_cases zN:n<38
 ·have c2:(n:Int)-6<32:=aa;go_wp2_with fail;obtain⟨hf,hw⟩:=jL (vi 1) (vi ((n:Int)-6)) (vi 0) HF.o HB.o aj;exact ac5 (jv hf _ rfl rfl) rfl ⟨by rw[HT.o,if_neg h6,if_pos zN];simp;omega,hw⟩
 have c2:¬(n:Int)-6<32:=aa;have w7:acS.i64.wrap ((n:Int)-6-32)=((n-38:Nat):Int):=by rw[IntWalk.i64_in _ aa];omega
 have q1:acS.i64.wrap (((n-38:Nat):Int).tdiv 32)=(((n-38)/32:Nat):Int):=by rw[Int.tdiv_eq_ediv_of_nonneg aa];rw[IntWalk.i64_in _ aa];omega
 have q2:acS.i64.wrap (((n-38:Nat):Int).tmod 32)=(((n-38)%32:Nat):Int):=by rw[Int.tmod_eq_emod_of_nonneg aa];rw[IntWalk.i64_in _ aa];omega
 go_upto_region 11 with fail;go_region;go_wp2_with fail;obtain⟨hf,hw⟩:=jL (vi 2) (vi ((n-38:Nat)/32:Int)) (vi ((n-38:Nat)%32:Int)) HF.o HB.o aj;refine ac5 (jv (Iw hf) _ rfl rfl) rfl ⟨?_,hw.drew⟩;rw[HT.o,if_neg h6,if_neg zN];rfl
end ino
open MapKept
open ChangeMaps (setBlock heap_setBlock_same heap_setBlock_other)
abbrev Mp (α:Type):=List (Int×α)
namespace MP
def get:Mp α->Int->Option α
 |[],_=>none
 |x::m,k=>if x.1=k then some x.2 else get m k
def put:Mp α->Int->α->Mp α
 |[],k,v=>[(k,v)]
 |x::m,k,v=>if k<x.1 then (k,v)::x::m else if k=x.1 then (k,v)::m else x::put m k v
def del:Mp α->Int->Mp α
 |[],_=>[]
 |x::m,k=>if x.1=k then m else x::del m k
def has (m:Mp α)(k:Int):Bool:=(get m k).isSome
def Ok (m:Mp α):Prop:=m.Pairwise (λx y=>x.1<y.1)
def EO:Ok ([]:Mp α):=List.Pairwise.nil
def get_none {m:Mp α}{k:Int}:get m k=none↔∀x∈m,x.1≠k:=by
 induction m with
 |nil=>simp[get]
 |cons x m ih =>
  unfold get;split;rename_i h;simp[h];rename_i h;rw[ih];simp[h]
def get_mem {m:Mp α}{k:Int}{v:α}(h:get m k=some v):(k,v)∈m:=by
 induction m with
 |nil=>simp[get]at h
 |cons x m ih =>
  unfold get at h;split at h;rename_i e;cases h;subst e;simp;exact List.mem_cons_of_mem _ (ih h)
def dR {m:Mp α}(ok:Ok m){x:Int×α}(h:x∈m):get m x.1=some x.2:=by
 induction m with
 |nil=>simp at h
 |cons y m ih =>
  obtain⟨h1,h2⟩:=aaL.1 ok;unfold get;rcases aaI.1 h with rfl|h;simp;rw[if_neg (by have:=h1 x h;omega)];exact ih h2 h
def Mx {m:Mp α}{k:Int}{v:α}{y:Int×α}(h:y∈put m k v):y=(k,v)\/y∈m:=by
 induction m with
 |nil=>simpa[put] using h
 |cons x m ih =>
  unfold put at h;split at h;simpa using h;split at h;rcases aaI.1 h with h|h;exact ack h;exact acm (List.mem_cons_of_mem _ h);rcases aaI.1 h with h|h;exact acm (by rw[h];simp);rcases ih h with h|h;exact ack h;exact acm (List.mem_cons_of_mem _ h)
def iJ {m:Mp α}(ok:Ok m)(k:Int)(v:α):Ok (put m k v):=by
 induction m with
 |nil=>exact List.pairwise_singleton _ _
 |cons x m ih =>
  obtain⟨h1,h2⟩:=aaL.1 ok;unfold put;split;rename_i h;exact aaL.2 ⟨λy hy=>by
   rcases aaI.1 hy with rfl|hy
   exact h
   have:=h1 y hy;dsimp only;omega,ok⟩
  split;rename_i h;exact aaL.2 ⟨λy hy=>by have:=h1 y hy;dsimp only;omega,h2⟩;exact aaL.2 ⟨λy hy=>by
   rcases Mx hy with rfl|hy
   dsimp only;omega
   exact h1 y hy,ih h2⟩
def EP (m:Mp α)(k:Int):(del m k).Sublist m:=by
 induction m with
 |nil=>exact List.Sublist.refl _
 |cons x m ih =>
  unfold del;split;exact List.sublist_cons_self _ _;exact ih.cons_cons x
def jc {m:Mp α}(ok:Ok m)(k:Int):Ok (del m k):=ok.sublist (EP m k)
def qR {m:Mp α}{k:Int}(h:get m k=none):del m k=m:=by
 induction m with
 |nil=>rfl
 |cons x m ih =>
  unfold get at h;unfold del;split at h;cases h;rename_i e;rw[if_neg e,ih h]
def fO {m:Mp α}{k:Int}{v:α}(h:get m k=some v):m.Perm ((k,v)::del m k):=by
 induction m with
 |nil=>simp[get]at h
 |cons x m ih =>
  unfold get at h;unfold del;split at h;rename_i e;cases h;subst e;rw[if_pos rfl]
  ·rename_i e;rw[if_neg e];exact((ih h).cons x).trans (abx _ _ _)
def qU {m:Mp α}(ok:Ok m)(k:Int)(v:α):(put m k v).Perm ((k,v)::del m k):=by
 induction m with
 |nil=>exact List.Perm.refl _
 |cons x m ih =>
  obtain⟨h1,h2⟩:=aaL.1 ok;unfold put del;split;rename_i h;rw[if_neg aa,qR (get_none.2 (λy hy=>by have:=h1 y hy;omega))]
  ·split;rename_i h;rw[if_pos h.symm]
   ·rename_i h _;rw[if_neg aa];exact((ih h2).cons x).trans (abx _ _ _)
def get_put (m:Mp α)(k:Int)(v:α)(j:Int):get (put m k v) j=if k=j then some v else get m j:=by
 induction m with
 |nil=>simp[put,get]
 |cons x m ih =>
  unfold put;split;simp[get];split;rename_i h;subst h;simp only[get];split<;>rfl;rename_i h1 h2;simp only[get,ih];split;rename_i h;rw[if_neg aa];rfl
def dO {m:Mp α}(ok:Ok m)(k j:Int):get (del m k) j=if k=j then none else get m j:=by
 induction m with
 |nil=>simp[del,get]
 |cons x m ih =>
  obtain⟨h1,h2⟩:=aaL.1 ok;unfold del;split;rename_i h;by_cases e:k=j;rw[if_pos e];exact get_none.2 (λy hy=>by have:=h1 y hy;omega);rw[if_neg e];simp only[get];rw[if_neg aa];rename_i h;simp only[get,ih h2];split;rename_i e;rw[if_neg aa];rfl
def ext {m n:Mp α}(hm:Ok m)(hn:Ok n)(h:∀k,get m k=get n k):m=n:=by
 have hp:∀x,x∈m↔x∈n:=λx=>⟨λhx=>get_mem (by rw[<-h,dR hm hx]),λhx=>get_mem (by rw[h,dR hn hx])⟩
 refine List.Perm.eq_of_pairwise (le:=λ(x y:Int×α)=>x.1<y.1) (λx y _ _ h1 h2=>aa) hm hn ?_;exact(List.perm_ext_iff_of_nodup (hm.imp (λ{x y} h e=>by rw[e]at h;exact Int.lt_irrefl _ h)) (hn.imp (λ{x y} h e=>by rw[e]at h;exact Int.lt_irrefl _ h))).2 hp
def o8 {m:Mp α}{k:Int}{v:α}(h:get m k=some v):(del m k).length+1=m.length:=by simpa using (fO h).length_eq.symm
end MP
def qC (es:Array acT):List (acK×acK):=es.toList.map λe=>(e.key,e.val)
section
def encs (K:acS)(enc:α->acK)(m:Mp α):List (acK×acK):=m.map λx=>(.int K x.1,enc x.2)
def bz (w:acL)(b:Nat)(K:acS)(enc:α->acK)(m:Mp α):Prop :=
 ∃es bA,w.heap[b]?=some (.map es bA)/\(qC es).Perm (encs K enc m)/\MP.Ok m/\(es.toList.map (·.born)).Nodup/\∀e∈es.toList,e.born<bA
def gL (w:acL)(r b:Nat)(K:acS)(enc:α->acK)(left:Mp α):Prop :=
 ∃es bA since seen c0,w.heap[b]?=some (.map es bA)/\w.heap[r]?=some (.mapIter (some b) since seen c0)/\(∀e∈es.toList,e.born<since)/\since<=c0/\since<=bA/\(es.toList.map (·.born)).Nodup /\
  (qC (leftOf es seen)).Perm (encs K enc left)/\MP.Ok left
variable{b r:Nat}{K:acS}{enc:α->acK}{m left:Mp α}{P:Program}{t k e:acO}
def bz.ok (h:bz w b K enc m):MP.Ok m:=by obtain⟨_,_,_,_,h,_⟩:=h;exact h
def bz.lt (h:bz w b K enc m):b<w.heap.size:=by
 obtain⟨_,_,h,_⟩:=h;exact(aaz.1 h).1
def bz.dM (h:bz w b K enc m){cs:Array acK}(hg:aD w g t cs):b≠g:=by
 intro e;obtain⟨_,_,h,_⟩:=h;unfold aD at hg;rw[e,hg]at h;cases h
def bz.of_heap (h:bz w b K enc m)(q:w'.heap[b]?=w.heap[b]?):bz w' b K enc m:=by
 obtain⟨es,c,h1,h2⟩:=h;exact⟨es,c,q.trans h1,h2⟩
def bz.aJ (h:bz w b K enc m)(q:aP F w w')(hn:¬F b):bz w' b K enc m:=h.of_heap (q.block b h.lt hn)
def bz.old (h:bz w b K enc m)(q:acN w.heap.size w w'):bz w' b K enc m:=h.of_heap (q.block b h.lt)
def bz.alloc (h:bz w b K enc m)(o:Obj):bz (w.alloc o) b K enc m:=h.old ax
def bz.made (w:acL)(K:acS)(enc:α->acK):bz (w.alloc (.map #[] 0)) w.heap.size K enc [] :=
 ⟨#[],0,(heap_alloc w _).1,List.Perm.refl _,MP.EO,ai,ai⟩
variable{es:Array acT}
def MB (h:(qC es).Perm (encs K enc m)):∀x∈es.toList,∃y∈m,x.key=.int K y.1/\x.val=enc y.2:=by
 intro x hx;have:(x.key,x.val)∈encs K enc m:=h.subset (aay.2 ⟨x,hx,rfl⟩);obtain⟨y,hy,e⟩:=aay.1 this;injection e with e1 e2;exact⟨y,hy,e1.symm,e2.symm⟩
def Ro (h:(qC es).Perm (encs K enc m)):∀x∈es.toList,IsKey (.int K) x.key:=by
 intro x hx;obtain⟨y,_,e,_⟩:=MB h x hx;rw[e];simp[IsKey]
def find_of (h:(qC es).Perm (encs K enc m))(ok:MP.Ok m)(j:Int) :
  (MP.get m j=none/\Instr.findNow (.int K) (.int K j) es.toList 0=some none)\/∃i x v,MP.get m j=some v/\Instr.findNow (.int K) (.int K j) es.toList 0=some (some (i,enc v))/\es.toList[i]?=some x/\x.key=.int K j/\x.val=enc v:=by
 rcases findNow_spec (d:=.int K) (k:=.int K j) (by simp[IsKey]) es.toList 0 (Ro h) with⟨h1,h2⟩|⟨i,x,h1,h2,h3⟩;refine ack ⟨MP.get_none.2 λy hy e=>?_,h1⟩;have:((.int K y.1:acK),enc y.2)∈qC es:=h.symm.subset (aay.2 ⟨y,hy,rfl⟩);obtain⟨x,hx,e2⟩:=aay.1 this;injection e2 with e2;exact h2 x hx (by rw[e2,e]);obtain⟨y,hy,e1,e2⟩:=MB h x (aa8 h2);have e3:y.1=j:=by rw[e1]at h3;injection h3
 have hg:=MP.dR ok hy;rw[e3]at hg;rw[abU,e2]at h1;exact acm ⟨i,x,y.2,hg,h1,h2,h3,e2⟩
def Hr {x:acT}(h:es.toList[i]?=some x):(qC es)[i]?=some (x.key,x.val):=by simp[qC,h]
def Ah {β:Type}{l:List β}{x:β}(h:l[i]?=some x):l.Perm (x::l.eraseIdx i):=by
 induction l generalizing i with
 |nil=>simp at h
 |cons y l ih =>
  cases i with
  |zero=>simp at h;subst h;simp
  |succ i=>simp at h;exact((ih h).cons y).trans (abx _ _ _)
def Rp {β:Type}{l:List β}{x y:β}(h:l[i]?=some x):(l.set i y).Perm (y::l.eraseIdx i):=by
 induction l generalizing i with
 |nil=>simp at h
 |cons z l ih =>
  cases i with
  |zero=>simp
  |succ i=>simp at h;exact((ih h).cons z).trans (abx _ _ _)
def bz.sF (h:bz w b K enc m)(ht:P.underlying t=some (.map k e))(hk:P.underlying k=some (.int K)){z:acK}(hz:(zeroValue e).run P w=.ok z w)(j:Int) :
  (abw t (.map (some b)) (.int K j) true).run P w=.ok (.tuple #[((MP.get m j).map enc).getD z,.bool (MP.has m j)]) w:=by
 obtain⟨es,bA,hb,hp,ok,_⟩:=h;have hc:=run_checkKey (P:=P) (w:=w) (k:=.int K j) hk (by simp[IsKey]) es.isEmpty 9999;rcases find_of hp ok j with⟨h1,h2⟩|⟨i,x,v,h1,h2,_⟩;simp[abw,acQ ht,aav hb,hc,acU hk h2,hz,h1,MP.has,aax];simp[abw,acQ ht,aav hb,hc,acU hk h2,h1,MP.has,aax]
def bz.lookup (h:bz w b K enc m)(ht:P.underlying t=some (.map k e))(hk:P.underlying k=some (.int K)){z:acK}(hz:(zeroValue e).run P w=.ok z w)(j:Int) :
  (abw t (.map (some b)) (.int K j) false).run P w=.ok (((MP.get m j).map enc).getD z) w:=by
 obtain⟨es,bA,hb,hp,ok,_⟩:=h;have hc:=run_checkKey (P:=P) (w:=w) (k:=.int K j) hk (by simp[IsKey]) es.isEmpty 9999;rcases find_of hp ok j with⟨h1,h2⟩|⟨i,x,v,h1,h2,_⟩;simp[abw,acQ ht,aav hb,hc,acU hk h2,hz,h1,aax];simp[abw,acQ ht,aav hb,hc,acU hk h2,h1,aax]
def bz.len (h:bz w b K enc m)(ht:P.underlying t=some (.map k e))(ty:acO):(Builtin.len_ #[t] ty #[.map (some b)]).run P w=.ok (goInt m.length) w:=by
 obtain⟨es,bA,hb,hp,_⟩:=h;have hl:=hp.length_eq;simp only[qC,encs,List.length_map,ahO]at hl;simp[Builtin.len_,acQ ht,aav hb,aax,hl]
def gN {o o':Obj}(hb:w.heap[b]?=some o):w.grownBy (setBlock w b o') (some b) :=
 ⟨rfl,rfl,rfl,by simp[setBlock],λi _ hi=>(heap_set hb).2 i (λe=>hi (by rw[e]))⟩
def bz.update (h:bz w b K enc m)(ht:P.underlying t=some (.map k e))(hk:P.underlying k=some (.int K))(j:Int)(v:α) :
  ∃w',(abl t (.map (some b)) (.int K j) (enc v)).run P w=.ok () w'/\bz w' b K enc (MP.put m j v)/\w.grownBy w' (some b):=by
 obtain⟨es,bA,hb,hp,ok,hn,hs⟩:=h;have hc:=run_checkKey (P:=P) (w:=w) (k:=.int K j) hk (by simp[IsKey]) false 9999;rcases find_of hp ok j with⟨h1,h2⟩|⟨i,x,u,h1,h2,h3,h4,h5⟩;refine⟨setBlock w b (.map (es.push {key:=.int K j,val:=enc v,born:=bA}) (bA+1)),?_,⟨_,_,(heap_set hb).1,?_,MP.iJ ok _ _,?_,?_⟩,gN hb⟩;simp[abl,acQ ht,aav hb,hc,acU hk h2,acV _ hb,aax,setBlock];refine List.Perm.trans ?_ ((MP.qU ok j v).map _).symm;rw[MP.qR h1];simp only[qC,Array.toList_push,List.map_append,aaF,abQ]
 exact List.perm_append_comm.trans (hp.cons _);simp only[Array.toList_push,List.map_append,aaF,abQ];refine List.nodup_append.2 ⟨hn,ai,λa ha c hc'=>?_⟩;obtain⟨y,hy,rfl⟩:=aay.1 ha;have:=hs y hy;simp at hc';omega;intro y hy;simp only[Array.toList_push,aaS,List.mem_singleton]at hy;rcases hy with hy|rfl;have:=hs y hy;omega;simp;have hi:i<es.size:=by have:=(aaB.1 h3).1;simpa using this
 have hx:es[i]?=some x:=by simpa using h3
 have hkey:(((es[i]?).map (·.key)).getD (.int K j))=.int K j:=by rw[hx];simp[h4]
 have hmod:∀f:acT->acT,(es.modify i f).toList=es.toList.set i (f x):=by
  intro f;apply abA;intro n;rw[aa6,Array.getElem?_toList,Array.getElem?_modify];split;rename_i e;subst e;rw[hx];simp[hi];simp
 refine⟨setBlock w b (.map (es.modify i λe=>{e with key:=.int K j,val:=enc v}) bA),?_,⟨_,_,(heap_set hb).1,?_,MP.iJ ok _ _,?_,?_⟩,gN hb⟩;simp[abl,acQ ht,aav hb,hc,acU hk h2,acV _ hb,aax,setBlock,Instr.keyThatStays,hx,h4,Instr.sameBits];refine List.Perm.trans ?_ ((MP.qU ok j v).map _).symm;have e1:qC (es.modify i λe=>{e with key:=.int K j,val:=enc v})=(qC es).set i (.int K j,enc v):=by rw[qC,hmod,ade];rfl
 rw[e1];have g1:=Hr h3;refine(Rp g1).trans ?_;rw[aaF];refine List.Perm.cons _ ?_;have p1:=(Ah g1).symm.trans (hp.trans ((MP.fO h1).map _));rw[h4,h5,aaF]at p1;exact p1.cons_inv;rw[hmod,ade];have:es.toList.map (·.born)=(es.toList.map (·.born)).set i x.born:=by
  apply abA;intro n;rw[aa6];split;rename_i e;subst e;simp[hi,(aaz.1 hx).2];rfl
 show (List.set (es.toList.map (·.born)) i x.born).Nodup;rw[<-this];exact hn;intro y hy;rw[hmod]at hy;rcases aat hy with hy|rfl;exact hs y hy;exact hs x (aa8 h3)
def Ai (hi:i<es.size):(es.eraseIdxIfInBounds i).toList=es.toList.eraseIdx i:=by
 unfold Array.eraseIdxIfInBounds;rw[dif_pos hi];simp
def bz.delete (h:bz w b K enc m)(ht:P.underlying t=some (.map k e))(hk:P.underlying k=some (.int K))(j:Int) :
  ∃w',(∀ty,(abq #[t,k] ty #[.map (some b),.int K j]).run P w=.ok (.tuple #[]) w')/\bz w' b K enc (MP.del m j)/\w.grownBy w' (some b):=by
 obtain⟨es,bA,hb,hp,ok,hn,hs⟩:=h;have hc:=run_checkKey (P:=P) (w:=w) (k:=.int K j) hk (by simp[IsKey]) es.isEmpty 9999;rcases find_of hp ok j with⟨h1,h2⟩|⟨i,x,u,h1,h2,h3,h4,h5⟩;refine⟨setBlock w b (.map es bA),?_,⟨_,_,(heap_set hb).1,?_,MP.jc ok _,hn,hs⟩,gN hb⟩;intro ty;simp[abq,acQ ht,aav hb,hc,acU hk h2,acV _ hb,aax,setBlock];rw[MP.qR h1];exact hp;have hi:i<es.size:=by have:=(aaB.1 h3).1;simpa using this
 have hsub:(es.eraseIdxIfInBounds i).toList.Sublist es.toList:=by rw[Ai hi];exact List.eraseIdx_sublist _ _
 refine⟨setBlock w b (.map (es.eraseIdxIfInBounds i) bA),?_,⟨_,_,(heap_set hb).1,?_,MP.jc ok _,(hsub.map _).nodup hn,λy hy=>hs y (hsub.subset hy)⟩,gN hb⟩;intro ty;simp[abq,acQ ht,aav hb,hc,acU hk h2,acV _ hb,aax,setBlock];have e1:qC (es.eraseIdxIfInBounds i)=(qC es).eraseIdx i:=by rw[qC,Ai hi,qC,Go.ChangeMaps.map_eraseIdx]
 rw[e1];have p1:=(Ah (Hr h3)).symm.trans (hp.trans ((MP.fO h1).map _));rw[h4,h5,aaF]at p1;exact p1.cons_inv
def bz.range (h:bz w b K enc m)(ht:P.underlying t=some (.map k e)) :
  ∃w',(Instr.range t (.map (some b))).run P w=.ok (.pointer (some ⟨w.heap.size,0,none⟩)) w'/\gL w' w.heap.size b K enc m/\acN w.heap.size w w'/\w'.heap.size=w.heap.size+1:=by
 obtain⟨es,bA,hb,hp,ok,hn,hs⟩:=h;have hlt:=(aaz.1 hb).1;refine⟨_,run_range_map w t k e b es bA ht hb,⟨es,bA,bA,#[],bA,((heap_alloc w _).2 b hlt).trans hb,(heap_alloc w _).1,hs,aj,aj,hn,?_,ok⟩,ax,ai⟩;have e1:leftOf es #[]=es:=by
  unfold leftOf;exact Array.filter_eq_self.2 (λx _=>ai)
 rw[e1];exact hp
def gL.ne (h:gL w r b K enc left):r≠b:=by
 obtain⟨es,bA,since,seen,c0,hb,hr,_⟩:=h;intro e;rw[e,hb]at hr;cases hr
def gL.lt (h:gL w r b K enc left):r<w.heap.size/\b<w.heap.size:=by
 obtain⟨es,bA,since,seen,c0,hb,hr,_⟩:=h;exact⟨(aaz.1 hr).1,(aaz.1 hb).1⟩
def gL.of_heap (h:gL w r b K enc left)(q:w'.heap[b]?=w.heap[b]?)(q2:w'.heap[r]?=w.heap[r]?):gL w' r b K enc left:=by
 obtain⟨es,bA,since,seen,c0,hb,hr,h⟩:=h;exact⟨es,bA,since,seen,c0,q.trans hb,q2.trans hr,h⟩
def gL.aJ (h:gL w r b K enc left)(q:aP F w w')(hb:¬F b)(hr:¬F r):gL w' r b K enc left:=h.of_heap (q.block b h.lt.2 hb) (q.block r h.lt.1 hr)
def gL.old (h:gL w r b K enc left)(q:acN w.heap.size w w'):gL w' r b K enc left:=h.of_heap (q.block b h.lt.2) (q.block r h.lt.1)
def Rq (es:Array acT)(seen:Array Nat):∀x∈(leftOf es seen).toList,x∈es.toList:=by
 intro x hx;unfold leftOf at hx;simp at hx ⊢;exact hx.1
def N9 {seen:Array Nat}{x:acT}(hn:(es.toList.map (·.born)).Nodup)(hx:x∈(leftOf es seen).toList):(leftOf es seen).toList.Perm (x::(leftOf es (seen.push x.born)).toList):=by
 have e1:(leftOf es (seen.push x.born)).toList=(leftOf es seen).toList.filter (λy=> !(y.born==x.born)):=by
  unfold leftOf;simp only[Array.toList_filter,List.filter_filter];refine List.filter_congr λy _=>?_
  simp only[Array.contains_push,Bool.not_or];rw[Bool.and_comm]
 rw[e1];have hnl:((leftOf es seen).toList.map (·.born)).Nodup:=by
  unfold leftOf;rw[Array.toList_filter];exact(List.filter_sublist.map _).nodup hn
 generalize (leftOf es seen).toList=l at hx hnl;clear e1 hn;induction l with
 |nil=>simp at hx
 |cons y l ih =>
  rw[aaF,List.nodup_cons]at hnl;by_cases e:y.born=x.born;have hxy:x=y:=by
   rcases aaI.1 hx with h|h;exact h;exact absurd (aay.2 ⟨x,h,e.symm⟩) hnl.1
  subst hxy;rw[List.filter_cons_of_neg ai,List.filter_eq_self.2 (λz hz=>by
   have:z.born≠x.born:=λe2=>hnl.1 (aay.2 ⟨z,hz,e2⟩)
   simp[this])]
  ·rw[List.filter_cons_of_pos (by simp[e])];have hx':x∈l:=by
    rcases aaI.1 hx with h|h;exact absurd (by rw[h]) e;exact h
   exact((ih hx' hnl.2).cons y).trans (abx _ _ _)
def gL.next (h:gL w r b K enc left) :
  (left=[]/\∀ty,(Instr.next (adj (some ⟨r,0,none⟩)) false ty).run P w=.ok (adg #[acg false]) w) \/
  ∃x w',x∈left/\(∀ty,(Instr.next (adj (some ⟨r,0,none⟩)) false ty).run P w=.ok (adg #[acg true,.int K x.1,enc x.2]) w')/\gL w' r b K enc (MP.del left x.1)/\aP (λn=>n=r) w w'/\w'.heap.size=w.heap.size /\
   (Instr.entry (adj (some ⟨r,0,none⟩))).run P w'=.ok (adg #[.int K x.1,enc x.2]) w':=by
 have hne:=h.ne;obtain⟨es,bA,since,seen,c0,hb,hr,hold,hsc,hsk,hn,hp,ok⟩:=h;rcases run_next_at (P:=P) w 0 r b since c0 seen es bA hr hb hold hsc with⟨h0,hrun⟩|⟨x,hx,w1,hal,hrun⟩;refine ack ⟨?_,λ_=>hrun⟩;have:=hp.length_eq;simp only[qC,encs,List.length_map,ahO]at this;exact aaY aa;have hem:(x.key,x.val)∈encs K enc left:=hp.subset (aay.2 ⟨x,hx,rfl⟩);obtain⟨y,hy,e⟩:=aay.1 hem;injection e with e1 e2;have hr1:w1.heap[r]?=some (.mapIter (some b) since seen c0):=by rcases hal with rfl|rfl<;>exact hr
 have hb1:w1.heap[b]?=some (.map es bA):=by rcases hal with rfl|rfl<;>exact hb
 have hset:=heap_set (o':=.mapIter (some b) since (seen.push x.born) bA) hr1;have hb':(setBlock w1 r (.mapIter (some b) since (seen.push x.born) bA)).heap[b]?=some (.map es bA):=(hset.2 b (λe=>hne e.symm)).trans hb1;have hg:=MP.dR ok hy;refine acm ⟨y,_,hy,λ_=>by rw[e1,e2];exact hrun,⟨es,bA,since,seen.push x.born,bA,hb',hset.1,hold,hsk,hsk,hn,?_,MP.jc ok _⟩,?_,?_,?_⟩;have p1:=(((N9 hn hx).map (λz:acT=>(z.key,z.val))).symm.trans hp).trans ((MP.fO hg).map _);rw[aaF,aaF,<-e1,<-e2]at p1;exact p1.cons_inv;have hc:aP (λn=>n=r) w w1:=by rcases hal with rfl|rfl;exact aP.refl _ _;exact(aP.refl _ _).drew
 exact hc.grown (gN hr1) (λk e=>by injection e with e;exact ack e.symm);rcases hal with rfl|rfl<;>simp[setBlock];rw[e1,e2];exact run_entry_at _ r b since seen es bA x hset.1 hb' (Rq es seen x hx) hn
end
section
variable{P:Program}{ops:Array aiT}{rest:List aiT}{o:aiT}{a:Act}{Q:Exit->Act->acL->Prop}{mv kv:acK}
def gP (hgd:o.guard=none)(m x v:ahW){t:acO}(ho:o.op=Op.mapUpdate t m x v){vv:acK}(hm:a.eval m=mv)(hx:a.eval x=kv)(hv:a.eval v=vv)
  (hrun:(abl t mv kv vv).run P w=.ok () w') (h:wpList P ops Q rest (a.put o.dst undef) w'):wpList P ops Q (o::rest) a w:=by
 refine acP hgd λK hK=>?_
 unfold aiT.wp;simp[execOp,ho,hm,hx,hv,hrun,aax];exact hK _ _ h
def eu (hgd:o.guard=none)(m x:ahW){t u:acO}(ho:o.op=.call {callee:=.builtin .delete,args:=#[m,x],argTypes:=#[t,u]})(hm:a.eval m=mv)(hx:a.eval x=kv)
  (hrun:(abq #[t,u] o.type #[mv,kv]).run P w=.ok (adg #[]) w') (h:wpList P ops Q rest (a.put o.dst (adg #[])) w'):wpList P ops Q (o::rest) a w:=by
 refine acP hgd λK hK=>?_
 unfold aiT.wp execOp;simp only[ho,resolve,invoke,builtin,Sem.run_bind,Sem.run_pure,ahc,ahs,aaF,abQ,hm,hx,hrun];exact hK _ _ h
def iq (hgd:o.guard=none)(m:ahW){t:acO}(ho:o.op=Op.range t m){v:acK}(hm:a.eval m=mv)(hrun:(Instr.range t mv).run P w=.ok v w')(h:wpList P ops Q rest (a.put o.dst v) w'):wpList P ops Q (o::rest) a w:=by
 refine acP hgd λK hK=>?_
 unfold aiT.wp;simp[execOp,ho,hm,hrun,aax];exact hK _ _ h
def dK (hgd:o.guard=none)(it:ahW)(ho:o.op=Op.next it false){iv v:acK}(hi:a.eval it=iv)(hrun:(Instr.next iv false o.type).run P w=.ok v w')(h:wpList P ops Q rest (a.put o.dst v) w'):wpList P ops Q (o::rest) a w:=by
 refine acP hgd λK hK=>?_
 unfold aiT.wp;simp[execOp,ho,hi,hrun,aax];exact hK _ _ h
end
structure ER (t:acO)(m k v:acK)(w w':acL):Prop where
 run:(abl t m k v).run prog w=.ok () w'
structure J7 (t u:acO)(m k:acK)(w w':acL):Prop where
 run:∀ty,(abq #[t,u] ty #[m,k]).run prog w=.ok (adg #[]) w'
structure xk (t:acO)(m v:acK)(w w':acL):Prop where
 run:(Instr.range t m).run prog w=.ok v w'
structure kZ (it v:acK)(w w':acL):Prop where
 run:∀ty,(Instr.next it false ty).run prog w=.ok v w'
namespace gcs
open RowKit
abbrev agV (s l r n:Int):acK:=adA #[vi s,vi l,vi r,vi n]
structure aD where
 s:Int
 l:Int
 r:Int
 n:Int
instance:Inhabited aD:=⟨⟨0,0,0,0⟩⟩
abbrev aD.v (b:aD):acK:=agV b.s b.l b.r b.n
def At4 (w:acL)(b o:Nat)(x:aD):Prop :=
 w.cell? ⟨b,o,none⟩=some (vi x.s)/\w.cell? ⟨b,o+1,none⟩=some (vi x.l)/\w.cell? ⟨b,o+2,none⟩=some (vi x.r)/\w.cell? ⟨b,o+3,none⟩=some (vi x.n)
def At4.below {b o:Nat}{x:aD}(h:At4 w b o x)(hb:acN w.heap.size w w'):At4 w' b o x :=
 ⟨cell_below h.1 hb,cell_below h.2.1 hb,cell_below h.2.2.1 hb,cell_below h.2.2.2 hb⟩
def Row (w:acL)(v:acK)(bs:List aD):Prop :=
 bs.length<=9223372036854775807/\∃a cap,v=aco a bs.length cap/\(bs=[]\/∃b o,a=some ⟨b,o,none⟩/\∀i,i<bs.length->At4 w b (o+i*4) (bs.getD i default))
def Row.below {v:acK}{bs:List aD}(h:Row w v bs)(hb:acN w.heap.size w w'):Row w' v bs:=by
 obtain⟨h0,a,cap,rfl,h⟩:=h;refine⟨h0,a,cap,rfl,?_⟩;rcases h with h|⟨b,o,rfl,h⟩;exact ack h;exact acm ⟨b,o,rfl,λi hi=>(h i hi).below hb⟩
def bH (p:Int)(x:aD):Bool :=
 decide (0<=x.s)&&decide (x.s<=4)&&decide (0<=x.l)&&decide (x.l<=p)&&decide (0<=x.n)&&decide (x.n<=p)&&decide (0<=x.r)&&decide (x.r<=1099511627776)&&(!(x.s==0||x.s==3||x.s==4)||x.l==0)
def Oa (x:aD)(p:Int)(w:acL) :
  ac4 prog 246 #[x.v,vi p] w λe w'=>e=ab4 (acg (bH p x))/\acN w.heap.size w w':=by
 obtain⟨s,l,r,n⟩:=x;go_in;go_wp2;all_goals go_ret
 all_goals refine⟨aU ?_,ax⟩
 all_goals simp[bH, *]
 all_goals omega
def Aj (x:aD)(w:acL) :
  ac4 prog 150 #[x.v] w λe w'=>e=ab4 (acg (x.s != 4))/\acN w.heap.size w w':=by
 go_in;go_wp2;go_ret;exact⟨rfl,ax⟩
def Ak (x y:aD)(w:acL) :
  ac4 prog 223 #[x.v,y.v] w λe w'=>e=ab4 (acg (decide (x.r<y.r)))/\acN w.heap.size w w':=by
 go_in;go_wp2;go_ret;exact⟨rfl,ax.alloc ai _⟩
def fH (x y:aD):Bool:=decide (x.r<y.r)
def dB (x y:aD):Bool:=decide (x.l<y.l)||x.l==y.l&&decide (x.r<y.r)
def qV (least:Int)(x:aD):Bool:=x.s != 4&&decide (x.r-least<4)
def qW (x y:aD)(w:acL) :
  ac4 prog 225 #[x.v,y.v] w λe w'=>e=ab4 (acg (dB x y))/\acN w.heap.size w w':=by
 obtain⟨s,l,r,n⟩:=x;obtain⟨s',l',r',n'⟩:=y;go_in;rcases Int.lt_trichotomy l l' with h|rfl|h
 ·go_wp2;go_ret;exact⟨aU (by simp[dB,h]),ax.alloc ai _⟩
 ·go_wp2_with fail;refine(Ak ⟨s,l,r,n⟩ ⟨s',l,r',n'⟩ _).mono ?_;rintro e w1 ⟨rfl,hb1⟩;go_wp2;go_ret;exact⟨aU (by simp[dB]),(ax.alloc ai _).trans (hb1.mono (by simp;omega))⟩
 have h1:¬l<l':=aa;have h2:(l==l')=false:=by simp;omega
 go_wp2;go_ret;exact⟨aU (by simp[dB,h1,h2]),ax.alloc ai _⟩
def MC (x:aD)(least:Int)(w:acL)(h1:0<=x.r)(h2:x.r<=1099511627776)(h3:0<=least)(h4:least<=1099511627776):
  ac4 prog 222 #[x.v,vi least] w λe w'=>e=ab4 (acg (qV least x))/\acN w.heap.size w w':=by
 obtain⟨s,l,r,n⟩:=x;dsimp only at h1 h2;go_in;go_wp2_with fail;refine(Aj ⟨s,l,r,n⟩ _).mono ?_;rintro e w1 ⟨rfl,hb1⟩;have hc:w1.cell? ⟨w.heap.size,2,none⟩=some (vi r):=cell_below (w:=w.alloc (ach #[vi s,vi l,vi r,vi n] 193)) ai hb1;by_cases hs:(s != 4)=true;all_goals
  go_wp2;go_ret;refine⟨aU (by simp[qV, *]),?_⟩;exact ax.trans (hb1.mono ai)
def bestTo (P:aD->Bool)(Q:aD->aD->Bool)(bs:List aD):Nat->Int
 |0=> -1
 |k+1=>if P (bs.getD k default)&&(decide (bestTo P Q bs k<0)||Q (bs.getD k default) (bs.getD (bestTo P Q bs k).toNat default)) then k else bestTo P Q bs k
def iP (P:aD->Bool)(Q:aD->aD->Bool)(bs:List aD):Int:=bestTo P Q bs bs.length
def xm (P:aD->Bool)(Q:aD->aD->Bool)(bs:List aD)(k:Nat): -1<=bestTo P Q bs k/\bestTo P Q bs k<k:=by
 induction k with
 |zero=>simp[bestTo]
 |succ k ih=>unfold bestTo;split<;>omega
def mE (F G:Nat)(cm cb:Array acK)(v:acK)(bs:List aD)(w:acL)(P:aD->Bool)(Q:aD->aD->Bool)(hrow:Row w v bs)
  (hF:∀args W,(callFunc F args).run prog W=.ok (.enter F args) W) (hG:∀args W,(callFunc G args).run prog W=.ok (.enter G args) W)
  (Rs:∀(x:aD) (W:acL),x∈bs->acN w.heap.size w W->ac4 prog F (#[x.v]++cm) W λe W'=>e=ab4 (acg (P x))/\acN W.heap.size W W')
  (adi:∀(x y:aD) (W:acL),acN w.heap.size w W->ac4 prog G (#[x.v,y.v]++cb) W λe W'=>e=ab4 (acg (Q x y))/\acN W.heap.size W W') :
  ac4 prog 149 #[v,.func (.func F) #[] cm,.func (.func G) #[] cb] w λe w'=>e=ab4 (vi (iP P Q bs))/\acN w.heap.size w w':=by
 obtain⟨hlen,a,cap,rfl,hrow⟩:=hrow;have HR:=az hrow;have HM:=az Rs;have HB:=az adi;clear hrow Rs adi;go_in;go_wp2_with fail;go_loopw [7,12] (λat_ i wr=>∃k:Nat,k<=bs.length/\i=vi k/\at_=vi (bestTo P Q bs k)/\acN w.heap.size w wr) (λ_ i _=>bs.length-(intOf i).toNat)
 case atStart=>exact⟨0,aaW _,rfl,rfl,ak⟩
 case round =>
  obtain⟨k,hk,rfl,rfl,hb⟩:=hrel;have hbd:=xm P Q bs k;by_cases hlt:k<bs.length
  ·rcases HR.o with h0|⟨b,o,rfl,hc⟩;rw[h0]at hlt;simp at hlt;have HC:=az hc;clear hc;have hx:=(HC.o k hlt).below hb;have hin:bs.getD k default∈bs:=by rw[aah,aaj hlt];exact aff hlt
   have hstep:bestTo P Q bs (k+1)=if P (bs.getD k default)&&(decide (bestTo P Q bs k<0)||Q (bs.getD k default) (bs.getD (bestTo P Q bs k).toNat default)) then (k:Int) else bestTo P Q bs k:=rfl;generalize bs.getD k default=x at hx hin hstep;obtain⟨h0,h1,h2,h3⟩:=hx;generalize bestTo P Q bs k=at_ at*;have Hs:=az hstep;have Hin:=az hin;clear hstep hin;go_wp2_with fail;obtain⟨W,hWe⟩:∃W:acL,W=wr.alloc (Obj.cells #[vi x.s,vi x.l,vi x.r,vi x.n] 193):=⟨_,rfl⟩;rw[show wr.alloc (Obj.cells #[acK.int acS.i64 x.s,acK.int acS.i64 x.l,acK.int acS.i64 x.r,acK.int acS.i64 x.n] 193)=W from hWe.symm]
   have hbW:acN w.heap.size w W:=by rw[hWe];exact hb.alloc hb.size _
   have g:At4 W wr.heap.size 0 x:=by rw[hWe];exact⟨ai,ai,ai,ai⟩
   have g0:=Sub.cell g.1;have g1:=Sub.cell (a:=⟨wr.heap.size,1,none⟩) g.2.1;have g2:=Sub.cell (a:=⟨wr.heap.size,2,none⟩) g.2.2.1;have g3:=Sub.cell (a:=⟨wr.heap.size,3,none⟩) g.2.2.2;clear h0 h1 h2 h3 hWe g;have hM:=λn:Sub W=>HM.o x n.w Hin.o (hbW.trans (n.below.mono hbW.size))
   by_cases hP:P x=true
   ·rw[hP]at hM;have Ob:=az hM;clear hM;by_cases h0:at_<0
    ·refine aZ ah ah ?_;repeat (go_big_quiet_step (exact fM (Ob.o _)))
     refine wpQuiet_nil ?_;rintro _ ⟨nq,rfl⟩;have hbq:=nq.below;go_wp2;go_roundw
     case rel=>exact⟨k+1,aa,by go_num,by rw[Hs.o];simp[hP,h0],hbW.trans (hbq.mono hbW.size)⟩
     case measure=>simp[intOf];omega
    obtain⟨j,rfl⟩:∃j:Nat,at_=j:=⟨at_.toNat,aa⟩;have hy:=(HC.o j aa).below hbW;have Hs':bestTo P Q bs (k+1)=if Q x (bs.getD j default) then (k:Int) else j:=by rw[Hs.o];simp[hP,h0]
    generalize bs.getD j default=y at hy Hs';have y0:=Sub.cell hy.1;have y1:=Sub.cell hy.2.1;have y2:=Sub.cell hy.2.2.1;have y3:=Sub.cell hy.2.2.2;clear hy Hs;have hj0:(0:Int)<=(j:Int):=aa;have hj1:(j:Int)<(bs.length:Int):=aa;have hB:=λn:Sub W=>HB.o x y n.w (hbW.trans (n.below.mono hbW.size))
    cases hQ:Q x y;all_goals
     rw[hQ]at hB;have HB1:=az hB;have Hs:=az Hs';clear hB Hs';refine aZ ah ah ?_;repeat (go_big_quiet_step (first|exact fM (Ob.o _)|exact fM (HB1.o _)))
     refine wpQuiet_nil ?_;rintro _ ⟨nq,rfl⟩;have hbq:=nq.below;go_wp2;go_roundw
     case rel=>exact⟨k+1,aa,by go_num,by rw[Hs.o,hQ];simp,hbW.trans (hbq.mono hbW.size)⟩
     case measure=>simp[intOf];omega
   have hP':P x=false:=by simpa using hP
   rw[hP']at hM;have Ob:=az hM;clear hM;refine aZ ah ah ?_;repeat (go_big_quiet_step (exact fM (Ob.o _)))
   refine wpQuiet_nil ?_;rintro _ ⟨nq,rfl⟩;have hbq:=nq.below;go_wp2;go_roundw
   case rel=>exact⟨k+1,aa,by go_num,by rw[Hs.o];simp[hP'],hbW.trans (hbq.mono hbW.size)⟩
   case measure=>simp[intOf];omega
  go_wp2;go_ret;obtain rfl:k=bs.length:=aa;exact⟨rfl,hb⟩
def Al (args:Array acK)(W:acL):(callFunc 150 args).run prog W=.ok (.enter 150 args) W:=dI func150 ah rfl args W
def Am (args:Array acK)(W:acL):(callFunc 223 args).run prog W=.ok (.enter 223 args) W:=dI func223 ah rfl args W
def nN (args:Array acK)(W:acL):(callFunc 225 args).run prog W=.ok (.enter 225 args) W:=dI func225 ah rfl args W
def Rt (args:Array acK)(W:acL):(callFunc 152 args).run prog W=.ok (.enter 152 args) W:=dI func152 ah rfl args W
def Ru (args:Array acK)(W:acL):(callFunc 151 args).run prog W=.ok (.enter 151 args) W:=dI func151 ah rfl args W
def Rv (args:Array acK)(W:acL):(callFunc 219 args).run prog W=.ok (.enter 219 args) W:=dI func219 ah rfl args W
def Rw (args:Array acK)(W:acL):(callFunc 221 args).run prog W=.ok (.enter 221 args) W:=dI func221 ah rfl args W
def ahy (args:Array acK)(W:acL):(callFunc 224 args).run prog W=.ok (.enter 224 args) W:=dI func224 ah rfl args W
def Rz (args:Array acK)(W:acL):(callFunc 227 args).run prog W=.ok (.enter 227 args) W:=dI func227 ah rfl args W
def RG (args:Array acK)(W:acL):(callFunc 228 args).run prog W=.ok (.enter 228 args) W:=dI func228 ah rfl args W
def RH (args:Array acK)(W:acL):(callFunc 230 args).run prog W=.ok (.enter 230 args) W:=dI func230 ah rfl args W
def lh (p:Int)(bs:List aD):Bool:= !(decide (p<1))&& !(decide (32<p))&&bs.all (bH p)
def jW (x:aD):Bool:=x.s != 4
def DW (x y:aD):Bool:=decide (y.r<x.r)
def bC (bs:List aD)(k:Int):Int:=if k<0 then 0 else (bs.getD k.toNat default).r
def eP (bs:List aD):Int:=bC bs (iP jW fH bs)
def l9 (bs:List aD):Int:=bC bs (iP jW DW bs)
def Dc (f:α->Bool)(l:List α)(d:α)(k:Nat)(h:k<l.length):(l.take (k+1)).all f=((l.take k).all f&&f (l.getD k d)):=by
 rw[List.take_succ_eq_append_getElem h,List.all_append,aah,aaj h];simp
def J8 (f:α->Bool)(l:List α)(d:α)(k:Nat)(h:k<l.length)(hf:f (l.getD k d)=false):l.all f=false:=by
 rw[aah,aaj h]at hf;rw[List.all_eq_false];exact⟨_,aff h,by simpa using hf⟩
def ky (P:aD->Bool)(Q:aD->aD->Bool)(bs:List aD): -1<=iP P Q bs/\iP P Q bs<bs.length:=xm P Q bs bs.length
def xq (v:acK)(bs:List aD)(p:Int)(w:acL)(hrow:Row w v bs) :
  ac4 prog 218 #[v,vi p] w λe w'=>e=ab4 (acg (lh p bs))/\acN w.heap.size w w':=by
 obtain⟨hlen,a,cap,rfl,hrow⟩:=hrow;have HR:=az hrow;clear hrow;go_in;go_wp2_with fail;go_step3;by_cases h1:p<1
 ·go_wp2_with fail;try rw[acY]
  go_ret;exact⟨aU (by simp[lh,h1]),ak⟩
 by_cases h2:32<p
 ·go_wp2_with fail;try rw[acY]
  go_ret;exact⟨aU (by simp[lh,h2]),ak⟩
 go_wp2_with fail;go_step3;go_wp2_with fail;go_loopw [5,16] (λg i wr=>∃k:Nat,k<=bs.length/\i=vi k/\g=acg true/\(bs.take k).all (bH p)=true/\acN w.heap.size w wr) (λ_ i _=>bs.length-(intOf i).toNat)
 case atStart=>exact⟨0,aaW _,rfl,rfl,ai,ak⟩
 case round =>
  obtain⟨k,hk,rfl,rfl,hall,hb⟩:=hrel;by_cases hlt:k<bs.length
  ·rcases HR.o with h0|⟨b,o,rfl,hc⟩;rw[h0]at hlt;simp at hlt;have hx:=(hc k hlt).below hb;have hst:=Dc (bH p) bs default k hlt;rw[hall]at hst;have hno:=J8 (bH p) bs default k hlt;clear hc hall;generalize bs.getD k default=x at hx hst hno;obtain⟨g0,g1,g2,g3⟩:=hx;have Hst:=az hst;have Hno:=az hno;clear hst hno;go_wp2_with fail;refine(Oa x p _).mono ?_;rintro e w1 ⟨rfl,hb1⟩;have hb2:=hb.trans (((acN.refl wr.heap.size wr).alloc aj (ach #[vi x.s,vi x.l,vi x.r,vi x.n] 193)).trans (hb1.mono ai) |>.mono hb.size);cases hr:bH p x
   ·go_wp2_with fail;try rw[acY]
    go_ret;have h3:=Hno.o hr;exact⟨aU (by simp[lh,h3]),hb2⟩
   go_wp2;go_roundw
   case rel=>exact⟨k+1,aa,by go_num,rfl,by rw[Hst.o,hr];rfl,hb2⟩
   case measure=>simp[intOf];omega
  go_wp2_with fail;try rw[acY]
  go_ret;obtain rfl:k=bs.length:=aa;rw[List.take_length]at hall;exact⟨aU (by simp[lh,h1,h2,hall]),hb⟩
def aam (x y:aD)(w:acL) :
  ac4 prog 152 #[x.v,y.v] w λe w'=>e=ab4 (acg (fH x y))/\acN w.heap.size w w':=by
 go_in;go_wp2;go_ret;exact⟨rfl,ax.alloc ai _⟩
def aan (x y:aD)(w:acL) :
  ac4 prog 151 #[x.v,y.v] w λe w'=>e=ab4 (acg (DW x y))/\acN w.heap.size w w':=by
 go_in;go_wp2;go_ret;exact⟨rfl,ax.alloc ai _⟩
def Row.lookup {bs:List aD}{cap:Nat}(h:Row w (aco a bs.length cap) bs)(hk:k<bs.length) :
  ∃b o,a=some ⟨b,o,none⟩/\At4 w b (o+k*4) (bs.getD k default):=by
 obtain⟨_,a',cap',he,h⟩:=h;injection he with he _ _;subst he;rcases h with h|⟨b,o,rfl,h⟩;rw[h]at hk;simp at hk;exact⟨b,o,rfl,h k hk⟩
def DX (v:acK)(bs:List aD)(w:acL)(hrow:Row w v bs) :
  ac4 prog 125 #[v] w λe w'=>e=ab4 (vi (eP bs))/\acN w.heap.size w w':=by
 have HR:=az hrow;obtain⟨hlen,a,cap,rfl,-⟩:=hrow;go_in;go_wp2_with fail;refine(mE 150 152 #[] #[] _ bs _ jW fH HR.o Al Rt (λx W _ _=>Aj x W) (λx y W _=>aam x y W)).mono ?_;rintro e w1 ⟨rfl,hb1⟩;have hbd:=ky jW fH bs;have hL:eP bs=bC bs (iP jW fH bs):=rfl;generalize iP jW fH bs=k at*;have HL:=az hL;clear hL;by_cases h0:k<0
 ·go_wp2;go_ret;exact⟨bS (by rw[HL.o,bC,if_pos h0]),hb1⟩
 obtain⟨j,rfl⟩:∃j:Nat,k=j:=⟨k.toNat,aa⟩;obtain⟨b,o,rfl,hc⟩:=(HR.o.below hb1).lookup (k:=j) aa;have hc2:=hc.2.2.1;have HW:Hid (bC bs (j:Int)=(bs.getD j default).r):=by show _=_;rw[bC,if_neg h0];rfl
 generalize (bs.getD j default).r=r at hc2 HW;clear hc;go_wp2;go_ret;exact⟨bS (by rw[HL.o,HW.o]),hb1⟩
def ES (v:acK)(bs:List aD)(w:acL)(hrow:Row w v bs) :
  ac4 prog 124 #[v] w λe w'=>e=ab4 (vi (l9 bs))/\acN w.heap.size w w':=by
 have HR:=az hrow;obtain⟨hlen,a,cap,rfl,-⟩:=hrow;go_in;go_wp2_with fail;refine(mE 150 151 #[] #[] _ bs _ jW DW HR.o Al Ru (λx W _ _=>Aj x W) (λx y W _=>aan x y W)).mono ?_;rintro e w1 ⟨rfl,hb1⟩;have hbd:=ky jW DW bs;have hL:l9 bs=bC bs (iP jW DW bs):=rfl;generalize iP jW DW bs=k at*;have HL:=az hL;clear hL;by_cases h0:k<0
 ·go_wp2;go_ret;exact⟨bS (by rw[HL.o,bC,if_pos h0]),hb1⟩
 obtain⟨j,rfl⟩:∃j:Nat,k=j:=⟨k.toNat,aa⟩;obtain⟨b,o,rfl,hc⟩:=(HR.o.below hb1).lookup (k:=j) aa;have hc2:=hc.2.2.1;have HW:Hid (bC bs (j:Int)=(bs.getD j default).r):=by show _=_;rw[bC,if_neg h0];rfl
 generalize (bs.getD j default).r=r at hc2 HW;clear hc;go_wp2;go_ret;exact⟨bS (by rw[HL.o,HW.o]),hb1⟩
end gcs
end Go.Proofs.YtllmbcigmimgoaaGreat
