/-
  Lemmas for a law's proof, put together from several texts. No conditions of their own.
-/
import Derived.Test.YtllmbcigmimgoaaGreatRows
import Derived.WalkKit
import Derived.WalkLawsBesides
import Derived.WalkSpells
import Derived.ProofKit
import Derived.Lib.Hide
import Derived.BigQuiet
import Derived.Deep.Slices
import Derived.Deep.Fields
import Derived.OpenShut
import Derived.Laws.EntriesVeiled
import Derived.Maps.AppendAt
import Derived.Lib.AppendStr
import Derived.Laws.BytesArg
import Derived.Laws.IdiomStrings
import Derived.Deep.Draws
import Derived.IntWalk
import Derived.ChangeSame
import Derived.SizedLaws
import Derived.Maps.RangeRun
import Derived.Maps.RangeWalk
set_option maxRecDepth 100000
set_option maxHeartbeats 20000000
set_option linter.all false
namespace Go.RowKit
theorem Hid.o{p:Prop}(h:Hid p):p:=h
end Go.RowKit
namespace Go.Proofs
theorem hS{A:Type}{a:Option A}{b c:A}(h:a=some b)(h2:b=c:=by kernel_rfl):a=some c:=h.trans (congrArg some h2)
end Go.Proofs
namespace Go.Proofs.YtllmbcigmimgoaaGreat
open _root_.Go.Proofs.Tryz
open _root_.Array renaming getElem?_eq_some_iff->aaz
open _root_.Go renaming Value->acK,World->acL,Addr->acM,TypeId->acO,wpList_plain->acP,run_underlying->acQ,DataW->acR,IntKind->acS,MapEntry->acT
open _root_.Go.Builtin renaming append_->aaR,delete_->abq
open _root_.Go.Ending renaming returned->ab4
open _root_.Go.Instr renaming mapUpdate->abl,lookup->abw
open _root_.Go.MapKept renaming run_getObj_map->aav,run_findKey->acU,run_setObj_map->acV
open _root_.Go.Obj renaming cells->ach
open _root_.Go.Result renaming andThen->aax
open _root_.Go.RowKit renaming Below->acN
open _root_.Go.Value renaming bool->acg,slice->aco
open _root_.List renaming getD_eq_getElem?_getD->aah,getElem?_eq_getElem->aaj,mem_or_eq_of_mem_set->aat,mem_map->aay,replicate->aaA,getElem?_eq_some_iff->aaB,mem_replicate->aaE,map_cons->aaF,mem_cons->aaI,pairwise_cons->aaL,flatMap_cons->aaQ,mem_append->aaS,eq_nil_of_length_eq_zero->aaY,getElem?_set->aa6,take_append_drop->aa7,mem_of_getElem?->aa8,getElem?_append_left->aa9,ext_getElem?->abA,length_replicate->abP,map_nil->abQ,length_map->abT,length_set->abZ
open _root_.List.Perm renaming swap->abx
open _root_.Nat renaming zero_le->aaW,zero_add->abU,le_trans->abX
open _root_.Or renaming inl->ack,inr->acm
theorem az {p : Prop} (h : p) : Go.RowKit.Hid p := h
theorem ay:(forall (a:Go.Act)(v:Go.Value)(d:Go.Tmp),a.put (some d) v={tmps:=a.tmps.setIfInBounds d v,defers:=a.defers})/\(forall {A:Type}(l:List A)(i:Nat)(a:A),l.toArray.setIfInBounds i a=(l.set i a).toArray)/\(forall {A:Type}(x:A)(xs:List A)(a:A),(x::xs).set 0 a=a::xs)/\forall {A:Type}(x:A)(xs:List A)(i:Nat)(a:A),(x::xs).set (i+1) a=x::xs.set i a:=⟨fun _ _ _=>rfl,fun _ _ _=>List.setIfInBounds_toArray ..,fun _ _ _=>rfl,fun _ _ _ _=>rfl⟩
theorem aa{p:Prop}(h:p:=by omega):p:=h
theorem ag{p:Prop}(h:p:=by decide):p:=h
theorem ah{p:Prop}(h:p:=by kernel_rfl):p:=h
theorem ai{p:Prop}(h:p:=by simp):p:=h
theorem aj{n:Nat}:n<=n:=Nat.le_refl n
theorem ak{n:Nat}{w:Go.World}:Go.RowKit.Below n w w:=Go.RowKit.Below.refl n w
theorem au{w:Go.World}:Go.RowKit.Below w.heap.size w w.drew:=(Go.RowKit.Below.refl _ w).drew
theorem ax{w:Go.World}{o:Go.Obj}:Go.RowKit.Below w.heap.size w (w.alloc o):=(Go.RowKit.Below.refl _ w).alloc (Nat.le_refl _) o
open RowKit
abbrev vi (n:Int):acK:=.int .i64 n
def bS {a b:Int}(h:a=b):Ending.returned (vi a)=ab4 (vi b):=by rw[h]
def aU {a b:Bool}(h:a=b):Ending.returned (acg a)=ab4 (acg b):=by rw[h]
variable{w:acL}{a:acM}
def lU {v:acK}(h:w.cell? a=some v):a.block<w.heap.size:=by
 rcases Nat.lt_or_ge a.block w.heap.size with hlt|hge;exact hlt;simp[acL.cell?,Array.getElem?_eq_none hge]at h
variable{w':acL}
def cell_below {v:acK}(h:w.cell? a=some v)(hb:acN w.heap.size w w'):w'.cell? a=some v :=
 (hb.cell (lU h)).trans h
structure Sub (W:acL) where
 w:acL
 below:acN W.heap.size W w
instance {W:acL}:Nonempty (Sub W):=⟨⟨W,ak⟩⟩
variable{W:acL}
def Sub.cell {v:acK}(h:W.cell? a=some v):∀n:Sub W,n.w.cell? a=some v:=λn=>cell_below h n.below
def Sub.grow (n:Sub W)(h:acN n.w.heap.size n.w w'):acN W.heap.size W w':=n.below.trans (h.mono n.below.size)
variable{P:Program}{f:FuncId}
def fM {args:Array acK}{n:Sub W}{v:acK}
  (h:Calls P f args n.w λe w'=>e=ab4 v/\acN n.w.heap.size n.w w') :
  Calls P f args n.w λe w''=>e=ab4 v/\∃m:Sub W,w''=m.w :=
 h.mono λ_ _ ⟨he,hb⟩=>⟨he,⟨_,n.grow hb⟩,rfl⟩
variable{Q:Exit->Act->acL->Prop}{a:Act}
def aZ {id:Nat}{l:List Oper}(hm:P.follows .mixedOrders=true)(hB:Region.lexB .any l.toArray=true)
  (h:wpQuiet P l.toArray (λw'=>∃n:Sub w,w'=n.w) (λa'=>∀w',(∃n:Sub w,w'=n.w)->Q .normal a' w') l a):(Code.region id l.toArray true).wp P Q a w :=
 wp_region_quiet (C:=λw'=>∃n:Sub w,w'=n.w) hm hB ⟨⟨_,au⟩,rfl⟩ (by simpa using h)
def dI {fn:Func}{c:Code}(hf:P.funcs[f]?=some fn)(hname:(fn.name== "runtime.NumGoroutine")=false)(hb:fn.body=some c)(args:Array acK)(w:acL) :
  (callFunc f args).run P w=.ok (.enter f args) w:=by
 have h1:fn.name≠ "runtime.NumGoroutine":=by simpa using hname
 simp[callFunc,hf,h1,hb]
def wpList_append_run {ops:Array Oper}{rest:List Oper}{o:Oper}(hgd:o.guard=none)(s x:Operand){t:acO}
  (ho:o.op=.call {callee:=.builtin .append,args:=#[s,x],argTypes:=#[t,t]}) {v src v':acK} (hs:a.eval s=v) (hx:a.eval x=src)
  (hrun:(aaR #[t,t] o.type #[v,src]).run P w=.ok v' w') (h:wpList P ops Q rest (a.put o.dst v') w'):wpList P ops Q (o::rest) a w:=by
 refine acP hgd λK hK=>?_
 unfold Oper.wp execOp;simp only[ho,resolve,invoke,builtin,Sem.run_bind,Sem.run_pure,Result.andThen_ok,List.map_toArray,aaF,abQ,hs,hx,hrun];exact hK _ _ h
abbrev vb (n:Nat):acK:=.int .u8 n
abbrev vq (n:Nat):acK:=.int .u64 n
abbrev vw (n:Nat):acK:=.int .u32 n
def add_plain (b o k:Nat):(⟨b,o,none⟩:acM).add k=⟨b,o+k,none⟩:=by unfold acM.add;split<;>simp[*]
def aD (w:acL)(g:Nat)(t:acO)(cs:Array acK):Prop:=w.heap[g]?=some (ach cs t (0,0))
section
variable{w w':acL}{g:Nat}{t:acO}{cs:Array acK}
def aD.lt (h:aD w g t cs):g<w.heap.size:=by
 rcases Nat.lt_or_ge g w.heap.size with hlt|hge;exact hlt;unfold aD at h;rw[Array.getElem?_eq_none hge]at h;cases h
def aD.cell (h:aD w g t cs)(i:Nat):w.cell? ⟨g,i,none⟩=cs[i]?:=cell_of_row w g i cs t (0,0) h
def aD.frozen (h:aD w g t cs)(i:Nat):w.frozen? ⟨g,i,none⟩=false:=by
 unfold aD at h;simp[acL.frozen?,h]
def aD.new (w:acL)(t:acO)(cs:Array acK):aD (w.alloc (ach cs t)) w.heap.size t cs:=heap_alloc_new w _
def aD.alloc (h:aD w g t cs)(o:Obj):aD (w.alloc o) g t cs:=(acN.heap_alloc w o g h.lt).trans h
def mD {c:Code}(h:∀W,Hid (acN w.heap.size w W)->Hid (aD W w.heap.size t cs)->c.wp P Q a W):c.wp P Q a (w.alloc (ach cs t)) :=
 h _ (az ax) (az (aD.new w t cs))
def ny {c:Code}{s:acO}{ds:Array acK}(h:∀W,Hid (acN w.heap.size w W)->Hid (aD W w.heap.size t cs)->Hid (aD W (w.heap.size+1) s ds)->c.wp P Q a W):c.wp P Q a ((w.alloc (ach cs t)).alloc (ach ds s)) :=
 h _ (az (ax.alloc ai _)) (az ((aD.new w t cs).alloc _)) (az (by have h:=aD.new (w.alloc (ach cs t)) s ds;rwa[show (w.alloc (ach cs t)).heap.size=w.heap.size+1 by simp]at h))
def aD.bB (h:aD w g t cs)(i:Nat)(u:acK):aD (w.setCell ⟨g,i,none⟩ u) g t (cs.setIfInBounds i u):=by
 unfold aD at h ⊢;simp[acL.setCell,Array.getElem?_modify,h]
def aD.far (h:aD w g t cs){p:acM}(hp:g≠p.block)(u:acK):aD (w.setCell p u) g t cs:=(acN.heap_setCell w p u g hp).trans h
def aD.below {B:Nat}(h:aD w g t cs)(hb:acN B w w')(hg:g<B):aD w' g t cs:=(hb.block g hg).trans h
def aD.old (h:aD w g t cs)(hb:acN w.heap.size w w'):aD w' g t cs:=h.below hb h.lt
def aD.grown {row:Option Nat}(h:aD w g t cs)(hb:w.grownBy w' row)(hg:some g≠row):aD w' g t cs:=(hb.block g h.lt hg).trans h
def bU {aA:Nat}{e:acO}{size n:Nat}{v:acK}{xs:List acK}(h:w.ownsRow aA e size v n xs)(hg:aD w g t cs)(hne:t≠e):some g≠v.ownBlock:=by
 rcases h.2 with⟨rfl,_⟩|⟨g',cap,cur,rfl,_,hh,_⟩;simp[acK.ownBlock];intro he;have:g=g':=by simpa[acK.ownBlock] using he
 subst this;unfold aD at hg;rw[hg]at hh;injection hh with hh;injection hh with _ ht;exact hne ht
end
def bv (l:List Nat):List acK:=l.map vb
def sj (l:List Nat):(bv l).length=l.length:=abT ..
def wY (l m:List Nat):bv (l++m)=bv l++bv m:=List.map_append ..
def Q8 (l:List Nat):∀u∈bv l,u.oneCell'=true:=by
 intro u hu;obtain⟨x,_,rfl⟩:=aay.1 hu;rfl
variable{l:List Nat}{i:Nat}
def EM (h:i<l.length):(bv l)[i]?=some (vb (l.getD i 0)):=by
 simp[bv,h,List.getD]
structure bE (w:acL)(a:Option acM)(l:List Nat):Prop where
 small:∀x∈l,x<256
 at_:l=[]\/∃b o,a=some ⟨b,o,none⟩/\∀i,i<l.length->w.cell? ⟨b,o+i,none⟩=some (vb (l.getD i 0))
variable{a:Option acM}
def bE.below (h:bE w a l)(hb:acN w.heap.size w w'):bE w' a l:=by
 refine⟨h.small,?_⟩;rcases h.at_ with h0|⟨b,o,rfl,h1⟩;exact ack h0;exact acm ⟨b,o,rfl,λi hi=>cell_below (h1 i hi) hb⟩
def bE.news {ad:acM}(h:bE w (some ad) l):∀j u,(bv l)[j]?=some u->w.cell? (ad.add j)=some u:=by
 intro j u hu;rcases h.at_ with rfl|⟨b,o,he,h1⟩;simp[bv]at hu;injection he with he;subst he;have hj:j<l.length:=by
  have:=(aaB.1 hu).1;simpa[bv] using this
 rw[EM hj]at hu;rw[add_plain,h1 j hj];exact hu
def zZ (h:∀b∈l,b<256)(i:Nat):l.getD i 0<256:=by
 rcases Nat.lt_or_ge i l.length with hi|hi;have:l.getD i 0=l[i]:=by simp[List.getD,hi]
 rw[this];exact h _ (List.getElem_mem hi);rw[aah,List.getElem?_eq_none hi];decide
def bE.lookup (h:bE w a l){k:Nat}(hk:k<l.length):∃b o,a=some ⟨b,o,none⟩/\w.cell? ⟨b,o+k,none⟩=some (vb (l.getD k 0))/\l.getD k 0<256:=by
 rcases h.at_ with rfl|⟨b,o,rfl,h1⟩;simp at hk;exact⟨b,o,rfl,h1 k hk,zZ h.small k⟩
variable{n:Nat}
def getD_take (h:i<n):(l.take n).getD i 0=l.getD i 0:=by
 simp[List.getD,h]
def getD_drop (l:List Nat)(n i:Nat):(l.drop n).getD i 0=l.getD (n+i) 0:=by
 simp[List.getD]
def bE.take (h:bE w a l)(n:Nat):bE w a (l.take n):=by
 refine⟨λx hx=>h.small x (List.mem_of_mem_take hx),?_⟩;rcases h.at_ with rfl|⟨b,o,rfl,h1⟩;exact ack ai;refine acm ⟨b,o,rfl,λi hi=>?_⟩;have hi':i<n/\i<l.length:=by simpa[Nat.lt_min] using hi
 rw[getD_take hi'.1];exact h1 i hi'.2
def bE.drop {b o:Nat}(h:bE w (some ⟨b,o,none⟩) l)(n:Nat):bE w (some ⟨b,o+n,none⟩) (l.drop n):=by
 refine⟨λx hx=>h.small x (List.mem_of_mem_drop hx),?_⟩;rcases h.at_ with rfl|⟨b',o',he,h1⟩;exact ack ai;injection he with he;injection he with hb ho _;subst hb ho;refine acm ⟨b,o+n,rfl,λi hi=>?_⟩;have hi':n+i<l.length:=by have:=List.length_drop (i:=n) (l:=l);omega
 rw[getD_drop,Nat.add_assoc];exact h1 _ hi'
def bE.nil (w:acL)(a:Option acM):bE w a []:=⟨by simp,ack rfl⟩
variable{g:Nat}
def bE.Q9 {t:acO}{cs:Array acK}(h:aD w g t cs)(hc:cs=(bv l).toArray)(hs:∀x∈l,x<256):bE w (some ⟨g,0,none⟩) l:=by
 subst hc;refine⟨hs,acm ⟨g,0,rfl,λi hi=>?_⟩⟩;rw[abU,h.cell,List.getElem?_toArray,EM hi]
def l8:(prog.info? 5).map (λi=>(i.zero,i.size,i.bytes))=some (some (.int .u8 0),1,1):=ah
def Own (w:acL)(aA:Nat)(v:acK)(l:List Nat):Prop:=w.ownsRow aA 5 1 v l.length (bv l)
def Own.nil (w:acL)(aA:Nat):Own w aA (aco none 0 0) []:=acL.ownsRow_nil _ _ _ _
variable{aA:Nat}
def Own.row {v:acK}(h:Own w aA v l)(hs:∀x∈l,x<256):∃a c,v=aco a l.length c/\bE w a l/\l.length<=c:=by
 have h':=h;rcases h'.2 with⟨rfl,h0⟩|⟨g,cap,cur,rfl,_,_,hnc,_⟩;have:l=[]:=aaY h0;subst this;exact⟨none,0,rfl,bE.nil _ _,aj⟩;refine⟨_,cap,rfl,⟨hs,acm ⟨g,0,rfl,λi hi=>?_⟩⟩,hnc⟩;rw[abU,acL.ownsRow.cellAt h i aa,EM hi]
def Own.old {v:acK}(h:Own w aA v l)(hb:acN w.heap.size w w'):Own w' aA v l :=
 acL.ownsRow.kept h (row:=none) ⟨hb.os,hb.tape,hb.output,hb.size,λk hk _=>hb.block k hk⟩ (by
  cases hv:v.ownBlock
  exact ack rfl
  exact acm ai)
def Own.more {base':Nat}{v:acK}(h:Own w aA v l)(hb:base'<=aA):Own w base' v l:=by
 refine⟨h.1,?_⟩;rcases h.2 with h|⟨g,cap,cur,h1,h2,h3⟩;exact ack h;exact acm ⟨g,cap,cur,h1,abX hb h2,h3⟩
def Own.drew {v:acK}(h:Own w aA v l):Own w.drew aA v l:=h
def aD.drew {t:acO}{cs:Array acK}(h:aD w g t cs):aD w.drew g t cs:=h
def bE.drew (h:bE w a l):bE w.drew a l:=⟨h.small,h.at_⟩
def Own.lit (hb:aA<=w.heap.size)(l:List Nat)(hl:l.length<=1000000){cs:Array acK}(hc:cs=(bv l).toArray) :
  Own (w.alloc (ach cs 5)) aA (aco (some ⟨w.heap.size,0,none⟩) l.length l.length) l:=by
 subst hc;exact acL.ownsRow_lit w (bv l).toArray l.length hb (by unfold maxLen;omega) (by simp[sj])
structure Stp (aA:Nat)(w w':acL):Prop where
 below:acN aA w w'
 blk:∀g t cs,t≠5->aD w g t cs->aD w' g t cs
def Stp.refl (aA:Nat)(w:acL):Stp aA w w:=⟨ak,λ_ _ _ _ h=>h⟩
def Stp.trans {a b c:acL}(h:Stp aA a b)(k:Stp aA b c):Stp aA a c:=⟨h.below.trans k.below,λg t cs ht hb=>k.blk g t cs ht (h.blk g t cs ht hb)⟩
def Stp.of_below (h:acN w.heap.size w w')(hb:aA<=w.heap.size):Stp aA w w':=⟨h.mono hb,λ_ _ _ _ hg=>hg.old h⟩
def Stp.alloc (h:Stp aA w w')(hb:aA<=w'.heap.size)(o:Obj):Stp aA w (w'.alloc o):=⟨h.below.alloc hb o,λg t cs ht hg=>(h.blk g t cs ht hg).alloc o⟩
def Stp.size (h:Stp aA w w'):w.heap.size<=w'.heap.size:=h.below.size
variable{m:List Nat}
def uo {v:acK}(hown:Own w aA v l){c:Nat}
  (hr:bE w a m) (hn:l.length+m.length<=1000000) (hb:aA<=w.heap.size) :
  ∃v' w',(aaR #[23,23] 23 #[v,.slice a m.length c]).run prog w=.ok v' w'/\Own w' aA v' (l++m)/\Stp aA w w'/\w.grownBy w' v.ownBlock:=by
 obtain⟨i0,hi,hz0,hz1,hz2⟩:=info_parts l8;cases a with
 |some ad =>
  obtain⟨v',w',h1,h2,h3,_⟩:=run_append_own_at (P:=prog) w aA 23 23 5 i0 _ 1 1 underlying23 hi hz0 hz1 hz2 rfl aa v l.length (bv l) hown ad m.length c (bv m) (by rw[sj];omega) hr.news (Q8 m)
   (by unfold maxLen;omega) aa hb
  refine⟨v',w',h1,?_,⟨(acN.refl aA w).grown h3 hb (λk hk=>(hown.lt k hk).1),λg t cs ht hg=>hg.grown h3 (bU hown hg ht)⟩,h3⟩;unfold Own;rw[List.length_append,wY];exact h2
 |none =>
  have h0:m=[]:=by
   rcases hr.at_ with h|⟨b,o,he,_⟩;exact h;cases he
  subst h0;refine⟨v,w,?_,by simpa using hown,Stp.refl _ _,acL.grownBy.refl w _⟩;rcases hown.2 with⟨rfl,h00⟩|⟨g,cap,cur,rfl,_,_,hnc,_⟩;simp[aaR,acQ underlying23,sizeOf,typeInfo,hi,Builtin.lenOf,Builtin.firstCells];simp[aaR,acQ underlying23,sizeOf,typeInfo,hi,Builtin.lenOf,Builtin.firstCells,hnc,storeCells]
def ik {v:acK}(hown:Own w aA v l){c:Nat}
  (hr:bE w a m) (hn:l.length+m.length<=1000000) (hb:aA<=w.heap.size) :
  ∃v' w',(aaR #[23,23] 23 #[v,aco a m.length c]).run prog w=.ok v' w'/\Own w' aA v' (l++m)/\Stp aA w w' :=
 let ⟨v',w',h1,h2,h3,_⟩:=uo hown (c:=c) hr hn hb
 ⟨v',w',h1,h2,h3⟩
def bE.grown {o:Nat}{row:Option Nat}(h:bE w (some ⟨g,o,none⟩) l)(hg:w.grownBy w' row)(hne:some g≠row):bE w' (some ⟨g,o,none⟩) l:=by
 refine⟨h.small,?_⟩;rcases h.at_ with h0|⟨b,o',he,h1⟩;exact ack h0;injection he with he;injection he with hb ho _;subst hb ho;exact acm ⟨g,o,rfl,λi hi=>hg.cell (h1 i hi) hne⟩
def qf {ops:Array Oper}{o:Oper}{a:Act}{K:Act->acL->Prop}{E:Prop}(hgd:o.guard=none)(s x:Operand){t u:acO}
  (ho:o.op=.call {callee:=.builtin .append,args:=#[s,x],argTypes:=#[t,u]}) {v src v':acK} (hs:a.eval s=v) (hx:a.eval x=src)
  (hrun:(aaR #[t,u] o.type #[v,src]).run P w=.ok v' w') (h:K (a.put o.dst v') w'):if Region.wanted o (yielded ops a.tmps)=true then Oper.wp P o a w K Q else E:=by
 have hw:Region.wanted o (yielded ops a.tmps)=true:=by simp[Region.wanted,hgd]
 rw[if_pos hw];unfold Oper.wp execOp;simp only[ho,resolve,invoke,builtin,Sem.run_bind,Sem.run_pure,Result.andThen_ok,List.map_toArray,aaF,abQ,hs,hx,hrun];exact h
def size_alloc (w:acL)(o:Obj):(w.alloc o).heap.size=w.heap.size+1:=ai
def J3 {v:acK}(hown:Own w aA v l)(xs:List Nat)(hs:∀x∈xs,x<256){H:Nat}(hl:xs.length=n)(hH:w.heap.size=H){cs:Array acK}(hc:cs=(bv xs).toArray)
  (hn:l.length+n<=1000000) (hb:aA<=w.heap.size) :
  ∃v' w',(aaR #[23,23] 23 #[v,aco (some ⟨H,0,none⟩) n n]).run prog (w.alloc (ach cs 5))=.ok v' w'/\Own w' aA v' (l++xs)/\Stp aA w w':=by
 subst hl hH;obtain⟨v',w',h1,h2,h3⟩:=ik (c:=xs.length) (hown.old (ak.alloc aj (ach cs 5))) (bE.Q9 (aD.new w 5 cs) hc hs) hn (by simp;omega);exact⟨v',w',h1,h2,((Stp.refl _ _).alloc hb _).trans h3⟩
def bs (l:List Nat):ByteArray:=⟨(l.map UInt8.ofNat).toArray⟩
def run_text (h:bE w a l)(c:Nat):(convert 23 9 (.slice a l.length c)).run prog w=.ok (.string (bs l)) w:=by
 rcases h.at_ with rfl|⟨b,o,rfl,h1⟩;cases a with
 |none=>exact run_convert_bytes_nil w _ _ underlying23 underlying5 _ _ _ underlying9
 |some ad =>
  have:=run_convert_bytes_back (P:=prog) w 23 9 5 ad c [] underlying23 underlying5 underlying9 (λj hj=>by simp at hj);exact this
 have:=run_convert_bytes_arg (P:=prog) w _ _ underlying23 underlying5 b o l.length c (l.map (λn:Nat=>(n:Int))) ai (λi hi=>by
  rw[h1 i hi]
  simp[List.getD,hi]) _ underlying9
 rw[this];have e:strOfNums (l.map (λn:Nat=>(n:Int)))=bs l:=by
  simp[strOfNums,bs,Function.comp_def]
 rw[e]
def Ra (w:acL)(x:Nat)(h:x<256):bE (w.alloc (ach #[vb x] 5)) (some ⟨w.heap.size,0,none⟩) [x] :=
 bE.Q9 (aD.new w _ _) (by simp[bv]) (by simpa using h)
variable{j:Nat}
def bE.zK {t:acO}{cs:Array acK}{u:acK}(hm:bE w a m)(hb:aD w g t cs)(hv:∀j n:Nat,cs[j]?≠some (vb n)):bE (w.setCell ⟨g,j,none⟩ u) a m:=by
 refine⟨hm.small,?_⟩;rcases hm.at_ with h0|⟨b,o,rfl,h1⟩;exact ack h0;by_cases hbg:b=g;refine ack ?_;subst hbg;rcases m with _|⟨x,m⟩;rfl;have h2:=h1 0 ai;rw[hb.cell]at h2;exact absurd h2 (hv _ _);refine acm ⟨b,o,rfl,λi hi=>?_⟩;rw[acL.cell?_setCell_other _ _ _ _ (λe=>hbg (by injection e with e1;exact e1.symm))];exact h1 i hi
def below_drewN {B:Nat}{a:acL}(h:acN B a w)(n:Nat):acN B a (w.drewN n):=⟨h.os,h.tape,h.output,h.size,h.block⟩
open ChangeShapes WideShapes ChangeAt Deep
def Aa:reachBytes<=140737488355328:=ag
structure qB (E:Type) where
 a:Option acM
 l:List E
 c:Nat
abbrev qB.v {E:Type}(r:qB E):acK:=aco r.a r.l.length r.c
instance {E:Type}:Inhabited (qB E):=⟨⟨none,[],0⟩⟩
section
variable{H:Type}{enc:acO×acK->H}{P:Program}{W:acL}
def jZ {ts us:List acO}{ds gs:List (acR H)}(h:(acR.weightsEach P (ts++us) (ds++gs)).all (·<=reachBytes)=true){t:acO}{d:acR H}(ht:ts[j]?=some t)(hd:ds[j]?=some d) :
  ∀n∈d.weights P t,n<=reachBytes:=by
 intro n hn;have h1:(ts++us)[j]?=some t:=by rw[aa9 ((aaB.1 ht).1)];exact ht
 have h2:(ds++gs)[j]?=some d:=by rw[aa9 ((aaB.1 hd).1)];exact hd
 have:=List.all_eq_true.1 h n (acR.weights_mem_each h1 h2 n hn);simpa using this
def qM {e:acO}:∀{l:List (acR H)} {d:acR H},d∈l->∀n∈d.weights P e,n∈acR.weightsAll P e l
 |x::l,d,h,n,hn=>by
  simp only[acR.weightsAll,aaS]
  rcases aaI.1 h with rfl|h
  exact Or.inl hn
  exact Or.inr (qM h n hn)
structure eZ (enc:acO×acK->H)(P:Program)(W:acL)(t:acO)(m:Nat){E:Type}(cs:E->List acK)(good:E->Prop):Prop where
 size:P.cellsOf t=m
 len:∀e,(cs e).length=m
 elem:∀fuel c x,acR.trod enc P W 0 (λ_=>true) true fuel t c=some x->(∀n∈x.1.weights P t,n<=reachBytes)->∃e,c=cs e/\good e
variable{m:Nat}{E:Type}
def eZ.map {t:acO}{E':Type}{cs:E->List acK}{good:E->Prop}{cs':E'->List acK}{Y0:E'->Prop}(h:eZ enc P W t m cs good)(f:E->E')(hl:∀e,(cs' e).length=m)(hc:∀e,cs' (f e)=cs e)(hg:∀e,good e->Y0 (f e)):eZ enc P W t m cs' Y0 :=
 ⟨h.size,hl,λfuel c x hx hw=>by
  obtain⟨e,rfl,hgd⟩:=h.elem fuel c x hx hw
  exact⟨f e,(hc e).symm,hg e hgd⟩⟩
def eZ.int {t:acO}(ht:P.underlying t=some (.int .i64))(hs:P.cellsOf t=1):eZ enc P W t 1 (λn:Int=>[vi n]) (λn=> -9223372036854775808<=n/\n<=9223372036854775807) :=
 ⟨hs,λ_=>rfl,λfuel c x hx _=>by
  obtain⟨k,hk,_,hwf⟩:=acR.trod_int ht hx
  exact⟨k,hk,by simpa[Lit.wf,acS.min,acS.max,acS.signed,acS.bits] using hwf⟩⟩
def eZ.byte {t:acO}(ht:P.underlying t=some (.int .u8))(hs:P.cellsOf t=1):eZ enc P W t 1 (λn:Nat=>[.int .u8 n]) (λn=>n<256) :=
 ⟨hs,λ_=>rfl,λfuel c x hx _=>by
  obtain⟨k,hk,_,hwf⟩:=acR.trod_int ht hx
  have hr:0<=k/\k<=255:=by simpa[Lit.wf,acS.min,acS.max,acS.signed,acS.bits] using hwf
  exact⟨k.toNat,by rw[hk,Int.toNat_of_nonneg hr.1],aa⟩⟩
structure Rb (W:acL)(m:Nat){E:Type}[Inhabited E](cs:E->List acK)(good:E->Prop)(r:qB E):Prop where
 at_:r.l=[]\/∃b o,r.a=some ⟨b,o,none⟩/\b<W.heap.size/\∀i,i<r.l.length->∀j u,(cs (r.l.getD i default))[j]?=some u->W.cell? ⟨b,o+i*m+j,none⟩=some u
 good:∀e∈r.l,good e
 len:r.l.length<=r.c
 cap:r.c<=maxLen
def eZ.row {t T:acO}{bytes:Nat}[Inhabited E]{cs:E->List acK}{good:E->Prop}(h:eZ enc P W t m cs good)(hm:0<m)(hT:P.underlying T=some (.slice t))(hs:P.cellsOf T=1)(hb:P.bytesOf t=bytes) :
  eZ enc P W T 1 (λr:qB E=>[r.v]) (λr=>Rb W m cs good r/\r.l.length*bytes<=reachBytes):=by
 refine⟨hs,λ_=>rfl,λfuel c x hx hw=>?_⟩;rcases open_slice hT hx with⟨rfl,_⟩|⟨a,len,cap,q,n,D,Pl,rfl,_,hl,hcm,hmm,rfl,hi⟩;exact⟨⟨none,[],0⟩,rfl,⟨.inl rfl,ai,aj,aaW _⟩,ai⟩;simp only[if_true]at hmm;subst hmm;rw[h.size]at hi;obtain⟨B,hB⟩:=choose_lt (α:=E) (n:=len) (p:=λi e=>W.cells? 0 (a.add (i*m)) m=some (cs e)/\good e) (λi hlt=>by
  obtain⟨c',hc,ht⟩:=hi i aa
  obtain⟨e,rfl,hg⟩:=h.elem _ _ _ ht (λn hn=>hw n (by
   simp only[acR.weights,hT,aaI,aaS]
   exact .inr (.inl (qM (aay.2 ⟨i,List.mem_range.2 hlt,rfl⟩) n hn))))
  exact⟨e,hc,hg⟩)
 have hL:((List.range len).map B).length=len:=ai;refine⟨⟨some a,(List.range len).map B,q⟩,by simp[qB.v],⟨?_,?_,by rw[hL];exact hl,hcm⟩,?_⟩;rcases Nat.eq_zero_or_pos len with h0|h0;exact .inl (by simp[h0]);have hcell:∀i,i<len->∀j u,(cs (B i))[j]?=some u->W.cell? ((a.add (i*m)).add j)=some u:=λi hlt j u hu=>by
  obtain⟨_,hl2,hat⟩:=acL.cells?_some (hB i hlt).1;have hj:j<m:=by
   have:=(aaB.1 hu).1;rw[h.len]at this;exact this
  rw[hat j hj];exact hu
 have h00:=hcell 0 h0 0 ((cs (B 0))[0]'(by rw[h.len];exact hm)) (aaj _);have hsp:a.spot=none:=by
  cases hh:a.spot with
  |none=>rfl
  |some q=>exact absurd (acL.cell?_spot h00) (by simp[acM.add,hh])
 obtain⟨b',o',s'⟩:=a;dsimp only at hsp;subst hsp;refine .inr ⟨b',o',rfl,?_,λi hlt j u hu=>?_⟩;have:=lU h00;simpa[acM.add] using this;have hlt':i<len:=by simpa using hlt
 have hg:((List.range len).map B).getD i default=B i:=by simp[List.getD,hlt']
 rw[hg]at hu;have:=hcell i hlt' j u hu;rw[add_plain,add_plain]at this;exact this;intro e he;obtain⟨i,hi',rfl⟩:=aay.1 he;exact(hB i (List.mem_range.1 hi')).2;rw[hL];have:=hw ((((List.range len).map D).length+((List.range (q-len)).map λj=>D (len+j)).length)*P.bytesOf t) (by simp[acR.weights,hT]);rw[hb]at this;simp only[abT,List.length_range]at this;exact abX (Nat.mul_le_mul_right _ aa) this
variable{T:acO}{E0 E1 E2 E3 E4 E5 E6:Type}
 {g0:E0->Prop} {g1:E1->Prop} {g2:E2->Prop} {g3:E3->Prop} {g4:E4->Prop} {g5:E5->Prop} {g6:E6->Prop}
def field_opens {fs:Array Field}(hS:P.underlying T=some (.struct fs)){c:List acK}{ys:List (acR H×List MemPlace)}{aF:Nat}{f:Field}{cs:E->List acK}{good:E->Prop}
  (hf:fs[j]?=some f) (hl:ys.length=fs.size)
  (hg:∀(i:Nat) (f:Field),fs[i]?=some f->acR.trod enc P W 0 (λ_=>true) true n f.type ((c.drop f.offset).take (P.cellsOf f.type))=ys[i]?)
  (hw:∀n∈(acR.agg (ys.map (·.1))).weights P T,n<=reachBytes)
  (h:eZ enc P W f.type m cs good) (ho:f.offset=aF):∃e,(c.drop aF).take m=cs e/\good e:=by
 have ht:=hg j f hf;have hj:j<ys.length:=by rw[hl];exact(aaz.1 hf).1
 have hy:ys[j]?=some ys[j]:=aaj hj;rw[hy,ho,h.size]at ht;exact h.elem _ _ _ ht (λn hn=>hw n (by
  simp only[acR.weights,hS]
  exact acR.weights_mem_each (j:=j) (by simp[hf]) (by simp[hy]) n hn))
end
section
variable{H:Type}{enc:acO×acK->H}{P:Program}{W:acL}
variable{T:acO}{f0 f1 f2 f3 f4:Field}{m0 m1 m2 m3 m4:Nat}{E0 E1 E2 E3 E4:Type}{c0:E0->List acK}{c1:E1->List acK}{c2:E2->List acK}{c3:E3->List acK}{c4:E4->List acK}
 {g0:E0->Prop} {g1:E1->Prop} {g2:E2->Prop} {g3:E3->Prop} {g4:E4->Prop}
def aak {α:Type}{c:List α}{a b d e f:Nat}(h:c.length=a+b+d+e+f):c=(c.drop 0).take a++((c.drop a).take b++((c.drop (a+b)).take d++((c.drop (a+b+d)).take e++(c.drop (a+b+d+e)).take f))):=by
 rw[List.drop_zero];have h1:(c.drop (a+b+d+e)).take f=c.drop (a+b+d+e):=List.take_of_length_le (by rw[List.length_drop];omega);rw[h1,<-List.drop_drop (i:=e),aa7,<-List.drop_drop (i:=d),aa7,<-List.drop_drop (i:=b),aa7,aa7]
def eZ.agT (hS:P.underlying T=some (.struct #[f0,f1,f2,f3,f4]))(hC:P.cellsOf T=m0+m1+m2+m3+m4)(h0:eZ enc P W f0.type m0 c0 g0)(o0:f0.offset=0)(h1:eZ enc P W f1.type m1 c1 g1)(o1:f1.offset=m0)
  (h2:eZ enc P W f2.type m2 c2 g2) (o2:f2.offset=m0+m1) (h3:eZ enc P W f3.type m3 c3 g3) (o3:f3.offset=m0+m1+m2) (h4:eZ enc P W f4.type m4 c4 g4) (o4:f4.offset=m0+m1+m2+m3) :
  eZ enc P W T (m0+m1+m2+m3+m4) (λe:E0×E1×E2×E3×E4=>c0 e.1++(c1 e.2.1++(c2 e.2.2.1++(c3 e.2.2.2.1++c4 e.2.2.2.2)))) (λe=>g0 e.1/\g1 e.2.1/\g2 e.2.2.1/\g3 e.2.2.2.1/\g4 e.2.2.2.2):=by
 refine⟨hC,λe=>by simp[h0.len,h1.len,h2.len,h3.len,h4.len,Nat.add_assoc],λfuel c x hx hw=>?_⟩;obtain⟨xs,n,_,rfl,hl,hlen,hf⟩:=acR.trod_struct hS hx;obtain⟨e0,p0,q0⟩:=field_opens (W:=W) (j:=0) hS (c:=c) (f:=f0) rfl (by simpa using hlen) hf hw h0 o0;obtain⟨e1,p1,q1⟩:=field_opens (W:=W) (j:=1) hS (c:=c) (f:=f1) rfl (by simpa using hlen) hf hw h1 o1;obtain⟨e2,p2,q2⟩:=field_opens (W:=W) (j:=2) hS (c:=c) (f:=f2) rfl (by simpa using hlen) hf hw h2 o2;obtain⟨e3,p3,q3⟩:=field_opens (W:=W) (j:=3) hS (c:=c) (f:=f3) rfl (by simpa using hlen) hf hw h3 o3;obtain⟨e4,p4,q4⟩:=field_opens (W:=W) (j:=4) hS (c:=c) (f:=f4) rfl (by simpa using hlen) hf hw h4 o4
 refine⟨(e0,e1,e2,e3,e4),?_,q0,q1,q2,q3,q4⟩;dsimp only;rw[<-p0,<-p1,<-p2,<-p3,<-p4];exact aak (by rw[hl,hC])
end
namespace HP
def step (r:Nat):Nat:=if r%2=1 then (r/2) ^^^ 3988292384 else r/2
def steps:Nat->Nat->Nat
 |0,r=>r
 |n+1,r=>step (steps n r)
def put (r b:Nat):Nat:=steps 8 (r ^^^ b)
def reg (r:Nat)(l:List Nat):Nat:=l.foldl put r
def sum (l:List Nat):Nat:=4294967295-reg 4294967295 l
variable{x y:Nat}
def GZ (h:x ^^^ y=0):x=y:=by
 have h1:x ^^^ (x ^^^ y)=y:=by rw[<-Nat.xor_assoc,Nat.xor_self,Nat.zero_xor]
 rw[h,Nat.xor_zero]at h1;exact h1
variable{r:Nat}
def Mr (h:r<4294967296):step r<4294967296:=by
 unfold step;split;exact Nat.xor_lt_two_pow (n:=32) aa aa;omega
def Rc (n:Nat)(h:r<4294967296):steps n r<4294967296:=by
 induction n with
 |zero=>exact h
 |succ n ih=>exact Mr ih
def J4 (hx:x<4294967296)(hy:y<4294967296):x ^^^ y<4294967296:=Nat.xor_lt_two_pow (n:=32) hx hy
def Re {b:Nat}(h:r<4294967296)(hb:b<256):put r b<4294967296:=Rc 8 (J4 h aa)
def Rf:∀(l:List Nat) {r:Nat},r<4294967296->(∀b∈l,b<256)->reg r l<4294967296
 |[],_,h,_=>h
 |b::l,_,h,hl=>Rf l (Re h (hl b ai)) (λx hx=>hl x (by simp[hx]))
def J5 (l m:List Nat)(r:Nat):reg r (l++m)=reg (reg r l) m:=List.foldl_append ..
def num:List Nat->Nat
 |[]=>0
 |b::l=>b+num l*256
def J6:∀(l:List Nat),(∀b∈l,b<256)->num l<256 ^ l.length
 |[],_=>by simp[num]
 |b::l,h=>by
  have h1:=J6 l (λx hx=>h x (by simp[hx]))
  have h2:=h b ai
  rw[num,List.length_cons,Nat.pow_succ]
  omega
def xor_not (hx:x<4294967296):x ^^^ (4294967295-x)=4294967295:=by
 apply Nat.eq_of_testBit_eq;intro i;rw[Nat.testBit_xor,show 4294967295-x=2 ^ 32-(x+1) by omega,Nat.testBit_two_pow_sub_succ (by simpa using hx),show (4294967295:Nat)=2 ^ 32-1 by decide,Nat.testBit_two_pow_sub_one];by_cases hi:i<32;simp[hi];have:x.testBit i=false:=Nat.testBit_lt_two_pow (Nat.lt_of_lt_of_le hx (by
  have:2 ^ 32<=2 ^ i:=Nat.pow_le_pow_right aa aa
  simpa using this))
 simp[hi,this]
def le:Nat->Nat->List Nat
 |0,_=>[]
 |n+1,x=>x%256::le n (x/256)
def eU:∀(n x:Nat),(le n x).length=n
 |0,_=>rfl
 |n+1,x=>by rw[le,List.length_cons,eU]
def nY:∀(n x:Nat),∀y∈le n x,y<256
 |n+1,x,y,h=>by
  rw[le]at h
  rcases aaI.1 h with rfl|h
  omega
  exact nY n _ y h
def Ms:∀(n x:Nat),le (n+1) x=le n x++[x/256 ^ n%256]
 |0,x=>by simp[le]
 |n+1,x=>by
  rw[le,Ms n,le,Nat.div_div_eq_div_mul,Nat.pow_succ,Nat.mul_comm 256]
  rfl
def wZ:∀(n x:Nat),num (le n x)=x%256 ^ n
 |0,x=>by simp[num,le,Nat.mod_one]
 |n+1,x=>by
  rw[le,num,wZ n,Nat.pow_succ,Nat.mul_comm (256 ^ n),Nat.mod_mul,Nat.mul_comm]
structure HOp where
 aL:Int
 path:List Nat
 dest:List Nat
 handle:Int
 n:Int
 aF:Int
 bytes:List Nat
instance:Inhabited HOp:=⟨⟨0,[],[],0,0,0,[]⟩⟩
def u64 (x:Int):Nat:=(x%18446744073709551616).toNat
def Mt (x:Int):Bool:=decide (-2147483648<=x)&&decide (x<=2147483647)
def bH (o:HOp):Bool :=
 decide (1<=o.aL)&&decide (o.aL<=14)&&decide (o.path.length<=255)&&decide (o.dest.length<=255)&&decide (o.bytes.length<=1024)&&Mt o.handle&&Mt o.n
def enc (o:HOp):List Nat :=
 [u64 o.aL%256,o.path.length%256]++o.path++[o.dest.length%256]++o.dest++le 4 (u64 o.handle)++le 4 (u64 o.n)++le 8 (u64 o.aF)++le 2 o.bytes.length++o.bytes
def sum_lt (l:List Nat):sum l<4294967296:=by
 unfold sum;omega
end HP
namespace TP
structure Tag where
 aL:Int
 aB:Nat
 seq:Nat
 aM:Nat
deriving DecidableEq
def zero:Tag:=⟨0,0,0,0⟩
instance:Inhabited Tag:=⟨zero⟩
def sized (n:Int):Bool:=n==64||n==128||n==256||n==512
def right (t:Tag):Bool:=(t.aL==1||t.aL==2)&&decide (t.aB<8192)&&decide (1<=t.seq)&&decide (t.seq<4611686018427387904)&&decide (1<=t.aM)&&decide (t.aM<4611686018427387904)
def qN (k:Int):Nat:=(k%256).toNat
def head (t:Tag)(p:List Nat):List Nat:=p++[67,85,qN t.aL,0]++HP.le 4 t.aB++HP.le 8 t.seq++HP.le 8 t.aM
def bytes (t:Tag)(p:List Nat):List Nat:=head t p++HP.le 4 (HP.sum (head t p))++HP.le 4 0
def write (t:Tag)(p:List Nat):List Nat×Int:=if right t&&sized p.length then (bytes t p,0) else ([],1)
def ones (l:List Nat):Bool:=l.all (·==255)
def Ab (r:List Nat):Tag:=⟨HP.num ((r.drop 2).take 1),HP.num ((r.drop 4).take 4),HP.num ((r.drop 8).take 8),HP.num ((r.drop 16).take 8)⟩
def jW (b r:List Nat)(n:Nat):Bool:=HP.num (r.take 2)==21827&&HP.num ((r.drop 3).take 1)==0&&HP.num ((r.drop 28).take 4)==0&&right (Ab r)&&HP.num ((r.drop 24).take 4)==HP.sum (b.take (n+24))
def read (b:List Nat):Tag×List Nat×Int :=
 if sized ((b.length:Int)-32)=false then (zero,[],1)
 else if ones b then (zero,[],20)
 else
  let n:=b.length-32
  let r:=b.drop n
  if jW b r n then (Ab r,b.take n,0) else (zero,[],21)
def yu (t:Tag)(p:List Nat):(head t p).length=p.length+24:=by simp[head,HP.eU]
def vD (t:Tag)(p:List Nat):(bytes t p).length=p.length+32:=by simp[bytes,yu,HP.eU]
def G7 (k:Int):qN k<256:=by unfold qN;omega
def o7 {t:Tag}{p:List Nat}(h:∀y∈p,y<256):∀y∈head t p,y<256:=by
 intro y hy;simp only[head,aaS,aaI,List.not_mem_nil,or_false]at hy;rcases hy with (((hy|hy)|hy)|hy)|hy;exact h y hy;have:=G7 t.aL;omega;exact HP.nY _ _ y hy;exact HP.nY _ _ y hy;exact HP.nY _ _ y hy
def Ha {t:Tag}{p:List Nat}(h:∀y∈p,y<256):∀y∈bytes t p,y<256:=by
 intro y hy;simp only[bytes,aaS]at hy;rcases hy with (hy|hy)|hy;exact o7 h y hy;exact HP.nY _ _ y hy;exact HP.nY _ _ y hy
end TP
namespace NP
def qH (n:Int):Int:=(n+9223372036854775808)%18446744073709551616-9223372036854775808
structure Rh where
 at_:Int
 aL:Int
 data:List Nat
instance:Inhabited Rh:=⟨⟨0,0,[]⟩⟩
structure NZ where
 ps:List (List Nat)
 next:Nat
 broken:Bool
 bad:Bool
 eF:Int
instance:Inhabited NZ:=⟨⟨[],0,false,false,0⟩⟩
structure bX where
 B:Nat
 P:Nat
 S:Nat
 bs:List NZ
 fs:List Rh
 since:Int
 down:Bool
 dQ:Int
 reads:Int
def bH (b p s:Int):Bool:=decide (8<=b)&&decide (b<=128)&&decide (4<=p)&&decide (p<=32)&&(s==64||s==128||s==256||s==512)
abbrev bX.full (c:bX):Nat:=c.S+32
abbrev bX.blk (c:bX)(k:Nat):NZ:=c.bs.getD k default
abbrev NZ.aB (x:NZ)(i:Nat):List Nat:=x.ps.getD i []
structure bX.ok (c:bX):Prop where
 right:bH c.B c.P c.S=true
 blocks:c.bs.length=c.B
 pages:∀x∈c.bs,x.ps.length=c.P
 full:∀x∈c.bs,∀l∈x.ps,l=[]\/l.length=c.full
 small:∀x∈c.bs,∀l∈x.ps,∀y∈l,y<256
 next:∀x∈c.bs,x.next<=c.P
def bX.order (c:bX):Prop:=∀x∈c.bs,x.broken=false->∀i,x.next<=i->x.aB i=[]
def Ri (p:Nat):NZ:=⟨aaA p [],0,false,false,0⟩
def blank (b p s:Nat):bX:=⟨b,p,s,aaA b (Ri p),[],0,false,0,0⟩
def gI (c:bX)(k:Nat)(x:NZ):bX:={c with bs:=c.bs.set k x}
def Ac (c:bX)(k:Nat):bX:=gI c k {c.blk k with bad:=true}
def badTo (c:bX):List Int->Option bX
 |[]=>some c
 |k::l=>if 0<=k/\k<c.B then badTo (Ac c k.toNat) l else none
def new (b p s:Int)(bad:List Int):Option bX:=if bH b p s then badTo (blank b.toNat p.toNat s.toNat) bad else none
def asked (c:bX)(k aB:Int):Int:=if c.down then 4 else if 0<=k/\k<c.B/\0<=aB/\aB<c.P then 0 else 12
def Ad (n:Nat)(data:List Nat):List Nat:=data.take n++aaA (n-data.length) 255
def bQ (c:bX)(k aB:Int):(List Nat×Int)×bX :=
 let e:=asked c k aB
 if e=0 then
  let b:=(c.blk k.toNat).aB aB.toNat
  ((if b=[] then aaA c.full 255 else b,0),{c with reads:=qH (c.reads+1)})
 else (([],e),c)
def faultOf:List Rh->Int->Rh
 |[],_=>default
 |f::l,a=>if f.at_=a then f else faultOf l a
def stroke (c:bX):bX:={c with since:=qH (c.since+1),dQ:=qH (c.dQ+1)}
def ni (c:bX)(k:Nat)(l:List Nat):bX :=
 let x:=c.blk k
 gI c k {x with ps:=x.ps.set x.next l,next:=x.next+1}
def qg (c:bX):bX:={c with down:=true}
def program (c:bX)(k aB:Int)(b:List Nat):Int×bX :=
 let e:=asked c k aB
 if e=0 then
  let x:=c.blk k.toNat
  if b.length=c.full then
   if x.bad then (13,c)
   else if x.broken||decide (aB≠x.next) then (10,c)
   else
    let f:=faultOf c.fs c.since
    if f.aL=1 then (4,qg (stroke c))
    else if f.aL=2 then (4,qg (ni (stroke c) k.toNat (Ad c.full f.data)))
    else if f.aL=3 then (11,ni (stroke c) k.toNat (Ad c.full f.data))
    else (0,ni (stroke c) k.toNat b)
  else (1,c)
 else (e,c)
def Ae (n:Nat)(y:Nat)(l:List Nat):List Nat:=if y=0 then l else if 1<y then aaA n y else []
def cutTo (n:Nat)(data:List Nat)(ps:List (List Nat)):Nat->List (List Nat)
 |0=>ps
 |k+1=>let q:=cutTo n data ps k;q.set k (Ae n (data.getD k 0) (q.getD k []))
def kK (c:bX)(k:Nat)(data:List Nat):bX :=
 let x:=c.blk k
 gI c k {x with ps:=cutTo c.full data x.ps x.ps.length,broken:=true,eF:=qH (x.eF+1)}
def erase (c:bX)(k:Int):Int×bX :=
 let e:=asked c k 0
 if e=0 then
  let x:=c.blk k.toNat
  if x.bad then (13,c)
  else
   let f:=faultOf c.fs c.since
   if f.aL=1 then (4,qg (stroke c))
   else if f.aL=2 then (4,qg (kK (stroke c) k.toNat f.data))
   else if f.aL=3 then (11,kK (stroke c) k.toNat f.data)
   else (0,gI (stroke c) k.toNat ⟨aaA c.P [],0,false,false,qH (x.eF+1)⟩)
 else (e,c)
def mark (c:bX)(k:Int):Int×bX :=
 let e:=asked c k 0
 if e=0 then (0,Ac c k.toNat) else (e,c)
def script (c:bX)(l:List Rh):Int×bX :=
 if l.all (λf=>decide (0<=f.at_)) then (0,{c with fs:=l,since:=0}) else (1,c)
def upP (c:bX):bX:={c with down:=false}
def qO (c:bX)(k:Int):Bool:=if 0<=k/\k<c.B then (c.blk k.toNat).bad else true
def bC (c:bX)(k:Int):Int:=if 0<=k/\k<c.B then (c.blk k.toNat).eF else 0
inductive Act where
 |program (k aB:Int) (b:List Nat)
 |erase (k:Int)
 |mark (k:Int)
 |read (k aB:Int)
 |Wv
 |start
 |script (l:List Rh)
 |none
def act (c:bX):Act->bX
 |.program k p b=>(program c k p b).2
 |.erase k=>(erase c k).2
 |.mark k=>(mark c k).2
 |.read k p=>(bQ c k p).2
 |.Wv=>qg c
 |.start=>upP c
 |.script l=>(script c l).2
 |.none=>c
section
variable{c:bX}
def bL {α:Type}{l:List α}{d:α}(h:i<l.length):l.getD i d∈l:=by
 rw[aah,aaj h];exact List.getElem_mem h
def iO {α:Type}(l:List α)(d x:α)(i j:Nat)(hi:i<l.length):(l.set i x).getD j d=if i=j then x else l.getD j d:=by
 simp only[aah,aa6];split;rename_i h;subst h;simp;rfl
def fB {k aB:Int}(h:asked c k aB=0):c.down=false/\0<=k/\k<c.B/\0<=aB/\aB<c.P:=by
 unfold asked at h;split at h;simp at h;split at h;rename_i h1 h2;exact⟨by simpa using h1,h2⟩;simp at h
variable{k:Nat}
def bX.ok.mem (h:c.ok)(hk:k<c.B):c.blk k∈c.bs:=bL (by rw[h.blocks];exact hk)
variable{x:NZ}
def bX.ok.set (h:c.ok)(h1:x.ps.length=c.P)(h2:∀l∈x.ps,l=[]\/l.length=c.full)(h3:∀l∈x.ps,∀y∈l,y<256)(h4:x.next<=c.P):(gI c k x).ok:=by
 have hm:∀y∈c.bs.set k x,y=x\/y∈c.bs:=λy hy=>(aat hy).symm
 refine⟨h.right,by simp[gI,h.blocks],?_,?_,?_,?_⟩;intro y hy;rcases hm y hy with rfl|hy;exact h1;exact h.pages y hy;intro y hy;rcases hm y hy with rfl|hy;exact h2;exact h.full y hy;intro y hy;rcases hm y hy with rfl|hy;exact h3;exact h.small y hy
 ·intro y hy;rcases hm y hy with rfl|hy;exact h4
  ·exact h.next y hy
def nA (n:Nat)(data:List Nat):(Ad n data).length=n:=by
 simp only[Ad,List.length_append,List.length_take,abP];omega
variable{data:List Nat}
def uL (h:∀y∈data,y<256):∀y∈Ad n data,y<256:=by
 intro y hy;rcases aaS.1 hy with hy|hy;exact h y (List.mem_of_mem_take hy);rw[aaE]at hy;omega
def vE (n:Nat)(data:List Nat)(ps:List (List Nat)):∀k,(cutTo n data ps k).length=ps.length
 |0=>rfl
 |k+1=>by simp[cutTo,vE n data ps k]
def xe (n:Nat)(data:List Nat)(ps:List (List Nat))(Q:List Nat->Prop)(h0:Q [])(hq:∀l∈ps,Q l)(hr:∀y∈data,Q (aaA n y)):∀k,∀l∈cutTo n data ps k,Q l
 |0=>hq
 |k+1=>by
  intro l hl
  have ih:=xe n data ps Q h0 hq hr k
  rcases aat hl with hl|rfl
  exact ih l hl
  unfold Ae
  split
  rw[aah]
  cases hg:(cutTo n data ps k)[k]? with
  |none=>exact h0
  |some l=>exact ih l (aa8 hg)
  split
  rename_i h2
  rw[aah]at h2 ⊢
  cases hg:data[k]? with
  |none=>rw[hg]at h2;simp at h2
  |some y=>exact hr y (aa8 hg)
  exact h0
def ek (h:c.ok):(stroke c).ok:=⟨h.right,h.blocks,h.pages,h.full,h.small,h.next⟩
def vF (h:c.ok):(qg c).ok:=⟨h.right,h.blocks,h.pages,h.full,h.small,h.next⟩
def adh (h:c.ok):(upP c).ok:=⟨h.right,h.blocks,h.pages,h.full,h.small,h.next⟩
def iJ (h:c.ok)(hk:k<c.B)(hn:(c.blk k).next<c.P)(hl:l.length=c.full)(hs:∀y∈l,y<256):(ni c k l).ok:=by
 have hx:=h.mem hk;have hm:∀q∈(c.blk k).ps.set (c.blk k).next l,q=l\/q∈(c.blk k).ps:=λq hq=>(aat hq).symm;refine h.set ((abZ ..).trans (h.pages _ hx)) ?_ ?_ hn;intro q hq;rcases hm q hq with rfl|hq;exact acm hl;exact h.full _ hx q hq;intro q hq;rcases hm q hq with rfl|hq;exact hs;exact h.small _ hx q hq
def Mv (h:c.ok)(hk:k<c.B):(Ac c k).ok:=by
 have hx:=h.mem hk;exact h.set (x:={c.blk k with bad:=true}) (h.pages (c.blk k) hx) (h.full (c.blk k) hx) (h.small (c.blk k) hx) (h.next (c.blk k) hx)
def He (h:c.ok)(hk:k<c.B)(hd:∀y∈data,y<256):(kK c k data).ok:=by
 have hx:=h.mem hk;refine h.set ((vE ..).trans (h.pages _ hx)) ?_ ?_ (h.next (c.blk k) hx);exact xe _ _ _ (λl=>l=[]\/l.length=c.full) (ack rfl) (h.full _ hx) (λy _=>acm ai) _;refine xe _ _ _ (λl=>∀y∈l,y<256) ai (h.small _ hx) (λy hy z hz=>?_) _;rw[aaE]at hz;exact hz.2▸hd y hy
def fresh_ok (h:c.ok)(w:Int):(gI c k ⟨aaA c.P [],0,false,false,w⟩).ok:=by
 refine h.set ai ?_ ?_ (aaW _);intro l hl;exact ack (aaE.1 hl).2;intro l hl;rw[(aaE.1 hl).2];simp
def small (fs:List Rh):Prop:=∀f∈fs,∀y∈f.data,y<256
def fault_small:∀{fs:List Rh},small fs->∀a,∀y∈(faultOf fs a).data,y<256
 |[],_,a=>by simp[faultOf,default]
 |f::l,h,a=>by
  unfold faultOf
  split
  exact h f ai
  exact fault_small (λg hg=>h g (by simp[hg])) a
def Act.fine:Act->Prop
 |.program _ _ b=>∀y∈b,y<256
 |.script l=>small l
 |_=>True
def qP (h:c.ok)(hf:small c.fs)(a:Act)(ha:a.fine):(act c a).ok/\small (act c a).fs:=by
 cases a with
 |program k p b =>
  unfold act program;dsimp only;split
  ·rename_i he;obtain⟨_,h0,h1,h2,h3⟩:=fB he;have hk:k.toNat<c.B:=aa;split
   ·rename_i hl;split;exact⟨h,hf⟩
    ·split;exact⟨h,hf⟩
     ·rename_i hb;simp only[Bool.or_eq_true,decide_eq_true_eq,not_or,Decidable.not_not]at hb;have hn:(c.blk k.toNat).next<c.P:=aa;have hs:=fault_small hf c.since;split;exact⟨vF (ek h),hf⟩;split;exact⟨vF (iJ (ek h) hk hn (nA _ _) (uL hs)),hf⟩;split;exact⟨iJ (ek h) hk hn (nA _ _) (uL hs),hf⟩;exact⟨iJ (ek h) hk hn hl ha,hf⟩
   exact⟨h,hf⟩
  exact⟨h,hf⟩
 |erase k =>
  unfold act erase;dsimp only;split;rename_i he;obtain⟨_,h0,h1,h2,h3⟩:=fB he;have hk:k.toNat<c.B:=aa;have hs:=fault_small hf c.since;split;exact⟨h,hf⟩;split;exact⟨vF (ek h),hf⟩;split;exact⟨vF (He (ek h) hk hs),hf⟩;split;exact⟨He (ek h) hk hs,hf⟩;exact⟨fresh_ok (ek h) _,hf⟩;exact⟨h,hf⟩
 |mark k =>
  unfold act mark;dsimp only;split;rename_i he;obtain⟨_,h0,h1,h2,h3⟩:=fB he;exact⟨Mv h aa,hf⟩;exact⟨h,hf⟩
 |read k p =>
  unfold act bQ;dsimp only;split
  ·exact⟨⟨h.right,h.blocks,h.pages,h.full,h.small,h.next⟩,hf⟩
  exact⟨h,hf⟩
 |Wv=>exact⟨vF h,hf⟩
 |start=>exact⟨adh h,hf⟩
 |script l =>
  show (script c l).2.ok/\small (script c l).2.fs;unfold script;split
  ·exact⟨⟨h.right,h.blocks,h.pages,h.full,h.small,h.next⟩,ha⟩
  exact⟨h,hf⟩
 |none=>exact⟨h,hf⟩
variable{k':Nat}
def Rj {p:Nat}(hk:k<c.bs.length):((gI c k x).blk k').aB p=if k=k' then x.aB p else (c.blk k').aB p:=by
 show ((c.bs.set k x).getD k' default).aB p=_;rw[iO _ _ _ _ _ hk];split<;>rfl
def Rk (h:c.ok){p:Nat}(hk:k<c.B)(hn:(c.blk k).next<c.P):((ni c k l).blk k').aB p=if k=k'/\(c.blk k).next=p then l else (c.blk k').aB p:=by
 unfold ni;dsimp only;rw[Rj (by rw[h.blocks];exact hk)];by_cases e:k=k'
 ·subst e;rw[if_pos rfl];show ((c.blk k).ps.set (c.blk k).next l).getD p []=_;rw[iO _ _ _ _ _ (by rw[h.pages _ (h.mem hk)];exact hn)];simp
 rw[if_neg e,if_neg (λh=>e h.1)]
def il (hk:k<c.bs.length):(gI c k x).blk k'=if k=k' then x else c.blk k':=iO _ _ _ _ _ hk
def nZ (h:c.order)(hx:x.broken=false->∀i,x.next<=i->x.aB i=[]):(gI c k x).order:=by
 intro y hy hb i hi;rcases aat hy with hy|rfl;exact h y hy hb i hi;exact hx hb i hi
def xh (h:c.ok)(ho:c.order)(hk:k<c.B)(hn:(c.blk k).next<c.P):(ni c k l).order:=by
 refine nZ ho ?_;intro hb i hi;show ((c.blk k).ps.set (c.blk k).next l).getD i []=[];rw[iO _ _ _ _ _ (by rw[h.pages _ (h.mem hk)];exact hn),if_neg (by dsimp only at hi;omega)];exact ho _ (h.mem hk) hb i (by dsimp only at hi;omega)
def Af (h:c.ok)(ho:c.order)(hk:k<c.B):(Ac c k).order:=nZ ho (λhb i hi=>ho _ (h.mem hk) hb i hi)
def Hg (ho:c.order)(w:Int):(gI c k ⟨aaA c.P [],0,false,false,w⟩).order:=by
 refine nZ ho ?_;intro _ i _;show (aaA c.P []).getD i []=[];rw[aah,List.getElem?_replicate];split<;>rfl
def N7 (h:c.ok)(ho:c.order)(a:Act):(act c a).order:=by
 cases a with
 |program k p b =>
  unfold act program;dsimp only;split
  ·rename_i he;obtain⟨_,h0,h1,h2,h3⟩:=fB he;have hk:k.toNat<c.B:=aa;split
   ·rename_i hl;split;exact ho
    ·split;exact ho
     ·rename_i hb;simp only[Bool.or_eq_true,decide_eq_true_eq,not_or,Decidable.not_not]at hb;have hn:(c.blk k.toNat).next<c.P:=aa;split;exact ho;split;exact xh (ek h) ho hk hn;split;exact xh (ek h) ho hk hn;exact xh (ek h) ho hk hn
   exact ho
  exact ho
 |erase k =>
  unfold act erase;dsimp only;split;rename_i he;split;exact ho;split;exact ho;split;exact nZ (c:=stroke c) ho (λhb=>by cases hb);split;exact nZ (c:=stroke c) ho (λhb=>by cases hb);exact Hg (c:=stroke c) ho _;exact ho
 |mark k =>
  unfold act mark;dsimp only;split;rename_i he;obtain⟨_,h0,h1,h2,h3⟩:=fB he;exact Af h ho aa;exact ho
 |read k p =>
  unfold act bQ;dsimp only;split;exact ho;exact ho
 |Wv=>exact ho
 |start=>exact ho
 |script l =>
  show (script c l).2.order;unfold script;split;exact ho;exact ho
 |none=>exact ho
def Rl {b p s:Nat}(h:bH b p s=true):(blank b p s).ok:=by
 refine⟨h,abP ..,?_,?_,?_,?_⟩;all_goals intro x hx;obtain⟨_,rfl⟩:=aaE.1 hx
 exact abP ..;intro l hl;exact ack (aaE.1 hl).2;intro l hl;rw[(aaE.1 hl).2];simp;exact aaW _
def Hl (b p s:Nat):(blank b p s).order:=by
 intro x hx _ i _;obtain⟨_,rfl⟩:=aaE.1 hx;show (aaA p []).getD i []=[];rw[aah,List.getElem?_replicate];split<;>rfl
def Ho:∀{bad:List Int} {c d:bX},c.ok->c.order->badTo c bad=some d->d.ok/\d.order/\d.fs=c.fs/\d.B=c.B/\d.P=c.P/\d.S=c.S
 |[],c,d,h,ho,e=>by injection e with e;subst e;exact⟨h,ho,rfl,rfl,rfl,rfl⟩
 |k::l,c,d,h,ho,e=>by
  unfold badTo at e
  split at e
  rename_i hk
  exact Ho (bad:=l) (c:=Ac c k.toNat) (Mv h aa) (Af h ho aa) e
  cases e
def aal {b p s:Int}{bad:List Int}{d:bX}(e:new b p s bad=some d):d.ok/\d.order/\d.fs=[]/\(d.B:Int)=b/\(d.P:Int)=p/\(d.S:Int)=s:=by
 unfold new at e;split at e;rename_i hr;have hr':=hr;simp only[bH,Bool.and_eq_true,decide_eq_true_eq,Bool.or_eq_true,beq_iff_eq]at hr';have hb:((b.toNat:Int)=b):=aa;have hp:((p.toNat:Int)=p):=aa;have hs:((s.toNat:Int)=s):=aa;obtain⟨h1,h2,h3,h4,h5,h6⟩:=Ho (Rl (by rw[hb,hp,hs];exact hr)) (Hl _ _ _) e;exact⟨h1,h2,h3,by rw[h4];exact hb,by rw[h5];exact hp,by rw[h6];exact hs⟩;cases e
end
end NP
structure aP (F:Nat->Prop)(w w':acL):Prop where
 os:w'.os=w.os
 tape:w'.tape=w.tape
 output:w'.output=w.output
 size:w.heap.size<=w'.heap.size
 block:∀k,k<w.heap.size->¬F k->w'.heap[k]?=w.heap[k]?
variable{F F':Nat->Prop}{w w' w'':acL}
def aP.refl (F:Nat->Prop)(w:acL):aP F w w:=⟨rfl,rfl,rfl,aj,λ_ _ _=>rfl⟩
def aP.trans (h:aP F w w')(k:aP F' w' w'')(hF:∀n,n<w.heap.size->F' n->F n):aP F w w'' :=
 ⟨k.os.trans h.os,k.tape.trans h.tape,k.output.trans h.output,abX h.size k.size,λi hi hn=>(k.block i (Nat.lt_of_lt_of_le hi h.size) (λe=>hn (hF i hi e))).trans (h.block i hi hn)⟩
def aP.of_below (h:acN w.heap.size w w'):aP F w w':=⟨h.os,h.tape,h.output,h.size,λk hk _=>h.block k hk⟩
def aP.below (h:aP F w w')(k:acN w'.heap.size w' w''):aP F w w'':=h.trans (F':=F) (aP.of_below k) (λ_ _ e=>e)
def aP.mono (h:aP F w w')(hF:∀n,n<w.heap.size->F n->F' n):aP F' w w':=⟨h.os,h.tape,h.output,h.size,λk hk hn=>h.block k hk (λe=>hn (hF k hk e))⟩
def aP.set (w:acL){p:acM}(hp:F p.block)(u:acK):aP F w (w.setCell p u) :=
 ⟨rfl,rfl,rfl,by simp[acL.setCell],λk _ hn=>acN.heap_setCell w p u k (λe=>hn (by rw[e];exact hp))⟩
def aP.setCell (h:aP F w w'){p:acM}(hp:F p.block\/w.heap.size<=p.block)(u:acK):aP F w (w'.setCell p u) :=
 ⟨h.os,h.tape,h.output,by have:=h.size;simpa[acL.setCell] using this,λk hk hn=>(acN.heap_setCell w' p u k (by
  rintro rfl
  rcases hp with hp|hp
  exact hn hp
  omega)).trans (h.block k hk hn)⟩
def aP.alloc (h:aP F w w')(o:Obj):aP F w (w'.alloc o):=h.below ax
def aP.drew (h:aP F w w'):aP F w w'.drew:=⟨h.os,h.tape,h.output,h.size,h.block⟩
def aP.grown {row:Option Nat}(h:aP F w w')(g:w'.grownBy w'' row)(hr:∀k,row=some k->F k\/w.heap.size<=k):aP F w w'' :=
 ⟨g.os.trans h.os,g.tape.trans h.tape,g.output.trans h.output,abX h.size g.size,λk hk hn=>(g.block k (Nat.lt_of_lt_of_le hk h.size) (by
  intro e
  rcases hr k e.symm with h1|h1
  exact hn h1
  omega)).trans (h.block k hk hn)⟩
def aP.dX (h:aP F w w')(hF:∀k,k<w.heap.size->F k->aA<=k)(hb:aA<=w.heap.size):acN aA w w' :=
 ⟨h.os,h.tape,h.output,h.size,λk hk=>h.block k aa (λe=>by have:=hF k aa e;omega)⟩
def aP.cell (h:aP F w w'){p:acM}{v:acK}(hc:w.cell? p=some v)(hn:¬F p.block):w'.cell? p=some v :=
 (acL.cell?_of_block (h.block p.block (lU hc) hn)).trans hc
def aD.aJ {t:acO}{cs:Array acK}(h:aD w g t cs)(q:aP F w w')(hn:¬F g):aD w' g t cs:=(q.block g h.lt hn).trans h
def qQ (t:acO):Bool:=t==5||t==186
def Safe (t:acO)(aA:Nat)(w:acL)(b:Nat):Prop:=b<aA\/∃cur,aD w b t cur
def Mine (aA:Nat)(w:acL)(b:Nat):Prop:=aA<=b/\∃t cur,qQ t=false/\aD w b t cur
def Safe.no {t:acO}{b:Nat}(h:Safe t aA w b)(m:Mine aA w b)(ht:qQ t=true:=by decide):False:=by
 obtain⟨m1,t',cur,ht',hb⟩:=m;rcases h with h|⟨cur',hb'⟩;omega;unfold aD at hb hb';rw[hb]at hb';injection hb' with hb';injection hb' with _ hb';subst hb';rw[ht]at ht';cases ht'
def Safe.aJ {t:acO}{b:Nat}(h:Safe t aA w b)(q:aP F w w')(hF:∀k,F k->Mine aA w k)(ht:qQ t=true:=by decide):Safe t aA w' b:=by
 rcases h with h|⟨cur,hb⟩;exact ack h;exact acm ⟨cur,hb.aJ q (λe=>Safe.no (t:=t) (acm ⟨cur,hb⟩) (hF b e) ht)⟩
def Safe.byte {b:Nat}{cur:Array acK}(h:aD w b 5 cur):Safe 5 aA w b:=acm ⟨cur,h⟩
structure dx (aA:Nat)(w:acL)(a:Option acM)(l:List Nat):Prop where
 row:bE w a l
 safe:l=[]\/∃b o,a=some ⟨b,o,none⟩/\Safe 5 aA w b
def dx.aJ (h:dx aA w a l)(q:aP F w w')(hF:∀k,F k->Mine aA w k):dx aA w' a l:=by
 rcases h.safe with rfl|⟨b,o,rfl,hs⟩;exact⟨bE.nil _ _,ack rfl⟩;refine⟨⟨h.row.small,?_⟩,acm ⟨b,o,rfl,hs.aJ q hF⟩⟩;rcases h.row.at_ with h0|⟨b',o',he,h1⟩;exact ack h0;injection he with he;injection he with hb ho;subst hb ho;exact acm ⟨b,o,rfl,λi hi=>q.cell (h1 i hi) (λe=>hs.no (hF b e))⟩
def dx.old (h:dx aA w a l)(q:acN w.heap.size w w'):dx aA w' a l:=h.aJ (F:=λ_=>False) (aP.of_below q) (λ_ e=>e.elim)
def dx.nil (aA:Nat)(w:acL)(a:Option acM):dx aA w a []:=⟨bE.nil _ _,ack rfl⟩
def dx.drop {b o:Nat}(h:dx aA w (some ⟨b,o,none⟩) l)(n:Nat):dx aA w (some ⟨b,o+n,none⟩) (l.drop n):=by
 refine⟨h.row.drop n,?_⟩;rcases h.safe with rfl|⟨b',o',he,hs⟩;exact ack ai;injection he with he;injection he with hb ho;subst hb ho;exact acm ⟨b,o+n,rfl,hs⟩
def Own.Db {base':Nat}{v:acK}(h:Own w base' v l)(hs:∀x∈l,x<256):∃a c,v=aco a l.length c/\dx aA w a l/\l.length<=c/\c<=maxLen/\(l=[]\/a≠none):=by
 have h':=h;rcases h'.2 with⟨rfl,h0⟩|⟨g,cap,cur,rfl,_,hg,hnc,hcm,_⟩;have:l=[]:=aaY h0;subst this;exact⟨none,0,rfl,dx.nil _ _ _,aj,aaW _,ack rfl⟩;obtain⟨a,c,hv,hr,hc⟩:=h.row hs;injection hv with h1 _ h3;subst h1 h3;exact⟨_,cap,rfl,⟨hr,acm ⟨g,0,rfl,Safe.byte hg⟩⟩,hnc,hcm,acm ai⟩
def kY (w:acL)(t:acO)(size g n c:Nat)(xs:List acK):Prop:=w.ownsRow 0 t size (aco (some ⟨g,0,none⟩) n c) n xs
section
variable{t t':acO}{size size' g g' n n' c c':Nat}{xs xs':List acK}
def kY.blk (h:kY w t size g n c xs):∃cur,aD w g t cur/\n<=c/\c<=maxLen/\cur.size=c*size/\cur.toList.take (n*size)=xs:=by
 rcases h.2 with⟨h1,_⟩|⟨g',cap,cur,hv,_,hb,h1,h2,h3,h4⟩;cases h1;injection hv with hv _ hc;injection hv with hv;injection hv with hv;subst hv hc;exact⟨cur,hb,h1,h2,h3,h4⟩
def kY.lt (h:kY w t size g n c xs):g<w.heap.size:=by
 obtain⟨cur,hb,_⟩:=h.blk;exact hb.lt
def kY.cell (h:kY w t size g n c xs)(hj:j<n*size):w.cell? ⟨g,j,none⟩=xs[j]?:=acL.ownsRow.cellAt h j hj
def kY.frozen (h:kY w t size g n c xs)(j:Nat):w.frozen? ⟨g,j,none⟩=false:=acL.ownsRow.frozenAt h j
def kY.set (h:kY w t size g n c xs)(j:Nat)(u:acK):kY (w.setCell ⟨g,j,none⟩ u) t size g n c (xs.set j u):=(acL.ownsRow.stored h j u).1
def kY.aJ (h:kY w t size g n c xs)(q:aP F w w')(hn:¬F g):kY w' t size g n c xs:=by
 refine⟨h.1,?_⟩;rcases h.2 with h1|⟨g',cap,cur,hv,hb,hg,h1⟩;exact ack h1;have e:=hv;injection e with e _ _;injection e with e;injection e with e;subst e;exact acm ⟨_,cap,cur,hv,hb,(q.block _ h.lt hn).trans hg,h1⟩
def kY.far (h:kY w t size g n c xs){p:acM}(hp:g≠p.block)(u:acK):kY (w.setCell p u) t size g n c xs :=
 h.aJ (F:=λk=>k=p.block) (aP.set (F:=λk=>k=p.block) w (p:=p) rfl u) hp
def kY.old (h:kY w t size g n c xs)(q:acN w.heap.size w w'):kY w' t size g n c xs:=h.aJ (F:=λ_=>False) (aP.of_below q) (λe=>e)
def kY.ne (h:kY w t size g n c xs)(h':kY w t' size' g' n' c' xs')(ht:t≠t'):g≠g':=by
 intro e;subst e;obtain⟨cur,hb,_⟩:=h.blk;obtain⟨cur',hb',_⟩:=h'.blk;unfold aD at hb hb';rw[hb]at hb';injection hb' with hb';injection hb' with _ hb';exact ht hb'
def kY.dM (h:kY w t size g n c xs){cs:Array acK}(h':aD w g' t' cs)(ht:t≠t'):g≠g':=by
 intro e;subst e;obtain⟨cur,hb,_⟩:=h.blk;unfold aD at hb h';rw[hb]at h';injection h' with h';injection h' with _ h';exact ht h'
def kY.lit (w:acL)(t:acO)(size n:Nat)(cs:Array acK)(hm:n<=maxLen)(hs:cs.size=n*size):kY (w.alloc (ach cs t)) t size w.heap.size n n cs.toList :=
 acL.ownsRow_lit w cs n (aaW _) hm hs
def kY.Rm {v:acK}{m:Nat}(h:w.ownsRow aA t size v m xs)(hm:0<m):∃g c,v=aco (some ⟨g,0,none⟩) m c/\kY w t size g m c xs/\aA<=g:=by
 rcases h.2 with⟨_,h0⟩|⟨g,cap,cur,rfl,hb,h1⟩;omega;exact⟨g,cap,rfl,⟨h.1,acm ⟨g,cap,cur,rfl,aaW _,h1⟩⟩,hb⟩
end
variable{α:Type}{f:α->List acK}{m:Nat}
def flat_length (hf:∀x,(f x).length=m):∀l:List α,(l.flatMap f).length=l.length*m
 |[]=>ai
 |x::l=>by rw[aaQ,List.length_append,hf,flat_length hf l,List.length_cons,Nat.add_mul];omega
def flat_get (hf:∀x,(f x).length=m)(d:α):∀(l:List α) (i j:Nat),i<l.length->j<m->(l.flatMap f)[i*m+j]?=(f (l.getD i d))[j]?
 |x::l,0,j,_,hj=>by
  rw[aaQ,Nat.zero_mul,abU,aa9 (by rw[hf];exact hj)]
  rfl
 |x::l,i+1,j,hi,hj=>by
  rw[aaQ,List.getElem?_append_right (by rw[hf,Nat.add_mul];omega),hf]
  have:=flat_get hf d l i j (by simpa using hi) hj
  rw[show (i+1)*m+j-m=i*m+j by rw[Nat.add_mul];omega,this]
  rfl
def flat_set (hf:∀x,(f x).length=m)(d:α):∀(l:List α) (i j:Nat) (y:α) (u:acK),i<l.length->j<m->f y=(f (l.getD i d)).set j u->(l.flatMap f).set (i*m+j) u=(l.set i y).flatMap f
 |x::l,0,j,y,u,_,hj,h=>by
  rw[aaQ,Nat.zero_mul,abU,List.set_append_left _ _ (by rw[hf];exact hj),List.set_cons_zero,aaQ,h]
  rfl
 |x::l,i+1,j,y,u,hi,hj,h=>by
  rw[aaQ,List.set_append_right _ _ (by rw[hf,Nat.add_mul];omega),hf,List.set_cons_succ,aaQ]
  rw[show (i+1)*m+j-m=i*m+j by rw[Nat.add_mul];omega,flat_set hf d l i j y u (by simpa using hi) hj h]
structure sD where
 a:Option acM
 l:List Nat
 c:Nat
instance:Inhabited sD:=⟨⟨none,[],0⟩⟩
abbrev sD.v (p:sD):acK:=aco p.a p.l.length p.c
structure sD.ok (aA:Nat)(w:acL)(p:sD):Prop where
 row:dx aA w p.a p.l
 len:p.l.length<=p.c
 cap:p.c<=maxLen
 nil:p.l=[]->p=⟨none,[],0⟩
def sD.ok.some {p:sD}(h:p.ok aA w)(hl:p.l≠[]):∃b o,p.a=some ⟨b,o,none⟩:=by
 rcases h.row.row.at_ with h|⟨b,o,h,_⟩;exact absurd h hl;exact⟨b,o,h⟩
def sD.ok.aJ {p:sD}(h:p.ok aA w)(q:aP F w w')(hF:∀k,F k->Mine aA w k):p.ok aA w':=⟨h.row.aJ q hF,h.len,h.cap,h.nil⟩
def sD.ok.none (aA:Nat)(w:acL):(⟨.none,[],0⟩:sD).ok aA w:=⟨dx.nil _ _ _,aj,aaW _,λ_=>rfl⟩
structure eG where
 g:Nat
 c:Nat
 ps:List sD
 next:Nat
 broken:Bool
 bad:Bool
 eF:Int
instance:Inhabited eG:=⟨⟨0,0,[],0,false,false,0⟩⟩
abbrev eG.cells (x:eG):List acK:=[aco (some ⟨x.g,0,none⟩) x.ps.length x.c,vi x.next,acg x.broken,acg x.bad,vi x.eF]
def eG.view (x:eG):NP.NZ:=⟨x.ps.map (·.l),x.next,x.broken,x.bad,x.eF⟩
structure tY where
 at_:Int
 aL:Int
 a:Option acM
 l:List Nat
 c:Nat
instance:Inhabited tY:=⟨⟨0,0,none,[],0⟩⟩
abbrev tY.cs (f:tY):Array acK:=#[vi f.at_,vi f.aL,aco f.a f.l.length f.c]
def tY.view (f:tY):NP.Rh:=⟨f.at_,f.aL,f.l⟩
structure uM (aA:Nat)(w:acL)(a:Option acM)(fs:List tY):Prop where
 at_:fs=[]\/∃b o,a=some ⟨b,o,none⟩/\Safe 186 aA w b/\∀i,i<fs.length->∀j u,(fs.getD i default).cs[j]?=some u->w.cell? ⟨b,o+i*3+j,none⟩=some u
 data:∀f∈fs,dx aA w f.a f.l/\f.l.length<=f.c/\f.c<=maxLen
 len:fs.length<=maxLen
def uM.nil (aA:Nat)(w:acL)(a:Option acM):uM aA w a []:=⟨ack rfl,by simp,by decide⟩
def uM.aJ {fs:List tY}(h:uM aA w a fs)(q:aP F w w')(hF:∀k,F k->Mine aA w k):uM aA w' a fs:=by
 refine⟨?_,λf hf=>⟨(h.data f hf).1.aJ q hF,(h.data f hf).2⟩,h.len⟩;rcases h.at_ with h0|⟨b,o,rfl,hs,h1⟩;exact ack h0;exact acm ⟨b,o,rfl,hs.aJ q hF,λi hi j u hu=>q.cell (h1 i hi j u hu) (λe=>hs.no (hF b e))⟩
def bL {l:List α}{d:α}(h:i<l.length):l.getD i d∈l:=NP.bL h
def uM.lookup {fs:List tY}(h:uM aA w a fs){k:Nat}(hk:k<fs.length):∃b o,a=some ⟨b,o,none⟩ /\
  (∀j u,(fs.getD k default).cs[j]?=some u->w.cell? ⟨b,o+k*3+j,none⟩=some u)/\dx aA w (fs.getD k default).a (fs.getD k default).l/\(fs.getD k default).l.length<=(fs.getD k default).c/\(fs.getD k default).c<=maxLen:=by
 rcases h.at_ with rfl|⟨b,o,rfl,_,h1⟩;simp at hk;exact⟨b,o,rfl,h1 k hk,h.data _ (bL hk)⟩
structure dA where
 B:Nat
 P:Nat
 S:Nat
 kb:Nat
 kc:Nat
 bs:List eG
 fa:Option acM
 fs:List tY
 fc:Nat
 since:Int
 down:Bool
 dQ:Int
 reads:Int
abbrev dA.cs (M:dA):Array acK:=#[vi M.B,vi M.P,vi M.S,aco (some ⟨M.kb,0,none⟩) M.bs.length M.kc,aco M.fa M.fs.length M.fc,vi M.since,acg M.down,vi M.dQ,vi M.reads]
def dA.view (M:dA):NP.bX:=⟨M.B,M.P,M.S,M.bs.map (·.view),M.fs.map (·.view),M.since,M.down,M.dQ,M.reads⟩
def dA.foot (M:dA)(k n:Nat):Prop:=n=k\/n=M.kb\/n∈M.bs.map (·.g)
structure aT (aA:Nat)(w:acL)(k:Nat)(M:dA):Prop where
 aW:aD w k 144 M.cs
 blocks:kY w 140 5 M.kb M.bs.length M.kc (M.bs.flatMap eG.cells)
 pages:∀x∈M.bs,kY w 23 1 x.g x.ps.length x.c (x.ps.map (·.v))
 nodup:(M.bs.map (·.g)).Nodup
 rows:∀x∈M.bs,∀p∈x.ps,p.ok aA w
 faults:uM aA w M.fa M.fs
 low:∀n,M.foot k n->aA<=n
variable{aA:Nat}{k:Nat}{M:dA}
def aT.Mw (h:aT aA w k M):M.kb≠k:=h.blocks.dM h.aW ag
def aT.EN (h:aT aA w k M){x:eG}(hx:x∈M.bs):x.g≠k/\x.g≠M.kb:=⟨(h.pages x hx).dM h.aW ag,(h.pages x hx).ne h.blocks ag⟩
def aT.mine (h:aT aA w k M):∀n,M.foot k n->Mine aA w n:=by
 intro n hn;refine⟨h.low n hn,?_⟩;rcases hn with rfl|rfl|hn;exact⟨_,_,ag,h.aW⟩;obtain⟨cur,hb,_⟩:=h.blocks.blk;exact⟨_,cur,ag,hb⟩;obtain⟨x,hx,rfl⟩:=aay.1 hn;obtain⟨cur,hb,_⟩:=(h.pages x hx).blk;exact⟨_,cur,ag,hb⟩
def aT.cells (h:aT aA w k M):w.cell? ⟨k,0,none⟩=some (vi M.B)/\w.cell? ⟨k,1,none⟩=some (vi M.P)/\w.cell? ⟨k,2,none⟩=some (vi M.S)/\w.cell? ⟨k,3,none⟩=some (aco (some ⟨M.kb,0,none⟩) M.bs.length M.kc) /\
  w.cell? ⟨k,4,none⟩=some (aco M.fa M.fs.length M.fc)/\w.cell? ⟨k,5,none⟩=some (vi M.since)/\w.cell? ⟨k,6,none⟩=some (acg M.down)/\w.cell? ⟨k,7,none⟩=some (vi M.dQ)/\w.cell? ⟨k,8,none⟩=some (vi M.reads) :=
 ⟨h.aW.cell 0,h.aW.cell 1,h.aW.cell 2,h.aW.cell 3,h.aW.cell 4,h.aW.cell 5,h.aW.cell 6,h.aW.cell 7,h.aW.cell 8⟩
def aT.aJ (h:aT aA w k M)(q:aP F w w')(hF:∀n,F n->Mine aA w n)(hn:∀n,M.foot k n->¬F n):aT aA w' k M :=
 ⟨h.aW.aJ q (hn _ (ack rfl)),h.blocks.aJ q (hn _ (acm (ack rfl))),λx hx=>(h.pages x hx).aJ q (hn _ (acm (acm (List.mem_map_of_mem hx)))),h.nodup,
  λx hx p hp=>(h.rows x hx p hp).aJ q hF,h.faults.aJ q hF,h.low⟩
def aT.old (h:aT aA w k M)(q:acN w.heap.size w w'):aT aA w' k M:=h.aJ (F:=λ_=>False) (aP.of_below q) (λ_ e=>e.elim) (λ_ _ e=>e)
structure Goes (aA:Nat)(w:acL)(k:Nat)(M:dA)(w':acL)(M':dA):Prop where
 at_:aT aA w' k M'
 aJ:aP (M.foot k) w w'
 foot:∀n,M'.foot k n->M.foot k n\/w.heap.size<=n
def Goes.refl (h:aT aA w k M):Goes aA w k M w M:=⟨h,aP.refl _ _,λ_ h=>ack h⟩
variable{M':dA}
def Goes.trans {M'':dA}(h:Goes aA w k M w' M')(q:Goes aA w' k M' w'' M''):Goes aA w k M w'' M'':=by
 refine⟨q.at_,h.aJ.trans q.aJ λn hn e=>?_,λn hn=>?_⟩;rcases h.foot n e with h1|h1;exact h1;omega;rcases q.foot n hn with h1|h1;exact h.foot n h1;exact acm (abX h.aJ.size h1)
def Goes.old (h:Goes aA w k M w' M')(q:acN w'.heap.size w' w''):Goes aA w k M w'' M':=⟨h.at_.old q,h.aJ.below q,h.foot⟩
def Goes.aX (h:aT aA w k M)(q:acN w.heap.size w w'):Goes aA w k M w' M:=(Goes.refl h).old q
def Goes.size (h:Goes aA w k M w' M'):w.heap.size<=w'.heap.size:=h.aJ.size
def aT.field (h:aT aA w k M)(j:Nat)(v:acK)(hc:M'.cs=M.cs.setIfInBounds j v)(h1:M'.kb=M.kb)(h2:M'.kc=M.kc)(h3:M'.bs=M.bs)(hf:uM aA w M'.fa M'.fs):Goes aA w k M (w.setCell ⟨k,j,none⟩ v) M':=by
 have hq:aP (M.foot k) w (w.setCell ⟨k,j,none⟩ v):=aP.set w (p:=⟨k,j,none⟩) (ack rfl) v;refine⟨⟨?_,?_,?_,?_,?_,hf.aJ hq h.mine,?_⟩,hq,?_⟩;rw[hc];exact h.aW.bB j v;rw[h1,h2,h3];exact h.blocks.far (p:=⟨k,j,none⟩) h.Mw v;rw[h3];exact λx hx=>(h.pages x hx).far (p:=⟨k,j,none⟩) (h.EN hx).1 v;rw[h3];exact h.nodup;rw[h3];exact λx hx p hp=>(h.rows x hx p hp).aJ hq h.mine;intro n hn;exact h.low n (by unfold dA.foot at hn ⊢;rw[h1,h3]at hn;exact hn);intro n hn;exact ack (by unfold dA.foot at hn ⊢;rw[h1,h3]at hn;exact hn)
def aT.fields (h:aT aA w k M)(q:aP (λn=>n=k) w w')(hb:aD w' k 144 M'.cs)(h1:M'.kb=M.kb)(h2:M'.kc=M.kc)(h3:M'.bs=M.bs)(hf:M'.fa=M.fa/\M'.fs=M.fs):Goes aA w k M w' M':=by
 have hF:∀n,n=k->Mine aA w n:=λn e=>h.mine n (ack e)
 refine⟨⟨hb,?_,?_,?_,?_,?_,?_⟩,q.mono (λn _ e=>ack e),?_⟩;rw[h1,h2,h3];exact h.blocks.aJ q h.Mw;rw[h3];exact λx hx=>(h.pages x hx).aJ q (h.EN hx).1;rw[h3];exact h.nodup;rw[h3];exact λx hx p hp=>(h.rows x hx p hp).aJ q hF;rw[hf.1,hf.2];exact h.faults.aJ q hF;intro n hn;exact h.low n (by unfold dA.foot at hn ⊢;rw[h1,h3]at hn;exact hn);intro n hn;exact ack (by unfold dA.foot at hn ⊢;rw[h1,h3]at hn;exact hn)
def eG.jq (x:eG):x.cells.length=5:=rfl
def aT.iG (h:aT aA w k M)(hi:i<M.bs.length)(hj:j<5):w.cell? ⟨M.kb,i*5+j,none⟩=(M.bs.getD i default).cells[j]?:=by
 rw[h.blocks.cell aa,flat_get eG.jq default _ _ _ hi hj]
def aT.Hq (h:aT aA w k M){p:Nat}(hi:i<M.bs.length)(hp:p<(M.bs.getD i default).ps.length):w.cell? ⟨(M.bs.getD i default).g,p,none⟩=some ((M.bs.getD i default).ps.getD p default).v:=by
 rw[(h.pages _ (bL hi)).cell aa,List.getElem?_map,aah (l:=(M.bs.getD i default).ps),aaj hp];rfl
variable{l:List eG}{y:eG}
def DV (hy:y.g=(l.getD i default).g):(l.set i y).map (·.g)=l.map (·.g):=by
 rw[List.map_set];apply abA;intro n;rw[aa6];split;rename_i h;subst h;split;rename_i h2;have h3:i<l.length:=by simpa using h2
 rw[List.getElem?_map,aaj h3,hy,aah,aaj h3];rfl;rename_i h2;rw[List.getElem?_eq_none (by simpa using h2)];rfl
def aT.Ag (h:aT aA w k M)(hi:i<M.bs.length)(hj:j<5)(v:acK)(y:eG)(hy:y.cells=(M.bs.getD i default).cells.set j v)(hg:y.g=(M.bs.getD i default).g)(hp:y.ps=(M.bs.getD i default).ps)(hc:y.c=(M.bs.getD i default).c) :
  Goes aA w k M (w.setCell ⟨M.kb,i*5+j,none⟩ v) {M with bs:=M.bs.set i y}:=by
 have hq:aP (M.foot k) w (w.setCell ⟨M.kb,i*5+j,none⟩ v):=aP.set w (p:=⟨M.kb,i*5+j,none⟩) (acm (ack rfl)) v;have hm:∀x∈M.bs.set i y,x=y\/x∈M.bs:=λx hx=>(aat hx).symm
 have V3:=DV hg;have hD:=bL (d:=default) hi;refine⟨⟨?_,?_,?_,?_,?_,h.faults.aJ hq h.mine,?_⟩,hq,?_⟩;have:=h.aW.far (p:=⟨M.kb,i*5+j,none⟩) h.Mw.symm v;simpa[dA.cs] using this;dsimp only;rw[abZ,<-flat_set eG.jq default _ _ _ y v hi hj hy];exact h.blocks.set _ v;intro x hx;rcases hm x hx with rfl|hx;rw[hp,hg,hc];exact(h.pages _ hD).far (p:=⟨M.kb,i*5+j,none⟩) (h.EN hD).2 v;exact(h.pages x hx).far (p:=⟨M.kb,i*5+j,none⟩) (h.EN hx).2 v;dsimp only;rw[V3];exact h.nodup;intro x hx p hpx;rcases hm x hx with rfl|hx;rw[hp]at hpx;exact(h.rows _ hD p hpx).aJ hq h.mine
 exact(h.rows x hx p hpx).aJ hq h.mine;intro n hn;exact h.low n (by unfold dA.foot at hn ⊢;dsimp only at hn;rw[V3]at hn;exact hn);intro n hn;exact ack (by unfold dA.foot at hn ⊢;dsimp only at hn;rw[V3]at hn;exact hn)
def nM {x:eG}(hx:x∈l.set i y):x=y\/∃n,n≠i/\n<l.length/\x=l.getD n default:=by
 obtain⟨n,hn,rfl⟩:=List.mem_iff_getElem.1 hx;have hn':n<l.length:=by simpa using hn
 by_cases e:n=i;subst e;exact ack ai;refine acm ⟨n,e,hn',?_⟩;rw[List.getElem_set_ne (λh=>e h.symm),aah,aaj hn'];rfl
def Rn (h:(l.map (·.g)).Nodup)(hi:i<l.length)(hn:n<l.length)(hne:n≠i):(l.getD n default).g≠(l.getD i default).g:=by
 intro e;simp only[aah,aaj hi,aaj hn,Option.getD_some]at e;have hp:=List.pairwise_iff_getElem.1 h;rcases Nat.lt_or_gt_of_ne hne with h1|h1;exact hp n i (by simpa using hn) (by simpa using hi) h1 (by simpa using e);exact hp i n (by simpa using hi) (by simpa using hn) h1 (by simpa using e.symm)
def aT.aB (h:aT aA w k M){p:Nat}(hi:i<M.bs.length)(q:sD)(hq:q.ok aA w) :
  Goes aA w k M (w.setCell ⟨(M.bs.getD i default).g,p,none⟩ q.v) {M with bs:=M.bs.set i {M.bs.getD i default with ps:=(M.bs.getD i default).ps.set p q}}:=by
 have hD:=bL (d:=default) hi;have hf:M.foot k (M.bs.getD i default).g:=acm (acm (List.mem_map_of_mem hD));have hch:aP (M.foot k) w (w.setCell ⟨(M.bs.getD i default).g,p,none⟩ q.v):=aP.set w (p:=⟨(M.bs.getD i default).g,p,none⟩) hf _;have V3:=DV (l:=M.bs) (i:=i) (y:={M.bs.getD i default with ps:=(M.bs.getD i default).ps.set p q}) rfl;have hset:M.bs.flatMap eG.cells=(M.bs.set i {M.bs.getD i default with ps:=(M.bs.getD i default).ps.set p q}).flatMap eG.cells:=by
  have:=flat_set eG.jq default M.bs i 0 {M.bs.getD i default with ps:=(M.bs.getD i default).ps.set p q} (M.bs.getD i default).cells[0] hi ag ai;rw[<-this];have h0:=flat_get eG.jq default M.bs i 0 hi ag;apply abA;intro n;rw[aa6];split;rename_i e;subst e;rw[h0];split;rfl;rename_i hlt;rw[flat_length eG.jq]at hlt;exact absurd aa hlt;rfl
 refine⟨⟨?_,?_,?_,?_,?_,h.faults.aJ hch h.mine,?_⟩,hch,?_⟩;have:=h.aW.far (p:=⟨(M.bs.getD i default).g,p,none⟩) (h.EN hD).1.symm q.v;simpa[dA.cs] using this;dsimp only;rw[abZ,<-hset];exact h.blocks.far (p:=⟨(M.bs.getD i default).g,p,none⟩) (h.EN hD).2.symm _;intro x hx;rcases nM hx with rfl|⟨n,hne,hn,rfl⟩;dsimp only;rw[abZ,List.map_set];exact(h.pages _ hD).set p q.v;exact(h.pages _ (bL hn)).far (p:=⟨(M.bs.getD i default).g,p,none⟩) (Rn h.nodup hi hn hne) _;dsimp only;rw[V3];exact h.nodup;intro x hx z hz;rcases (aat hx).symm with rfl|hx
 rcases aat hz with hz|rfl;exact(h.rows _ hD z hz).aJ hch h.mine;exact hq.aJ hch h.mine;exact(h.rows x hx z hz).aJ hch h.mine;intro n hn;exact h.low n (by unfold dA.foot at hn ⊢;dsimp only at hn;rw[V3]at hn;exact hn);intro n hn;exact ack (by unfold dA.foot at hn ⊢;dsimp only at hn;rw[V3]at hn;exact hn)
open MapKept
open ChangeMaps (setBlock heap_setBlock_same heap_setBlock_other)
abbrev Mp (α:Type):=List (Int×α)
namespace MP
def get:Mp α->Int->Option α
 |[],_=>none
 |x::m,k=>if x.1=k then some x.2 else get m k
def put:Mp α->Int->α->Mp α
 |[],k,v=>[(k,v)]
 |x::m,k,v=>if k<x.1 then (k,v)::x::m else if k=x.1 then (k,v)::m else x::put m k v
def del:Mp α->Int->Mp α
 |[],_=>[]
 |x::m,k=>if x.1=k then m else x::del m k
def has (m:Mp α)(k:Int):Bool:=(get m k).isSome
def Ok (m:Mp α):Prop:=m.Pairwise (λx y=>x.1<y.1)
def EO:Ok ([]:Mp α):=List.Pairwise.nil
variable{m:Mp α}{k:Int}
def get_none :get m k=none↔∀x∈m,x.1≠k:=by
 induction m with
 |nil=>simp[get]
 |cons x m ih =>
  unfold get;split;rename_i h;simp[h];rename_i h;rw[ih];simp[h]
def get_mem {v:α}(h:get m k=some v):(k,v)∈m:=by
 induction m with
 |nil=>simp[get]at h
 |cons x m ih =>
  unfold get at h;split at h;rename_i e;cases h;subst e;simp;exact List.mem_cons_of_mem _ (ih h)
def dR (ok:Ok m){x:Int×α}(h:x∈m):get m x.1=some x.2:=by
 induction m with
 |nil=>simp at h
 |cons y m ih =>
  obtain⟨h1,h2⟩:=aaL.1 ok;unfold get;rcases aaI.1 h with rfl|h;simp;rw[if_neg (by have:=h1 x h;omega)];exact ih h2 h
def Mx {v:α}{y:Int×α}(h:y∈put m k v):y=(k,v)\/y∈m:=by
 induction m with
 |nil=>simpa[put] using h
 |cons x m ih =>
  unfold put at h;split at h;simpa using h;split at h;rcases aaI.1 h with h|h;exact ack h;exact acm (List.mem_cons_of_mem _ h);rcases aaI.1 h with h|h;exact acm (by rw[h];simp);rcases ih h with h|h;exact ack h;exact acm (List.mem_cons_of_mem _ h)
def iJ (ok:Ok m)(k:Int)(v:α):Ok (put m k v):=by
 induction m with
 |nil=>exact List.pairwise_singleton _ _
 |cons x m ih =>
  obtain⟨h1,h2⟩:=aaL.1 ok;unfold put;split;rename_i h;exact aaL.2 ⟨λy hy=>by
   rcases aaI.1 hy with rfl|hy
   exact h
   have:=h1 y hy;dsimp only;omega,ok⟩
  split;rename_i h;exact aaL.2 ⟨λy hy=>by have:=h1 y hy;dsimp only;omega,h2⟩;exact aaL.2 ⟨λy hy=>by
   rcases Mx hy with rfl|hy
   dsimp only;omega
   exact h1 y hy,ih h2⟩
def EP (m:Mp α)(k:Int):(del m k).Sublist m:=by
 induction m with
 |nil=>exact List.Sublist.refl _
 |cons x m ih =>
  unfold del;split;exact List.sublist_cons_self _ _;exact ih.cons_cons x
def jc (ok:Ok m)(k:Int):Ok (del m k):=ok.sublist (EP m k)
def qR (h:get m k=none):del m k=m:=by
 induction m with
 |nil=>rfl
 |cons x m ih =>
  unfold get at h;unfold del;split at h;cases h;rename_i e;rw[if_neg e,ih h]
def fO {v:α}(h:get m k=some v):m.Perm ((k,v)::del m k):=by
 induction m with
 |nil=>simp[get]at h
 |cons x m ih =>
  unfold get at h;unfold del;split at h;rename_i e;cases h;subst e;rw[if_pos rfl]
  ·rename_i e;rw[if_neg e];exact((ih h).cons x).trans (abx _ _ _)
def qU (ok:Ok m)(k:Int)(v:α):(put m k v).Perm ((k,v)::del m k):=by
 induction m with
 |nil=>exact List.Perm.refl _
 |cons x m ih =>
  obtain⟨h1,h2⟩:=aaL.1 ok;unfold put del;split;rename_i h;rw[if_neg aa,qR (get_none.2 (λy hy=>by have:=h1 y hy;omega))]
  ·split;rename_i h;rw[if_pos h.symm]
   ·rename_i h _;rw[if_neg aa];exact((ih h2).cons x).trans (abx _ _ _)
def get_put (m:Mp α)(k:Int)(v:α)(j:Int):get (put m k v) j=if k=j then some v else get m j:=by
 induction m with
 |nil=>simp[put,get]
 |cons x m ih =>
  unfold put;split;simp[get];split;rename_i h;subst h;simp only[get];split<;>rfl;rename_i h1 h2;simp only[get,ih];split;rename_i h;rw[if_neg aa];rfl
def dO (ok:Ok m)(k j:Int):get (del m k) j=if k=j then none else get m j:=by
 induction m with
 |nil=>simp[del,get]
 |cons x m ih =>
  obtain⟨h1,h2⟩:=aaL.1 ok;unfold del;split;rename_i h;by_cases e:k=j;rw[if_pos e];exact get_none.2 (λy hy=>by have:=h1 y hy;omega);rw[if_neg e];simp only[get];rw[if_neg aa];rename_i h;simp only[get,ih h2];split;rename_i e;rw[if_neg aa];rfl
def ext {n:Mp α}(hm:Ok m)(hn:Ok n)(h:∀k,get m k=get n k):m=n:=by
 have hp:∀x,x∈m↔x∈n:=λx=>⟨λhx=>get_mem (by rw[<-h,dR hm hx]),λhx=>get_mem (by rw[h,dR hn hx])⟩
 refine List.Perm.eq_of_pairwise (le:=λ(x y:Int×α)=>x.1<y.1) (λx y _ _ h1 h2=>aa) hm hn ?_;exact(List.perm_ext_iff_of_nodup (hm.imp (λ{x y} h e=>by rw[e]at h;exact Int.lt_irrefl _ h)) (hn.imp (λ{x y} h e=>by rw[e]at h;exact Int.lt_irrefl _ h))).2 hp
def o8 {v:α}(h:get m k=some v):(del m k).length+1=m.length:=by simpa using (fO h).length_eq.symm
end MP
def qC (es:Array acT):List (acK×acK):=es.toList.map λe=>(e.key,e.val)
section
def encs (K:acS)(enc:α->acK)(m:Mp α):List (acK×acK):=m.map λx=>(.int K x.1,enc x.2)
def bz (w:acL)(b:Nat)(K:acS)(enc:α->acK)(m:Mp α):Prop :=
 ∃es bA,w.heap[b]?=some (.map es bA)/\(qC es).Perm (encs K enc m)/\MP.Ok m/\(es.toList.map (·.born)).Nodup/\∀e∈es.toList,e.born<bA
def gL (w:acL)(r b:Nat)(K:acS)(enc:α->acK)(left:Mp α):Prop :=
 ∃es bA since seen c0,w.heap[b]?=some (.map es bA)/\w.heap[r]?=some (.mapIter (some b) since seen c0)/\(∀e∈es.toList,e.born<since)/\since<=c0/\since<=bA/\(es.toList.map (·.born)).Nodup /\
  (qC (leftOf es seen)).Perm (encs K enc left)/\MP.Ok left
variable{b r:Nat}{K:acS}{enc:α->acK}{m left:Mp α}{P:Program}{t k e:acO}
def bz.ok (h:bz w b K enc m):MP.Ok m:=by obtain⟨_,_,_,_,h,_⟩:=h;exact h
def bz.lt (h:bz w b K enc m):b<w.heap.size:=by
 obtain⟨_,_,h,_⟩:=h;exact(aaz.1 h).1
def bz.dM (h:bz w b K enc m){cs:Array acK}(hg:aD w g t cs):b≠g:=by
 intro e;obtain⟨_,_,h,_⟩:=h;unfold aD at hg;rw[e,hg]at h;cases h
def bz.of_heap (h:bz w b K enc m)(q:w'.heap[b]?=w.heap[b]?):bz w' b K enc m:=by
 obtain⟨es,c,h1,h2⟩:=h;exact⟨es,c,q.trans h1,h2⟩
def bz.aJ (h:bz w b K enc m)(q:aP F w w')(hn:¬F b):bz w' b K enc m:=h.of_heap (q.block b h.lt hn)
def bz.old (h:bz w b K enc m)(q:acN w.heap.size w w'):bz w' b K enc m:=h.of_heap (q.block b h.lt)
def bz.alloc (h:bz w b K enc m)(o:Obj):bz (w.alloc o) b K enc m:=h.old ax
def bz.made (w:acL)(K:acS)(enc:α->acK):bz (w.alloc (.map #[] 0)) w.heap.size K enc [] :=
 ⟨#[],0,(heap_alloc w _).1,List.Perm.refl _,MP.EO,ai,ai⟩
variable{es:Array acT}
def MB (h:(qC es).Perm (encs K enc m)):∀x∈es.toList,∃y∈m,x.key=.int K y.1/\x.val=enc y.2:=by
 intro x hx;have:(x.key,x.val)∈encs K enc m:=h.subset (aay.2 ⟨x,hx,rfl⟩);obtain⟨y,hy,e⟩:=aay.1 this;injection e with e1 e2;exact⟨y,hy,e1.symm,e2.symm⟩
def Ro (h:(qC es).Perm (encs K enc m)):∀x∈es.toList,IsKey (.int K) x.key:=by
 intro x hx;obtain⟨y,_,e,_⟩:=MB h x hx;rw[e];simp[IsKey]
def find_of (h:(qC es).Perm (encs K enc m))(ok:MP.Ok m)(j:Int) :
  (MP.get m j=none/\Instr.findNow (.int K) (.int K j) es.toList 0=some none)\/∃i x v,MP.get m j=some v/\Instr.findNow (.int K) (.int K j) es.toList 0=some (some (i,enc v))/\es.toList[i]?=some x/\x.key=.int K j/\x.val=enc v:=by
 rcases findNow_spec (d:=.int K) (k:=.int K j) (by simp[IsKey]) es.toList 0 (Ro h) with⟨h1,h2⟩|⟨i,x,h1,h2,h3⟩;refine ack ⟨MP.get_none.2 λy hy e=>?_,h1⟩;have:((.int K y.1:acK),enc y.2)∈qC es:=h.symm.subset (aay.2 ⟨y,hy,rfl⟩);obtain⟨x,hx,e2⟩:=aay.1 this;injection e2 with e2;exact h2 x hx (by rw[e2,e]);obtain⟨y,hy,e1,e2⟩:=MB h x (aa8 h2);have e3:y.1=j:=by rw[e1]at h3;injection h3
 have hg:=MP.dR ok hy;rw[e3]at hg;rw[abU,e2]at h1;exact acm ⟨i,x,y.2,hg,h1,h2,h3,e2⟩
def Hr {x:acT}(h:es.toList[i]?=some x):(qC es)[i]?=some (x.key,x.val):=by simp[qC,h]
def Ah {β:Type}{l:List β}{x:β}(h:l[i]?=some x):l.Perm (x::l.eraseIdx i):=by
 induction l generalizing i with
 |nil=>simp at h
 |cons y l ih =>
  cases i with
  |zero=>simp at h;subst h;simp
  |succ i=>simp at h;exact((ih h).cons y).trans (abx _ _ _)
def Rp {β:Type}{l:List β}{x y:β}(h:l[i]?=some x):(l.set i y).Perm (y::l.eraseIdx i):=by
 induction l generalizing i with
 |nil=>simp at h
 |cons z l ih =>
  cases i with
  |zero=>simp
  |succ i=>simp at h;exact((ih h).cons z).trans (abx _ _ _)
def bz.sF (h:bz w b K enc m)(ht:P.underlying t=some (.map k e))(hk:P.underlying k=some (.int K)){z:acK}(hz:(zeroValue e).run P w=.ok z w)(j:Int) :
  (abw t (.map (some b)) (.int K j) true).run P w=.ok (.tuple #[((MP.get m j).map enc).getD z,.bool (MP.has m j)]) w:=by
 obtain⟨es,bA,hb,hp,ok,_⟩:=h;have hc:=run_checkKey (P:=P) (w:=w) (k:=.int K j) hk (by simp[IsKey]) es.isEmpty 9999;rcases find_of hp ok j with⟨h1,h2⟩|⟨i,x,v,h1,h2,_⟩;simp[abw,acQ ht,aav hb,hc,acU hk h2,hz,h1,MP.has,aax];simp[abw,acQ ht,aav hb,hc,acU hk h2,h1,MP.has,aax]
def bz.lookup (h:bz w b K enc m)(ht:P.underlying t=some (.map k e))(hk:P.underlying k=some (.int K)){z:acK}(hz:(zeroValue e).run P w=.ok z w)(j:Int) :
  (abw t (.map (some b)) (.int K j) false).run P w=.ok (((MP.get m j).map enc).getD z) w:=by
 obtain⟨es,bA,hb,hp,ok,_⟩:=h;have hc:=run_checkKey (P:=P) (w:=w) (k:=.int K j) hk (by simp[IsKey]) es.isEmpty 9999;rcases find_of hp ok j with⟨h1,h2⟩|⟨i,x,v,h1,h2,_⟩;simp[abw,acQ ht,aav hb,hc,acU hk h2,hz,h1,aax];simp[abw,acQ ht,aav hb,hc,acU hk h2,h1,aax]
def bz.len (h:bz w b K enc m)(ht:P.underlying t=some (.map k e))(ty:acO):(Builtin.len_ #[t] ty #[.map (some b)]).run P w=.ok (goInt m.length) w:=by
 obtain⟨es,bA,hb,hp,_⟩:=h;have hl:=hp.length_eq;simp only[qC,encs,abT,Array.length_toList]at hl;simp[Builtin.len_,acQ ht,aav hb,aax,hl]
def gN {o o':Obj}(hb:w.heap[b]?=some o):w.grownBy (setBlock w b o') (some b) :=
 ⟨rfl,rfl,rfl,by simp[setBlock],λi _ hi=>(heap_set hb).2 i (λe=>hi (by rw[e]))⟩
def bz.update (h:bz w b K enc m)(ht:P.underlying t=some (.map k e))(hk:P.underlying k=some (.int K))(j:Int)(v:α) :
  ∃w',(abl t (.map (some b)) (.int K j) (enc v)).run P w=.ok () w'/\bz w' b K enc (MP.put m j v)/\w.grownBy w' (some b):=by
 obtain⟨es,bA,hb,hp,ok,hn,hs⟩:=h;have hc:=run_checkKey (P:=P) (w:=w) (k:=.int K j) hk (by simp[IsKey]) false 9999;rcases find_of hp ok j with⟨h1,h2⟩|⟨i,x,u,h1,h2,h3,h4,h5⟩;refine⟨setBlock w b (.map (es.push {key:=.int K j,val:=enc v,born:=bA}) (bA+1)),?_,⟨_,_,(heap_set hb).1,?_,MP.iJ ok _ _,?_,?_⟩,gN hb⟩;simp[abl,acQ ht,aav hb,hc,acU hk h2,acV _ hb,aax,setBlock];refine List.Perm.trans ?_ ((MP.qU ok j v).map _).symm;rw[MP.qR h1];simp only[qC,Array.toList_push,List.map_append,aaF,abQ]
 exact List.perm_append_comm.trans (hp.cons _);simp only[Array.toList_push,List.map_append,aaF,abQ];refine List.nodup_append.2 ⟨hn,ai,λa ha c hc'=>?_⟩;obtain⟨y,hy,rfl⟩:=aay.1 ha;have:=hs y hy;simp at hc';omega;intro y hy;simp only[Array.toList_push,aaS,List.mem_singleton]at hy;rcases hy with hy|rfl;have:=hs y hy;omega;simp;have hi:i<es.size:=by have:=(aaB.1 h3).1;simpa using this
 have hx:es[i]?=some x:=by simpa using h3
 have hkey:(((es[i]?).map (·.key)).getD (.int K j))=.int K j:=by rw[hx];simp[h4]
 have hmod:∀f:acT->acT,(es.modify i f).toList=es.toList.set i (f x):=by
  intro f;apply abA;intro n;rw[aa6,Array.getElem?_toList,Array.getElem?_modify];split;rename_i e;subst e;rw[hx];simp[hi];simp
 refine⟨setBlock w b (.map (es.modify i λe=>{e with key:=.int K j,val:=enc v}) bA),?_,⟨_,_,(heap_set hb).1,?_,MP.iJ ok _ _,?_,?_⟩,gN hb⟩;simp[abl,acQ ht,aav hb,hc,acU hk h2,acV _ hb,aax,setBlock,Instr.keyThatStays,hx,h4,Instr.sameBits];refine List.Perm.trans ?_ ((MP.qU ok j v).map _).symm;have e1:qC (es.modify i λe=>{e with key:=.int K j,val:=enc v})=(qC es).set i (.int K j,enc v):=by rw[qC,hmod,List.map_set];rfl
 rw[e1];have g1:=Hr h3;refine(Rp g1).trans ?_;rw[aaF];refine List.Perm.cons _ ?_;have p1:=(Ah g1).symm.trans (hp.trans ((MP.fO h1).map _));rw[h4,h5,aaF]at p1;exact p1.cons_inv;rw[hmod,List.map_set];have:es.toList.map (·.born)=(es.toList.map (·.born)).set i x.born:=by
  apply abA;intro n;rw[aa6];split;rename_i e;subst e;simp[hi,(aaz.1 hx).2];rfl
 show (List.set (es.toList.map (·.born)) i x.born).Nodup;rw[<-this];exact hn;intro y hy;rw[hmod]at hy;rcases aat hy with hy|rfl;exact hs y hy;exact hs x (aa8 h3)
def Ai (hi:i<es.size):(es.eraseIdxIfInBounds i).toList=es.toList.eraseIdx i:=by
 unfold Array.eraseIdxIfInBounds;rw[dif_pos hi];simp
def bz.delete (h:bz w b K enc m)(ht:P.underlying t=some (.map k e))(hk:P.underlying k=some (.int K))(j:Int) :
  ∃w',(∀ty,(abq #[t,k] ty #[.map (some b),.int K j]).run P w=.ok (.tuple #[]) w')/\bz w' b K enc (MP.del m j)/\w.grownBy w' (some b):=by
 obtain⟨es,bA,hb,hp,ok,hn,hs⟩:=h;have hc:=run_checkKey (P:=P) (w:=w) (k:=.int K j) hk (by simp[IsKey]) es.isEmpty 9999;rcases find_of hp ok j with⟨h1,h2⟩|⟨i,x,u,h1,h2,h3,h4,h5⟩;refine⟨setBlock w b (.map es bA),?_,⟨_,_,(heap_set hb).1,?_,MP.jc ok _,hn,hs⟩,gN hb⟩;intro ty;simp[abq,acQ ht,aav hb,hc,acU hk h2,acV _ hb,aax,setBlock];rw[MP.qR h1];exact hp;have hi:i<es.size:=by have:=(aaB.1 h3).1;simpa using this
 have hsub:(es.eraseIdxIfInBounds i).toList.Sublist es.toList:=by rw[Ai hi];exact List.eraseIdx_sublist _ _
 refine⟨setBlock w b (.map (es.eraseIdxIfInBounds i) bA),?_,⟨_,_,(heap_set hb).1,?_,MP.jc ok _,(hsub.map _).nodup hn,λy hy=>hs y (hsub.subset hy)⟩,gN hb⟩;intro ty;simp[abq,acQ ht,aav hb,hc,acU hk h2,acV _ hb,aax,setBlock];have e1:qC (es.eraseIdxIfInBounds i)=(qC es).eraseIdx i:=by rw[qC,Ai hi,qC,Go.ChangeMaps.map_eraseIdx]
 rw[e1];have p1:=(Ah (Hr h3)).symm.trans (hp.trans ((MP.fO h1).map _));rw[h4,h5,aaF]at p1;exact p1.cons_inv
def bz.range (h:bz w b K enc m)(ht:P.underlying t=some (.map k e)) :
  ∃w',(Instr.range t (.map (some b))).run P w=.ok (.pointer (some ⟨w.heap.size,0,none⟩)) w'/\gL w' w.heap.size b K enc m/\acN w.heap.size w w'/\w'.heap.size=w.heap.size+1:=by
 obtain⟨es,bA,hb,hp,ok,hn,hs⟩:=h;have hlt:=(aaz.1 hb).1;refine⟨_,run_range_map w t k e b es bA ht hb,⟨es,bA,bA,#[],bA,((heap_alloc w _).2 b hlt).trans hb,(heap_alloc w _).1,hs,aj,aj,hn,?_,ok⟩,ax,ai⟩;have e1:leftOf es #[]=es:=by
  unfold leftOf;exact Array.filter_eq_self.2 (λx _=>ai)
 rw[e1];exact hp
def gL.ne (h:gL w r b K enc left):r≠b:=by
 obtain⟨es,bA,since,seen,c0,hb,hr,_⟩:=h;intro e;rw[e,hb]at hr;cases hr
def gL.lt (h:gL w r b K enc left):r<w.heap.size/\b<w.heap.size:=by
 obtain⟨es,bA,since,seen,c0,hb,hr,_⟩:=h;exact⟨(aaz.1 hr).1,(aaz.1 hb).1⟩
def gL.of_heap (h:gL w r b K enc left)(q:w'.heap[b]?=w.heap[b]?)(q2:w'.heap[r]?=w.heap[r]?):gL w' r b K enc left:=by
 obtain⟨es,bA,since,seen,c0,hb,hr,h⟩:=h;exact⟨es,bA,since,seen,c0,q.trans hb,q2.trans hr,h⟩
def gL.aJ (h:gL w r b K enc left)(q:aP F w w')(hb:¬F b)(hr:¬F r):gL w' r b K enc left:=h.of_heap (q.block b h.lt.2 hb) (q.block r h.lt.1 hr)
def gL.old (h:gL w r b K enc left)(q:acN w.heap.size w w'):gL w' r b K enc left:=h.of_heap (q.block b h.lt.2) (q.block r h.lt.1)
def Rq (es:Array acT)(seen:Array Nat):∀x∈(leftOf es seen).toList,x∈es.toList:=by
 intro x hx;unfold leftOf at hx;simp at hx ⊢;exact hx.1
def N9 {seen:Array Nat}{x:acT}(hn:(es.toList.map (·.born)).Nodup)(hx:x∈(leftOf es seen).toList):(leftOf es seen).toList.Perm (x::(leftOf es (seen.push x.born)).toList):=by
 have e1:(leftOf es (seen.push x.born)).toList=(leftOf es seen).toList.filter (λy=> !(y.born==x.born)):=by
  unfold leftOf;simp only[Array.toList_filter,List.filter_filter];refine List.filter_congr λy _=>?_
  simp only[Array.contains_push,Bool.not_or];rw[Bool.and_comm]
 rw[e1];have hnl:((leftOf es seen).toList.map (·.born)).Nodup:=by
  unfold leftOf;rw[Array.toList_filter];exact(List.filter_sublist.map _).nodup hn
 generalize (leftOf es seen).toList=l at hx hnl;clear e1 hn;induction l with
 |nil=>simp at hx
 |cons y l ih =>
  rw[aaF,List.nodup_cons]at hnl;by_cases e:y.born=x.born;have hxy:x=y:=by
   rcases aaI.1 hx with h|h;exact h;exact absurd (aay.2 ⟨x,h,e.symm⟩) hnl.1
  subst hxy;rw[List.filter_cons_of_neg ai,List.filter_eq_self.2 (λz hz=>by
   have:z.born≠x.born:=λe2=>hnl.1 (aay.2 ⟨z,hz,e2⟩)
   simp[this])]
  ·rw[List.filter_cons_of_pos (by simp[e])];have hx':x∈l:=by
    rcases aaI.1 hx with h|h;exact absurd (by rw[h]) e;exact h
   exact((ih hx' hnl.2).cons y).trans (abx _ _ _)
def gL.next (h:gL w r b K enc left) :
  (left=[]/\∀ty,(Instr.next (.pointer (some ⟨r,0,none⟩)) false ty).run P w=.ok (.tuple #[acg false]) w) \/
  ∃x w',x∈left/\(∀ty,(Instr.next (.pointer (some ⟨r,0,none⟩)) false ty).run P w=.ok (.tuple #[acg true,.int K x.1,enc x.2]) w')/\gL w' r b K enc (MP.del left x.1)/\aP (λn=>n=r) w w'/\w'.heap.size=w.heap.size /\
   (Instr.entry (.pointer (some ⟨r,0,none⟩))).run P w'=.ok (.tuple #[.int K x.1,enc x.2]) w':=by
 have hne:=h.ne;obtain⟨es,bA,since,seen,c0,hb,hr,hold,hsc,hsk,hn,hp,ok⟩:=h;rcases run_next_at (P:=P) w 0 r b since c0 seen es bA hr hb hold hsc with⟨h0,hrun⟩|⟨x,hx,w1,hal,hrun⟩;refine ack ⟨?_,λ_=>hrun⟩;have:=hp.length_eq;simp only[qC,encs,abT,Array.length_toList]at this;exact aaY aa;have hem:(x.key,x.val)∈encs K enc left:=hp.subset (aay.2 ⟨x,hx,rfl⟩);obtain⟨y,hy,e⟩:=aay.1 hem;injection e with e1 e2;have hr1:w1.heap[r]?=some (.mapIter (some b) since seen c0):=by rcases hal with rfl|rfl<;>exact hr
 have hb1:w1.heap[b]?=some (.map es bA):=by rcases hal with rfl|rfl<;>exact hb
 have hset:=heap_set (o':=.mapIter (some b) since (seen.push x.born) bA) hr1;have hb':(setBlock w1 r (.mapIter (some b) since (seen.push x.born) bA)).heap[b]?=some (.map es bA):=(hset.2 b (λe=>hne e.symm)).trans hb1;have hg:=MP.dR ok hy;refine acm ⟨y,_,hy,λ_=>by rw[e1,e2];exact hrun,⟨es,bA,since,seen.push x.born,bA,hb',hset.1,hold,hsk,hsk,hn,?_,MP.jc ok _⟩,?_,?_,?_⟩;have p1:=(((N9 hn hx).map (λz:acT=>(z.key,z.val))).symm.trans hp).trans ((MP.fO hg).map _);rw[aaF,aaF,<-e1,<-e2]at p1;exact p1.cons_inv;have hc:aP (λn=>n=r) w w1:=by rcases hal with rfl|rfl;exact aP.refl _ _;exact(aP.refl _ _).drew
 exact hc.grown (gN hr1) (λk e=>by injection e with e;exact ack e.symm);rcases hal with rfl|rfl<;>simp[setBlock];rw[e1,e2];exact run_entry_at _ r b since seen es bA x hset.1 hb' (Rq es seen x hx) hn
end
section
variable{P:Program}{ops:Array Oper}{rest:List Oper}{o:Oper}{a:Act}{Q:Exit->Act->acL->Prop}{mv kv:acK}
def gP (hgd:o.guard=none)(m x v:Operand){t:acO}(ho:o.op=Op.mapUpdate t m x v){vv:acK}(hm:a.eval m=mv)(hx:a.eval x=kv)(hv:a.eval v=vv)
  (hrun:(abl t mv kv vv).run P w=.ok () w') (h:wpList P ops Q rest (a.put o.dst undef) w'):wpList P ops Q (o::rest) a w:=by
 refine acP hgd λK hK=>?_
 unfold Oper.wp;simp[execOp,ho,hm,hx,hv,hrun,aax];exact hK _ _ h
def eu (hgd:o.guard=none)(m x:Operand){t u:acO}(ho:o.op=.call {callee:=.builtin .delete,args:=#[m,x],argTypes:=#[t,u]})(hm:a.eval m=mv)(hx:a.eval x=kv)
  (hrun:(abq #[t,u] o.type #[mv,kv]).run P w=.ok (.tuple #[]) w') (h:wpList P ops Q rest (a.put o.dst (.tuple #[])) w'):wpList P ops Q (o::rest) a w:=by
 refine acP hgd λK hK=>?_
 unfold Oper.wp execOp;simp only[ho,resolve,invoke,builtin,Sem.run_bind,Sem.run_pure,Result.andThen_ok,List.map_toArray,aaF,abQ,hm,hx,hrun];exact hK _ _ h
def iq (hgd:o.guard=none)(m:Operand){t:acO}(ho:o.op=Op.range t m){v:acK}(hm:a.eval m=mv)(hrun:(Instr.range t mv).run P w=.ok v w')(h:wpList P ops Q rest (a.put o.dst v) w'):wpList P ops Q (o::rest) a w:=by
 refine acP hgd λK hK=>?_
 unfold Oper.wp;simp[execOp,ho,hm,hrun,aax];exact hK _ _ h
def dK (hgd:o.guard=none)(it:Operand)(ho:o.op=Op.next it false){iv v:acK}(hi:a.eval it=iv)(hrun:(Instr.next iv false o.type).run P w=.ok v w')(h:wpList P ops Q rest (a.put o.dst v) w'):wpList P ops Q (o::rest) a w:=by
 refine acP hgd λK hK=>?_
 unfold Oper.wp;simp[execOp,ho,hi,hrun,aax];exact hK _ _ h
end
structure ER (t:acO)(m k v:acK)(w w':acL):Prop where
 run:(abl t m k v).run prog w=.ok () w'
structure J7 (t u:acO)(m k:acK)(w w':acL):Prop where
 run:∀ty,(abq #[t,u] ty #[m,k]).run prog w=.ok (.tuple #[]) w'
structure xk (t:acO)(m v:acK)(w w':acL):Prop where
 run:(Instr.range t m).run prog w=.ok v w'
structure kZ (it v:acK)(w w':acL):Prop where
 run:∀ty,(Instr.next it false ty).run prog w=.ok v w'
namespace gcs
open RowKit
abbrev agV (s l r n:Int):acK:=.agg #[vi s,vi l,vi r,vi n]
structure aD where
 s:Int
 l:Int
 r:Int
 n:Int
instance:Inhabited aD:=⟨⟨0,0,0,0⟩⟩
abbrev aD.v (b:aD):acK:=agV b.s b.l b.r b.n
def At4 (w:acL)(b o:Nat)(x:aD):Prop :=
 w.cell? ⟨b,o,none⟩=some (vi x.s)/\w.cell? ⟨b,o+1,none⟩=some (vi x.l)/\w.cell? ⟨b,o+2,none⟩=some (vi x.r)/\w.cell? ⟨b,o+3,none⟩=some (vi x.n)
def At4.below {b o:Nat}{x:aD}(h:At4 w b o x)(hb:acN w.heap.size w w'):At4 w' b o x :=
 ⟨cell_below h.1 hb,cell_below h.2.1 hb,cell_below h.2.2.1 hb,cell_below h.2.2.2 hb⟩
def Row (w:acL)(v:acK)(bs:List aD):Prop :=
 bs.length<=9223372036854775807/\∃a cap,v=aco a bs.length cap/\(bs=[]\/∃b o,a=some ⟨b,o,none⟩/\∀i,i<bs.length->At4 w b (o+i*4) (bs.getD i default))
def Row.below {v:acK}{bs:List aD}(h:Row w v bs)(hb:acN w.heap.size w w'):Row w' v bs:=by
 obtain⟨h0,a,cap,rfl,h⟩:=h;refine⟨h0,a,cap,rfl,?_⟩;rcases h with h|⟨b,o,rfl,h⟩;exact ack h;exact acm ⟨b,o,rfl,λi hi=>(h i hi).below hb⟩
def bH (p:Int)(x:aD):Bool :=
 decide (0<=x.s)&&decide (x.s<=4)&&decide (0<=x.l)&&decide (x.l<=p)&&decide (0<=x.n)&&decide (x.n<=p)&&decide (0<=x.r)&&decide (x.r<=1099511627776)&&(!(x.s==0||x.s==3||x.s==4)||x.l==0)
def Oa (x:aD)(p:Int)(w:acL) :
  Calls prog 246 #[x.v,vi p] w λe w'=>e=ab4 (acg (bH p x))/\acN w.heap.size w w':=by
 obtain⟨s,l,r,n⟩:=x;go_in;go_wp2;all_goals go_ret
 all_goals refine⟨aU ?_,ax⟩
 all_goals simp[bH, *]
 all_goals omega
def Aj (x:aD)(w:acL) :
  Calls prog 150 #[x.v] w λe w'=>e=ab4 (acg (x.s != 4))/\acN w.heap.size w w':=by
 go_in;go_wp2;go_ret;exact⟨rfl,ax⟩
def Ak (x y:aD)(w:acL) :
  Calls prog 223 #[x.v,y.v] w λe w'=>e=ab4 (acg (decide (x.r<y.r)))/\acN w.heap.size w w':=by
 go_in;go_wp2;go_ret;exact⟨rfl,ax.alloc ai _⟩
def fH (x y:aD):Bool:=decide (x.r<y.r)
def dB (x y:aD):Bool:=decide (x.l<y.l)||x.l==y.l&&decide (x.r<y.r)
def qV (least:Int)(x:aD):Bool:=x.s != 4&&decide (x.r-least<4)
def qW (x y:aD)(w:acL) :
  Calls prog 225 #[x.v,y.v] w λe w'=>e=ab4 (acg (dB x y))/\acN w.heap.size w w':=by
 obtain⟨s,l,r,n⟩:=x;obtain⟨s',l',r',n'⟩:=y;go_in;rcases Int.lt_trichotomy l l' with h|rfl|h
 ·go_wp2;go_ret;exact⟨aU (by simp[dB,h]),ax.alloc ai _⟩
 ·go_wp2_with fail;refine(Ak ⟨s,l,r,n⟩ ⟨s',l,r',n'⟩ _).mono ?_;rintro e w1 ⟨rfl,hb1⟩;go_wp2;go_ret;exact⟨aU (by simp[dB]),(ax.alloc ai _).trans (hb1.mono (by simp;omega))⟩
 have h1:¬l<l':=aa;have h2:(l==l')=false:=by simp;omega
 go_wp2;go_ret;exact⟨aU (by simp[dB,h1,h2]),ax.alloc ai _⟩
def MC (x:aD)(least:Int)(w:acL)(h1:0<=x.r)(h2:x.r<=1099511627776)(h3:0<=least)(h4:least<=1099511627776):
  Calls prog 222 #[x.v,vi least] w λe w'=>e=ab4 (acg (qV least x))/\acN w.heap.size w w':=by
 obtain⟨s,l,r,n⟩:=x;dsimp only at h1 h2;go_in;go_wp2_with fail;refine(Aj ⟨s,l,r,n⟩ _).mono ?_;rintro e w1 ⟨rfl,hb1⟩;have hc:w1.cell? ⟨w.heap.size,2,none⟩=some (vi r):=cell_below (w:=w.alloc (ach #[vi s,vi l,vi r,vi n] 193)) ai hb1;by_cases hs:(s != 4)=true;all_goals
  go_wp2;go_ret;refine⟨aU (by simp[qV, *]),?_⟩;exact ax.trans (hb1.mono ai)
def bestTo (P:aD->Bool)(Q:aD->aD->Bool)(bs:List aD):Nat->Int
 |0=> -1
 |k+1=>if P (bs.getD k default)&&(decide (bestTo P Q bs k<0)||Q (bs.getD k default) (bs.getD (bestTo P Q bs k).toNat default)) then k else bestTo P Q bs k
def iP (P:aD->Bool)(Q:aD->aD->Bool)(bs:List aD):Int:=bestTo P Q bs bs.length
def xm (P:aD->Bool)(Q:aD->aD->Bool)(bs:List aD)(k:Nat): -1<=bestTo P Q bs k/\bestTo P Q bs k<k:=by
 induction k with
 |zero=>simp[bestTo]
 |succ k ih=>unfold bestTo;split<;>omega
def mE (F G:Nat)(cm cb:Array acK)(v:acK)(bs:List aD)(w:acL)(P:aD->Bool)(Q:aD->aD->Bool)(hrow:Row w v bs)
  (hF:∀args W,(callFunc F args).run prog W=.ok (.enter F args) W) (hG:∀args W,(callFunc G args).run prog W=.ok (.enter G args) W)
  (Rs:∀(x:aD) (W:acL),x∈bs->acN w.heap.size w W->Calls prog F (#[x.v]++cm) W λe W'=>e=ab4 (acg (P x))/\acN W.heap.size W W')
  (adi:∀(x y:aD) (W:acL),acN w.heap.size w W->Calls prog G (#[x.v,y.v]++cb) W λe W'=>e=ab4 (acg (Q x y))/\acN W.heap.size W W') :
  Calls prog 149 #[v,.func (.func F) #[] cm,.func (.func G) #[] cb] w λe w'=>e=ab4 (vi (iP P Q bs))/\acN w.heap.size w w':=by
 obtain⟨hlen,a,cap,rfl,hrow⟩:=hrow;have HR:=az hrow;have HM:=az Rs;have HB:=az adi;clear hrow Rs adi;go_in;go_wp2_with fail;go_loopw [7,12] (λat_ i wr=>∃k:Nat,k<=bs.length/\i=vi k/\at_=vi (bestTo P Q bs k)/\acN w.heap.size w wr) (λ_ i _=>bs.length-(intOf i).toNat)
 case atStart=>exact⟨0,aaW _,rfl,rfl,ak⟩
 case round =>
  obtain⟨k,hk,rfl,rfl,hb⟩:=hrel;have hbd:=xm P Q bs k;by_cases hlt:k<bs.length
  ·rcases HR.o with h0|⟨b,o,rfl,hc⟩;rw[h0]at hlt;simp at hlt;have HC:=az hc;clear hc;have hx:=(HC.o k hlt).below hb;have hin:bs.getD k default∈bs:=by rw[aah,aaj hlt];exact List.getElem_mem hlt
   have hstep:bestTo P Q bs (k+1)=if P (bs.getD k default)&&(decide (bestTo P Q bs k<0)||Q (bs.getD k default) (bs.getD (bestTo P Q bs k).toNat default)) then (k:Int) else bestTo P Q bs k:=rfl;generalize bs.getD k default=x at hx hin hstep;obtain⟨h0,h1,h2,h3⟩:=hx;generalize bestTo P Q bs k=at_ at*;have Hs:=az hstep;have Hin:=az hin;clear hstep hin;go_wp2_with fail;obtain⟨W,hWe⟩:∃W:acL,W=wr.alloc (Obj.cells #[vi x.s,vi x.l,vi x.r,vi x.n] 193):=⟨_,rfl⟩;rw[show wr.alloc (Obj.cells #[acK.int acS.i64 x.s,acK.int acS.i64 x.l,acK.int acS.i64 x.r,acK.int acS.i64 x.n] 193)=W from hWe.symm]
   have hbW:acN w.heap.size w W:=by rw[hWe];exact hb.alloc hb.size _
   have g:At4 W wr.heap.size 0 x:=by rw[hWe];exact⟨ai,ai,ai,ai⟩
   have g0:=Sub.cell g.1;have g1:=Sub.cell (a:=⟨wr.heap.size,1,none⟩) g.2.1;have g2:=Sub.cell (a:=⟨wr.heap.size,2,none⟩) g.2.2.1;have g3:=Sub.cell (a:=⟨wr.heap.size,3,none⟩) g.2.2.2;clear h0 h1 h2 h3 hWe g;have hM:=λn:Sub W=>HM.o x n.w Hin.o (hbW.trans (n.below.mono hbW.size))
   by_cases hP:P x=true
   ·rw[hP]at hM;have Ob:=az hM;clear hM;by_cases h0:at_<0
    ·refine aZ ah ah ?_;repeat (go_big_quiet_step (exact fM (Ob.o _)))
     refine wpQuiet_nil ?_;rintro _ ⟨nq,rfl⟩;have hbq:=nq.below;go_wp2;go_roundw
     case rel=>exact⟨k+1,aa,by go_num,by rw[Hs.o];simp[hP,h0],hbW.trans (hbq.mono hbW.size)⟩
     case measure=>simp[intOf];omega
    obtain⟨j,rfl⟩:∃j:Nat,at_=j:=⟨at_.toNat,aa⟩;have hy:=(HC.o j aa).below hbW;have Hs':bestTo P Q bs (k+1)=if Q x (bs.getD j default) then (k:Int) else j:=by rw[Hs.o];simp[hP,h0]
    generalize bs.getD j default=y at hy Hs';have y0:=Sub.cell hy.1;have y1:=Sub.cell hy.2.1;have y2:=Sub.cell hy.2.2.1;have y3:=Sub.cell hy.2.2.2;clear hy Hs;have hj0:(0:Int)<=(j:Int):=aa;have hj1:(j:Int)<(bs.length:Int):=aa;have hB:=λn:Sub W=>HB.o x y n.w (hbW.trans (n.below.mono hbW.size))
    cases hQ:Q x y;all_goals
     rw[hQ]at hB;have HB1:=az hB;have Hs:=az Hs';clear hB Hs';refine aZ ah ah ?_;repeat (go_big_quiet_step (first|exact fM (Ob.o _)|exact fM (HB1.o _)))
     refine wpQuiet_nil ?_;rintro _ ⟨nq,rfl⟩;have hbq:=nq.below;go_wp2;go_roundw
     case rel=>exact⟨k+1,aa,by go_num,by rw[Hs.o,hQ];simp,hbW.trans (hbq.mono hbW.size)⟩
     case measure=>simp[intOf];omega
   have hP':P x=false:=by simpa using hP
   rw[hP']at hM;have Ob:=az hM;clear hM;refine aZ ah ah ?_;repeat (go_big_quiet_step (exact fM (Ob.o _)))
   refine wpQuiet_nil ?_;rintro _ ⟨nq,rfl⟩;have hbq:=nq.below;go_wp2;go_roundw
   case rel=>exact⟨k+1,aa,by go_num,by rw[Hs.o];simp[hP'],hbW.trans (hbq.mono hbW.size)⟩
   case measure=>simp[intOf];omega
  go_wp2;go_ret;obtain rfl:k=bs.length:=aa;exact⟨rfl,hb⟩
end gcs
end Go.Proofs.YtllmbcigmimgoaaGreat
