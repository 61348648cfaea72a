/-
  Lemmas for a law's proof, put together from several texts: each part says what it shows, and its conditions.
-/
import Derived.Test.YtnfhlocflpdlcaaGreatZT01
import Derived.Test.YtnfhlocflpdlcaaGreatRows
import Derived.WalkKit
import Derived.WalkLawsBesides
import Derived.WalkSpells
import Derived.ProofKit
import Derived.Lib.Hide
import Derived.BigQuiet
import Derived.Deep.Slices
import Derived.Deep.Fields
import Derived.OpenShut
import Derived.Laws.EntriesVeiled
import Derived.Maps.AppendAt
import Derived.Lib.AppendStr
import Derived.Laws.BytesArg
import Derived.Laws.IdiomStrings
import Derived.Deep.Draws
import Derived.IntWalk
/-
  An inode and its bytes, in plain words. No program in sight; no conditions.
-/
namespace Go.Proofs.YtnfhlocflpdlcaaGreat.PI
structure Ino where
  kind : Nat
  links : Nat
  size : Nat
  direct : List Nat
  single : Nat
  double : Nat
deriving DecidableEq
def none_ : Ino := ⟨0, 0, 0, [0, 0, 0, 0, 0, 0], 0, 0⟩
instance : Inhabited Ino := ⟨none_⟩
def page (p : Nat) : Bool := decide (p < 8192)
def right (i : Ino) : Bool :=
  if i.kind = 0 then decide (i = none_)
  else i.direct.all page && (decide (i.kind = 1) || decide (i.kind = 2)) && decide (i.links ≤ 1000) && decide (i.size ≤ 2147483647) && page i.single && page i.double
def bytes (i : Ino) : List Nat := [i.kind % 256, 0] ++ HP.le 2 i.links ++ HP.le 4 i.size ++ i.direct.flatMap (HP.le 2) ++ HP.le 2 i.single ++ HP.le 2 i.double
def take (b : List Nat) (at_ n : Nat) : Nat := HP.num ((b.drop at_).take n)
def ofBytes (b : List Nat) : Ino := ⟨take b 0 1, take b 2 2, take b 4 4, [take b 8 2, take b 10 2, take b 12 2, take b 14 2, take b 16 2, take b 18 2], take b 20 2, take b 22 2⟩
def read (b : List Nat) : Ino × Int :=
  if b.length ≠ 24 then (none_, 1)
  else if b.getD 1 0 ≠ 0 ∨ right (ofBytes b) = false then (none_, 51)
  else (ofBytes b, 0)
def perPage (size : Int) : Int := if size = 64 ∨ size = 128 ∨ size = 256 ∨ size = 512 then size / 24 else 0
def there (b : List Nat) (k : Int) : Bool := decide (0 ≤ k) && decide (k < perPage b.length)
def get (b : List Nat) (k : Nat) : Ino × Int := if there b k then read ((b.drop (k * 24)).take 24) else (none_, 1)
def lay (b : List Nat) (k : Nat) (i : Ino) : List Nat := b.take (k * 24) ++ bytes i ++ b.drop (k * 24 + 24)
theorem le_all : ∀ l : List Nat, (l.flatMap (HP.le 2)).length = 2 * l.length := by
  intro l
  induction l with
  | nil => rfl
  | cons a l ih => rw [List.flatMap_cons, List.length_append, ih, HP.le_length, List.length_cons]; omega
theorem bytes_len {i : Ino} (h : i.direct.length = 6) : (bytes i).length = 24 := by
  unfold bytes
  simp only [List.length_append, HP.le_length, le_all, h, List.length_cons, List.length_nil]
theorem bytes_small (i : Ino) : ∀ y ∈ bytes i, y < 256 := by
  intro y hy
  unfold bytes at hy
  simp only [List.mem_append, List.mem_cons, List.not_mem_nil, or_false, List.mem_flatMap] at hy
  rcases hy with ((((hy | hy) | hy) | ⟨a, _, hy⟩) | hy) | hy
  · rcases hy with rfl | rfl <;> omega
  · exact HP.le_small _ _ _ hy
  · exact HP.le_small _ _ _ hy
  · exact HP.le_small _ _ _ hy
  · exact HP.le_small _ _ _ hy
  · exact HP.le_small _ _ _ hy
theorem right_some {i : Ino} (h : right i = true) (hk : i.kind ≠ 0) : (∀ p ∈ i.direct, p < 8192) ∧ (i.kind = 1 ∨ i.kind = 2) ∧ i.links ≤ 1000 ∧ i.size ≤ 2147483647 ∧ i.single < 8192 ∧ i.double < 8192 := by
  unfold right page at h
  rw [if_neg hk] at h
  simp only [Bool.and_eq_true, Bool.or_eq_true, List.all_eq_true, decide_eq_true_eq] at h
  exact ⟨h.1.1.1.1.1, h.1.1.1.1.2, h.1.1.1.2, h.1.1.2, h.1.2, h.2⟩
theorem right_none {i : Ino} (h : right i = true) (hk : i.kind = 0) : i = none_ := by
  unfold right at h
  rw [if_pos hk] at h
  simpa using h
end Go.Proofs.YtnfhlocflpdlcaaGreat.PI

/-
  Small general facts used by every walk of this seat: cells and worlds that only grow; a region that draws its order and whose operations leave old memory alone, walked once in the order of the text. No conditions of its own.
-/
namespace Go.Proofs.YtnfhlocflpdlcaaGreat
open Go.RowKit

abbrev vi (n : Int) : Value := .int .i64 n

theorem ret_int {a b : Int} (h : a = b) : Ending.returned (vi a) = .returned (vi b) := by rw [h]
theorem ret_bool {a b : Bool} (h : a = b) : Ending.returned (.bool a) = .returned (.bool b) := by rw [h]

theorem cell_lt {w : World} {a : Addr} {v : Value} (h : w.cell? a = some v) : a.block < w.heap.size := by
  rcases Nat.lt_or_ge a.block w.heap.size with hlt | hge
  · exact hlt
  · simp [World.cell?, Array.getElem?_eq_none hge] at h
theorem cell_below {w w' : World} {a : Addr} {v : Value} (h : w.cell? a = some v) (hb : Below w.heap.size w w') : w'.cell? a = some v :=
  (hb.cell (cell_lt h)).trans h

/-- The worlds in which all that W holds stands as it stood. -/
structure Sub (W : World) where
  w : World
  below : Below W.heap.size W w

instance {W : World} : Nonempty (Sub W) := ⟨⟨W, Below.refl _ _⟩⟩

theorem Sub.cell {W : World} {a : Addr} {v : Value} (h : W.cell? a = some v) : ∀ n : Sub W, n.w.cell? a = some v := fun n => cell_below h n.below
theorem Sub.grow {W : World} (n : Sub W) {w' : World} (h : Below n.w.heap.size n.w w') : Below W.heap.size W w' := n.below.trans (h.mono n.below.size)

/-- A callee's contract, met in one of these worlds. -/
theorem ext_of {P : Program} {f : FuncId} {args : Array Value} {W : World} {n : Sub W} {v : Value}
    (h : Calls P f args n.w fun e w' => e = .returned v ∧ Below n.w.heap.size n.w w') :
    Calls P f args n.w fun e w'' => e = .returned v ∧ ∃ m : Sub W, w'' = m.w :=
  h.mono fun _ _ ⟨he, hb⟩ => ⟨he, ⟨_, n.grow hb⟩, rfl⟩

/-- A region that draws its order, walked once in the order of the text: its operations yield the same in each of these worlds, its callees leave one of them. -/
theorem wp_region_sub {P : Program} {id : Nat} {Q : Exit → Act → World → Prop} {a : Act} {w : World} {l : List Oper} (hm : P.follows .mixedOrders = true) (hB : Region.lexB .any l.toArray = true)
    (h : wpQuiet P l.toArray (fun w' => ∃ n : Sub w, w' = n.w) (fun a' => ∀ w', (∃ n : Sub w, w' = n.w) → Q .normal a' w') l a) : (Code.region id l.toArray true).wp P Q a w :=
  wp_region_quiet (C := fun w' => ∃ n : Sub w, w' = n.w) hm hB ⟨⟨_, (Below.refl _ _).drew⟩, rfl⟩ (by simpa using h)

/-- A call of a function that has a body enters it. -/
theorem enter_of {P : Program} {f : FuncId} {fn : Func} {c : Code} (hf : P.funcs[f]? = some fn) (hname : (fn.name == "runtime.NumGoroutine") = false) (hb : fn.body = some c) (args : Array Value) (w : World) :
    (callFunc f args).run P w = .ok (.enter f args) w := by
  have h1 : fn.name ≠ "runtime.NumGoroutine" := by simpa using hname
  simp [callFunc, hf, h1, hb]

/-- An append whose run is known. -/
theorem wpList_append_run {P : Program} {w w' : World} {ops : Array Oper} {rest : List Oper} {o : Oper} {a : Act} {Q : Exit → Act → World → Prop} (hgd : o.guard = none) (s x : Operand) {t : TypeId}
    (ho : o.op = .call { callee := .builtin .append, args := #[s, x], argTypes := #[t, t] }) {v src v' : Value} (hs : a.eval s = v) (hx : a.eval x = src)
    (hrun : (Builtin.append_ #[t, t] o.type #[v, src]).run P w = .ok v' w') (h : wpList P ops Q rest (a.put o.dst v') w') : wpList P ops Q (o :: rest) a w := by
  refine wpList_plain hgd fun K hK => ?_
  unfold Oper.wp execOp
  simp only [ho, resolve, invoke, builtin, Sem.run_bind, Sem.run_pure, Result.andThen_ok, List.map_toArray, List.map_cons, List.map_nil, hs, hx, hrun]
  exact hK _ _ h

end Go.Proofs.YtnfhlocflpdlcaaGreat

/-
  Rows of bytes, read and appended to. No conditions of its own.
-/
namespace Go.Proofs.YtnfhlocflpdlcaaGreat
open Go.RowKit

abbrev vb (n : Nat) : Value := .int .u8 n
abbrev vq (n : Nat) : Value := .int .u64 n
abbrev vw (n : Nat) : Value := .int .u32 n

theorem add_plain (b o k : Nat) : (⟨b, o, none⟩ : Addr).add k = ⟨b, o + k, none⟩ := by unfold Addr.add; split <;> simp [*]

/-- A block that is known whole. -/
def Blk (w : World) (g : Nat) (t : TypeId) (cs : Array Value) : Prop := w.heap[g]? = some (.cells cs t (0, 0))
section
variable {w w' : World} {g : Nat} {t : TypeId} {cs : Array Value}
theorem Blk.lt (h : Blk w g t cs) : g < w.heap.size := by
  rcases Nat.lt_or_ge g w.heap.size with hlt | hge
  · exact hlt
  · unfold Blk at h; rw [Array.getElem?_eq_none hge] at h; cases h
theorem Blk.cell (h : Blk w g t cs) (i : Nat) : w.cell? ⟨g, i, none⟩ = cs[i]? := cell_of_row w g i cs t (0, 0) h
theorem Blk.frozen (h : Blk w g t cs) (i : Nat) : w.frozen? ⟨g, i, none⟩ = false := by
  unfold Blk at h
  simp [World.frozen?, h]
theorem Blk.new (w : World) (t : TypeId) (cs : Array Value) : Blk (w.alloc (.cells cs t)) w.heap.size t cs := heap_alloc_new w _
theorem Blk.alloc (h : Blk w g t cs) (o : Obj) : Blk (w.alloc o) g t cs := (Below.heap_alloc w o g h.lt).trans h
theorem Blk.set_ (h : Blk w g t cs) (i : Nat) (u : Value) : Blk (w.setCell ⟨g, i, none⟩ u) g t (cs.setIfInBounds i u) := by
  unfold Blk at h ⊢
  simp [World.setCell, Array.getElem?_modify, h]
theorem Blk.far (h : Blk w g t cs) {p : Addr} (hp : g ≠ p.block) (u : Value) : Blk (w.setCell p u) g t cs := (Below.heap_setCell w p u g hp).trans h
theorem Blk.below {B : Nat} (h : Blk w g t cs) (hb : Below B w w') (hg : g < B) : Blk w' g t cs := (hb.block g hg).trans h
theorem Blk.old (h : Blk w g t cs) (hb : Below w.heap.size w w') : Blk w' g t cs := h.below hb h.lt
theorem Blk.grown {row : Option Nat} (h : Blk w g t cs) (hb : w.grownBy w' row) (hg : some g ≠ row) : Blk w' g t cs := (hb.block g h.lt hg).trans h
theorem own_blk_ne {base : Nat} {e : TypeId} {size n : Nat} {v : Value} {xs : List Value} (h : w.ownsRow base e size v n xs) (hg : Blk w g t cs) (hne : t ≠ e) : some g ≠ v.ownBlock := by
  rcases h.2 with ⟨rfl, _⟩ | ⟨g', cap, cur, rfl, _, hh, _⟩
  · simp [Value.ownBlock]
  · intro he
    have : g = g' := by simpa [Value.ownBlock] using he
    subst this
    unfold Blk at hg
    rw [hg] at hh
    injection hh with hh
    injection hh with _ ht
    exact hne ht
end

/-- An operation whose run is known. -/
theorem wpList_run {P : Program} {w w' : World} {ops : Array Oper} {rest : List Oper} {o : Oper} {a : Act} {Q : Exit → Act → World → Prop} {v' : Value} (hgd : o.guard = none)
    (hrun : (execOp a.eval o).run P w = .ok (.value v') w') (h : wpList P ops Q rest (a.put o.dst v') w') : wpList P ops Q (o :: rest) a w := by
  refine wpList_plain hgd fun K hK => ?_
  unfold Oper.wp
  rw [hrun]
  exact hK _ _ h
theorem exec_convert {P : Program} {w w' : World} {o : Oper} {a : Act} {s d : TypeId} {x : Operand} {v v' : Value} (ho : o.op = .convert s d x) (hx : a.eval x = v) (hrun : (convert s d v).run P w = .ok v' w') :
    (execOp a.eval o).run P w = .ok (.value v') w' := by
  unfold execOp
  simp only [ho, Sem.run_bind, hx, hrun, Result.andThen_ok, Sem.run_pure]
/-- Bytes as values. -/
def bv (l : List Nat) : List Value := l.map vb
theorem bv_length (l : List Nat) : (bv l).length = l.length := List.length_map ..
theorem bv_append (l m : List Nat) : bv (l ++ m) = bv l ++ bv m := List.map_append ..
theorem bv_one (l : List Nat) : ∀ u ∈ bv l, u.oneCell' = true := by
  intro u hu
  obtain ⟨x, _, rfl⟩ := List.mem_map.1 hu
  rfl
theorem bv_get {l : List Nat} {i : Nat} (h : i < l.length) : (bv l)[i]? = some (vb (l.getD i 0)) := by
  simp [bv, h, List.getD]

/-- Bytes that a slice reads as. -/
structure BRow (w : World) (a : Option Addr) (l : List Nat) : Prop where
  small : ∀ x ∈ l, x < 256
  at_ : l = [] ∨ ∃ b o, a = some ⟨b, o, none⟩ ∧ ∀ i, i < l.length → w.cell? ⟨b, o + i, none⟩ = some (vb (l.getD i 0))
theorem BRow.below {w w' : World} {a : Option Addr} {l : List Nat} (h : BRow w a l) (hb : Below w.heap.size w w') : BRow w' a l := by
  refine ⟨h.small, ?_⟩
  rcases h.at_ with h0 | ⟨b, o, rfl, h1⟩
  · exact .inl h0
  · exact .inr ⟨b, o, rfl, fun i hi => cell_below (h1 i hi) hb⟩
theorem BRow.news {w : World} {ad : Addr} {l : List Nat} (h : BRow w (some ad) l) : ∀ j u, (bv l)[j]? = some u → w.cell? (ad.add j) = some u := by
  intro j u hu
  rcases h.at_ with rfl | ⟨b, o, he, h1⟩
  · simp [bv] at hu
  · injection he with he
    subst he
    have hj : j < l.length := by
      have := (List.getElem?_eq_some_iff.1 hu).1
      simpa [bv] using this
    rw [bv_get hj] at hu
    rw [add_plain, h1 j hj]
    exact hu
theorem getD_small {l : List Nat} (h : ∀ b ∈ l, b < 256) (i : Nat) : l.getD i 0 < 256 := by
  rcases Nat.lt_or_ge i l.length with hi | hi
  · have : l.getD i 0 = l[i] := by simp [List.getD, hi]
    rw [this]
    exact h _ (List.getElem_mem hi)
  · rw [List.getD_eq_getElem?_getD, List.getElem?_eq_none hi]
    decide
theorem BRow.lookup {w : World} {a : Option Addr} {l : List Nat} (h : BRow w a l) {k : Nat} (hk : k < l.length) : ∃ b o, a = some ⟨b, o, none⟩ ∧ w.cell? ⟨b, o + k, none⟩ = some (vb (l.getD k 0)) ∧ l.getD k 0 < 256 := by
  rcases h.at_ with rfl | ⟨b, o, rfl, h1⟩
  · simp at hk
  · exact ⟨b, o, rfl, h1 k hk, getD_small h.small k⟩
theorem getD_take {l : List Nat} {n i : Nat} (h : i < n) : (l.take n).getD i 0 = l.getD i 0 := by
  simp [List.getD, h]
theorem getD_drop (l : List Nat) (n i : Nat) : (l.drop n).getD i 0 = l.getD (n + i) 0 := by
  simp [List.getD]
theorem BRow.take {w : World} {a : Option Addr} {l : List Nat} (h : BRow w a l) (n : Nat) : BRow w a (l.take n) := by
  refine ⟨fun x hx => h.small x (List.mem_of_mem_take hx), ?_⟩
  rcases h.at_ with rfl | ⟨b, o, rfl, h1⟩
  · exact .inl (by simp)
  · refine .inr ⟨b, o, rfl, fun i hi => ?_⟩
    have hi' : i < n ∧ i < l.length := by simpa [Nat.lt_min] using hi
    rw [getD_take hi'.1]
    exact h1 i hi'.2
theorem BRow.drop {w : World} {b o : Nat} {l : List Nat} (h : BRow w (some ⟨b, o, none⟩) l) (n : Nat) : BRow w (some ⟨b, o + n, none⟩) (l.drop n) := by
  refine ⟨fun x hx => h.small x (List.mem_of_mem_drop hx), ?_⟩
  rcases h.at_ with rfl | ⟨b', o', he, h1⟩
  · exact .inl (by simp)
  · injection he with he
    injection he with hb ho _
    subst hb ho
    refine .inr ⟨b, o + n, rfl, fun i hi => ?_⟩
    have hi' : n + i < l.length := by have := List.length_drop (i := n) (l := l); omega
    rw [getD_drop, Nat.add_assoc]
    exact h1 _ hi'
theorem BRow.nil (w : World) (a : Option Addr) : BRow w a [] := ⟨by simp, .inl rfl⟩
theorem BRow.of_blk {w : World} {g : Nat} {t : TypeId} {l : List Nat} {cs : Array Value} (h : Blk w g t cs) (hc : cs = (bv l).toArray) (hs : ∀ x ∈ l, x < 256) : BRow w (some ⟨g, 0, none⟩) l := by
  subst hc
  refine ⟨hs, .inr ⟨g, 0, rfl, fun i hi => ?_⟩⟩
  rw [Nat.zero_add, h.cell, List.getElem?_toArray, bv_get hi]

theorem byte_info : (Tryz.prog.info? 5).map (fun i => (i.zero, i.size, i.bytes)) = some (some (.int .u8 0), 1, 1) := by kernel_rfl

/-- A row of bytes of the call's own. -/
def Own (w : World) (base : Nat) (v : Value) (l : List Nat) : Prop := w.ownsRow base 5 1 v l.length (bv l)
theorem Own.nil (w : World) (base : Nat) : Own w base (.slice none 0 0) [] := World.ownsRow_nil _ _ _ _
theorem Own.row {w : World} {base : Nat} {v : Value} {l : List Nat} (h : Own w base v l) (hs : ∀ x ∈ l, x < 256) : ∃ a c, v = .slice a l.length c ∧ BRow w a l ∧ l.length ≤ c := by
  have h' := h
  rcases h'.2 with ⟨rfl, h0⟩ | ⟨g, cap, cur, rfl, _, _, hnc, _⟩
  · have : l = [] := List.eq_nil_of_length_eq_zero h0
    subst this
    exact ⟨none, 0, rfl, BRow.nil _ _, Nat.le_refl _⟩
  · refine ⟨_, cap, rfl, ⟨hs, .inr ⟨g, 0, rfl, fun i hi => ?_⟩⟩, hnc⟩
    rw [Nat.zero_add, World.ownsRow.cellAt h i (by omega), bv_get hi]
theorem Own.old {w w' : World} {base : Nat} {v : Value} {l : List Nat} (h : Own w base v l) (hb : Below w.heap.size w w') : Own w' base v l :=
  World.ownsRow.kept h (row := none) ⟨hb.os, hb.tape, hb.output, hb.size, fun k hk _ => hb.block k hk⟩ (by
    cases hv : v.ownBlock
    · exact .inl rfl
    · exact .inr (by simp))
theorem Own.more {w : World} {base base' : Nat} {v : Value} {l : List Nat} (h : Own w base v l) (hb : base' ≤ base) : Own w base' v l := by
  refine ⟨h.1, ?_⟩
  rcases h.2 with h | ⟨g, cap, cur, h1, h2, h3⟩
  · exact .inl h
  · exact .inr ⟨g, cap, cur, h1, Nat.le_trans hb h2, h3⟩
theorem Own.drew {w : World} {base : Nat} {v : Value} {l : List Nat} (h : Own w base v l) : Own w.drew base v l := h
theorem Blk.drew {w : World} {g : Nat} {t : TypeId} {cs : Array Value} (h : Blk w g t cs) : Blk w.drew g t cs := h
theorem BRow.drew {w : World} {a : Option Addr} {l : List Nat} (h : BRow w a l) : BRow w.drew a l := ⟨h.small, h.at_⟩
/-- A literal row of bytes. -/
theorem Own.lit {w : World} {base : Nat} (hb : base ≤ w.heap.size) (l : List Nat) (hl : l.length ≤ 1000000) {cs : Array Value} (hc : cs = (bv l).toArray) :
    Own (w.alloc (.cells cs 5)) base (.slice (some ⟨w.heap.size, 0, none⟩) l.length l.length) l := by
  subst hc
  exact World.ownsRow_lit w (bv l).toArray l.length hb (by unfold maxLen; omega) (by simp [bv_length])

/-- What a step that writes into rows of bytes of the call's own, and makes memory, leaves as it was. -/
structure Stp (base : Nat) (w w' : World) : Prop where
  below : Below base w w'
  blk : ∀ g t cs, t ≠ 5 → Blk w g t cs → Blk w' g t cs
theorem Stp.refl (base : Nat) (w : World) : Stp base w w := ⟨Below.refl _ _, fun _ _ _ _ h => h⟩
theorem Stp.trans {base : Nat} {a b c : World} (h : Stp base a b) (k : Stp base b c) : Stp base a c := ⟨h.below.trans k.below, fun g t cs ht hb => k.blk g t cs ht (h.blk g t cs ht hb)⟩
theorem Stp.of_below {base : Nat} {w w' : World} (h : Below w.heap.size w w') (hb : base ≤ w.heap.size) : Stp base w w' := ⟨h.mono hb, fun _ _ _ _ hg => hg.old h⟩
theorem Stp.alloc {base : Nat} {w w' : World} (h : Stp base w w') (hb : base ≤ w'.heap.size) (o : Obj) : Stp base w (w'.alloc o) := ⟨h.below.alloc hb o, fun g t cs ht hg => (h.blk g t cs ht hg).alloc o⟩
theorem Stp.more {base base' : Nat} {w w' : World} (h : Stp base w w') (hb : base' ≤ base) : Stp base' w w' := ⟨h.below.mono hb, h.blk⟩
theorem Stp.size {base : Nat} {w w' : World} (h : Stp base w w') : w.heap.size ≤ w'.heap.size := h.below.size
theorem Stp.base {base : Nat} {w w' : World} (h : Stp base w w') (hb : base ≤ w.heap.size) : base ≤ w'.heap.size := Nat.le_trans hb h.below.size
theorem Stp.drew0 {base : Nat} {w : World} : Stp base w w.drew := ⟨(Below.refl _ _).drew, fun _ _ _ _ h => h⟩
theorem Stp.drew {base : Nat} {w w' : World} (h : Stp base w w') : Stp base w w'.drew := ⟨h.below.drew, h.blk⟩

/-- Bytes appended to a row of the call's own. -/
theorem append_bytes' {w : World} {base : Nat} {v : Value} {l m : List Nat} (hown : Own w base v l) {a : Option Addr} {c : Nat}
    (hr : BRow w a m) (hn : l.length + m.length ≤ 1000000) (hb : base ≤ w.heap.size) :
    ∃ v' w', (Builtin.append_ #[56, 56] 56 #[v, .slice a m.length c]).run Tryz.prog w = .ok v' w' ∧ Own w' base v' (l ++ m) ∧ Stp base w w' ∧ w.grownBy w' v.ownBlock := by
  obtain ⟨i0, hi, hz0, hz1, hz2⟩ := info_parts byte_info
  cases a with
  | some ad =>
    obtain ⟨v', w', h1, h2, h3, _⟩ := run_append_own_at (P := Tryz.prog) w base 56 56 5 i0 _ 1 1 Tryz.underlying56 hi hz0 hz1 hz2 rfl (by omega) v l.length (bv l) hown ad m.length c (bv m) (by rw [bv_length]; omega) hr.news (bv_one m)
      (by unfold maxLen; omega) (by omega) hb
    refine ⟨v', w', h1, ?_, ⟨(Below.refl base w).grown h3 hb (fun k hk => (hown.lt k hk).1), fun g t cs ht hg => hg.grown h3 (own_blk_ne hown hg ht)⟩, h3⟩
    unfold Own
    rw [List.length_append, bv_append]
    exact h2
  | none =>
    have h0 : m = [] := by
      rcases hr.at_ with h | ⟨b, o, he, _⟩
      · exact h
      · cases he
    subst h0
    refine ⟨v, w, ?_, by simpa using hown, Stp.refl _ _, World.grownBy.refl w _⟩
    rcases hown.2 with ⟨rfl, h00⟩ | ⟨g, cap, cur, rfl, _, _, hnc, _⟩
    · simp [Builtin.append_, run_underlying Tryz.underlying56, sizeOf, typeInfo, hi, Builtin.lenOf, Builtin.firstCells]
    · simp [Builtin.append_, run_underlying Tryz.underlying56, sizeOf, typeInfo, hi, Builtin.lenOf, Builtin.firstCells, hnc, storeCells]
theorem append_bytes {w : World} {base : Nat} {v : Value} {l m : List Nat} (hown : Own w base v l) {a : Option Addr} {c : Nat}
    (hr : BRow w a m) (hn : l.length + m.length ≤ 1000000) (hb : base ≤ w.heap.size) :
    ∃ v' w', (Builtin.append_ #[56, 56] 56 #[v, .slice a m.length c]).run Tryz.prog w = .ok v' w' ∧ Own w' base v' (l ++ m) ∧ Stp base w w' :=
  let ⟨v', w', h1, h2, h3, _⟩ := append_bytes' hown (c := c) hr hn hb
  ⟨v', w', h1, h2, h3⟩
theorem BRow.grown {w w' : World} {g o : Nat} {l : List Nat} {row : Option Nat} (h : BRow w (some ⟨g, o, none⟩) l) (hg : w.grownBy w' row) (hne : some g ≠ row) : BRow w' (some ⟨g, o, none⟩) l := by
  refine ⟨h.small, ?_⟩
  rcases h.at_ with h0 | ⟨b, o', he, h1⟩
  · exact .inl h0
  · injection he with he
    injection he with hb ho _
    subst hb ho
    exact .inr ⟨g, o, rfl, fun i hi => hg.cell (h1 i hi) hne⟩
/-- An append at a step of a region that draws. -/
theorem step_append_run {P : Program} {w w' : World} {ops : Array Oper} {o : Oper} {a : Act} {K : Act → World → Prop} {Q : Exit → Act → World → Prop} {E : Prop} (hgd : o.guard = none) (s x : Operand) {t u : TypeId}
    (ho : o.op = .call { callee := .builtin .append, args := #[s, x], argTypes := #[t, u] }) {v src v' : Value} (hs : a.eval s = v) (hx : a.eval x = src)
    (hrun : (Builtin.append_ #[t, u] o.type #[v, src]).run P w = .ok v' w') (h : K (a.put o.dst v') w') : if Region.wanted o (yielded ops a.tmps) = true then Oper.wp P o a w K Q else E := by
  have hw : Region.wanted o (yielded ops a.tmps) = true := by simp [Region.wanted, hgd]
  rw [if_pos hw]
  unfold Oper.wp execOp
  simp only [ho, resolve, invoke, builtin, Sem.run_bind, Sem.run_pure, Result.andThen_ok, List.map_toArray, List.map_cons, List.map_nil, hs, hx, hrun]
  exact h

theorem size_alloc (w : World) (o : Obj) : (w.alloc o).heap.size = w.heap.size + 1 := by simp

/-- Bytes laid into a row of their own and appended. -/
theorem append_new {w : World} {base : Nat} {v : Value} {l : List Nat} (hown : Own w base v l) (xs : List Nat) (hs : ∀ x ∈ xs, x < 256) {n H : Nat} (hl : xs.length = n) (hH : w.heap.size = H) {cs : Array Value} (hc : cs = (bv xs).toArray)
    (hn : l.length + n ≤ 1000000) (hb : base ≤ w.heap.size) :
    ∃ v' w', (Builtin.append_ #[56, 56] 56 #[v, .slice (some ⟨H, 0, none⟩) n n]).run Tryz.prog (w.alloc (.cells cs 5)) = .ok v' w' ∧ Own w' base v' (l ++ xs) ∧ Stp base w w' := by
  subst hl hH
  obtain ⟨v', w', h1, h2, h3⟩ := append_bytes (c := xs.length) (hown.old ((Below.refl _ _).alloc (Nat.le_refl _) (.cells cs 5))) (BRow.of_blk (Blk.new w 5 cs) hc hs) hn (by simp; omega)
  exact ⟨v', w', h1, h2, ((Stp.refl _ _).alloc hb _).trans h3⟩

/-- A text's bytes, and back. -/
def sb (s : ByteArray) : List Nat := s.data.toList.map (·.toNat)
def bs (l : List Nat) : ByteArray := ⟨(l.map UInt8.ofNat).toArray⟩
theorem sb_length (s : ByteArray) : (sb s).length = s.size := by simp [sb]
theorem bs_size (l : List Nat) : (bs l).size = l.length := by simp [bs, ByteArray.size]
theorem sb_small (s : ByteArray) : ∀ x ∈ sb s, x < 256 := by
  intro x hx
  obtain ⟨y, _, rfl⟩ := List.mem_map.1 hx
  exact y.toNat_lt
theorem bs_sb (s : ByteArray) : bs (sb s) = s := by
  obtain ⟨⟨l⟩⟩ := s
  simp [bs, sb, Function.comp_def]
theorem sb_bs (l : List Nat) (h : ∀ x ∈ l, x < 256) : sb (bs l) = l := by
  simp only [sb, bs, List.map_map]
  conv => rhs; rw [← List.map_id l]
  exact List.map_congr_left fun x hx => by simpa using Nat.mod_eq_of_lt (h x hx)
theorem strCells_bs (l : List Nat) (h : ∀ x ∈ l, x < 256) : Lib.strCells (bs l) = bv l := by
  have : Lib.strCells (bs l) = bv (sb (bs l)) := by simp [Lib.strCells, bv, sb]
  rw [this, sb_bs l h]

/-- A text appended to a row of the call's own. -/
theorem append_text {w : World} {base : Nat} {v : Value} {l : List Nat} (hown : Own w base v l) (m : List Nat) (hm : ∀ x ∈ m, x < 256)
    (hn : l.length + m.length ≤ 1000000) (hb : base ≤ w.heap.size) :
    ∃ v' w', (Builtin.append_ #[56, 9] 56 #[v, .string (bs m)]).run Tryz.prog w = .ok v' w' ∧ Own w' base v' (l ++ m) ∧ Stp base w w' := by
  obtain ⟨i0, hi, hz0, hz1, hz2⟩ := info_parts byte_info
  obtain ⟨v', w', h1, h2, h3, _⟩ := Lib.run_append_own_string (P := Tryz.prog) w base 56 9 56 5 i0 Tryz.underlying56 Tryz.underlying9 hi hz0 hz1 hz2 v l.length (bv l) hown (bs m) (by rw [bs_size]; unfold maxLen; omega) (by rw [bs_size]; omega) hb
  refine ⟨v', w', h1, ?_, (Below.refl base w).grown h3 hb (fun k hk => (hown.lt k hk).1), fun g t cs ht hg => hg.grown h3 (own_blk_ne hown hg ht)⟩
  unfold Own
  rw [List.length_append, bv_append, ← strCells_bs m hm, ← bs_size m]
  exact h2

/-- A text of bytes that a slice reads as. -/
theorem run_text {w : World} {a : Option Addr} {l : List Nat} (h : BRow w a l) (c : Nat) : (convert 56 9 (.slice a l.length c)).run Tryz.prog w = .ok (.string (bs l)) w := by
  rcases h.at_ with rfl | ⟨b, o, rfl, h1⟩
  · cases a with
    | none => exact run_convert_bytes_nil w _ _ Tryz.underlying56 Tryz.underlying5 _ _ _ Tryz.underlying9
    | some ad =>
      have := run_convert_bytes_back (P := Tryz.prog) w 56 9 5 ad c [] Tryz.underlying56 Tryz.underlying5 Tryz.underlying9 (fun j hj => by simp at hj)
      exact this
  · have := run_convert_bytes_arg (P := Tryz.prog) w _ _ Tryz.underlying56 Tryz.underlying5 b o l.length c (l.map (fun n : Nat => (n : Int))) (by simp) (fun i hi => by
      rw [h1 i hi]
      simp [List.getD, hi]) _ Tryz.underlying9
    rw [this]
    have e : strOfNums (l.map (fun n : Nat => (n : Int))) = bs l := by
      simp [strOfNums, bs, Function.comp_def]
    rw [e]

/-- A text as bytes: in a row of its own. -/
theorem run_conv {l : List Nat} (hl : ∀ x ∈ l, x < 256) (w : World) : ∃ c w', (convert 9 56 (.string (bs l))).run Tryz.prog w = .ok (.slice (some ⟨w.heap.size, 0, none⟩) l.length c) w' ∧ BRow w' (some ⟨w.heap.size, 0, none⟩) l ∧ Below w.heap.size w w' ∧ w'.heap.size = w.heap.size + 1 := by
  have h := run_bytes_of_string (P := Tryz.prog) w 9 56 5 (bs l) Tryz.underlying9 Tryz.underlying56 Tryz.underlying5
  rw [bs_size] at h
  refine ⟨_, _, h, ⟨hl, .inr ⟨_, 0, rfl, fun i hi => ?_⟩⟩, ((Below.refl w.heap.size w).drew).alloc (Nat.le_refl _) _, by simp⟩
  rw [Nat.zero_add]
  have hc := World.cell?_alloc_mark w.drew (bytesRow (bs l) (grownCap w l.length 0 5)) 5 ((bytesRow (bs l) (grownCap w l.length 0 5)).size, (bytesRow (bs l) (grownCap w l.length 0 5)).size + 1) i
  refine hc.trans ?_
  have hx := hl l[i] (List.getElem_mem hi)
  rw [bytesRow, Array.getElem?_append_left (by simpa [bs] using hi)]
  simp [bs, hi, List.getD, Nat.mod_eq_of_lt hx]

/-- The same of every world at once. -/
theorem conv_all {l : List Nat} (hl : ∀ x ∈ l, x < 256) : ∃ (C : World → Nat) (W : World → World), ∀ w, (convert 9 56 (.string (bs l))).run Tryz.prog w = .ok (.slice (some ⟨w.heap.size, 0, none⟩) l.length (C w)) (W w) ∧
    (BRow (W w) (some ⟨w.heap.size, 0, none⟩) l ∧ Below w.heap.size w (W w) ∧ (W w).heap.size = w.heap.size + 1) := by
  refine ⟨fun w => (run_conv hl w).choose, fun w => (run_conv hl w).choose_spec.choose, fun w => ?_⟩
  obtain ⟨h1, h2⟩ := (run_conv hl w).choose_spec.choose_spec
  exact ⟨h1, h2⟩

/-- One byte, two bytes in a row of their own. -/
theorem byte_row (w : World) (x : Nat) (h : x < 256) : BRow (w.alloc (.cells #[vb x] 5)) (some ⟨w.heap.size, 0, none⟩) [x] :=
  BRow.of_blk (Blk.new w _ _) (by simp [bv]) (by simpa using h)
theorem byte_row2 (w : World) (x y : Nat) (h : x < 256) (h' : y < 256) : BRow (w.alloc (.cells #[vb x, vb y] 5)) (some ⟨w.heap.size, 0, none⟩) [x, y] :=
  BRow.of_blk (Blk.new w _ _) (by simp [bv]) (by simpa using ⟨h, h'⟩)

/-- A row of bytes is none of a block that holds no bytes. -/
theorem BRow.set_far {w : World} {g j : Nat} {t : TypeId} {cs : Array Value} {u : Value} {a : Option Addr} {m : List Nat} (hm : BRow w a m) (hb : Blk w g t cs) (hv : ∀ j n : Nat, cs[j]? ≠ some (vb n)) : BRow (w.setCell ⟨g, j, none⟩ u) a m := by
  refine ⟨hm.small, ?_⟩
  rcases hm.at_ with h0 | ⟨b, o, rfl, h1⟩
  · exact .inl h0
  · by_cases hbg : b = g
    · refine .inl ?_
      subst hbg
      rcases m with _ | ⟨x, m⟩
      · rfl
      · have h2 := h1 0 (by simp)
        rw [hb.cell] at h2
        exact absurd h2 (hv _ _)
    · refine .inr ⟨b, o, rfl, fun i hi => ?_⟩
      rw [World.cell?_setCell_other _ _ _ _ (fun e => hbg (by injection e with e1; exact e1.symm))]
      exact h1 i hi
theorem BRow.drewN {w : World} {a : Option Addr} {l : List Nat} (h : BRow w a l) (n : Nat) : BRow (w.drewN n) a l := ⟨h.small, h.at_⟩
theorem below_drewN {B : Nat} {a w : World} (h : Below B a w) (n : Nat) : Below B a (w.drewN n) := ⟨h.os, h.tape, h.output, h.size, h.block⟩
end Go.Proofs.YtnfhlocflpdlcaaGreat

