/-
  Lemmas for a law's proof, put together from several texts: each part says what it shows, and its conditions.
-/
import Derived.Test.YtnfhlocflpdlcaaGreatZT02
import Derived.Test.YtnfhlocflpdlcaaGreatZT03
/-
  A chip in memory: what it holds, which blocks of memory are its own, what a step may change. No conditions of its own.
-/
namespace Go.Proofs.YtnfhlocflpdlcaaGreat
open Go.RowKit

/-! What a step may change. -/
/-- Of the blocks that were there only those that are told may change. -/
structure Chg (F : Nat → Prop) (w w' : World) : Prop where
  os : w'.os = w.os
  tape : w'.tape = w.tape
  output : w'.output = w.output
  size : w.heap.size ≤ w'.heap.size
  block : ∀ k, k < w.heap.size → ¬ F k → w'.heap[k]? = w.heap[k]?
section
variable {F F' : Nat → Prop} {w w' w'' : World}
theorem Chg.refl (F : Nat → Prop) (w : World) : Chg F w w := ⟨rfl, rfl, rfl, Nat.le_refl _, fun _ _ _ => rfl⟩
theorem Chg.trans (h : Chg F w w') (k : Chg F' w' w'') (hF : ∀ n, n < w.heap.size → F' n → F n) : Chg F w w'' :=
  ⟨k.os.trans h.os, k.tape.trans h.tape, k.output.trans h.output, Nat.le_trans h.size k.size, fun i hi hn => (k.block i (Nat.lt_of_lt_of_le hi h.size) (fun e => hn (hF i hi e))).trans (h.block i hi hn)⟩
theorem Chg.of_below (h : Below w.heap.size w w') : Chg F w w' := ⟨h.os, h.tape, h.output, h.size, fun k hk _ => h.block k hk⟩
theorem Chg.below (h : Chg F w w') (k : Below w'.heap.size w' w'') : Chg F w w'' := h.trans (F' := F) (Chg.of_below k) (fun _ _ e => e)
theorem Chg.mono (h : Chg F w w') (hF : ∀ n, n < w.heap.size → F n → F' n) : Chg F' w w' := ⟨h.os, h.tape, h.output, h.size, fun k hk hn => h.block k hk (fun e => hn (hF k hk e))⟩
theorem Chg.set (w : World) {p : Addr} (hp : F p.block) (u : Value) : Chg F w (w.setCell p u) :=
  ⟨rfl, rfl, rfl, by simp [World.setCell], fun k _ hn => Below.heap_setCell w p u k (fun e => hn (by rw [e]; exact hp))⟩
theorem Chg.setCell (h : Chg F w w') {p : Addr} (hp : F p.block ∨ w.heap.size ≤ p.block) (u : Value) : Chg F w (w'.setCell p u) :=
  ⟨h.os, h.tape, h.output, by have := h.size; simpa [World.setCell] using this, fun k hk hn => (Below.heap_setCell w' p u k (by
    rintro rfl
    rcases hp with hp | hp
    · exact hn hp
    · omega)).trans (h.block k hk hn)⟩
theorem Chg.alloc (h : Chg F w w') (o : Obj) : Chg F w (w'.alloc o) := h.below ((Below.refl _ _).alloc (Nat.le_refl _) o)
theorem Chg.drew (h : Chg F w w') : Chg F w w'.drew := ⟨h.os, h.tape, h.output, h.size, h.block⟩
theorem Chg.drewN (h : Chg F w w') (n : Nat) : Chg F w (w'.drewN n) := h.below (below_drewN (Below.refl _ _) n)
theorem Chg.grown {row : Option Nat} (h : Chg F w w') (g : w'.grownBy w'' row) (hr : ∀ k, row = some k → F k ∨ w.heap.size ≤ k) : Chg F w w'' :=
  ⟨g.os.trans h.os, g.tape.trans h.tape, g.output.trans h.output, Nat.le_trans h.size g.size, fun k hk hn => (g.block k (Nat.lt_of_lt_of_le hk h.size) (by
    intro e
    rcases hr k e.symm with h1 | h1
    · exact hn h1
    · omega)).trans (h.block k hk hn)⟩
/-- Where all that may change is younger than a block, all below it stands. -/
theorem Chg.to_below {base : Nat} (h : Chg F w w') (hF : ∀ k, k < w.heap.size → F k → base ≤ k) (hb : base ≤ w.heap.size) : Below base w w' :=
  ⟨h.os, h.tape, h.output, h.size, fun k hk => h.block k (by omega) (fun e => by have := hF k (by omega) e; omega)⟩
theorem Chg.cell (h : Chg F w w') {p : Addr} {v : Value} (hc : w.cell? p = some v) (hn : ¬ F p.block) : w'.cell? p = some v :=
  (World.cell?_of_block (h.block p.block (cell_lt hc) hn)).trans hc
theorem Blk.chg {g : Nat} {t : TypeId} {cs : Array Value} (h : Blk w g t cs) (q : Chg F w w') (hn : ¬ F g) : Blk w' g t cs := (q.block g h.lt hn).trans h
/-- Types of rows that are never written to, once they are there. -/
def dataT (t : TypeId) : Bool := t == 5 || t == 229
/-- A block that stays as it is: it was there at first, or holds data of this type. -/
def Safe (t : TypeId) (base : Nat) (w : World) (b : Nat) : Prop := b < base ∨ ∃ cur, Blk w b t cur
/-- A block that may be written to. -/
def Mine (base : Nat) (w : World) (b : Nat) : Prop := base ≤ b ∧ ∃ t cur, dataT t = false ∧ Blk w b t cur
theorem Safe.no {t : TypeId} {base b : Nat} (h : Safe t base w b) (m : Mine base w b) (ht : dataT t = true := by decide) : False := by
  obtain ⟨m1, t', cur, ht', hb⟩ := m
  rcases h with h | ⟨cur', hb'⟩
  · omega
  · unfold Blk at hb hb'
    rw [hb] at hb'
    injection hb' with hb'
    injection hb' with _ hb'
    subst hb'
    rw [ht] at ht'
    cases ht'
theorem Safe.chg {t : TypeId} {base b : Nat} (h : Safe t base w b) (q : Chg F w w') (hF : ∀ k, F k → Mine base w k) (ht : dataT t = true := by decide) : Safe t base w' b := by
  rcases h with h | ⟨cur, hb⟩
  · exact .inl h
  · exact .inr ⟨cur, hb.chg q (fun e => Safe.no (t := t) (.inr ⟨cur, hb⟩) (hF b e) ht)⟩
theorem Safe.byte {base b : Nat} {cur : Array Value} (h : Blk w b 5 cur) : Safe 5 base w b := .inr ⟨cur, h⟩
/-- A row of bytes that stays. -/
structure SRow (base : Nat) (w : World) (a : Option Addr) (l : List Nat) : Prop where
  row : BRow w a l
  safe : l = [] ∨ ∃ b o, a = some ⟨b, o, none⟩ ∧ Safe 5 base w b
theorem SRow.chg {base : Nat} {a : Option Addr} {l : List Nat} (h : SRow base w a l) (q : Chg F w w') (hF : ∀ k, F k → Mine base w k) : SRow base w' a l := by
  rcases h.safe with rfl | ⟨b, o, rfl, hs⟩
  · exact ⟨BRow.nil _ _, .inl rfl⟩
  · refine ⟨⟨h.row.small, ?_⟩, .inr ⟨b, o, rfl, hs.chg q hF⟩⟩
    rcases h.row.at_ with h0 | ⟨b', o', he, h1⟩
    · exact .inl h0
    · injection he with he
      injection he with hb ho
      subst hb ho
      exact .inr ⟨b, o, rfl, fun i hi => q.cell (h1 i hi) (fun e => hs.no (hF b e))⟩
theorem SRow.old {base : Nat} {a : Option Addr} {l : List Nat} (h : SRow base w a l) (q : Below w.heap.size w w') : SRow base w' a l := h.chg (F := fun _ => False) (Chg.of_below q) (fun _ e => e.elim)
theorem SRow.nil (base : Nat) (w : World) (a : Option Addr) : SRow base w a [] := ⟨BRow.nil _ _, .inl rfl⟩
theorem SRow.take {base : Nat} {a : Option Addr} {l : List Nat} (h : SRow base w a l) (n : Nat) : SRow base w a (l.take n) := by
  refine ⟨h.row.take n, ?_⟩
  rcases h.safe with rfl | ⟨b, o, rfl, hs⟩
  · exact .inl (by simp)
  · exact .inr ⟨b, o, rfl, hs⟩
theorem SRow.drop {base b o : Nat} {l : List Nat} (h : SRow base w (some ⟨b, o, none⟩) l) (n : Nat) : SRow base w (some ⟨b, o + n, none⟩) (l.drop n) := by
  refine ⟨h.row.drop n, ?_⟩
  rcases h.safe with rfl | ⟨b', o', he, hs⟩
  · exact .inl (by simp)
  · injection he with he
    injection he with hb ho
    subst hb ho
    exact .inr ⟨b, o + n, rfl, hs⟩
/-- Rows of bytes of the call's own stay. -/
theorem Own.srow {base base' : Nat} {v : Value} {l : List Nat} (h : Own w base' v l) (hs : ∀ x ∈ l, x < 256) : ∃ a c, v = .slice a l.length c ∧ SRow base w a l ∧ l.length ≤ c ∧ c ≤ maxLen ∧ (l = [] ∨ a ≠ none) := by
  have h' := h
  rcases h'.2 with ⟨rfl, h0⟩ | ⟨g, cap, cur, rfl, _, hg, hnc, hcm, _⟩
  · have : l = [] := List.eq_nil_of_length_eq_zero h0
    subst this
    exact ⟨none, 0, rfl, SRow.nil _ _ _, Nat.le_refl _, Nat.zero_le _, .inl rfl⟩
  · obtain ⟨a, c, hv, hr, hc⟩ := h.row hs
    injection hv with h1 _ h3
    subst h1 h3
    exact ⟨_, cap, rfl, ⟨hr, .inr ⟨g, 0, rfl, Safe.byte hg⟩⟩, hnc, hcm, .inr (by simp)⟩
end

/-! Rows of the call's own, at an address that is known. -/
/-- A row: so many elements of so many cells. -/
def Arr (w : World) (t : TypeId) (size g n c : Nat) (xs : List Value) : Prop := w.ownsRow 0 t size (.slice (some ⟨g, 0, none⟩) n c) n xs
section
variable {F : Nat → Prop} {w w' : World} {t t' : TypeId} {size size' g g' n n' c c' : Nat} {xs xs' : List Value}
theorem Arr.blk (h : Arr w t size g n c xs) : ∃ cur, Blk w g t cur ∧ n ≤ c ∧ c ≤ maxLen ∧ cur.size = c * size ∧ cur.toList.take (n * size) = xs := by
  rcases h.2 with ⟨h1, _⟩ | ⟨g', cap, cur, hv, _, hb, h1, h2, h3, h4⟩
  · cases h1
  · injection hv with hv _ hc
    injection hv with hv
    injection hv with hv
    subst hv hc
    exact ⟨cur, hb, h1, h2, h3, h4⟩
theorem Arr.length (h : Arr w t size g n c xs) : xs.length = n * size := h.1
theorem Arr.lt (h : Arr w t size g n c xs) : g < w.heap.size := by
  obtain ⟨cur, hb, _⟩ := h.blk
  exact hb.lt
theorem Arr.cell (h : Arr w t size g n c xs) {j : Nat} (hj : j < n * size) : w.cell? ⟨g, j, none⟩ = xs[j]? := World.ownsRow.cellAt h j hj
theorem Arr.frozen (h : Arr w t size g n c xs) (j : Nat) : w.frozen? ⟨g, j, none⟩ = false := World.ownsRow.frozenAt h j
theorem Arr.set (h : Arr w t size g n c xs) (j : Nat) (u : Value) : Arr (w.setCell ⟨g, j, none⟩ u) t size g n c (xs.set j u) := (World.ownsRow.stored h j u).1
theorem Arr.chg (h : Arr w t size g n c xs) (q : Chg F w w') (hn : ¬ F g) : Arr w' t size g n c xs := by
  refine ⟨h.1, ?_⟩
  rcases h.2 with h1 | ⟨g', cap, cur, hv, hb, hg, h1⟩
  · exact .inl h1
  · have e := hv
    injection e with e _ _
    injection e with e
    injection e with e
    subst e
    exact .inr ⟨_, cap, cur, hv, hb, (q.block _ h.lt hn).trans hg, h1⟩
theorem Arr.far (h : Arr w t size g n c xs) {p : Addr} (hp : g ≠ p.block) (u : Value) : Arr (w.setCell p u) t size g n c xs :=
  h.chg (F := fun k => k = p.block) (Chg.set (F := fun k => k = p.block) w (p := p) rfl u) hp
theorem Arr.old (h : Arr w t size g n c xs) (q : Below w.heap.size w w') : Arr w' t size g n c xs := h.chg (F := fun _ => False) (Chg.of_below q) (fun e => e)
theorem Arr.ne (h : Arr w t size g n c xs) (h' : Arr w t' size' g' n' c' xs') (ht : t ≠ t') : g ≠ g' := by
  intro e
  subst e
  obtain ⟨cur, hb, _⟩ := h.blk
  obtain ⟨cur', hb', _⟩ := h'.blk
  unfold Blk at hb hb'
  rw [hb] at hb'
  injection hb' with hb'
  injection hb' with _ hb'
  exact ht hb'
theorem Arr.ne_blk (h : Arr w t size g n c xs) {cs : Array Value} (h' : Blk w g' t' cs) (ht : t ≠ t') : g ≠ g' := by
  intro e
  subst e
  obtain ⟨cur, hb, _⟩ := h.blk
  unfold Blk at hb h'
  rw [hb] at h'
  injection h' with h'
  injection h' with _ h'
  exact ht h'
theorem Arr.lit (w : World) (t : TypeId) (size n : Nat) (cs : Array Value) (hm : n ≤ maxLen) (hs : cs.size = n * size) : Arr (w.alloc (.cells cs t)) t size w.heap.size n n cs.toList :=
  World.ownsRow_lit w cs n (Nat.zero_le _) hm hs
theorem Arr.of_own {base : Nat} {v : Value} {m : Nat} (h : w.ownsRow base t size v m xs) (hm : 0 < m) : ∃ g c, v = .slice (some ⟨g, 0, none⟩) m c ∧ Arr w t size g m c xs ∧ base ≤ g := by
  rcases h.2 with ⟨_, h0⟩ | ⟨g, cap, cur, rfl, hb, h1⟩
  · omega
  · exact ⟨g, cap, rfl, ⟨h.1, .inr ⟨g, cap, cur, rfl, Nat.zero_le _, h1⟩⟩, hb⟩
end

/-! Rows of elements of several cells. -/
section
variable {α : Type} {f : α → List Value} {m : Nat}
theorem flat_length (hf : ∀ x, (f x).length = m) : ∀ l : List α, (l.flatMap f).length = l.length * m
  | [] => by simp
  | x :: l => by rw [List.flatMap_cons, List.length_append, hf, flat_length hf l, List.length_cons, Nat.add_mul]; omega
theorem flat_get (hf : ∀ x, (f x).length = m) (d : α) : ∀ (l : List α) (i j : Nat), i < l.length → j < m → (l.flatMap f)[i * m + j]? = (f (l.getD i d))[j]?
  | x :: l, 0, j, _, hj => by
    rw [List.flatMap_cons, Nat.zero_mul, Nat.zero_add, List.getElem?_append_left (by rw [hf]; exact hj)]
    rfl
  | x :: l, i + 1, j, hi, hj => by
    rw [List.flatMap_cons, List.getElem?_append_right (by rw [hf, Nat.add_mul]; omega), hf]
    have := flat_get hf d l i j (by simpa using hi) hj
    rw [show (i + 1) * m + j - m = i * m + j by rw [Nat.add_mul]; omega, this]
    rfl
theorem flat_set (hf : ∀ x, (f x).length = m) (d : α) : ∀ (l : List α) (i j : Nat) (y : α) (u : Value), i < l.length → j < m → f y = (f (l.getD i d)).set j u → (l.flatMap f).set (i * m + j) u = (l.set i y).flatMap f
  | x :: l, 0, j, y, u, _, hj, h => by
    rw [List.flatMap_cons, Nat.zero_mul, Nat.zero_add, List.set_append_left _ _ (by rw [hf]; exact hj), List.set_cons_zero, List.flatMap_cons, h]
    rfl
  | x :: l, i + 1, j, y, u, hi, hj, h => by
    rw [List.flatMap_cons, List.set_append_right _ _ (by rw [hf, Nat.add_mul]; omega), hf, List.set_cons_succ, List.flatMap_cons]
    rw [show (i + 1) * m + j - m = i * m + j by rw [Nat.add_mul]; omega, flat_set hf d l i j y u (by simpa using hi) hj h]
end

/-! A chip. -/
/-- A page's slice: where it lies, its bytes. -/
structure PgM where
  a : Option Addr
  l : List Nat
  c : Nat
instance : Inhabited PgM := ⟨⟨none, [], 0⟩⟩
abbrev PgM.v (p : PgM) : Value := .slice p.a p.l.length p.c
structure PgM.ok (base : Nat) (w : World) (p : PgM) : Prop where
  row : SRow base w p.a p.l
  len : p.l.length ≤ p.c
  cap : p.c ≤ maxLen
  nil : p.l = [] → p = ⟨none, [], 0⟩
theorem PgM.ok.some {base : Nat} {w : World} {p : PgM} (h : p.ok base w) (hl : p.l ≠ []) : ∃ b o, p.a = some ⟨b, o, none⟩ := by
  rcases h.row.row.at_ with h | ⟨b, o, h, _⟩
  · exact absurd h hl
  · exact ⟨b, o, h⟩
theorem PgM.ok.chg {base : Nat} {F : Nat → Prop} {w w' : World} {p : PgM} (h : p.ok base w) (q : Chg F w w') (hF : ∀ k, F k → Mine base w k) : p.ok base w' := ⟨h.row.chg q hF, h.len, h.cap, h.nil⟩
theorem PgM.ok.none (base : Nat) (w : World) : (⟨.none, [], 0⟩ : PgM).ok base w := ⟨SRow.nil _ _ _, Nat.le_refl _, Nat.zero_le _, fun _ => rfl⟩
/-- A block: the row of its pages, its fields. -/
structure BloM where
  g : Nat
  c : Nat
  ps : List PgM
  next : Nat
  broken : Bool
  bad : Bool
  wear : Int
instance : Inhabited BloM := ⟨⟨0, 0, [], 0, false, false, 0⟩⟩
abbrev BloM.cells (x : BloM) : List Value := [.slice (some ⟨x.g, 0, none⟩) x.ps.length x.c, vi x.next, .bool x.broken, .bool x.bad, vi x.wear]
def BloM.view (x : BloM) : NP.Blo := ⟨x.ps.map (·.l), x.next, x.broken, x.bad, x.wear⟩
theorem BloM.cells_length (x : BloM) : x.cells.length = 5 := rfl
/-- A fault. -/
structure FltM where
  at_ : Int
  kind : Int
  a : Option Addr
  l : List Nat
  c : Nat
instance : Inhabited FltM := ⟨⟨0, 0, none, [], 0⟩⟩
abbrev FltM.cs (f : FltM) : Array Value := #[vi f.at_, vi f.kind, .slice f.a f.l.length f.c]
def FltM.view (f : FltM) : NP.Flt := ⟨f.at_, f.kind, f.l⟩
/-- Faults that a slice reads as. -/
structure FRow (base : Nat) (w : World) (a : Option Addr) (fs : List FltM) : Prop where
  at_ : fs = [] ∨ ∃ b o, a = some ⟨b, o, none⟩ ∧ Safe 229 base w b ∧ ∀ i, i < fs.length → ∀ j u, (fs.getD i default).cs[j]? = some u → w.cell? ⟨b, o + i * 3 + j, none⟩ = some u
  data : ∀ f ∈ fs, SRow base w f.a f.l ∧ f.l.length ≤ f.c ∧ f.c ≤ maxLen
  len : fs.length ≤ maxLen
theorem FRow.nil (base : Nat) (w : World) (a : Option Addr) : FRow base w a [] := ⟨.inl rfl, by simp, by decide⟩
theorem FRow.chg {base : Nat} {F : Nat → Prop} {w w' : World} {a : Option Addr} {fs : List FltM} (h : FRow base w a fs) (q : Chg F w w') (hF : ∀ k, F k → Mine base w k) : FRow base w' a fs := by
  refine ⟨?_, fun f hf => ⟨(h.data f hf).1.chg q hF, (h.data f hf).2⟩, h.len⟩
  rcases h.at_ with h0 | ⟨b, o, rfl, hs, h1⟩
  · exact .inl h0
  · exact .inr ⟨b, o, rfl, hs.chg q hF, fun i hi j u hu => q.cell (h1 i hi j u hu) (fun e => hs.no (hF b e))⟩
theorem FRow.old {base : Nat} {w w' : World} {a : Option Addr} {fs : List FltM} (h : FRow base w a fs) (q : Below w.heap.size w w') : FRow base w' a fs := h.chg (F := fun _ => False) (Chg.of_below q) (fun _ e => e.elim)
theorem getD_mem {α : Type} {l : List α} {d : α} {i : Nat} (h : i < l.length) : l.getD i d ∈ l := NP.getD_mem h
theorem FRow.lookup {base : Nat} {w : World} {a : Option Addr} {fs : List FltM} (h : FRow base w a fs) {k : Nat} (hk : k < fs.length) : ∃ b o, a = some ⟨b, o, none⟩ ∧
    (∀ j u, (fs.getD k default).cs[j]? = some u → w.cell? ⟨b, o + k * 3 + j, none⟩ = some u) ∧ SRow base w (fs.getD k default).a (fs.getD k default).l ∧ (fs.getD k default).l.length ≤ (fs.getD k default).c ∧ (fs.getD k default).c ≤ maxLen := by
  rcases h.at_ with rfl | ⟨b, o, rfl, _, h1⟩
  · simp at hk
  · exact ⟨b, o, rfl, h1 k hk, h.data _ (getD_mem hk)⟩
/-- A chip. -/
structure ChM where
  B : Nat
  P : Nat
  S : Nat
  kb : Nat
  kc : Nat
  bs : List BloM
  fa : Option Addr
  fs : List FltM
  fc : Nat
  since : Int
  down : Bool
  strokes : Int
  reads : Int
abbrev ChM.cs (M : ChM) : Array Value := #[vi M.B, vi M.P, vi M.S, .slice (some ⟨M.kb, 0, none⟩) M.bs.length M.kc, .slice M.fa M.fs.length M.fc, vi M.since, .bool M.down, vi M.strokes, vi M.reads]
def ChM.view (M : ChM) : NP.Chp := ⟨M.B, M.P, M.S, M.bs.map (·.view), M.fs.map (·.view), M.since, M.down, M.strokes, M.reads⟩
/-- The blocks of memory that are a chip's own. -/
def ChM.foot (M : ChM) (k n : Nat) : Prop := n = k ∨ n = M.kb ∨ n ∈ M.bs.map (·.g)
structure ChipAt (base : Nat) (w : World) (k : Nat) (M : ChM) : Prop where
  chip : Blk w k 180 M.cs
  blocks : Arr w 176 5 M.kb M.bs.length M.kc (M.bs.flatMap BloM.cells)
  pages : ∀ x ∈ M.bs, Arr w 56 1 x.g x.ps.length x.c (x.ps.map (·.v))
  nodup : (M.bs.map (·.g)).Nodup
  rows : ∀ x ∈ M.bs, ∀ p ∈ x.ps, p.ok base w
  faults : FRow base w M.fa M.fs
  low : ∀ n, M.foot k n → base ≤ n

section
variable {base : Nat} {w w' : World} {k : Nat} {M : ChM}
theorem ChipAt.kb_ne (h : ChipAt base w k M) : M.kb ≠ k := h.blocks.ne_blk h.chip (by decide)
theorem ChipAt.g_ne (h : ChipAt base w k M) {x : BloM} (hx : x ∈ M.bs) : x.g ≠ k ∧ x.g ≠ M.kb := ⟨(h.pages x hx).ne_blk h.chip (by decide), (h.pages x hx).ne h.blocks (by decide)⟩
theorem ChipAt.mine (h : ChipAt base w k M) : ∀ n, M.foot k n → Mine base w n := by
  intro n hn
  refine ⟨h.low n hn, ?_⟩
  rcases hn with rfl | rfl | hn
  · exact ⟨_, _, by decide, h.chip⟩
  · obtain ⟨cur, hb, _⟩ := h.blocks.blk
    exact ⟨_, cur, by decide, hb⟩
  · obtain ⟨x, hx, rfl⟩ := List.mem_map.1 hn
    obtain ⟨cur, hb, _⟩ := (h.pages x hx).blk
    exact ⟨_, cur, by decide, hb⟩
theorem ChipAt.lt (h : ChipAt base w k M) : ∀ n, M.foot k n → n < w.heap.size := by
  intro n hn
  obtain ⟨_, t, cur, _, hb⟩ := h.mine n hn
  exact hb.lt
theorem ChipAt.cells (h : ChipAt base w k M) : w.cell? ⟨k, 0, none⟩ = some (vi M.B) ∧ w.cell? ⟨k, 1, none⟩ = some (vi M.P) ∧ w.cell? ⟨k, 2, none⟩ = some (vi M.S) ∧ w.cell? ⟨k, 3, none⟩ = some (.slice (some ⟨M.kb, 0, none⟩) M.bs.length M.kc) ∧
    w.cell? ⟨k, 4, none⟩ = some (.slice M.fa M.fs.length M.fc) ∧ w.cell? ⟨k, 5, none⟩ = some (vi M.since) ∧ w.cell? ⟨k, 6, none⟩ = some (.bool M.down) ∧ w.cell? ⟨k, 7, none⟩ = some (vi M.strokes) ∧ w.cell? ⟨k, 8, none⟩ = some (vi M.reads) :=
  ⟨h.chip.cell 0, h.chip.cell 1, h.chip.cell 2, h.chip.cell 3, h.chip.cell 4, h.chip.cell 5, h.chip.cell 6, h.chip.cell 7, h.chip.cell 8⟩
/-- A chip stands where none of its own blocks changes. -/
theorem ChipAt.chg {F : Nat → Prop} (h : ChipAt base w k M) (q : Chg F w w') (hF : ∀ n, F n → Mine base w n) (hn : ∀ n, M.foot k n → ¬ F n) : ChipAt base w' k M :=
  ⟨h.chip.chg q (hn _ (.inl rfl)), h.blocks.chg q (hn _ (.inr (.inl rfl))), fun x hx => (h.pages x hx).chg q (hn _ (.inr (.inr (List.mem_map_of_mem hx)))), h.nodup,
    fun x hx p hp => (h.rows x hx p hp).chg q hF, h.faults.chg q hF, h.low⟩
theorem ChipAt.old (h : ChipAt base w k M) (q : Below w.heap.size w w') : ChipAt base w' k M := h.chg (F := fun _ => False) (Chg.of_below q) (fun _ e => e.elim) (fun _ _ e => e)

/-- From a chip to what it is behind a step. -/
structure Goes (base : Nat) (w : World) (k : Nat) (M : ChM) (w' : World) (M' : ChM) : Prop where
  at_ : ChipAt base w' k M'
  chg : Chg (M.foot k) w w'
  foot : ∀ n, M'.foot k n → M.foot k n ∨ w.heap.size ≤ n
theorem Goes.refl (h : ChipAt base w k M) : Goes base w k M w M := ⟨h, Chg.refl _ _, fun _ h => .inl h⟩
theorem Goes.trans {w'' : World} {M' M'' : ChM} (h : Goes base w k M w' M') (q : Goes base w' k M' w'' M'') : Goes base w k M w'' M'' := by
  refine ⟨q.at_, h.chg.trans q.chg fun n hn e => ?_, fun n hn => ?_⟩
  · rcases h.foot n e with h1 | h1
    · exact h1
    · omega
  · rcases q.foot n hn with h1 | h1
    · exact h.foot n h1
    · exact .inr (Nat.le_trans h.chg.size h1)
theorem Goes.old {w'' : World} {M' : ChM} (h : Goes base w k M w' M') (q : Below w'.heap.size w' w'') : Goes base w k M w'' M' := ⟨h.at_.old q, h.chg.below q, h.foot⟩
theorem Goes.of_old (h : ChipAt base w k M) (q : Below w.heap.size w w') : Goes base w k M w' M := (Goes.refl h).old q
theorem Goes.size {M' : ChM} (h : Goes base w k M w' M') : w.heap.size ≤ w'.heap.size := h.chg.size

/-- A field of the chip is laid. -/
theorem ChipAt.field {M' : ChM} (h : ChipAt base w k M) (j : Nat) (v : Value) (hc : M'.cs = M.cs.setIfInBounds j v) (h1 : M'.kb = M.kb) (h2 : M'.kc = M.kc) (h3 : M'.bs = M.bs) (hf : FRow base w M'.fa M'.fs) : Goes base w k M (w.setCell ⟨k, j, none⟩ v) M' := by
  have hq : Chg (M.foot k) w (w.setCell ⟨k, j, none⟩ v) := Chg.set w (p := ⟨k, j, none⟩) (.inl rfl) v
  refine ⟨⟨?_, ?_, ?_, ?_, ?_, hf.chg hq h.mine, ?_⟩, hq, ?_⟩
  · rw [hc]; exact h.chip.set_ j v
  · rw [h1, h2, h3]; exact h.blocks.far (p := ⟨k, j, none⟩) h.kb_ne v
  · rw [h3]; exact fun x hx => (h.pages x hx).far (p := ⟨k, j, none⟩) (h.g_ne hx).1 v
  · rw [h3]; exact h.nodup
  · rw [h3]; exact fun x hx p hp => (h.rows x hx p hp).chg hq h.mine
  · intro n hn; exact h.low n (by unfold ChM.foot at hn ⊢; rw [h1, h3] at hn; exact hn)
  · intro n hn; exact .inl (by unfold ChM.foot at hn ⊢; rw [h1, h3] at hn; exact hn)
/-- Fields of the chip are laid, and memory is made: told from the world at first. -/
theorem ChipAt.fields {M' : ChM} (h : ChipAt base w k M) (q : Chg (fun n => n = k) w w') (hb : Blk w' k 180 M'.cs) (h1 : M'.kb = M.kb) (h2 : M'.kc = M.kc) (h3 : M'.bs = M.bs) (hf : M'.fa = M.fa ∧ M'.fs = M.fs) : Goes base w k M w' M' := by
  have hF : ∀ n, n = k → Mine base w n := fun n e => h.mine n (.inl e)
  refine ⟨⟨hb, ?_, ?_, ?_, ?_, ?_, ?_⟩, q.mono (fun n _ e => .inl e), ?_⟩
  · rw [h1, h2, h3]; exact h.blocks.chg q h.kb_ne
  · rw [h3]; exact fun x hx => (h.pages x hx).chg q (h.g_ne hx).1
  · rw [h3]; exact h.nodup
  · rw [h3]; exact fun x hx p hp => (h.rows x hx p hp).chg q hF
  · rw [hf.1, hf.2]; exact h.faults.chg q hF
  · intro n hn; exact h.low n (by unfold ChM.foot at hn ⊢; rw [h1, h3] at hn; exact hn)
  · intro n hn; exact .inl (by unfold ChM.foot at hn ⊢; rw [h1, h3] at hn; exact hn)
theorem BloM.cells_len (x : BloM) : x.cells.length = 5 := rfl
theorem ChipAt.bcell (h : ChipAt base w k M) {i j : Nat} (hi : i < M.bs.length) (hj : j < 5) : w.cell? ⟨M.kb, i * 5 + j, none⟩ = (M.bs.getD i default).cells[j]? := by
  rw [h.blocks.cell (by omega), flat_get BloM.cells_len default _ _ _ hi hj]
theorem ChipAt.pcell (h : ChipAt base w k M) {i p : Nat} (hi : i < M.bs.length) (hp : p < (M.bs.getD i default).ps.length) : w.cell? ⟨(M.bs.getD i default).g, p, none⟩ = some ((M.bs.getD i default).ps.getD p default).v := by
  rw [(h.pages _ (getD_mem hi)).cell (by omega), List.getElem?_map, List.getD_eq_getElem?_getD (l := (M.bs.getD i default).ps), List.getElem?_eq_getElem hp]
  rfl
theorem set_map_g {l : List BloM} {i : Nat} {y : BloM} (hy : y.g = (l.getD i default).g) : (l.set i y).map (·.g) = l.map (·.g) := by
  rw [List.map_set]
  apply List.ext_getElem?
  intro n
  rw [List.getElem?_set]
  split
  · rename_i h
    subst h
    split
    · rename_i h2
      have h3 : i < l.length := by simpa using h2
      rw [List.getElem?_map, List.getElem?_eq_getElem h3, hy, List.getD_eq_getElem?_getD, List.getElem?_eq_getElem h3]
      rfl
    · rename_i h2
      rw [List.getElem?_eq_none (by simpa using h2)]
  · rfl
/-- A field of a block is laid. -/
theorem ChipAt.bfield (h : ChipAt base w k M) {i j : Nat} (hi : i < M.bs.length) (hj : j < 5) (v : Value) (y : BloM) (hy : y.cells = (M.bs.getD i default).cells.set j v) (hg : y.g = (M.bs.getD i default).g) (hp : y.ps = (M.bs.getD i default).ps) (hc : y.c = (M.bs.getD i default).c) :
    Goes base w k M (w.setCell ⟨M.kb, i * 5 + j, none⟩ v) { M with bs := M.bs.set i y } := by
  have hq : Chg (M.foot k) w (w.setCell ⟨M.kb, i * 5 + j, none⟩ v) := Chg.set w (p := ⟨M.kb, i * 5 + j, none⟩) (.inr (.inl rfl)) v
  have hm : ∀ x ∈ M.bs.set i y, x = y ∨ x ∈ M.bs := fun x hx => (List.mem_or_eq_of_mem_set hx).symm
  have hmg := set_map_g hg
  have hD := getD_mem (d := default) hi
  refine ⟨⟨?_, ?_, ?_, ?_, ?_, h.faults.chg hq h.mine, ?_⟩, hq, ?_⟩
  · have := h.chip.far (p := ⟨M.kb, i * 5 + j, none⟩) h.kb_ne.symm v
    simpa [ChM.cs] using this
  · dsimp only
    rw [List.length_set, ← flat_set BloM.cells_len default _ _ _ y v hi hj hy]
    exact h.blocks.set _ v
  · intro x hx
    rcases hm x hx with rfl | hx
    · rw [hp, hg, hc]
      exact (h.pages _ hD).far (p := ⟨M.kb, i * 5 + j, none⟩) (h.g_ne hD).2 v
    · exact (h.pages x hx).far (p := ⟨M.kb, i * 5 + j, none⟩) (h.g_ne hx).2 v
  · dsimp only; rw [hmg]; exact h.nodup
  · intro x hx p hpx
    rcases hm x hx with rfl | hx
    · rw [hp] at hpx
      exact (h.rows _ hD p hpx).chg hq h.mine
    · exact (h.rows x hx p hpx).chg hq h.mine
  · intro n hn; exact h.low n (by unfold ChM.foot at hn ⊢; dsimp only at hn; rw [hmg] at hn; exact hn)
  · intro n hn; exact .inl (by unfold ChM.foot at hn ⊢; dsimp only at hn; rw [hmg] at hn; exact hn)
theorem mem_set_cases {l : List BloM} {i : Nat} {y x : BloM} (hx : x ∈ l.set i y) : x = y ∨ ∃ n, n ≠ i ∧ n < l.length ∧ x = l.getD n default := by
  obtain ⟨n, hn, rfl⟩ := List.mem_iff_getElem.1 hx
  have hn' : n < l.length := by simpa using hn
  by_cases e : n = i
  · subst e
    exact .inl (by simp)
  · refine .inr ⟨n, e, hn', ?_⟩
    rw [List.getElem_set_ne (fun h => e h.symm), List.getD_eq_getElem?_getD, List.getElem?_eq_getElem hn']
    rfl
theorem nodup_ne {l : List BloM} (h : (l.map (·.g)).Nodup) {i n : Nat} (hi : i < l.length) (hn : n < l.length) (hne : n ≠ i) : (l.getD n default).g ≠ (l.getD i default).g := by
  intro e
  simp only [List.getD_eq_getElem?_getD, List.getElem?_eq_getElem hi, List.getElem?_eq_getElem hn, Option.getD_some] at e
  have hp := List.pairwise_iff_getElem.1 h
  rcases Nat.lt_or_gt_of_ne hne with h1 | h1
  · exact hp n i (by simpa using hn) (by simpa using hi) h1 (by simpa using e)
  · exact hp i n (by simpa using hi) (by simpa using hn) h1 (by simpa using e.symm)
/-- A page is laid. -/
theorem ChipAt.page (h : ChipAt base w k M) {i p : Nat} (hi : i < M.bs.length) (q : PgM) (hq : q.ok base w) :
    Goes base w k M (w.setCell ⟨(M.bs.getD i default).g, p, none⟩ q.v) { M with bs := M.bs.set i { M.bs.getD i default with ps := (M.bs.getD i default).ps.set p q } } := by
  have hD := getD_mem (d := default) hi
  have hf : M.foot k (M.bs.getD i default).g := .inr (.inr (List.mem_map_of_mem hD))
  have hch : Chg (M.foot k) w (w.setCell ⟨(M.bs.getD i default).g, p, none⟩ q.v) := Chg.set w (p := ⟨(M.bs.getD i default).g, p, none⟩) hf _
  have hmg := set_map_g (l := M.bs) (i := i) (y := { M.bs.getD i default with ps := (M.bs.getD i default).ps.set p q }) rfl
  have hset : M.bs.flatMap BloM.cells = (M.bs.set i { M.bs.getD i default with ps := (M.bs.getD i default).ps.set p q }).flatMap BloM.cells := by
    have := flat_set BloM.cells_len default M.bs i 0 { M.bs.getD i default with ps := (M.bs.getD i default).ps.set p q } (M.bs.getD i default).cells[0] hi (by decide) (by simp)
    rw [← this]
    have h0 := flat_get BloM.cells_len default M.bs i 0 hi (by decide)
    apply List.ext_getElem?
    intro n
    rw [List.getElem?_set]
    split
    · rename_i e
      subst e
      rw [h0]
      split
      · rfl
      · rename_i hlt
        rw [flat_length BloM.cells_len] at hlt
        exact absurd (by omega) hlt
    · rfl
  refine ⟨⟨?_, ?_, ?_, ?_, ?_, h.faults.chg hch h.mine, ?_⟩, hch, ?_⟩
  · have := h.chip.far (p := ⟨(M.bs.getD i default).g, p, none⟩) (h.g_ne hD).1.symm q.v
    simpa [ChM.cs] using this
  · dsimp only
    rw [List.length_set, ← hset]
    exact h.blocks.far (p := ⟨(M.bs.getD i default).g, p, none⟩) (h.g_ne hD).2.symm _
  · intro x hx
    rcases mem_set_cases hx with rfl | ⟨n, hne, hn, rfl⟩
    · dsimp only
      rw [List.length_set, List.map_set]
      exact (h.pages _ hD).set p q.v
    · exact (h.pages _ (getD_mem hn)).far (p := ⟨(M.bs.getD i default).g, p, none⟩) (nodup_ne h.nodup hi hn hne) _
  · dsimp only; rw [hmg]; exact h.nodup
  · intro x hx z hz
    rcases (List.mem_or_eq_of_mem_set hx).symm with rfl | hx
    · rcases List.mem_or_eq_of_mem_set hz with hz | rfl
      · exact (h.rows _ hD z hz).chg hch h.mine
      · exact hq.chg hch h.mine
    · exact (h.rows x hx z hz).chg hch h.mine
  · intro n hn; exact h.low n (by unfold ChM.foot at hn ⊢; dsimp only at hn; rw [hmg] at hn; exact hn)
  · intro n hn; exact .inl (by unfold ChM.foot at hn ⊢; dsimp only at hn; rw [hmg] at hn; exact hn)
end

end Go.Proofs.YtnfhlocflpdlcaaGreat

