/-
  The document's chip made anew: five rows made in whatever order. Conditions: a geometry that is right.
-/
import Derived.Test.YtpggkehfbhffbaaRE
import Derived.Deep.RegionHeld3
namespace Go.Proofs.Ytpggkehfbhffbaa
open Go.RowKit

section
variable {P : Program} {md : Region.Mode} {ops : Array Oper} {Q : Exit → Act → World → Prop} {S : World → Prop}
/-- A region in whatever order, by what holds of all that has come up. -/
theorem wpAnyH_inv {I : Array Bool → Act → World → Prop} (hS : ∀ listed a w, I listed a w → S w)
    (hstep : ∀ listed a w i, I listed a w → i ∈ Region.ready md ops listed → wpOp P ops Q i (fun a' w' => I (listed.setIfInBounds i true) a' w') a w)
    (hend : ∀ listed a w, I listed a w → Region.ready md ops listed = [] → Q .normal a w) :
    ∀ (fuel : Nat) (listed : Array Bool) (a : Act) (w : World), listed.toList.count false ≤ fuel → I listed a w → wpAnyH P md ops Q S fuel listed a w
  | 0, listed, a, w, hc, hi => by
    have hr : Region.ready md ops listed = [] := by
      apply List.eq_nil_iff_forall_not_mem.2
      intro i hm
      have h0 := (mem_ready.1 hm).1
      have hlt : i < listed.size := by
        rcases Nat.lt_or_ge i listed.size with h | h
        · exact h
        · simp [Array.getD, Nat.not_lt.2 h] at h0
      have hmem : false ∈ listed.toList := by
        have : listed[i] = false := by simpa [Array.getD, hlt] using h0
        rw [← this]
        simp
      have := List.count_pos_iff.2 hmem
      omega
    exact ⟨hr, hend _ _ _ hi hr⟩
  | fuel + 1, listed, a, w, hc, hi => by
    refine ⟨fun hr => hend _ _ _ hi hr, fun i hm => wpOp_mono (fun a' w' h' => ⟨hS _ _ _ h', wpAnyH_inv hS hstep hend fuel _ a' w' ?_ h'⟩) (hstep _ _ _ _ hi hm)⟩
    have h0 := (mem_ready.1 hm).1
    have hlt : i < listed.size := by
      rcases Nat.lt_or_ge i listed.size with h | h
      · exact h
      · simp [Array.getD, Nat.not_lt.2 h] at h0
    have he : listed[i] = false := by simpa [Array.getD, hlt] using h0
    have hp : 0 < listed.toList.count false := List.count_pos_iff.2 (by rw [← he]; simp)
    have : (listed.setIfInBounds i true).toList.count false = listed.toList.count false - 1 := by
      rw [Array.toList_setIfInBounds, List.count_set (by simpa using hlt)]
      simp [he]
    omega
end

section
variable {base : Nat} {w : World} {k : Nat} {R R' : RefM}
theorem make_rows (n : Nat) (hn : n ≤ 1000000) (w : World) : (Instr.makeSlice 51 (.int .i64 (n : Int)) (.int .i64 (n : Int))).run Try.prog w = .ok (.slice (some ⟨w.heap.size, 0, none⟩) n n) (w.alloc (.cells (madeCells #[.slice none 0 0] n) 32)) :=
  run_make_row' 51 32 (.slice none 0 0) 24 Try.underlying51 pages_info rfl .i64 .i64 n (by omega) (by omega) w
theorem make_ints (n : Nat) (hn : n ≤ 1000000) (w : World) : (Instr.makeSlice 24 (.int .i64 (n : Int)) (.int .i64 (n : Int))).run Try.prog w = .ok (.slice (some ⟨w.heap.size, 0, none⟩) n n) (w.alloc (.cells (madeCells #[vi 0] n) 3)) :=
  run_make_row' 24 3 (vi 0) 8 Try.underlying24 int_info rfl .i64 .i64 n (by omega) (by omega) w
theorem make_bools (n : Nat) (hn : n ≤ 1000000) (w : World) : (Instr.makeSlice 52 (.int .i64 (n : Int)) (.int .i64 (n : Int))).run Try.prog w = .ok (.slice (some ⟨w.heap.size, 0, none⟩) n n) (w.alloc (.cells (madeCells #[.bool false] n) 4)) :=
  run_make_row' 52 4 (.bool false) 1 Try.underlying52 bool_info rfl .i64 .i64 n (by omega) (by omega) w

abbrev sl (g n : Nat) : Value := .slice (some ⟨g, 0, none⟩) n n
/-- Memory of a chip made anew. -/
structure BlankMem (w : World) (b p s : Nat) (kk g1 g2 g3 g4 g5 : Nat) (w' : World) : Prop where
  chip : Blk w' kk 107 #[vi b, vi p, vi s, sl g1 (b * p), sl g2 b, sl g3 b, sl g4 b, sl g5 b, .slice none 0 0, vi 0, .bool false, vi 0, vi 0]
  b1 : Blk w' g1 32 (madeCells #[.slice none 0 0] (b * p))
  b2 : Blk w' g2 3 (madeCells #[vi 0] b)
  b3 : Blk w' g3 4 (madeCells #[.bool false] b)
  b4 : Blk w' g4 4 (madeCells #[.bool false] b)
  b5 : Blk w' g5 3 (madeCells #[vi 0] b)
  below : Below w.heap.size w w'
  new : w.heap.size ≤ kk ∧ w.heap.size ≤ g1 ∧ w.heap.size ≤ g2 ∧ w.heap.size ≤ g3 ∧ w.heap.size ≤ g4 ∧ w.heap.size ≤ g5
  ne : g3 ≠ g4 ∧ g2 ≠ g5
/-- A row that was made, or will be. -/
def Row (w : World) (t : TypeId) (cs : Array Value) (n : Nat) (m : Bool) (v : Value) (w' : World) : Prop := m = true → ∃ g, v = sl g n ∧ Blk w' g t cs ∧ w.heap.size ≤ g
theorem Row.alloc {t : TypeId} {cs : Array Value} {n : Nat} {m : Bool} {v : Value} {w' : World} (h : Row w t cs n m v w') (o : Obj) : Row w t cs n m v (w'.alloc o) := fun hm =>
  let ⟨g, h1, h2, h3⟩ := h hm
  ⟨g, h1, h2.alloc o, h3⟩
theorem Row.new {t : TypeId} {cs : Array Value} {n : Nat} {w' : World} (hb : Below w.heap.size w w') : Row w t cs n true (sl w'.heap.size n) (w'.alloc (.cells cs t)) := fun _ => ⟨_, rfl, Blk.new _ _ _, hb.size⟩
theorem Row.ne {t : TypeId} {cs : Array Value} {n : Nat} {m : Bool} {v : Value} {w' : World} (h : Row w t cs n m v w') (hm : m = true) : v ≠ sl w'.heap.size n := by
  obtain ⟨g, rfl, h2, _⟩ := h hm
  intro e
  injection e with e
  injection e with e
  injection e with e
  have := h2.lt
  omega
/-- The rows that were made so far. -/
structure BMk (w : World) (g b p s : Nat) (m1 m2 m3 m4 m5 : Bool) (v1 v2 v3 v4 v5 : Value) (w' : World) : Prop where
  geo : w'.cell? ⟨g, 0, none⟩ = some (vi b) ∧ w'.cell? ⟨g, 1, none⟩ = some (vi p) ∧ w'.cell? ⟨g, 2, none⟩ = some (vi s)
  below : Below w.heap.size w w'
  r1 : Row w 32 (madeCells #[.slice none 0 0] (b * p)) (b * p) m1 v1 w'
  r2 : Row w 3 (madeCells #[vi 0] b) b m2 v2 w'
  r3 : Row w 4 (madeCells #[.bool false] b) b m3 v3 w'
  r4 : Row w 4 (madeCells #[.bool false] b) b m4 v4 w'
  r5 : Row w 3 (madeCells #[vi 0] b) b m5 v5 w'
  d1 : m3 = true → m4 = true → v3 ≠ v4
  d2 : m2 = true → m5 = true → v2 ≠ v5
section
variable {g b p s : Nat} {m1 m2 m3 m4 m5 : Bool} {v1 v2 v3 v4 v5 : Value} {w' : World}
theorem cell_alloc' {a : Addr} {v : Value} (h : w.cell? a = some v) (o : Obj) : (w.alloc o).cell? a = some v := cell_below h ((Below.refl _ _).alloc (Nat.le_refl _) o)
theorem BMk.alloc (h : BMk w g b p s m1 m2 m3 m4 m5 v1 v2 v3 v4 v5 w') (o : Obj) : BMk w g b p s m1 m2 m3 m4 m5 v1 v2 v3 v4 v5 (w'.alloc o) :=
  ⟨⟨cell_alloc' h.geo.1 o, cell_alloc' h.geo.2.1 o, cell_alloc' h.geo.2.2 o⟩, h.below.alloc h.below.size o, h.r1.alloc o, h.r2.alloc o, h.r3.alloc o, h.r4.alloc o, h.r5.alloc o, h.d1, h.d2⟩
theorem BMk.mk1 (h : BMk w g b p s m1 m2 m3 m4 m5 v1 v2 v3 v4 v5 w') : BMk w g b p s true m2 m3 m4 m5 (sl w'.heap.size (b * p)) v2 v3 v4 v5 (w'.alloc (.cells (madeCells #[.slice none 0 0] (b * p)) 32)) :=
  { h.alloc _ with r1 := Row.new h.below }
theorem BMk.mk2 (h : BMk w g b p s m1 m2 m3 m4 m5 v1 v2 v3 v4 v5 w') : BMk w g b p s m1 true m3 m4 m5 v1 (sl w'.heap.size b) v3 v4 v5 (w'.alloc (.cells (madeCells #[vi 0] b) 3)) :=
  { h.alloc _ with r2 := Row.new h.below, d2 := fun _ hm => (h.r5.ne hm).symm }
theorem BMk.mk3 (h : BMk w g b p s m1 m2 m3 m4 m5 v1 v2 v3 v4 v5 w') : BMk w g b p s m1 m2 true m4 m5 v1 v2 (sl w'.heap.size b) v4 v5 (w'.alloc (.cells (madeCells #[.bool false] b) 4)) :=
  { h.alloc _ with r3 := Row.new h.below, d1 := fun _ hm => (h.r4.ne hm).symm }
theorem BMk.mk4 (h : BMk w g b p s m1 m2 m3 m4 m5 v1 v2 v3 v4 v5 w') : BMk w g b p s m1 m2 m3 true m5 v1 v2 v3 (sl w'.heap.size b) v5 (w'.alloc (.cells (madeCells #[.bool false] b) 4)) :=
  { h.alloc _ with r4 := Row.new h.below, d1 := fun hm _ => h.r3.ne hm }
theorem BMk.mk5 (h : BMk w g b p s m1 m2 m3 m4 m5 v1 v2 v3 v4 v5 w') : BMk w g b p s m1 m2 m3 m4 true v1 v2 v3 v4 (sl w'.heap.size b) (w'.alloc (.cells (madeCells #[vi 0] b) 3)) :=
  { h.alloc _ with r5 := Row.new h.below, d2 := fun hm _ => h.r2.ne hm }
end

/-- What holds of all that has come up. -/
structure BSt (w : World) (g b p s : Nat) (m1 m2 m3 m4 m5 m6 m7 m8 : Bool) (v1 v2 v3 v4 v5 v6 v7 v8 : Value) (w' : World) : Prop where
  rows : BMk w g b p s m1 m2 m3 m4 m5 v1 v2 v3 v4 v5 w'
  f6 : m6 = true → (m1 = true ∧ m2 = true ∧ m3 = true ∧ m4 = true ∧ m5 = true) ∧ v6 = .agg #[vi b, vi p, vi s, v1, v2, v3, v4, v5, .slice none 0 0, vi 0, .bool false, vi 0, vi 0]
  f7 : m7 = true → m6 = true ∧ ∃ kk, v7 = ptr kk ∧ Blk w' kk 107 #[vi b, vi p, vi s, v1, v2, v3, v4, v5, .slice none 0 0, vi 0, .bool false, vi 0, vi 0] ∧ w.heap.size ≤ kk
  f8 : m8 = true → m7 = true ∧ v8 = v7
def BInv (w : World) (g b p s : Nat) (listed : Array Bool) (a : Act) (w' : World) : Prop :=
  ∃ m1 m2 m3 m4 m5 m6 m7 m8 v1 v2 v3 v4 v5 v6 v7 v8, listed = #[true, true, true, true, true, true, m1, true, true, m2, true, true, m3, true, true, m4, true, true, m5, m6, m7, m8] ∧
    a = { tmps := #[.agg #[vi b, vi p, vi s], .pointer (some ⟨g, 0, none⟩), v8, .agg #[vi b, vi p, vi s], .pointer (some ⟨g, 0, none⟩), vi b, .pointer (some ⟨g, 1, none⟩), vi p, vi ((b : Int) * p), v1, .pointer (some ⟨g, 0, none⟩), vi b, v2, .pointer (some ⟨g, 0, none⟩), vi b, v3, .pointer (some ⟨g, 0, none⟩), vi b, v4, .pointer (some ⟨g, 0, none⟩), vi b, v5, v6, v7], defers := [] } ∧
    BSt w g b p s m1 m2 m3 m4 m5 m6 m7 m8 v1 v2 v3 v4 v5 v6 v7 v8 w'

section
variable {g b p s : Nat} {m1 m2 m3 m4 m5 m6 m7 m8 : Bool} {v1 v2 v3 v4 v5 v6 v7 v8 : Value} {w' w'' : World}
theorem BSt.row (h : BSt w g b p s m1 m2 m3 m4 m5 m6 m7 m8 v1 v2 v3 v4 v5 v6 v7 v8 w') (hno : ¬ (m1 = true ∧ m2 = true ∧ m3 = true ∧ m4 = true ∧ m5 = true)) {m1' m2' m3' m4' m5' : Bool} {v1' v2' v3' v4' v5' : Value}
    (hr : BMk w g b p s m1' m2' m3' m4' m5' v1' v2' v3' v4' v5' w'') : BSt w g b p s m1' m2' m3' m4' m5' m6 m7 m8 v1' v2' v3' v4' v5' v6 v7 v8 w'' :=
  have hm6 : m6 = true → False := fun hm => hno (h.f6 hm).1
  ⟨hr, fun hm => (hm6 hm).elim, fun hm => (hm6 (h.f7 hm).1).elim, fun hm => (hm6 (h.f7 (h.f8 hm).1).1).elim⟩
theorem BSt.six (h : BSt w g b p s m1 m2 m3 m4 m5 false m7 m8 v1 v2 v3 v4 v5 v6 v7 v8 w') (ha : m1 = true ∧ m2 = true ∧ m3 = true ∧ m4 = true ∧ m5 = true) :
    BSt w g b p s m1 m2 m3 m4 m5 true m7 m8 v1 v2 v3 v4 v5 (.agg #[vi b, vi p, vi s, v1, v2, v3, v4, v5, .slice none 0 0, vi 0, .bool false, vi 0, vi 0]) v7 v8 w' :=
  have hm7 : m7 = true → False := fun hm => by have := (h.f7 hm).1; cases this
  ⟨h.rows, fun _ => ⟨ha, rfl⟩, fun hm => (hm7 hm).elim, fun hm => (hm7 (h.f8 hm).1).elim⟩
theorem BSt.seven (h : BSt w g b p s m1 m2 m3 m4 m5 m6 false m8 v1 v2 v3 v4 v5 v6 v7 v8 w') (ha : m6 = true) :
    BSt w g b p s m1 m2 m3 m4 m5 m6 true m8 v1 v2 v3 v4 v5 v6 (ptr w'.heap.size) v8 (w'.alloc (.cells #[vi b, vi p, vi s, v1, v2, v3, v4, v5, .slice none 0 0, vi 0, .bool false, vi 0, vi 0] 107)) :=
  ⟨h.rows.alloc _, h.f6, fun _ => ⟨ha, _, rfl, Blk.new _ _ _, h.rows.below.size⟩, fun hm => by have := (h.f8 hm).1; cases this⟩
theorem BSt.eight (h : BSt w g b p s m1 m2 m3 m4 m5 m6 m7 m8 v1 v2 v3 v4 v5 v6 v7 v8 w') (ha : m7 = true) :
    BSt w g b p s m1 m2 m3 m4 m5 m6 m7 true v1 v2 v3 v4 v5 v6 v7 v7 w' := ⟨h.rows, h.f6, h.f7, fun _ => ⟨ha, rfl⟩⟩
end

set_option maxRecDepth 100000 in
set_option maxHeartbeats 4000000 in
theorem rblank_any (b p s : Nat) (hb : b ≤ 128) (hp : p ≤ 32) (w : World) : Calls Try.prog 64 #[.agg #[vi b, vi p, vi s]] w fun e w' => ∃ kk g1 g2 g3 g4 g5, e = .returned (ptr kk) ∧ BlankMem w b p s kk g1 g2 g3 g4 g5 w' := by
  have F0 := Blk.new w 23 #[vi b, vi p, vi s]
  have HB := Lib.hid ((Below.refl w.heap.size w).alloc (Nat.le_refl _) (.cells #[vi b, vi p, vi s] 23))
  have hm : b * p ≤ 4096 := Nat.le_trans (Nat.mul_le_mul hb hp) (by decide)
  have q1 : IntKind.i64.wrap ((b : Int) * (p : Int)) = ((b : Int) * (p : Int)) := IntWalk.i64_in _ (by omega)
  have m1 := make_rows (b * p) (by omega)
  have m2 := make_ints b (by omega)
  have m3 := make_bools b (by omega)
  rw [Int.natCast_mul] at m1
  go_enter Try.func64, Try.ntmps64
  go_upto_region 1 with fail
  generalize w.alloc (.cells #[vi b, vi p, vi s] 23) = w1 at *
  have S1 : w1.drew.cell? ⟨w.heap.size, 0, none⟩ = some (vi b) ∧ w1.drew.cell? ⟨w.heap.size, 1, none⟩ = some (vi p) ∧ w1.drew.cell? ⟨w.heap.size, 2, none⟩ = some (vi s) := ⟨F0.cell 0, F0.cell 1, F0.cell 2⟩
  generalize hg : w.heap.size = g at *
  have HG := Lib.hid hg
  clear F0 hg hm hb hp
  refine wp_region_held_drew (S := fun w' => w'.cell? ⟨g, 0, none⟩ = some (vi b) ∧ w'.cell? ⟨g, 1, none⟩ = some (vi p) ∧ w'.cell? ⟨g, 2, none⟩ = some (vi s)) (by kernel_rfl) S1 (fun hHeld => ?_)
  change wpAnyH _ _ _ _ _ 22 #[false, false, false, false, false, false, false, false, false, false, false, false, false, false, false, false, false, false, false, false, false, false] _ _
  refine wpAnyH_take (i := 0) (oi := ⟨some 3, _, _, _, _, _⟩) (v := ?_) rfl (by kernel_rfl) (by kernel_rfl) (by kernel_rfl) (fun _ _ _ h => h) (Or.inl ⟨by rfl, ?_⟩) (by assumption) ?_
  rotate_left
  · intro w hSw; (try dsimp only at hSw); go_simp; (try with_reducible rfl)
  simp only [Act.put, List.setIfInBounds_toArray, List.set_cons_zero, List.set_cons_succ]
  refine wpAnyH_take (i := 1) (oi := ⟨some 4, _, _, _, _, _⟩) (v := ?_) rfl (by kernel_rfl) (by kernel_rfl) (by kernel_rfl) (fun _ _ _ h => h) (Or.inl ⟨by rfl, ?_⟩) (by assumption) ?_
  rotate_left
  · intro w hSw; (try dsimp only at hSw); go_simp; (try with_reducible rfl)
  simp only [Act.put, List.setIfInBounds_toArray, List.set_cons_zero, List.set_cons_succ]
  refine wpAnyH_take (i := 3) (oi := ⟨some 6, _, _, _, _, _⟩) (v := ?_) rfl (by kernel_rfl) (by kernel_rfl) (by kernel_rfl) (fun _ _ _ h => h) (Or.inl ⟨by rfl, ?_⟩) (by assumption) ?_
  rotate_left
  · intro w hSw; (try dsimp only at hSw); go_simp; (try with_reducible rfl)
  simp only [Act.put, List.setIfInBounds_toArray, List.set_cons_zero, List.set_cons_succ]
  refine wpAnyH_take (i := 7) (oi := ⟨some 10, _, _, _, _, _⟩) (v := ?_) rfl (by kernel_rfl) (by kernel_rfl) (by kernel_rfl) (fun _ _ _ h => h) (Or.inl ⟨by rfl, ?_⟩) (by assumption) ?_
  rotate_left
  · intro w hSw; (try dsimp only at hSw); go_simp; (try with_reducible rfl)
  simp only [Act.put, List.setIfInBounds_toArray, List.set_cons_zero, List.set_cons_succ]
  refine wpAnyH_take (i := 10) (oi := ⟨some 13, _, _, _, _, _⟩) (v := ?_) rfl (by kernel_rfl) (by kernel_rfl) (by kernel_rfl) (fun _ _ _ h => h) (Or.inl ⟨by rfl, ?_⟩) (by assumption) ?_
  rotate_left
  · intro w hSw; (try dsimp only at hSw); go_simp; (try with_reducible rfl)
  simp only [Act.put, List.setIfInBounds_toArray, List.set_cons_zero, List.set_cons_succ]
  refine wpAnyH_take (i := 13) (oi := ⟨some 16, _, _, _, _, _⟩) (v := ?_) rfl (by kernel_rfl) (by kernel_rfl) (by kernel_rfl) (fun _ _ _ h => h) (Or.inl ⟨by rfl, ?_⟩) (by assumption) ?_
  rotate_left
  · intro w hSw; (try dsimp only at hSw); go_simp; (try with_reducible rfl)
  simp only [Act.put, List.setIfInBounds_toArray, List.set_cons_zero, List.set_cons_succ]
  refine wpAnyH_take (i := 16) (oi := ⟨some 19, _, _, _, _, _⟩) (v := ?_) rfl (by kernel_rfl) (by kernel_rfl) (by kernel_rfl) (fun _ _ _ h => h) (Or.inl ⟨by rfl, ?_⟩) (by assumption) ?_
  rotate_left
  · intro w hSw; (try dsimp only at hSw); go_simp; (try with_reducible rfl)
  simp only [Act.put, List.setIfInBounds_toArray, List.set_cons_zero, List.set_cons_succ]
  refine wpAnyH_take (i := 2) (oi := ⟨some 5, _, _, _, _, _⟩) (v := ?_) rfl (by kernel_rfl) (by kernel_rfl) (by kernel_rfl) (fun _ _ _ h => h) (Or.inl ⟨by rfl, ?_⟩) (by assumption) ?_
  rotate_left
  · intro w hSw; (try dsimp only at hSw); go_simp; (try with_reducible rfl)
  simp only [Act.put, List.setIfInBounds_toArray, List.set_cons_zero, List.set_cons_succ]
  refine wpAnyH_take (i := 4) (oi := ⟨some 7, _, _, _, _, _⟩) (v := ?_) rfl (by kernel_rfl) (by kernel_rfl) (by kernel_rfl) (fun _ _ _ h => h) (Or.inl ⟨by rfl, ?_⟩) (by assumption) ?_
  rotate_left
  · intro w hSw; (try dsimp only at hSw); go_simp; (try with_reducible rfl)
  simp only [Act.put, List.setIfInBounds_toArray, List.set_cons_zero, List.set_cons_succ]
  refine wpAnyH_take (i := 8) (oi := ⟨some 11, _, _, _, _, _⟩) (v := ?_) rfl (by kernel_rfl) (by kernel_rfl) (by kernel_rfl) (fun _ _ _ h => h) (Or.inl ⟨by rfl, ?_⟩) (by assumption) ?_
  rotate_left
  · intro w hSw; (try dsimp only at hSw); go_simp; (try with_reducible rfl)
  simp only [Act.put, List.setIfInBounds_toArray, List.set_cons_zero, List.set_cons_succ]
  refine wpAnyH_take (i := 11) (oi := ⟨some 14, _, _, _, _, _⟩) (v := ?_) rfl (by kernel_rfl) (by kernel_rfl) (by kernel_rfl) (fun _ _ _ h => h) (Or.inl ⟨by rfl, ?_⟩) (by assumption) ?_
  rotate_left
  · intro w hSw; (try dsimp only at hSw); go_simp; (try with_reducible rfl)
  simp only [Act.put, List.setIfInBounds_toArray, List.set_cons_zero, List.set_cons_succ]
  refine wpAnyH_take (i := 14) (oi := ⟨some 17, _, _, _, _, _⟩) (v := ?_) rfl (by kernel_rfl) (by kernel_rfl) (by kernel_rfl) (fun _ _ _ h => h) (Or.inl ⟨by rfl, ?_⟩) (by assumption) ?_
  rotate_left
  · intro w hSw; (try dsimp only at hSw); go_simp; (try with_reducible rfl)
  simp only [Act.put, List.setIfInBounds_toArray, List.set_cons_zero, List.set_cons_succ]
  refine wpAnyH_take (i := 17) (oi := ⟨some 20, _, _, _, _, _⟩) (v := ?_) rfl (by kernel_rfl) (by kernel_rfl) (by kernel_rfl) (fun _ _ _ h => h) (Or.inl ⟨by rfl, ?_⟩) (by assumption) ?_
  rotate_left
  · intro w hSw; (try dsimp only at hSw); go_simp; (try with_reducible rfl)
  simp only [Act.put, List.setIfInBounds_toArray, List.set_cons_zero, List.set_cons_succ]
  refine wpAnyH_take (i := 5) (oi := ⟨some 8, _, _, _, _, _⟩) (v := ?_) rfl (by kernel_rfl) (by kernel_rfl) (by kernel_rfl) (fun _ _ _ h => h) (Or.inl ⟨by rfl, ?_⟩) (by assumption) ?_
  rotate_left
  · intro w hSw; (try dsimp only at hSw); go_simp; (try with_reducible rfl)
  simp only [Act.put, List.setIfInBounds_toArray, List.set_cons_zero, List.set_cons_succ]
  change wpAnyH _ _ _ _ _ 8 #[true, true, true, true, true, true, false, true, true, false, true, true, false, true, true, false, true, true, false, false, false, false]
    { tmps := #[.agg #[vi b, vi p, vi s], .pointer (some ⟨g, 0, none⟩), .pointer none, .agg #[vi b, vi p, vi s], .pointer (some ⟨g, 0, none⟩), vi b, .pointer (some ⟨g, 1, none⟩), vi p, vi ((b : Int) * p), undef, .pointer (some ⟨g, 0, none⟩), vi b, undef, .pointer (some ⟨g, 0, none⟩), vi b, undef, .pointer (some ⟨g, 0, none⟩), vi b, undef, .pointer (some ⟨g, 0, none⟩), vi b, undef, undef, undef], defers := [] } w1.drew
  refine wpAnyH_inv (I := BInv w g b p s) ?_ ?_ ?_ _ _ _ _ (by decide) ?_
  · rintro listed a w' ⟨m1, m2, m3, m4, m5, m6, m7, m8, v1, v2, v3, v4, v5, v6, v7, v8, rfl, rfl, hI⟩
    exact hI.rows.geo
  · rintro listed a w' i ⟨m1', m2', m3', m4', m5', m6', m7', m8', v1, v2, v3, v4, v5, v6, v7, v8, rfl, rfl, hI⟩ hi
    obtain ⟨h0, o, ho, hall⟩ := mem_ready.1 hi
    clear hi S1 hHeld
    have HI := Lib.hid hI
    clear hI
    rcases i with _ | _ | _ | _ | _ | _ | _ | _ | _ | _ | _ | _ | _ | _ | _ | _ | _ | _ | _ | _ | _ | _ | i
    case succ.succ.succ.succ.succ.succ.succ.succ.succ.succ.succ.succ.succ.succ.succ.succ.succ.succ.succ.succ.succ.succ => simp at ho
    all_goals first | (exfalso; simp at h0; done) | skip
    all_goals (injection ho with ho; subst ho; simp [Region.binds] at hall)
    case' succ.succ.succ.succ.succ.succ.zero =>
      simp at h0; subst h0
      refine wpOp_step rfl (fun K hK => ?_)
      go_simp
      exact hK _ _ ⟨_, _, _, _, _, _, _, _, _, _, _, _, _, _, _, _, rfl, rfl, HI.out.row (by simp) HI.out.rows.mk1⟩
    case' succ.succ.succ.succ.succ.succ.succ.succ.succ.zero =>
      simp at h0; subst h0
      refine wpOp_step rfl (fun K hK => ?_)
      go_simp
      exact hK _ _ ⟨_, _, _, _, _, _, _, _, _, _, _, _, _, _, _, _, rfl, rfl, HI.out.row (by simp) HI.out.rows.mk2⟩
    case' succ.succ.succ.succ.succ.succ.succ.succ.succ.succ.succ.succ.zero =>
      simp at h0; subst h0
      refine wpOp_step rfl (fun K hK => ?_)
      go_simp
      exact hK _ _ ⟨_, _, _, _, _, _, _, _, _, _, _, _, _, _, _, _, rfl, rfl, HI.out.row (by simp) HI.out.rows.mk3⟩
    case' succ.succ.succ.succ.succ.succ.succ.succ.succ.succ.succ.succ.succ.succ.succ.zero =>
      simp at h0; subst h0
      refine wpOp_step rfl (fun K hK => ?_)
      go_simp
      exact hK _ _ ⟨_, _, _, _, _, _, _, _, _, _, _, _, _, _, _, _, rfl, rfl, HI.out.row (by simp) HI.out.rows.mk4⟩
    case' succ.succ.succ.succ.succ.succ.succ.succ.succ.succ.succ.succ.succ.succ.succ.succ.succ.succ.zero =>
      simp at h0; subst h0
      refine wpOp_step rfl (fun K hK => ?_)
      go_simp
      exact hK _ _ ⟨_, _, _, _, _, _, _, _, _, _, _, _, _, _, _, _, rfl, rfl, HI.out.row (by simp) HI.out.rows.mk5⟩
    case' succ.succ.succ.succ.succ.succ.succ.succ.succ.succ.succ.succ.succ.succ.succ.succ.succ.succ.succ.zero =>
      simp at h0; subst h0
      obtain ⟨h1, h2, h3, h4, h5⟩ := hall
      obtain ⟨g1, rfl, -, -⟩ := HI.out.rows.r1 h1
      obtain ⟨g2, rfl, -, -⟩ := HI.out.rows.r2 h2
      obtain ⟨g3, rfl, -, -⟩ := HI.out.rows.r3 h3
      obtain ⟨g4, rfl, -, -⟩ := HI.out.rows.r4 h4
      obtain ⟨g5, rfl, -, -⟩ := HI.out.rows.r5 h5
      refine wpOp_step rfl (fun K hK => ?_)
      go_simp
      exact hK _ _ ⟨_, _, _, _, _, _, _, _, _, _, _, _, _, _, _, _, rfl, rfl, HI.out.six ⟨h1, h2, h3, h4, h5⟩⟩
    case' succ.succ.succ.succ.succ.succ.succ.succ.succ.succ.succ.succ.succ.succ.succ.succ.succ.succ.succ.succ.zero =>
      simp at h0; subst h0
      obtain ⟨_, hv6⟩ := HI.out.f6 hall
      subst hv6
      refine wpOp_step rfl (fun K hK => ?_)
      go_simp
      exact hK _ _ ⟨_, _, _, _, _, _, _, _, _, _, _, _, _, _, _, _, rfl, rfl, HI.out.seven hall⟩
    case' succ.succ.succ.succ.succ.succ.succ.succ.succ.succ.succ.succ.succ.succ.succ.succ.succ.succ.succ.succ.succ.zero =>
      simp at h0; subst h0
      refine wpOp_step rfl (fun K hK => ?_)
      go_simp
      exact hK _ _ ⟨_, _, _, _, _, _, _, _, _, _, _, _, _, _, _, _, rfl, rfl, HI.out.eight hall.1⟩
  · rintro listed a w' ⟨m1, m2, m3, m4, m5, m6, m7, m8, v1, v2, v3, v4, v5, v6, v7, v8, rfl, rfl, hI⟩ hr
    have hno : ∀ i, i ∉ Region.ready Region.Mode.any _ _ := fun i hi => by rw [hr] at hi; cases hi
    have hno6 := hno 6
    have hno9 := hno 9
    have hno12 := hno 12
    have hno15 := hno 15
    have hno18 := hno 18
    have hno19 := hno 19
    have hno20 := hno 20
    have hno21 := hno 21
    clear hno hr
    simp [mem_ready, Region.binds] at hno6 hno9 hno12 hno15 hno18 hno19 hno20 hno21
    have h6 : m6 = true := by
      cases m6
      · have := hno19 rfl hno6 hno9 hno12 hno15; rw [hno18] at this; cases this
      · rfl
    have h7 : m7 = true := by
      cases m7
      · have := hno20 rfl; rw [h6] at this; cases this
      · rfl
    have h8 : m8 = true := by
      cases m8
      · have := hno21 rfl h7 hno6 hno9 hno12 hno15 hno18 h6; rw [h7] at this; cases this
      · rfl
    obtain ⟨g1, e1, t1, l1⟩ := hI.rows.r1 hno6
    obtain ⟨g2, e2, t2, l2⟩ := hI.rows.r2 hno9
    obtain ⟨g3, e3, t3, l3⟩ := hI.rows.r3 hno12
    obtain ⟨g4, e4, t4, l4⟩ := hI.rows.r4 hno15
    obtain ⟨g5, e5, t5, l5⟩ := hI.rows.r5 hno18
    obtain ⟨-, kk, e7, t7, l7⟩ := hI.f7 h7
    obtain ⟨-, e8⟩ := hI.f8 h8
    have d1 := hI.rows.d1 hno12 hno15
    have d2 := hI.rows.d2 hno9 hno18
    have hbl := hI.rows.below
    subst e8
    subst e7
    rw [e3, e4] at d1
    rw [e2, e5] at d2
    rw [e1, e2, e3, e4, e5] at t7
    have HM := Lib.hid (show BlankMem w b p s kk g1 g2 g3 g4 g5 w' from ⟨t7, t1, t2, t3, t4, t5, hbl, ⟨l7, l1, l2, l3, l4, l5⟩, fun e => d1 (by rw [e]), fun e => d2 (by rw [e])⟩)
    clear d1 d2 t1 t2 t3 t4 t5 t7 hbl hI hno6 hno9 hno12 hno15 hno18 hno19 hno20 hno21 h6 h7 h8 S1 hHeld
    subst e1 e2 e3 e4 e5
    go_wp2_with fail
    go_ret
    exact ⟨kk, g1, g2, g3, g4, g5, rfl, HM.out⟩
  · refine ⟨false, false, false, false, false, false, false, false, _, _, _, _, _, _, _, _, rfl, rfl, ⟨⟨S1, ?_, ?_, ?_, ?_, ?_, ?_, ?_, ?_⟩, ?_, ?_, ?_⟩⟩
    · rw [HG.out]; exact HB.out.drew
    all_goals (intro h; cases h)
end

end Go.Proofs.Ytpggkehfbhffbaa
