/-
  Lemmas for a law's proof, put together from several texts: each part says what it shows, and its conditions.
-/
import Derived.Test.YtnfhlocflpdlcaaGreatZT20
/-
  A manager of a chip's blocks, opened. Conditions: a chip told by ChipAt; rows that can be read.
-/
namespace Go.Proofs.YtnfhlocflpdlcaaGreat.mgr
open Go.RowKit

/-! In plain words. -/
def firstB (c : NP.Chp) (f : Bool) (n : Int) (k : Nat) : gcs.Blk :=
  if NP.badAt c k then ⟨4, 0, NP.wearAt c k, 0⟩ else if f then ⟨0, 0, NP.wearAt c k, 0⟩ else if 0 < n then ⟨2, n, NP.wearAt c k, 0⟩ else ⟨3, 0, NP.wearAt c k, 0⟩
def wrongB (P : Int) (f : Bool) (n : Int) : Bool := decide (n < 0) || decide (P < n) || (f && decide (0 < n))
def firstL (c : NP.Chp) (fresh : List Bool) (live : List Int) (n : Nat) : List gcs.Blk := (List.range n).map fun k => firstB c (fresh.getD k false) (live.getD k 0) k
def evenB (l : List gcs.Blk) : Bool := decide (4 < wrap64 (gcs.greatestL l - gcs.leastL l))
def openG (c : NP.Chp) (fresh : List Bool) (live : List Int) (reserve bad : Int) : Int × Option Mg :=
  if c.down then (4, none)
  else if fresh.length ≠ c.B ∨ live.length ≠ c.B ∨ reserve < 0 ∨ bad < 0 then (1, none)
  else if (List.range c.B).all (fun k => !wrongB c.P (fresh.getD k false) (live.getD k 0)) then (0, some ⟨firstL c fresh live c.B, -1, reserve, bad, evenB (firstL c fresh live c.B)⟩)
  else (1, none)
theorem firstL_length (c : NP.Chp) (fresh : List Bool) (live : List Int) (n : Nat) : (firstL c fresh live n).length = n := by simp [firstL]
theorem firstL_succ (c : NP.Chp) (fresh : List Bool) (live : List Int) (n : Nat) : firstL c fresh live (n + 1) = firstL c fresh live n ++ [firstB c (fresh.getD n false) (live.getD n 0) n] := by
  simp [firstL, List.range_succ]
theorem all_range_succ (f : Nat → Bool) (n : Nat) : (List.range (n + 1)).all f = ((List.range n).all f && f n) := by
  simp [List.range_succ]
theorem all_range_not {f : Nat → Bool} {n B : Nat} (h : n < B) (hf : f n = false) : (List.range B).all f = false := by
  rw [List.all_eq_false]
  exact ⟨n, List.mem_range.2 h, by simp [hf]⟩
theorem openG_ok {c : NP.Chp} {fresh : List Bool} {live : List Int} {reserve bad : Int} {e : Int} {g : Mg} (h : openG c fresh live reserve bad = (e, some g)) : g.ok c ∧ e = 0 ∧ g.at_ = -1 := by
  unfold openG at h
  split at h
  · simp at h
  · split at h
    · simp at h
    · split at h
      · rename_i h1 h2 h3
        injection h with h4 h5
        injection h5 with h5
        subst h5
        have hw : ∀ k, k < c.B → wrongB c.P (fresh.getD k false) (live.getD k 0) = false := by
          intro k hk
          have := List.all_eq_true.1 h3 k (List.mem_range.2 hk)
          simpa using this
        have hP : (0 : Int) ≤ c.P := by omega
        have hx : ∀ x ∈ firstL c fresh live c.B, ∃ k, k < c.B ∧ x = firstB c (fresh.getD k false) (live.getD k 0) k := by
          intro x hx
          obtain ⟨k, hk, rfl⟩ := List.mem_map.1 hx
          exact ⟨k, List.mem_range.1 hk, rfl⟩
        have hr : ∀ x ∈ firstL c fresh live c.B, 0 ≤ x.s ∧ x.s ≤ 4 ∧ 0 ≤ x.l ∧ x.l ≤ c.P ∧ x.n = 0 ∧ x.s ≠ 1 ∧ (x.s ≠ 2 → x.l = 0) := by
          intro x hx'
          obtain ⟨k, hk, rfl⟩ := hx x hx'
          have := hw k hk
          unfold wrongB at this
          simp only [Bool.or_eq_false_iff, decide_eq_false_iff_not] at this
          unfold firstB
          generalize live.getD k 0 = n at *
          split
          · dsimp only; omega
          · split
            · dsimp only; omega
            · split
              · dsimp only; omega
              · dsimp only; omega
        refine ⟨⟨firstL_length _ _ _ _, ?_, ?_, ?_, .inl rfl, ?_⟩, h4.symm, rfl⟩
        · intro x hx'; have := hr x hx'; omega
        · intro x hx' a b; exact (hr x hx').2.2.2.2.2.2 b
        · intro x hx' a; exact absurd a (hr x hx').2.2.2.2.2.1
        · intro i hi hs
          exact absurd hs (hr _ (blk_mem hi)).2.2.2.2.2.1
      · simp at h

/-! In memory. -/
theorem block_info : (Tryz.prog.info? 236).map (fun i => (i.zero, i.size, i.bytes)) = some (some (.agg #[vi 0, vi 0, vi 0, vi 0]), 4, 32) := by kernel_rfl
def GOwn (w : World) (b0 : Nat) (v : Value) (l : List gcs.Blk) : Prop := w.ownsRow b0 236 4 v l.length (l.flatMap gcells)
section
variable {w w' : World} {b0 : Nat} {v : Value} {l : List gcs.Blk}
theorem GOwn.grown (h : GOwn w b0 v l) {row : Option Nat} (q : w.grownBy w' row) (hne : v.ownBlock = none ∨ v.ownBlock ≠ row) : GOwn w' b0 v l := World.ownsRow.kept h q hne
theorem GOwn.old (h : GOwn w b0 v l) (hb : Below w.heap.size w w') : GOwn w' b0 v l :=
  h.grown (row := none) ⟨hb.os, hb.tape, hb.output, hb.size, fun k hk _ => hb.block k hk⟩ (by cases hv : v.ownBlock <;> simp)
theorem GOwn.form (h : GOwn w b0 v l) : ∃ a c, v = .slice a l.length c := by
  rcases h.2 with ⟨rfl, h0⟩ | ⟨g, cap, cur, rfl, _⟩
  · exact ⟨none, 0, by rw [h0]⟩
  · exact ⟨_, _, rfl⟩
theorem GOwn.row (h : GOwn w b0 v l) : ∀ b, v.ownBlock = some b → b0 ≤ b ∧ ∃ cur, Blk w b 236 cur := by
  intro b hb
  rcases h.2 with ⟨rfl, _⟩ | ⟨g, cap, cur, rfl, hg, hh, _⟩
  · simp [Value.ownBlock] at hb
  · simp [Value.ownBlock] at hb
    subst hb
    exact ⟨hg, cur, hh⟩
theorem append_block (hown : GOwn w b0 v l) (x : gcs.Blk) (hn : l.length + 1 ≤ 1000000) (hb : b0 ≤ w.heap.size) :
    ∃ v' w', AppRun 232 232 232 v (.slice (some ⟨w.heap.size, 0, none⟩) 1 1) (w.alloc (.cells #[vi x.s, vi x.l, vi x.r, vi x.n] 236)) v' w' ∧ GOwn w' b0 v' (l ++ [x]) ∧ (w.alloc (.cells #[vi x.s, vi x.l, vi x.r, vi x.n] 236)).grownBy w' v.ownBlock := by
  obtain ⟨i0, hi, hz0, hz1, hz2⟩ := info_parts block_info
  have hown' := hown.old ((Below.refl _ w).alloc (Nat.le_refl _) (.cells #[vi x.s, vi x.l, vi x.r, vi x.n] 236))
  obtain ⟨v', w', h1, h2, h3, _⟩ := run_append_own_at (P := Tryz.prog) (w.alloc (.cells #[vi x.s, vi x.l, vi x.r, vi x.n] 236)) b0 232 232 236 i0 _ 4 32 Tryz.underlying232 hi hz0 hz1 hz2 rfl (by omega) v l.length (l.flatMap gcells) hown'
    ⟨w.heap.size, 0, none⟩ 1 1 (gcells x) rfl (fun j u hu => by
      rw [add_plain, Nat.zero_add, (Blk.new w 236 #[vi x.s, vi x.l, vi x.r, vi x.n]).cell]
      simpa [gcells] using hu) (by intro u hu; simp [gcells] at hu; rcases hu with rfl | rfl | rfl | rfl <;> rfl)
      (by unfold maxLen; omega) (by omega) (by simp; omega)
  refine ⟨v', w', ⟨h1⟩, ?_, h3⟩
  unfold GOwn
  rw [List.length_append, List.flatMap_append]
  simpa using h2
end

/-- A manager while its blocks are laid. -/
structure OpenSt (w : World) (k m : Nat) (reserve bad : Int) (l : List gcs.Blk) (v : Value) (wr : World) : Prop where
  below : Below w.heap.size w wr
  mgr : Blk wr m 234 #[ptr k, v, vi (-1), vi reserve, vi bad, .bool false]
  own : GOwn wr w.heap.size v l
  low : w.heap.size ≤ m
section
variable {w wr w' : World} {k m : Nat} {reserve bad : Int} {l : List gcs.Blk} {v : Value}
theorem OpenSt.old (h : OpenSt w k m reserve bad l v wr) (q : Below wr.heap.size wr w') : OpenSt w k m reserve bad l v w' := ⟨h.below.trans (q.mono h.below.size), h.mgr.old q, h.own.old q, h.low⟩
/-- A variable of this loop's is laid. -/
theorem OpenSt.var (h : OpenSt w k m reserve bad l v wr) {g j : Nat} (hw : w.heap.size ≤ g) (ho : v.ownBlock ≠ some g) (hk : g ≠ m) (u : Value) : OpenSt w k m reserve bad l v (wr.setCell ⟨g, j, none⟩ u) :=
  ⟨h.below.setCell (p := ⟨g, j, none⟩) hw u, h.mgr.far (p := ⟨g, j, none⟩) hk.symm u, h.own.grown (row := some g) (set_grown wr g j u) (.inr ho), h.low⟩
theorem OpenSt.next (h : OpenSt w k m reserve bad l v wr) {w5 : World} {v' : Value} {x : gcs.Blk} (ho : GOwn w5 w.heap.size v' (l ++ [x])) (hgr : (wr.alloc (.cells #[vi x.s, vi x.l, vi x.r, vi x.n] 236)).grownBy w5 v.ownBlock) :
    OpenSt w k m reserve bad (l ++ [x]) v' (w5.setCell ⟨m, 1, none⟩ v') := by
  have hoa := h.own.old ((Below.refl _ wr).alloc (Nat.le_refl _) (.cells #[vi x.s, vi x.l, vi x.r, vi x.n] 236))
  have hc5 : Blk w5 m 234 _ := (h.mgr.alloc (.cells #[vi x.s, vi x.l, vi x.r, vi x.n] 236)).grown hgr (own_blk_ne hoa (h.mgr.alloc _) (by decide))
  have hk5 : some m ≠ v'.ownBlock := own_blk_ne ho hc5 (by decide)
  refine ⟨?_, hc5.set_ 1 v', ho.grown (row := some m) (set_grown w5 m 1 v') (.inr (fun e => hk5 e.symm)), h.low⟩
  exact ((h.below.alloc h.below.size _).grown hgr (h.below.alloc h.below.size _).size (fun b e => (hoa.row b e).1)).setCell (p := ⟨m, 1, none⟩) h.low _
end
end Go.Proofs.YtnfhlocflpdlcaaGreat.mgr

