/-
  A chip of pages, in plain words: what is loaded, step by step. No program in sight; no conditions.
-/
import Derived.Test.YtpggkehfbhffbaaQF
namespace Go.Proofs.Ytpggkehfbhffbaa
open Go.RowKit

theorem flat_get2 {α β : Type} {f : α → List β} {m : Nat} [Inhabited α] : ∀ (l : List α), (∀ x ∈ l, (f x).length = m) → ∀ {i j : Nat}, i < l.length → j < m → (l.flatMap f)[i * m + j]? = (f (l.getD i default))[j]?
  | x :: l, hf, 0, j, _, hj => by
    rw [List.flatMap_cons, Nat.zero_mul, Nat.zero_add, List.getElem?_append_left (by rw [hf x (by simp)]; exact hj)]
    rfl
  | x :: l, hf, i + 1, j, hi, hj => by
    rw [List.flatMap_cons, List.getElem?_append_right (by rw [hf x (by simp), Nat.add_mul]; omega), hf x (by simp)]
    have := flat_get2 l (fun y hy => hf y (by simp [hy])) (i := i) (j := j) (by simpa using hi) hj
    rw [show (i + 1) * m + j - m = i * m + j by rw [Nat.add_mul]; omega, this]
    rfl
/-- What is loaded. -/
structure LoadIn where
  B : Nat
  P : Nat
  S : Nat
  pages : List (List Nat)
  bad : List Bool
  wear : List Int
/-- The next page of a block, n pages looked at. -/
def LoadIn.nextTo (d : LoadIn) (k : Nat) : Nat → Nat
  | 0 => 0
  | n + 1 => if n / d.P = k ∧ d.pages.getD n [] ≠ [] then n % d.P + 1 else d.nextTo k n
def LoadIn.blo (d : LoadIn) (n m k : Nat) : NP.Blo :=
  ⟨(List.range d.P).map (fun p => if k * d.P + p < n then d.pages.getD (k * d.P + p) [] else []), d.nextTo k n, false, if k < m then d.bad.getD k false else false, if k < m then d.wear.getD k 0 else 0⟩
/-- The chip, n pages and m blocks looked at. -/
def LoadIn.chip (d : LoadIn) (n m : Nat) : NP.Chp := ⟨d.B, d.P, d.S, (List.range d.B).map (d.blo n m), [], 0, false, 0, 0⟩
/-- Is a page right? -/
def LoadIn.pageOk (d : LoadIn) (i : Nat) : Prop := d.pages.getD i [] = [] ∨ (d.pages.getD i []).length = d.S + 32
def LoadIn.wearOk (d : LoadIn) (i : Nat) : Prop := 0 ≤ d.wear.getD i 0 ∧ d.wear.getD i 0 ≤ 1099511627776
/-- All is right. -/
structure LoadIn.fine (d : LoadIn) : Prop where
  right : NP.rightB d.B d.P d.S = true
  lp : d.pages.length = d.B * d.P
  lb : d.bad.length = d.B
  lw : d.wear.length = d.B
  pages : ∀ i, i < d.B * d.P → d.pageOk i
  wears : ∀ i, i < d.B → d.wearOk i
section
variable {d : LoadIn}
theorem LoadIn.chip_zero (d : LoadIn) : d.chip 0 0 = NP.blank d.B d.P d.S := by
  unfold LoadIn.chip NP.blank
  congr 1
  have : (List.replicate d.B (NP.blankB d.P)) = (List.range d.B).map (fun _ => NP.blankB d.P) := by rw [List.map_const', List.length_range]
  rw [this]
  refine List.map_congr_left fun k _ => ?_
  unfold LoadIn.blo NP.blankB
  simp only [LoadIn.nextTo, Nat.not_lt_zero, if_false]
  rw [List.map_const', List.length_range]
theorem LoadIn.blk {n m k : Nat} (hk : k < d.B) : (d.chip n m).blk k = d.blo n m k := range_map_getD _ _ _ hk
theorem LoadIn.skip {n m : Nat} (h : d.pages.getD n [] = []) : d.chip (n + 1) m = d.chip n m := by
  unfold LoadIn.chip
  congr 1
  refine List.map_congr_left fun k _ => ?_
  unfold LoadIn.blo
  have e1 : d.nextTo k (n + 1) = d.nextTo k n := by
    show (if n / d.P = k ∧ d.pages.getD n [] ≠ [] then n % d.P + 1 else d.nextTo k n) = _
    rw [if_neg (fun e => e.2 h)]
  rw [e1]
  congr 1
  refine List.map_congr_left fun p _ => ?_
  by_cases e : k * d.P + p = n
  · rw [e, if_pos (Nat.lt_succ_self n), if_neg (Nat.lt_irrefl n), h]
  · by_cases h2 : k * d.P + p < n
    · rw [if_pos h2, if_pos (by omega)]
    · rw [if_neg h2, if_neg (by omega)]
theorem LoadIn.page_step {n m : Nat} (hP : 0 < d.P) (hn : n < d.B * d.P) (h : d.pages.getD n [] ≠ []) :
    d.chip (n + 1) m = NP.setBlk (d.chip n m) (n / d.P) { (d.chip n m).blk (n / d.P) with ps := ((d.chip n m).blk (n / d.P)).ps.set (n % d.P) (d.pages.getD n []), next := n % d.P + 1 } := by
  have hk : n / d.P < d.B := (Nat.div_lt_iff_lt_mul hP).2 hn
  have hdm : n / d.P * d.P + n % d.P = n := by rw [Nat.mul_comm]; exact Nat.div_add_mod n d.P
  have hq : n % d.P < d.P := Nat.mod_lt _ hP
  rw [LoadIn.blk hk]
  unfold LoadIn.chip NP.setBlk
  dsimp only
  congr 1
  refine (range_map_set _ _ _ _ _ fun k _ => ?_).symm
  by_cases e : k = n / d.P
  · subst e
    rw [if_pos rfl]
    unfold LoadIn.blo
    have e1 : d.nextTo (n / d.P) (n + 1) = n % d.P + 1 := by
      show (if n / d.P = n / d.P ∧ d.pages.getD n [] ≠ [] then n % d.P + 1 else d.nextTo (n / d.P) n) = _
      rw [if_pos ⟨rfl, h⟩]
    rw [e1]
    dsimp only
    congr 1
    refine (range_map_set _ _ _ _ _ fun p hp => ?_).symm
    by_cases e2 : p = n % d.P
    · subst e2
      rw [if_pos rfl, hdm, if_pos (Nat.lt_succ_self n)]
    · have hne : n / d.P * d.P + p ≠ n := fun e3 => e2 (by omega)
      rw [if_neg e2]
      by_cases h2 : n / d.P * d.P + p < n
      · rw [if_pos h2, if_pos (by omega)]
      · rw [if_neg h2, if_neg (by omega)]
  · rw [if_neg e]
    unfold LoadIn.blo
    have e1 : d.nextTo k (n + 1) = d.nextTo k n := by
      show (if n / d.P = k ∧ d.pages.getD n [] ≠ [] then n % d.P + 1 else d.nextTo k n) = _
      rw [if_neg (fun e2 => e e2.1.symm)]
    rw [e1]
    congr 1
    refine List.map_congr_left fun p hp => ?_
    rw [List.mem_range] at hp
    have hne : k * d.P + p ≠ n := fun e3 => e (by rw [← hdm] at e3; exact ((at_inj hp hq).1 e3).1)
    by_cases h2 : k * d.P + p < n
    · rw [if_pos h2, if_pos (by omega)]
    · rw [if_neg h2, if_neg (by omega)]
theorem LoadIn.mark_step {n m : Nat} (hm : m < d.B) : d.chip n (m + 1) = NP.setBlk (d.chip n m) m { (d.chip n m).blk m with bad := d.bad.getD m false, wear := d.wear.getD m 0 } := by
  rw [LoadIn.blk hm]
  unfold LoadIn.chip NP.setBlk
  dsimp only
  congr 1
  refine (range_map_set _ _ _ _ _ fun k _ => ?_).symm
  unfold LoadIn.blo
  by_cases e : k = m
  · subst e
    rw [if_pos rfl, if_pos (Nat.lt_succ_self k), if_pos (Nat.lt_succ_self k)]
  · rw [if_neg e]
    by_cases h2 : k < m
    · rw [if_pos h2, if_pos h2, if_pos (by omega), if_pos (by omega)]
    · rw [if_neg h2, if_neg h2, if_neg (by omega), if_neg (by omega)]
theorem LoadIn.next_le (d : LoadIn) (hP : 0 < d.P) (k : Nat) : ∀ n, d.nextTo k n ≤ d.P
  | 0 => Nat.zero_le _
  | n + 1 => by
    show (if n / d.P = k ∧ d.pages.getD n [] ≠ [] then n % d.P + 1 else d.nextTo k n) ≤ d.P
    split
    · exact Nat.mod_lt _ hP
    · exact LoadIn.next_le d hP k n
theorem fine_P (h : d.fine) : 0 < d.P ∧ d.B ≤ 128 ∧ d.P ≤ 32 ∧ d.S ≤ 512 ∧ 0 < d.B := by
  have hr := h.right
  simp only [NP.rightB, Bool.and_eq_true, decide_eq_true_eq, Bool.or_eq_true, beq_iff_eq] at hr
  omega
/-- All that was loaded: a chip that is right, and holds what it was given. -/
theorem LoadIn.good (h : d.fine) (hs : ∀ l ∈ d.pages, ∀ y ∈ l, y < 256) {n m : Nat} (hn : n ≤ d.B * d.P) : (d.chip n m).ok := by
  have hP := (fine_P h).1
  refine ⟨h.right, by simp [LoadIn.chip], ?_, ?_, ?_, ?_⟩
  all_goals intro x hx; obtain ⟨k, hk, rfl⟩ := List.mem_map.1 hx; rw [List.mem_range] at hk
  · show ((List.range d.P).map _).length = d.P
    simp
  · intro l hl
    obtain ⟨p, hp, rfl⟩ := List.mem_map.1 hl
    rw [List.mem_range] at hp
    split
    · rename_i h2
      exact h.pages _ (by omega)
    · exact .inl rfl
  · intro l hl
    obtain ⟨p, hp, rfl⟩ := List.mem_map.1 hl
    split
    · rename_i h2
      have h3 : k * d.P + p < d.pages.length := by rw [h.lp]; omega
      exact hs _ (NP.getD_mem h3)
    · intro y hy; cases hy
  · exact LoadIn.next_le d hP k n
theorem LoadIn.all_pages (h : d.fine) {m : Nat} : (d.chip (d.B * d.P) m).bs.flatMap (·.ps) = d.pages := by
  have hP := (fine_P h).1
  apply List.ext_getElem?
  intro i
  by_cases hi : i < d.B * d.P
  · have hk : i / d.P < d.B := (Nat.div_lt_iff_lt_mul hP).2 hi
    have hq : i % d.P < d.P := Nat.mod_lt _ hP
    have hdm : i / d.P * d.P + i % d.P = i := by rw [Nat.mul_comm]; exact Nat.div_add_mod i d.P
    have h1 := flat_get2 (f := fun x : NP.Blo => x.ps) (m := d.P) (d.chip (d.B * d.P) m).bs (fun x hx => by
      obtain ⟨k, _, rfl⟩ := List.mem_map.1 hx
      show ((List.range d.P).map _).length = d.P
      simp) (i := i / d.P) (j := i % d.P) (by simpa [LoadIn.chip] using hk) hq
    rw [hdm] at h1
    rw [h1]
    have h2 : (d.chip (d.B * d.P) m).bs.getD (i / d.P) default = d.blo (d.B * d.P) m (i / d.P) := range_map_getD _ _ _ hk
    rw [h2]
    show ((List.range d.P).map _)[i % d.P]? = _
    rw [List.getElem?_map, List.getElem?_range hq, Option.map_some, hdm, if_pos hi, List.getD_eq_getElem?_getD, List.getElem?_eq_getElem (by rw [h.lp]; exact hi)]
    rfl
  · have h1 : ((d.chip (d.B * d.P) m).bs.flatMap (·.ps)).length ≤ i := by
      have := flat_le (fun x : NP.Blo => x.ps) d.P (d.chip (d.B * d.P) m).bs (fun x hx => by
        obtain ⟨k, _, rfl⟩ := List.mem_map.1 hx
        show ((List.range d.P).map _).length ≤ d.P
        simp)
      have h2 : (d.chip (d.B * d.P) m).bs.length = d.B := by simp [LoadIn.chip]
      rw [h2] at this
      omega
    rw [List.getElem?_eq_none h1, List.getElem?_eq_none (by rw [h.lp]; omega)]
theorem LoadIn.all_bad (h : d.fine) {n : Nat} : (d.chip n d.B).bs.map (·.bad) = d.bad := by
  unfold LoadIn.chip
  dsimp only
  rw [List.map_map]
  refine (range_ext d.bad false _ h.lb fun p hp => ?_).symm
  show d.bad.getD p false = if p < d.B then d.bad.getD p false else false
  rw [if_pos hp]
theorem LoadIn.all_wear (h : d.fine) {n : Nat} : (d.chip n d.B).bs.map (·.wear) = d.wear := by
  unfold LoadIn.chip
  dsimp only
  rw [List.map_map]
  refine (range_ext d.wear 0 _ h.lw fun p hp => ?_).symm
  show d.wear.getD p 0 = if p < d.B then d.wear.getD p 0 else 0
  rw [if_pos hp]
end

end Go.Proofs.Ytpggkehfbhffbaa
