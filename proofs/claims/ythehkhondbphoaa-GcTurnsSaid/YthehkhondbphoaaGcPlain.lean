/-
  gc, plain: what best, first and Next's answer say of a row. No program in sight.
-/
import Derived.Test.YthehkhondbphoaaGcF
namespace Go.Proofs.Ythehkhondbphoaa

theorem mem_getD {bs : List Blk} {x : Blk} (h : x ∈ bs) : ∃ i, i < bs.length ∧ bs.getD i default = x := by
  obtain ⟨i, hi, he⟩ := List.getElem_of_mem h
  exact ⟨i, hi, by rw [List.getD_eq_getElem?_getD, List.getElem?_eq_getElem hi]; exact he⟩
theorem getD_mem {bs : List Blk} {i : Nat} (h : i < bs.length) : bs.getD i default ∈ bs := by
  rw [List.getD_eq_getElem?_getD, List.getElem?_eq_getElem h]; exact List.getElem_mem h

theorem bestTo_neg {P : Blk → Bool} {Q : Blk → Blk → Bool} {bs : List Blk} : ∀ {k : Nat}, bestTo P Q bs k < 0 → ∀ i, i < k → P (bs.getD i default) = false
  | 0, _, i, hi => absurd hi (Nat.not_lt_zero i)
  | k + 1, h, i, hi => by
    have hb := bestTo_bd P Q bs k
    unfold bestTo at h
    by_cases h0 : bestTo P Q bs k < 0
    · cases hp : P (bs.getD k default)
      · rcases Nat.lt_succ_iff_lt_or_eq.1 hi with h1 | rfl
        · exact bestTo_neg h0 i h1
        · exact hp
      · simp only [hp, h0, decide_true, Bool.true_or, Bool.true_and, if_true] at h; omega
    · split at h <;> omega
theorem best_neg {P : Blk → Bool} {Q : Blk → Blk → Bool} {bs : List Blk} (h : best P Q bs < 0) : ∀ x ∈ bs, P x = false := fun x hx => by
  obtain ⟨i, hi, rfl⟩ := mem_getD hx
  exact bestTo_neg h i hi
theorem bestTo_pos {P : Blk → Bool} {Q : Blk → Blk → Bool} {bs : List Blk} : ∀ {k : Nat}, 0 ≤ bestTo P Q bs k → P (bs.getD (bestTo P Q bs k).toNat default) = true
  | 0, h => absurd h (by simp [bestTo])
  | k + 1, h => by
    have hb := bestTo_bd P Q bs k
    unfold bestTo at h ⊢
    split
    · rename_i hc
      simp only [Bool.and_eq_true] at hc
      simpa using hc.1
    · rename_i hc
      rw [if_neg hc] at h
      exact bestTo_pos h
theorem best_pos {P : Blk → Bool} {Q : Blk → Blk → Bool} {bs : List Blk} (h : 0 ≤ best P Q bs) : P (bs.getD (best P Q bs).toNat default) = true := bestTo_pos h
theorem firstTo_neg {P : Blk → Bool} : ∀ {l : List Blk} {k : Nat}, firstTo P l k < 0 → ∀ x ∈ l, P x = false
  | [], _, _, x, hx => by cases hx
  | y :: l, k, h, x, hx => by
    unfold firstTo at h
    split at h
    · omega
    · rename_i hp
      rcases List.mem_cons.1 hx with rfl | hx
      · simpa using hp
      · exact firstTo_neg h x hx
theorem first_neg {P : Blk → Bool} {bs : List Blk} (h : first P bs < 0) : ∀ x ∈ bs, P x = false := firstTo_neg h
theorem firstTo_pos {P : Blk → Bool} : ∀ {l : List Blk} {k : Nat}, 0 ≤ firstTo P l k → P (l.getD ((firstTo P l k).toNat - k) default) = true
  | [], _, h => absurd h (by simp [firstTo])
  | y :: l, k, h => by
    unfold firstTo at h ⊢
    split
    · rename_i hp
      simpa using hp
    · rename_i hp
      rw [if_neg hp] at h
      have := firstTo_pos h
      rcases firstTo_bd P l (k + 1) with hb | hb
      · omega
      · rw [show (firstTo P l (k + 1)).toNat - k = ((firstTo P l (k + 1)).toNat - (k + 1)) + 1 from by omega]
        simpa using this
theorem first_pos {P : Blk → Bool} {bs : List Blk} (h : 0 ≤ first P bs) : P (bs.getD (first P bs).toNat default) = true := firstTo_pos h

theorem pick4_kind {k kind : Int} {r : Int × Int} (h0 : kind ≠ 0) (h : (pick4 k kind r).1 = 0) : k < 0 ∧ r.1 = 0 := by
  unfold pick4 at h
  split at h
  · exact absurd h h0
  · exact ⟨by omega, h⟩

/-- P5.5: where there is nothing to do. -/
theorem NextL_nothing {bs : List Blk} {p : Int} {room : Bool} (hr : RightL p bs = true) (h : (NextL bs p room).1 = 0) (x : Blk) (hx : x ∈ bs) :
    (x.s == 3) = false ∧ ((x.s == 0) && (x.r == leastL bs)) = false ∧ ((x.s == 2 && room) && (x.r == leastL bs || decide (x.l < p))) = false := by
  unfold NextL at h
  rw [if_pos hr] at h
  obtain ⟨h1, h⟩ := pick4_kind (by decide) h
  obtain ⟨h2, h⟩ := pick4_kind (by decide) h
  obtain ⟨h3, h⟩ := pick4_kind (by decide) h
  obtain ⟨h4, h⟩ := pick4_kind (by decide) h
  unfold forcedL at h
  obtain ⟨h5, h⟩ := pick4_kind (by decide) h
  obtain ⟨h6, h⟩ := pick4_kind (by decide) h
  have e3 := first_neg h3 x hx
  have e4 := best_neg h4 x hx
  have e5 := best_neg h5 x hx
  have e6 := best_neg h6 x hx
  simp only [burnB, staleB, fullB, movedB] at *
  refine ⟨e5, ?_, ?_⟩
  · cases ha : (x.s == 0) <;> cases hb : (x.r == leastL bs) <;> simp_all
  · cases ha : (x.s == 2) <;> cases hb : room <;> cases hc : (x.r == leastL bs) <;> cases hd : decide (x.l < p) <;> simp_all

end Go.Proofs.Ythehkhondbphoaa
