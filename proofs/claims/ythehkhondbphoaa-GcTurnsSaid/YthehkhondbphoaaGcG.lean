/-
  gc: the fixed calls of the statements; the references' least Wear: for every row that is read.
-/
import Derived.Test.YthehkhondbphoaaGcF
namespace Go.Proofs.Ythehkhondbphoaa
open Go.RowKit

theorem long_any (v : Value) (bs : List Blk) (w : World) (hrow : Row w v bs) :
    Calls Try.prog 10 #[v] w fun e w' => e = .returned (.bool (decide (150 < bs.length))) ∧ Below w.heap.size w w' := by
  obtain ⟨hlen, a, cap, rfl, -⟩ := hrow
  go_enter Try.func10, Try.ntmps10
  go_wp2
  go_ret
  exact ⟨ret_bool (by simp; omega), Below.refl _ _⟩

theorem is_any (x : Int × Int) (w : World) :
    Calls Try.prog 12 #[vact x] w fun e w' => e = .returned (vact x) ∧ Below w.heap.size w w' := by
  obtain ⟨x, y⟩ := x
  go_enter Try.func12, Try.ntmps12
  go_wp2
  refine bodyPost_ret (v := vact (x, y)) (by simp [results, Try.results12, go_sem]) rfl ⟨rfl, ?_⟩
  exact ((Below.refl _ _).alloc (Nat.le_refl _) _).alloc (by simp) _

/-- Two fixed rows. -/
def row1 : List Blk := [⟨3, 0, 3, 0⟩, ⟨3, 0, 2, 0⟩]
def row2 : List Blk := [⟨3, 0, 4, 0⟩, ⟨0, 0, 0, 0⟩]
theorem next1 : NextL row1 4 true = (1, 1) := by decide +kernel
theorem next2 : NextL row2 4 true = (3, 1) := by decide +kernel
theorem next3 : NextL [] 4 true = (0, -1) := by decide +kernel

theorem row1_at (w : World) : Row (w.alloc (.cells #[vi 3, vi 0, vi 3, vi 0, vi 3, vi 0, vi 2, vi 0] 34)) (.slice (some ⟨w.heap.size, 0, none⟩) 2 2) row1 := by
  refine ⟨by decide, some ⟨w.heap.size, 0, none⟩, 2, rfl, .inr ⟨_, _, rfl, fun i hi => ?_⟩⟩
  have : i = 0 ∨ i = 1 := by simp [row1] at hi; omega
  rcases this with rfl | rfl <;> exact ⟨by simp [row1], by simp [row1], by simp [row1], by simp [row1]⟩
theorem row2_at (w : World) : Row (w.alloc (.cells #[vi 3, vi 0, vi 4, vi 0, vi 0, vi 0, vi 0, vi 0] 34)) (.slice (some ⟨w.heap.size, 0, none⟩) 2 2) row2 := by
  refine ⟨by decide, some ⟨w.heap.size, 0, none⟩, 2, rfl, .inr ⟨_, _, rfl, fun i hi => ?_⟩⟩
  have : i = 0 ∨ i = 1 := by simp [row2] at hi; omega
  rcases this with rfl | rfl <;> exact ⟨by simp [row2], by simp [row2], by simp [row2], by simp [row2]⟩
theorem row_nil (w : World) : Row w (.slice none 0 0) [] := ⟨by decide, none, 0, rfl, .inl rfl⟩

set_option maxHeartbeats 1000000 in
theorem known_any (w : World) : Calls Try.prog 11 #[] w fun e w' => e = .returned (.bool true) ∧ Below w.heap.size w w' := by
  go_enter Try.func11, Try.ntmps11
  go_wp2_with fail
  have r1 := row1_at w
  have hb1 : Below (w.alloc (.cells #[vi 3, vi 0, vi 3, vi 0, vi 3, vi 0, vi 2, vi 0] 34)).heap.size _ ((w.alloc (.cells #[vi 3, vi 0, vi 3, vi 0, vi 3, vi 0, vi 2, vi 0] 34)).alloc (.cells #[vi 3, vi 0, vi 4, vi 0, vi 0, vi 0, vi 0, vi 0] 34)) := (Below.refl _ _).alloc (Nat.le_refl _) _
  have r2 := row2_at (w.alloc (.cells #[vi 3, vi 0, vi 3, vi 0, vi 3, vi 0, vi 2, vi 0] 34))
  refine (Next_any _ row1 4 true _ (r1.below hb1)).mono ?_
  rw [next1]
  rintro e w1 ⟨rfl, hb2⟩
  clear r1 hb1
  have HB := Lib.hid hb2
  have HR2 := Lib.hid r2
  clear hb2 r2
  go_wp2_with fail
  have r2 := HR2.out.below HB.out
  rw [show (w.alloc (.cells #[vi 3, vi 0, vi 3, vi 0, vi 3, vi 0, vi 2, vi 0] 34)).heap.size = w.heap.size + 1 from by simp] at r2
  refine (Next_any _ row2 4 true _ r2).mono ?_
  rw [next2]
  rintro e w2 ⟨rfl, hb3⟩
  clear r2
  have HB2 := Lib.hid (HB.out.trans (hb3.mono HB.out.size))
  clear hb3
  go_wp2_with fail
  refine (Next_any _ [] 4 true _ (row_nil _)).mono ?_
  rw [next3]
  rintro e w3 ⟨rfl, hb4⟩
  have HB3 := Lib.hid (HB2.out.trans (hb4.mono HB2.out.size))
  clear hb4
  go_wp2_with fail
  go_ret
  exact ⟨rfl, (((Below.refl _ _).alloc (Nat.le_refl _) _).alloc (by simp) _).trans (HB3.out.mono (by simp; omega))⟩

/-- The references' least Wear, as they find it. -/
def rLeastTo (bs : List Blk) : Nat → Int × Bool
  | 0 => (0, false)
  | k + 1 => if goodB (bs.getD k default) && (!(rLeastTo bs k).2 || decide ((bs.getD k default).r < (rLeastTo bs k).1)) then ((bs.getD k default).r, true) else rLeastTo bs k
def rLeast (bs : List Blk) : Int := (rLeastTo bs bs.length).1
theorem rLeastTo_eq (bs : List Blk) (k : Nat) : rLeastTo bs k = if bestTo goodB wornB bs k < 0 then (0, false) else ((bs.getD (bestTo goodB wornB bs k).toNat default).r, true) := by
  induction k with
  | zero => rfl
  | succ k ih =>
    have hb := bestTo_bd goodB wornB bs k
    unfold rLeastTo bestTo
    rw [ih]
    by_cases h0 : bestTo goodB wornB bs k < 0
    · cases hg : goodB (bs.getD k default)
      · simp [h0]
      · simp [h0]
    · cases hg : goodB (bs.getD k default)
      · simp [h0]
      · simp only [h0, if_false, Bool.not_true, Bool.false_or, Bool.true_and, decide_false, wornB]
        split
        · rw [if_neg (by omega)]; simp
        · rfl
theorem rLeast_eq (bs : List Blk) : rLeast bs = leastL bs := by
  unfold rLeast leastL wearAt best
  rw [rLeastTo_eq]
  split <;> rfl

set_option maxHeartbeats 1000000 in
theorem RLeast_any (v : Value) (bs : List Blk) (w : World) (hrow : Row w v bs) :
    Calls Try.prog 16 #[v] w fun e w' => e = .returned (vi (leastL bs)) ∧ Below w.heap.size w w' := by
  have HR := Lib.hid hrow
  obtain ⟨hlen, a, cap, rfl, -⟩ := hrow
  go_enter Try.func16, Try.ntmps16
  go_wp2_with fail
  go_loop [3, 4, 5] (fun n f i => ∃ k : Nat, k ≤ bs.length ∧ i = vi k ∧ n = vi (rLeastTo bs k).1 ∧ f = .bool (rLeastTo bs k).2) (fun _ _ i => bs.length - (intOf i).toNat)
  case atStart => exact ⟨0, Nat.zero_le _, rfl, rfl, rfl⟩
  case round =>
    obtain ⟨k, hk, rfl, rfl, rfl⟩ := hrel
    by_cases hlt : k < bs.length
    · obtain ⟨b, o, rfl, hx⟩ := HR.out.lookup hlt
      have hd : rLeastTo bs (k + 1) = if goodB (bs.getD k default) && (!(rLeastTo bs k).2 || decide ((bs.getD k default).r < (rLeastTo bs k).1)) then ((bs.getD k default).r, true) else rLeastTo bs k := rfl
      generalize bs.getD k default = x at hx hd
      generalize rLeastTo bs k = q at hd ⊢
      obtain ⟨q, f⟩ := q
      dsimp only at hd ⊢
      obtain ⟨g0, g1, g2, g3⟩ := hx
      have Hd := Lib.hid hd
      clear hd g1 g3
      by_cases h1 : (x.s != 4) = true
      · cases f
        · go_wp2_with fail
          go_round
          case rel => exact ⟨k + 1, by omega, by go_num, by rw [Hd.out]; simp [goodB, h1], by rw [Hd.out]; simp [goodB, h1]⟩
          case measure => simp [intOf]; omega
        · by_cases h2 : x.r < q
          · go_wp2_with fail
            go_round
            case rel => exact ⟨k + 1, by omega, by go_num, by rw [Hd.out]; simp [goodB, h1, h2], by rw [Hd.out]; simp [goodB, h1, h2]⟩
            case measure => simp [intOf]; omega
          · go_wp2_with fail
            go_round
            case rel => exact ⟨k + 1, by omega, by go_num, by rw [Hd.out]; simp [goodB, h1, h2], by rw [Hd.out]; simp [goodB, h1, h2]⟩
            case measure => simp [intOf]; omega
      · have h1' : (x.s != 4) = false := by simpa using h1
        go_wp2_with fail
        go_round
        case rel => exact ⟨k + 1, by omega, by go_num, by rw [Hd.out]; simp [goodB, h1'], by rw [Hd.out]; simp [goodB, h1']⟩
        case measure => simp [intOf]; omega
    · go_wp2_with fail
      go_ret
      obtain rfl : k = bs.length := by omega
      exact ⟨ret_int (rLeast_eq bs), Below.refl _ _⟩

end Go.Proofs.Ythehkhondbphoaa
