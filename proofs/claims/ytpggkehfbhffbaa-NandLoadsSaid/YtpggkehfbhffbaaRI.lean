/-
  Is a geometry more than the statements look at? No conditions.
-/
import Derived.Test.YtpggkehfbhffbaaRH
namespace Go.Proofs.Ytpggkehfbhffbaa
open Go.RowKit

def wideB (b p s : Int) : Bool := NP.rightB b p s && decide (10000 < b * p * s)
set_option maxRecDepth 100000 in
set_option maxHeartbeats 4000000 in
theorem wide_any (b p s : Int) (w : World) : Calls Try.prog 29 #[.agg #[vi b, vi p, vi s]] w fun e w' => e = .returned (.bool (wideB b p s)) ∧ Below w.heap.size w w' := by
  have F0 := Blk.new w 23 #[vi b, vi p, vi s]
  have HB := Lib.hid ((Below.refl w.heap.size w).alloc (Nat.le_refl _) (.cells #[vi b, vi p, vi s] 23))
  go_enter Try.func29, Try.ntmps29
  go_upto_region 1 with fail
  generalize w.alloc (.cells #[vi b, vi p, vi s] 23) = w1 at *
  have c0 : w1.cell? ⟨w.heap.size, 0, none⟩ = some (vi b) := F0.cell 0
  have c1 : w1.cell? ⟨w.heap.size, 1, none⟩ = some (vi p) := F0.cell 1
  have c2 : w1.cell? ⟨w.heap.size, 2, none⟩ = some (vi s) := F0.cell 2
  have HF := Lib.hid F0
  clear F0
  go_wp2_with fail
  refine (Right_any b p s w1).mono ?_
  rintro e w2 ⟨rfl, hb2⟩
  have c0 : w2.cell? ⟨w.heap.size, 0, none⟩ = some (vi b) := (HF.out.old hb2).cell 0
  have c1 : w2.cell? ⟨w.heap.size, 1, none⟩ = some (vi p) := (HF.out.old hb2).cell 1
  have c2 : w2.cell? ⟨w.heap.size, 2, none⟩ = some (vi s) := (HF.out.old hb2).cell 2
  have HB2 := Lib.hid (HB.out.trans (hb2.mono HB.out.size))
  clear hb2
  cases hr : NP.rightB b p s
  · have H := Lib.hid (show wideB b p s = false by simp [wideB, hr])
    clear hr
    go_wp2_with fail
    go_ret
    exact ⟨by rw [H.out]; rfl, HB2.out⟩
  · have hq : 0 ≤ b * p ∧ b * p ≤ 4096 ∧ 0 ≤ b * p * s ∧ b * p * s ≤ 2097152 := by
      have h := hr
      simp only [NP.rightB, Bool.and_eq_true, decide_eq_true_eq, Bool.or_eq_true, beq_iff_eq] at h
      obtain ⟨⟨⟨⟨h1, h2⟩, h3⟩, h4⟩, h5⟩ := h
      have a1 : 0 ≤ b * p := Int.mul_nonneg (by omega) (by omega)
      have a2 : b * p ≤ 128 * 32 := Int.mul_le_mul h2 h4 (by omega) (by omega)
      have a3 : 0 ≤ b * p * s := Int.mul_nonneg a1 (by omega)
      have a4 : b * p * s ≤ (128 * 32) * 512 := Int.mul_le_mul a2 (by omega) (by omega) (by omega)
      omega
    have H := Lib.hid (show wideB b p s = decide (10000 < b * p * s) by simp [wideB, hr])
    have q1 : IntKind.i64.wrap (b * p) = b * p := IntWalk.i64_in _ (by omega)
    have q2 : IntKind.i64.wrap (b * p * s) = b * p * s := IntWalk.i64_in _ (by omega)
    clear hr hq
    go_wp2_with fail
    go_ret
    exact ⟨by rw [H.out]; rfl, HB2.out⟩

end Go.Proofs.Ytpggkehfbhffbaa
