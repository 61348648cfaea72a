/-
  Lemmas for a law's proof, put together from several texts: each part says what it shows, and its conditions.
-/
import Derived.Test.YtnfhlocflpdlcaaGreatZT30
/-
  Blocks that are bad are counted. Conditions: a chip told by ChipAt.
-/
namespace Go.Proofs.YtnfhlocflpdlcaaGreat.ft
open Go.RowKit Go.Proofs.YtnfhlocflpdlcaaGreat.mgr

section
variable {base : Nat} {w : World} {k : Nat} {M : ChM}
theorem badTo_le (c : NP.Chp) : ∀ n, 0 ≤ FP.badTo c n ∧ FP.badTo c n ≤ n
  | 0 => ⟨Int.le_refl _, Int.le_refl _⟩
  | n + 1 => by
    have := badTo_le c n
    unfold FP.badTo
    split <;> constructor <;> omega
set_option maxRecDepth 100000 in
set_option maxHeartbeats 2000000 in
theorem badBlocks_any (h : ChipAt base w k M) (hok : M.view.ok) : Calls Tryz.prog 112 #[ptr k] w fun e w' => e = .returned (vi (FP.bads M.view)) ∧ Below w.heap.size w w' := by
  have H := Lib.hid h
  have HL := Lib.hid (ok_len hok)
  have HBB : Hid (M.view.B = M.B) := Lib.hid rfl
  have hB : M.B ≤ 128 := by
    have : NP.rightB M.B M.P M.S = true := hok.right
    unfold NP.rightB at this
    simp only [Bool.and_eq_true, decide_eq_true_eq] at this
    omega
  have HV : Hid (FP.bads M.view = FP.badTo M.view M.B) := Lib.hid rfl
  clear h hok
  have hf0 := geo_f0 M.B M.P M.S
  go_enter Tryz.func112, Tryz.ntmps112
  go_wp2_with fail
  refine (Geo_any H.out).mono ?_
  rintro e w1 ⟨rfl, hb1⟩
  have HB1 := Lib.hid hb1
  clear hb1
  go_wp2_with fail
  go_loopw [3, 8] (fun n i wr => ∃ j : Nat, j ≤ M.B ∧ i = vi j ∧ n = vi (FP.badTo M.view j) ∧ Below w.heap.size w wr) (fun _ i _ => M.B - (intOf i).toNat)
  case atStart => exact ⟨0, Nat.zero_le _, rfl, rfl, HB1.out⟩
  case round =>
    obtain ⟨j, hj, rfl, rfl, hb⟩ := hrel
    have hle := badTo_le M.view j
    have HST : Hid (FP.badTo M.view (j + 1) = FP.badTo M.view j + (if NP.badAt M.view j then 1 else 0)) := Lib.hid rfl
    by_cases hlt : j < M.B
    · have HBM := Lib.hid (bad_view M j HL.out)
      have HB2 := Lib.hid hb
      generalize FP.badTo M.view j = n0 at *
      generalize NP.badAt M.view j = q at *
      go_wp2_with fail
      refine (Bad_any (H.out.old HB2.out) j).mono ?_
      rintro e w' ⟨rfl, rfl⟩
      rw [HBM.out]
      cases q
      all_goals
        go_wp2_with fail
        go_roundw
        case rel => exact ⟨j + 1, by omega, by go_num, by rw [HST.out]; simp, HB2.out⟩
        case measure => simp [intOf]; omega
    · go_wp2_with fail
      go_ret
      obtain rfl : j = M.B := by omega
      exact ⟨ret_int HV.out.symm, hb⟩
end
end Go.Proofs.YtnfhlocflpdlcaaGreat.ft

