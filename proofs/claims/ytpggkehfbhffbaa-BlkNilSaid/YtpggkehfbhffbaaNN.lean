/-
  A chip that is not there: what each method answers. No conditions.
-/
import Derived.Test.YtpggkehfbhffbaaNA
namespace Go.Proofs.Ytpggkehfbhffbaa
open Go.RowKit

abbrev nilp : Value := .pointer none
section
variable {w : World}
theorem Start_nil : Calls Try.prog 13 #[nilp] w fun e w' => e = .returned (.tuple #[]) ∧ w' = w := by
  go_enter Try.func13, Try.ntmps13
  go_wp2
  go_end0
  exact ⟨rfl, rfl⟩
theorem Lose_nil : Calls Try.prog 33 #[nilp] w fun e w' => e = .returned (.tuple #[]) ∧ w' = w := by
  go_enter Try.func33, Try.ntmps33
  go_wp2
  go_end0
  exact ⟨rfl, rfl⟩
theorem Up_nil : Calls Try.prog 20 #[nilp] w fun e w' => e = .returned (.bool false) ∧ w' = w := by
  go_enter Try.func20, Try.ntmps20
  go_wp2
  go_ret
  exact ⟨rfl, rfl⟩
theorem Strokes_nil : Calls Try.prog 28 #[nilp] w fun e w' => e = .returned (vi 0) ∧ w' = w := by
  go_enter Try.func28, Try.ntmps28
  go_wp2
  go_ret
  exact ⟨rfl, rfl⟩
theorem Reads_nil : Calls Try.prog 35 #[nilp] w fun e w' => e = .returned (vi 0) ∧ w' = w := by
  go_enter Try.func35, Try.ntmps35
  go_wp2
  go_ret
  exact ⟨rfl, rfl⟩
theorem Geo_nil : Calls Try.prog 36 #[nilp] w fun e w' => e = .returned (.agg #[vi 0, vi 0, vi 0]) ∧ Below w.heap.size w w' := by
  go_enter Try.func36, Try.ntmps36
  go_wp2
  exact bodyPost_ret (v := .agg #[vi 0, vi 0, vi 0]) (by simp [results, Try.results36, go_sem]) rfl ⟨rfl, (Below.refl _ _).alloc (Nat.le_refl _) _⟩
theorem there_nil (j : Int) : Calls Try.prog 62 #[nilp, vi j] w fun e w' => e = .returned (.bool false) ∧ w' = w := by
  go_enter Try.func62, Try.ntmps62
  go_wp2
  go_ret
  exact ⟨rfl, rfl⟩
theorem asked_nil (j p : Int) : Calls Try.prog 57 #[nilp, vi j, vi p] w fun e w' => e = .returned (vi 3) ∧ w' = w := by
  go_enter Try.func57, Try.ntmps57
  go_wp2_with fail
  go_ret
  exact ⟨rfl, rfl⟩
theorem Bad_nil (j : Int) : Calls Try.prog 26 #[nilp, vi j] w fun e w' => e = .returned (.bool true) ∧ w' = w := by
  go_enter Try.func26, Try.ntmps26
  go_wp2_with fail
  refine (there_nil j).mono ?_
  rintro e w' ⟨rfl, rfl⟩
  go_wp2_with fail
  go_ret
  exact ⟨rfl, rfl⟩
theorem Wear_nil (j : Int) : Calls Try.prog 34 #[nilp, vi j] w fun e w' => e = .returned (vi 0) ∧ w' = w := by
  go_enter Try.func34, Try.ntmps34
  go_wp2_with fail
  refine (there_nil j).mono ?_
  rintro e w' ⟨rfl, rfl⟩
  go_wp2_with fail
  go_ret
  exact ⟨rfl, rfl⟩
theorem Read_nil (j p : Int) : Calls Try.prog 14 #[nilp, vi j, vi p] w fun e w' => e = .returned (.tuple #[.slice none 0 0, vi 3]) ∧ w' = w := by
  go_enter Try.func14, Try.ntmps14
  go_wp2_with fail
  refine (asked_nil j p).mono ?_
  rintro e w' ⟨rfl, rfl⟩
  go_wp2_with fail
  go_ret2
  exact ⟨rfl, rfl⟩
theorem Program_nil (j p : Int) (v : Value) : Calls Try.prog 21 #[nilp, vi j, vi p, v] w fun e w' => e = .returned (vi 3) ∧ w' = w := by
  go_enter Try.func21, Try.ntmps21
  go_wp2_with fail
  refine (asked_nil j p).mono ?_
  rintro e w' ⟨rfl, rfl⟩
  go_wp2_with fail
  go_ret
  exact ⟨rfl, rfl⟩
theorem Erase_nil (j : Int) : Calls Try.prog 22 #[nilp, vi j] w fun e w' => e = .returned (vi 3) ∧ w' = w := by
  go_enter Try.func22, Try.ntmps22
  go_wp2_with fail
  refine (asked_nil j 0).mono ?_
  rintro e w' ⟨rfl, rfl⟩
  go_wp2_with fail
  go_ret
  exact ⟨rfl, rfl⟩
theorem Mark_nil (j : Int) : Calls Try.prog 23 #[nilp, vi j] w fun e w' => e = .returned (vi 3) ∧ w' = w := by
  go_enter Try.func23, Try.ntmps23
  go_wp2_with fail
  refine (asked_nil j 0).mono ?_
  rintro e w' ⟨rfl, rfl⟩
  go_wp2_with fail
  go_ret
  exact ⟨rfl, rfl⟩
theorem Script_nil (v : Value) : Calls Try.prog 24 #[nilp, v] w fun e w' => e = .returned (vi 3) ∧ w' = w := by
  go_enter Try.func24, Try.ntmps24
  go_wp2_with fail
  go_ret
  exact ⟨rfl, rfl⟩
theorem Copy_nil : Calls Try.prog 19 #[nilp] w fun e w' => e = .returned nilp ∧ w' = w := by
  go_enter Try.func19, Try.ntmps19
  go_wp2_with fail
  go_ret
  exact ⟨rfl, rfl⟩
theorem Dump_nil : Calls Try.prog 25 #[nilp] w fun e w' => e = .returned (.tuple #[.slice none 0 0, .slice none 0 0, .slice none 0 0]) ∧ w' = w := by
  go_enter Try.func25, Try.ntmps25
  go_wp2_with fail
  go_ret3
  exact ⟨rfl, rfl⟩
end

end Go.Proofs.Ytpggkehfbhffbaa
