/-
  The chip's small methods. Conditions: a chip that is told by ChipAt.
-/
import Derived.Test.YtpggkehfbhffbaaNA
namespace Go.Proofs.Ytpggkehfbhffbaa
open Go.RowKit

abbrev ptr (k : Nat) : Value := .pointer (some ⟨k, 0, none⟩)
section
variable {base : Nat} {w : World} {k : Nat} {M : ChM}

theorem Start_any (h : ChipAt base w k M) : Calls Try.prog 13 #[ptr k] w fun e w' => e = .returned (.tuple #[]) ∧ Goes base w k M w' { M with down := false } := by
  obtain ⟨c0, c1, c2, c3, c4, c5, c6, c7, c8⟩ := h.cells
  have z6 := h.chip.frozen 6
  have HG := Lib.hid (h.field (M' := { M with down := false }) 6 (.bool false) rfl rfl rfl rfl h.faults)
  clear h c0 c1 c2 c3 c4 c5 c7 c8
  go_enter Try.func13, Try.ntmps13
  go_wp2
  go_end0
  exact ⟨rfl, HG.out⟩
theorem Lose_any (h : ChipAt base w k M) : Calls Try.prog 33 #[ptr k] w fun e w' => e = .returned (.tuple #[]) ∧ Goes base w k M w' { M with down := true } := by
  obtain ⟨c0, c1, c2, c3, c4, c5, c6, c7, c8⟩ := h.cells
  have z6 := h.chip.frozen 6
  have HG := Lib.hid (h.field (M' := { M with down := true }) 6 (.bool true) rfl rfl rfl rfl h.faults)
  clear h c0 c1 c2 c3 c4 c5 c7 c8
  go_enter Try.func33, Try.ntmps33
  go_wp2
  go_end0
  exact ⟨rfl, HG.out⟩
theorem Up_any (h : ChipAt base w k M) : Calls Try.prog 20 #[ptr k] w fun e w' => e = .returned (.bool (!M.down)) ∧ w' = w := by
  obtain ⟨c0, c1, c2, c3, c4, c5, c6, c7, c8⟩ := h.cells
  clear h c0 c1 c2 c3 c4 c5 c7 c8
  go_enter Try.func20, Try.ntmps20
  go_wp2
  go_ret
  exact ⟨rfl, rfl⟩
theorem Geo_any (h : ChipAt base w k M) : Calls Try.prog 36 #[ptr k] w fun e w' => e = .returned (.agg #[vi M.B, vi M.P, vi M.S]) ∧ Below w.heap.size w w' := by
  obtain ⟨c0, c1, c2, c3, c4, c5, c6, c7, c8⟩ := h.cells
  have hk := h.chip.lt
  clear h c3 c4 c5 c6 c7 c8
  go_enter Try.func36, Try.ntmps36
  go_wp2
  exact bodyPost_ret (v := .agg #[vi M.B, vi M.P, vi M.S]) (by simp [results, Try.results36, go_sem]) rfl ⟨rfl, (Below.refl _ _).alloc (Nat.le_refl _) _⟩
theorem Strokes_any (h : ChipAt base w k M) : Calls Try.prog 28 #[ptr k] w fun e w' => e = .returned (vi M.strokes) ∧ w' = w := by
  obtain ⟨c0, c1, c2, c3, c4, c5, c6, c7, c8⟩ := h.cells
  clear h c0 c1 c2 c3 c4 c5 c6 c8
  go_enter Try.func28, Try.ntmps28
  go_wp2
  go_ret
  exact ⟨rfl, rfl⟩
theorem Reads_any (h : ChipAt base w k M) : Calls Try.prog 35 #[ptr k] w fun e w' => e = .returned (vi M.reads) ∧ w' = w := by
  obtain ⟨c0, c1, c2, c3, c4, c5, c6, c7, c8⟩ := h.cells
  clear h c0 c1 c2 c3 c4 c5 c6 c7
  go_enter Try.func35, Try.ntmps35
  go_wp2
  go_ret
  exact ⟨rfl, rfl⟩
theorem full_any (h : ChipAt base w k M) (hS : M.S ≤ 512) : Calls Try.prog 59 #[ptr k] w fun e w' => e = .returned (vi (M.S + 32 : Nat)) ∧ w' = w := by
  obtain ⟨c0, c1, c2, c3, c4, c5, c6, c7, c8⟩ := h.cells
  clear h c0 c1 c3 c4 c5 c6 c7 c8
  go_enter Try.func59, Try.ntmps59
  go_wp2
  go_ret
  exact ⟨by go_num, rfl⟩
/-- Is there such a block? -/
def thereB (M : ChM) (j : Int) : Bool := decide (0 ≤ j ∧ j < M.bs.length)
theorem there_any (h : ChipAt base w k M) (j : Int) : Calls Try.prog 62 #[ptr k, vi j] w fun e w' => e = .returned (.bool (thereB M j)) ∧ w' = w := by
  obtain ⟨c0, c1, c2, c3, c4, c5, c6, c7, c8⟩ := h.cells
  clear h c0 c1 c2 c4 c5 c6 c7 c8
  by_cases h0 : 0 ≤ j
  · by_cases h1 : j < M.bs.length
    · have H := Lib.hid (show thereB M j = true by simp [thereB, h0, h1])
      go_enter Try.func62, Try.ntmps62
      go_wp2
      go_ret
      exact ⟨ret_bool (by rw [H.out]), rfl⟩
    · have H := Lib.hid (show thereB M j = false by simp [thereB]; omega)
      go_enter Try.func62, Try.ntmps62
      go_wp2
      go_ret
      exact ⟨ret_bool (by rw [H.out]), rfl⟩
  · have H := Lib.hid (show thereB M j = false by simp [thereB]; omega)
    go_enter Try.func62, Try.ntmps62
    go_wp2
    go_ret
    exact ⟨ret_bool (by rw [H.out]), rfl⟩
theorem asked_any (h : ChipAt base w k M) (hB : M.bs.length = M.B) (j p : Int) : Calls Try.prog 57 #[ptr k, vi j, vi p] w fun e w' => e = .returned (vi (NP.asked M.view j p)) ∧ w' = w := by
  obtain ⟨c0, c1, c2, c3, c4, c5, c6, c7, c8⟩ := h.cells
  have HC := Lib.hid h
  clear h c0 c2 c3 c4 c5 c7 c8
  obtain ⟨B, P, S, kb, kc, bs, fa, fs, fc, since, down, strokes, reads⟩ := M
  dsimp only at c1 c6 hB
  cases down
  · by_cases hj : 0 ≤ j ∧ j < B
    · have ht : Hid (thereB _ j = true) := Lib.hid (show thereB ⟨B, P, S, kb, kc, bs, fa, fs, fc, since, false, strokes, reads⟩ j = true by simp [thereB, hj, hB])
      by_cases hp0 : 0 ≤ p
      · by_cases hp1 : p < P
        · have H := Lib.hid (show NP.asked (ChM.view ⟨B, P, S, kb, kc, bs, fa, fs, fc, since, false, strokes, reads⟩) j p = 0 by simp [NP.asked, ChM.view, hj, hp0, hp1])
          clear hj hB
          go_enter Try.func57, Try.ntmps57
          go_wp2_with fail
          refine (there_any HC.out j).mono ?_
          rintro e w' ⟨rfl, rfl⟩
          rw [ht.out]
          go_wp2_with fail
          go_ret
          exact ⟨ret_int H.out.symm, rfl⟩
        · have H := Lib.hid (show NP.asked (ChM.view ⟨B, P, S, kb, kc, bs, fa, fs, fc, since, false, strokes, reads⟩) j p = 12 by simp [NP.asked, ChM.view, hp1])
          clear hj hB
          go_enter Try.func57, Try.ntmps57
          go_wp2_with fail
          refine (there_any HC.out j).mono ?_
          rintro e w' ⟨rfl, rfl⟩
          rw [ht.out]
          go_wp2_with fail
          go_ret
          exact ⟨ret_int H.out.symm, rfl⟩
      · have H := Lib.hid (show NP.asked (ChM.view ⟨B, P, S, kb, kc, bs, fa, fs, fc, since, false, strokes, reads⟩) j p = 12 by simp [NP.asked, ChM.view, hp0])
        clear hj hB
        go_enter Try.func57, Try.ntmps57
        go_wp2_with fail
        refine (there_any HC.out j).mono ?_
        rintro e w' ⟨rfl, rfl⟩
        rw [ht.out]
        go_wp2_with fail
        go_ret
        exact ⟨ret_int H.out.symm, rfl⟩
    · have ht : Hid (thereB _ j = false) := Lib.hid (show thereB ⟨B, P, S, kb, kc, bs, fa, fs, fc, since, false, strokes, reads⟩ j = false by simp [thereB, hB]; omega)
      have H := Lib.hid (show NP.asked (ChM.view ⟨B, P, S, kb, kc, bs, fa, fs, fc, since, false, strokes, reads⟩) j p = 12 by simp [NP.asked, ChM.view]; omega)
      clear hj hB
      go_enter Try.func57, Try.ntmps57
      go_wp2_with fail
      refine (there_any HC.out j).mono ?_
      rintro e w' ⟨rfl, rfl⟩
      rw [ht.out]
      go_wp2_with fail
      go_ret
      exact ⟨ret_int H.out.symm, rfl⟩
  · have H := Lib.hid (show NP.asked (ChM.view ⟨B, P, S, kb, kc, bs, fa, fs, fc, since, true, strokes, reads⟩) j p = 4 by simp [NP.asked, ChM.view])
    go_enter Try.func57, Try.ntmps57
    go_wp2_with fail
    go_ret
    exact ⟨ret_int H.out.symm, rfl⟩
end

end Go.Proofs.Ytpggkehfbhffbaa
