/-
  Is a geometry right? The document's answer. No conditions.
-/
import Derived.Test.YtpggkehfbhffbaaRF
namespace Go.Proofs.Ytpggkehfbhffbaa
open Go.RowKit

set_option maxRecDepth 100000 in
set_option maxHeartbeats 4000000 in
theorem rRight_any (b p s : Int) (w : World) : Calls Try.prog 63 #[.agg #[vi b, vi p, vi s]] w fun e w' => e = .returned (.bool (NP.rightB b p s)) ∧ Below w.heap.size w w' := by
  have F0 := Blk.new w 23 #[vi b, vi p, vi s]
  have HB := Lib.hid ((Below.refl w.heap.size w).alloc (Nat.le_refl _) (.cells #[vi b, vi p, vi s] 23))
  have HQ : Hid (NP.rightB b p s = (decide (8 ≤ b) && decide (b ≤ 128) && decide (4 ≤ p) && decide (p ≤ 32) && (s == 64 || s == 128 || s == 256 || s == 512))) := Lib.hid rfl
  go_enter Try.func63, Try.ntmps63
  go_upto_region 1 with fail
  generalize w.alloc (.cells #[vi b, vi p, vi s] 23) = w1 at *
  have c0 : w1.cell? ⟨w.heap.size, 0, none⟩ = some (vi b) := F0.cell 0
  have c1 : w1.cell? ⟨w.heap.size, 1, none⟩ = some (vi p) := F0.cell 1
  have c2 : w1.cell? ⟨w.heap.size, 2, none⟩ = some (vi s) := F0.cell 2
  clear F0
  have fin : ∀ x : Bool, NP.rightB b p s = x → (Ending.returned (.bool x) = Ending.returned (.bool (NP.rightB b p s)) ∧ Below w.heap.size w w1) := fun x h => ⟨by rw [h], HB.out⟩
  have FIN := Lib.hid fin
  clear fin HB
  by_cases h1 : 8 ≤ b
  · by_cases h2 : b ≤ 128
    · by_cases h3 : 4 ≤ p
      · by_cases h4 : p ≤ 32
        · by_cases s1 : s = 64
          · have H := Lib.hid (show NP.rightB b p s = true by rw [HQ.out]; simp [h1, h2, h3, h4, s1])
            go_wp2_with fail
            go_ret
            exact FIN.out _ H.out
          · by_cases s2 : s = 128
            · have H := Lib.hid (show NP.rightB b p s = true by rw [HQ.out]; simp [h1, h2, h3, h4, s2])
              go_wp2_with fail
              go_ret
              exact FIN.out _ H.out
            · by_cases s3 : s = 256
              · have H := Lib.hid (show NP.rightB b p s = true by rw [HQ.out]; simp [h1, h2, h3, h4, s3])
                go_wp2_with fail
                go_ret
                exact FIN.out _ H.out
              · by_cases s4 : s = 512
                · have H := Lib.hid (show NP.rightB b p s = true by rw [HQ.out]; simp [h1, h2, h3, h4, s4])
                  go_wp2_with fail
                  go_ret
                  exact FIN.out _ H.out
                · have H := Lib.hid (show NP.rightB b p s = false by rw [HQ.out]; simp [s1, s2, s3, s4])
                  go_wp2_with fail
                  go_ret
                  exact FIN.out _ (H.out.trans (by simp [s1, s2, s3, s4]))
        · have H := Lib.hid (show NP.rightB b p s = false by rw [HQ.out]; simp [h4])
          go_wp2_with fail
          go_ret
          exact FIN.out _ H.out
      · have H := Lib.hid (show NP.rightB b p s = false by rw [HQ.out]; simp [h3])
        go_wp2_with fail
        go_ret
        exact FIN.out _ H.out
    · have H := Lib.hid (show NP.rightB b p s = false by rw [HQ.out]; simp [h2])
      go_wp2_with fail
      go_ret
      exact FIN.out _ H.out
  · have H := Lib.hid (show NP.rightB b p s = false by rw [HQ.out]; simp [h1])
    go_wp2_with fail
    go_ret
    exact FIN.out _ H.out

end Go.Proofs.Ytpggkehfbhffbaa
