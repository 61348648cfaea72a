/-
  Are two rows of bytes the same? Conditions: rows of bytes.
-/
import Derived.Test.YtpggkehfbhffbaaRK
namespace Go.Proofs.Ytpggkehfbhffbaa
open Go.RowKit

theorem bs_eq {l m : List Nat} (hl : ∀ x ∈ l, x < 256) (hm : ∀ x ∈ m, x < 256) : ((bs l).toList == (bs m).toList) = decide (l = m) := by
  by_cases h : l = m
  · subst h; simp
  · rw [decide_eq_false h, bs_toList, bs_toList]
    simp only [beq_eq_false_iff_ne, ne_eq]
    intro e
    refine h (bs_inj hl hm ?_)
    unfold bs
    rw [e]
theorem SameBytes_any {w : World} {a a' : Option Addr} {l m : List Nat} (c c' : Nat) (hp : BRow w a l) (hq : BRow w a' m) :
    Calls Try.prog 18 #[.slice a l.length c, .slice a' m.length c'] w fun e w' => e = .returned (.bool (decide (l = m))) ∧ w' = w := by
  have h1 := run_text hp c
  have h2 := run_text hq c'
  have HS := Lib.hid (bs_eq hp.small hq.small)
  clear hp hq
  go_enter Try.func18, Try.ntmps18
  go_wp2_with fail
  go_ret
  exact ⟨by rw [← HS.out]; rfl, rfl⟩

end Go.Proofs.Ytpggkehfbhffbaa
