/-
  Operations as values: which are right; as the program's and as the reference's. No conditions of its own.
-/
import Derived.Test.YtneoeekhinlhgaaGreatHB
import Derived.Test.YtneoeekhinlhgaaGreatHC
import Derived.Deep.RegionHeld3
namespace Go.Proofs.YtneoeekhinlhgaaGreat
open Go.RowKit

/-- An operation, and where its bytes lie. -/
structure OpE where
  o : HP.HOp
  s : Option Addr
  c : Nat
abbrev OpE.cs (e : OpE) : Array Value := #[vi e.o.kind, .string (bs e.o.path), .string (bs e.o.dest), vi e.o.handle, vi e.o.n, vi e.o.off, .slice e.s e.o.bytes.length e.c]
abbrev OpE.v (e : OpE) : Value := .agg e.cs

theorem small_any (n : Int) (w : World) : Calls Tryz.prog 50 #[vi n] w fun e w' => e = .returned (.bool (HP.small32 n)) ∧ w' = w := by
  go_enter Tryz.func50, Tryz.ntmps50
  by_cases h : -2147483648 ≤ n
  · go_wp2
    go_ret
    exact ⟨ret_bool (by simp [HP.small32, h]; omega), rfl⟩
  · go_wp2
    go_ret
    exact ⟨ret_bool (by simp [HP.small32]; omega), rfl⟩

set_option maxHeartbeats 1000000 in
theorem right_any (e : OpE) (w : World) : Calls Tryz.prog 23 #[e.v] w fun r w' => r = .returned (.bool (HP.rightB e.o)) ∧ Below w.heap.size w w' := by
  obtain ⟨⟨k, p, q, h, n, f, b⟩, s, c⟩ := e
  have hp := bs_size p
  have hq := bs_size q
  go_enter Tryz.func23, Tryz.ntmps23
  go_wp2_with (go_at_call 50; refine (small_any _ _).mono ?_; rintro e w' ⟨rfl, rfl⟩)
  all_goals go_ret
  all_goals refine ⟨ret_bool ?_, (Below.refl _ _).alloc (Nat.le_refl _) _⟩
  all_goals simp [HP.rightB, *]
  all_goals omega

set_option maxHeartbeats 1000000 in
theorem Right_any (e : OpE) (w : World) : Calls Tryz.prog 27 #[e.v] w fun r w' => r = .returned (.bool (HP.rightB e.o)) ∧ Below w.heap.size w w' := by
  obtain ⟨⟨k, p, q, h, n, f, b⟩, s, c⟩ := e
  have hp := bs_size p
  have hq := bs_size q
  go_enter Tryz.func27, Tryz.ntmps27
  go_wp2
  all_goals go_ret
  all_goals refine ⟨ret_bool ?_, (Below.refl _ _).alloc (Nat.le_refl _) _⟩
  all_goals simp [HP.rightB, HP.small32, *]
  all_goals omega

theorem own_any (e : OpE) (w : World) : Calls Tryz.prog 26 #[e.v] w fun r w' => r = .returned e.v ∧ Below w.heap.size w w' := by
  go_enter Tryz.func26, Tryz.ntmps26
  go_wp2
  exact bodyPost_ret (v := e.v) (by simp [results, Tryz.results26, go_sem]) rfl ⟨rfl, ((Below.refl _ _).alloc (Nat.le_refl _) _).alloc (by simp) _⟩

theorem is_any (e : OpE) (w : World) : Calls Tryz.prog 37 #[e.v] w fun r w' => r = .returned e.v ∧ Below w.heap.size w w' := by
  go_enter Tryz.func37, Tryz.ntmps37
  go_wp2
  exact bodyPost_ret (v := e.v) (by simp [results, Tryz.results37, go_sem]) rfl ⟨rfl, ((Below.refl _ _).alloc (Nat.le_refl _) _).alloc (by simp) _⟩

end Go.Proofs.YtneoeekhinlhgaaGreat
