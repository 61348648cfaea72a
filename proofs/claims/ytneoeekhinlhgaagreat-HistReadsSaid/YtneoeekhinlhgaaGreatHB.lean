/-
  hist.number, and the reference's Big: a number's bytes behind a row of the call's own, or in one. Conditions: rows below a million bytes.
-/
import Derived.Test.YtneoeekhinlhgaaGreatHA
namespace Go.Proofs.YtneoeekhinlhgaaGreat
open Go.RowKit

theorem number_step {w wr : World} {base j x y : Nat} {m : Value} {l : List Nat} (hy : y = x / 256 ^ j) (hown : Own wr base m (l ++ HP.le j x)) (hb : base ≤ wr.heap.size) (hB : Stp base w wr) (hn : l.length + j + 1 ≤ 1000000) :
    ∃ v' w', (Builtin.append_ #[25, 25] 25 #[m, .slice (some ⟨wr.heap.size, 0, none⟩) 1 1]).run Tryz.prog (wr.alloc (.cells #[.int .u8 ((y : Int) % 256)] 5)) = .ok v' w' ∧
      Own w' base v' (l ++ HP.le (j + 1) x) ∧ base ≤ w'.heap.size ∧ Stp base w w' := by
  subst hy
  obtain ⟨v', w', hrun, ho, hg⟩ := append_bytes (c := 1) (hown.old ((Below.refl _ _).alloc (Nat.le_refl _) _)) (byte_row wr (x / 256 ^ j % 256) (by omega)) (by simp [HP.le_length]; omega) (by simp; omega)
  have hst := (hB.alloc hb _).trans hg
  refine ⟨v', w', hrun, ?_, by have := hg.size; simp at this; omega, hst⟩
  rw [HP.le_snoc, ← List.append_assoc]
  exact ho
theorem div_more {x y j : Nat} (h : y = x / 256 ^ j) : y / 256 = x / 256 ^ (j + 1) := by
  rw [h, Nat.div_div_eq_div_mul, Nat.pow_succ]

set_option maxHeartbeats 1000000 in
theorem number_any (base : Nat) (v : Value) (l : List Nat) (x k : Nat) (w : World) (hown : Own w base v l) (hb : base ≤ w.heap.size) (hx : x < 18446744073709551616) (hn : l.length + k ≤ 1000000) (hk : k ≤ 8) :
    Calls Tryz.prog 22 #[v, vq x, vi k] w fun e w' => ∃ v', e = .returned v' ∧ Own w' base v' (l ++ HP.le k x) ∧ Stp base w w' := by
  have HO := Lib.hid hown
  clear hown
  go_enter Tryz.func22, Tryz.ntmps22
  go_wp2_with fail
  go_loopw [0, 1, 8] (fun m y i wr => ∃ j z : Nat, j ≤ k ∧ i = vi j ∧ y = vq z ∧ Hid (z = x / 256 ^ j) ∧ z < 18446744073709551616 ∧ Hid (Own wr base m (l ++ HP.le j x)) ∧ Hid (base ≤ wr.heap.size ∧ Stp base w wr)) (fun _ _ i _ => k - (intOf i).toNat)
  case atStart => exact ⟨0, x, Nat.zero_le _, rfl, rfl, Lib.hid (by simp), hx, Lib.hid (by simpa [HP.le] using HO.out), Lib.hid ⟨hb, Stp.refl _ _⟩⟩
  case round =>
    obtain ⟨j, y, hj, rfl, rfl, hy, hyl, ho, hB⟩ := hrel
    by_cases hlt : j < k
    · obtain ⟨v', w', hrun, ho', hb', hB'⟩ := number_step hy.out ho.out hB.out.1 hB.out.2 (by omega)
      have HRun := Lib.hid hrun
      have HO2 := Lib.hid ho'
      have HB2 := Lib.hid (And.intro hb' hB')
      clear hrun ho' hb' hB' ho hB
      go_wp2_with (at_builtin; refine wpList_append_run rfl (.tmp 10) (.tmp 13) rfl rfl rfl HRun.out ?_)
      go_roundw
      case rel => exact ⟨j + 1, y / 256, by omega, rfl, rfl, Lib.hid (div_more hy.out), by omega, HO2, HB2⟩
      case measure => simp [intOf]; omega
    · obtain rfl : j = k := by omega
      have HB2 := hB
      have HO2 := ho
      go_wp2_with fail
      go_ret
      exact ⟨_, rfl, HO2.out, HB2.out.2⟩

set_option maxHeartbeats 1000000 in
theorem Big_any (x k : Nat) (w : World) (hx : x < 18446744073709551616) (hk : k ≤ 8) :
    Calls Tryz.prog 13 #[vq x, vi k] w fun e w' => ∃ v', e = .returned v' ∧ Own w' w.heap.size v' (HP.le k x) ∧ Below w.heap.size w w' := by
  go_enter Tryz.func13, Tryz.ntmps13
  go_wp2_with fail
  go_loopw [0, 5, 6] (fun y m i wr => ∃ j z : Nat, j ≤ k ∧ i = vi j ∧ y = vq z ∧ Hid (z = x / 256 ^ j) ∧ z < 18446744073709551616 ∧ Hid (Own wr w.heap.size m ([] ++ HP.le j x)) ∧ Hid (w.heap.size ≤ wr.heap.size ∧ Stp w.heap.size w wr)) (fun _ _ i _ => k - (intOf i).toNat)
  case atStart => exact ⟨0, x, Nat.zero_le _, rfl, rfl, Lib.hid (by simp), hx, Lib.hid (Own.nil _ _), Lib.hid ⟨Nat.le_refl _, Stp.refl _ _⟩⟩
  case round =>
    obtain ⟨j, y, hj, rfl, rfl, hy, hyl, ho, hB⟩ := hrel
    by_cases hlt : j < k
    · obtain ⟨v', w', hrun, ho', hb', hB'⟩ := number_step hy.out ho.out hB.out.1 hB.out.2 (by simp; omega)
      have HRun := Lib.hid hrun
      have HO2 := Lib.hid ho'
      have HB2 := Lib.hid (And.intro hb' hB')
      clear hrun ho' hb' hB' ho hB
      go_wp2_with (at_builtin; refine wpList_append_run rfl (.tmp 12) (.tmp 16) rfl rfl rfl HRun.out ?_)
      go_roundw
      case rel => exact ⟨j + 1, y / 256, by omega, rfl, rfl, Lib.hid (div_more hy.out), by omega, HO2, HB2⟩
      case measure => simp [intOf]; omega
    · obtain rfl : j = k := by omega
      have HB2 := hB
      have HO2 := ho
      go_wp2_with fail
      go_ret
      exact ⟨_, rfl, HO2.out, HB2.out.2.below⟩

end Go.Proofs.YtneoeekhinlhgaaGreat
