/-
  The reference's reader: a number with its sign, a text, an operation. Conditions: rows that are read.
-/
import Derived.Test.YtneoeekhinlhgaaGreatHN
namespace Go.Proofs.YtneoeekhinlhgaaGreat
open Go.RowKit

theorem signed_any (n : Nat) (w : World) (hn : n < 4294967296) :
    Calls Tryz.prog 55 #[vq n] w fun e w' => e = .returned (vi (HP.s32 n)) ∧ w' = w := by
  go_enter Tryz.func55, Tryz.ntmps55
  by_cases h : n < 2147483648
  · go_wp2_with fail
    go_ret
    exact ⟨ret_int (by rw [HP.s32, if_pos h]), rfl⟩
  · go_wp2_with fail
    go_ret
    exact ⟨ret_int (by rw [HP.s32, if_neg h]), rfl⟩

theorem text_neg (s : Option Addr) (b : List Nat) (c : Nat) (n : Nat) (w : World) :
    Calls Tryz.prog 54 #[.slice s b.length c, vi (-1), vi n] w fun e w' => e = .returned (.tuple #[.slice none 0 0, vi (-1)]) ∧ w' = w := by
  go_enter Tryz.func54, Tryz.ntmps54
  go_wp2_with fail
  go_ret2
  exact ⟨rfl, rfl⟩

/-- The number ahead of a text. -/
theorem len_num {w : World} {b0 o0 c : Nat} {b : List Nat} {k n : Nat} (h : BRow w (some ⟨b0, o0, none⟩) b) (hn : 1 ≤ n ∧ n ≤ 2) (hk : k + n ≤ b.length) :
    HP.num ((b.drop k).take n) < 65536 ∧ Calls Tryz.prog 34 #[.slice (some ⟨b0, o0 + k, none⟩) n (c - k)] w fun e w' => e = .returned (vq (HP.num ((b.drop k).take n))) ∧ w' = w := by
  have hx : ((b.drop k).take n).length = n := by rw [List.length_take, List.length_drop]; omega
  have hb := HP.num_lt ((b.drop k).take n) ((h.drop k).take n).small
  have hN := Num_any _ _ (c - k) w ((h.drop k).take n) (by omega)
  rw [hx] at hb hN
  refine ⟨Nat.lt_of_lt_of_le hb ?_, hN⟩
  have : (256 : Nat) ^ n ≤ 256 ^ 2 := Nat.pow_le_pow_right (by omega) hn.2
  omega

set_option maxHeartbeats 1000000 in
theorem text_no (s : Option Addr) (b : List Nat) (c : Nat) (k n : Nat) (w : World) (h : BRow w s b) (hl : b.length ≤ 900000) (hc : b.length ≤ c) (hk : k ≤ b.length) (hn : 1 ≤ n ∧ n ≤ 2) (ht : HP.textN n (b.drop k) = none) :
    Calls Tryz.prog 54 #[.slice s b.length c, vi k, vi n] w fun e w' => e = .returned (.tuple #[.slice none 0 0, vi (-1)]) ∧ w' = w := by
  have H := Lib.hid h
  clear h
  by_cases h1 : b.length < k + n
  · clear ht
    go_enter Tryz.func54, Tryz.ntmps54
    go_wp2_with fail
    go_ret2
    exact ⟨rfl, rfl⟩
  · obtain ⟨b0, o0, rfl, -⟩ := H.out.lookup (k := 0) (by omega)
    obtain ⟨hz, hN⟩ := len_num (c := c) H.out hn (by omega : k + n ≤ b.length)
    unfold HP.textN HP.takeN at ht
    rw [if_pos (by rw [List.length_drop]; omega)] at ht
    dsimp only at ht
    have h2 : b.length < k + n + HP.num ((b.drop k).take n) := by
      split at ht
      · cases ht
      · rename_i h3
        rw [List.length_drop, List.length_drop] at h3
        omega
    have HN := Lib.hid hN
    clear ht hN
    generalize HP.num ((b.drop k).take n) = z at *
    have hck : ¬ c = k := by omega
    obtain ⟨hn1, hn2⟩ := hn
    go_enter Tryz.func54, Tryz.ntmps54
    go_wp2_with fail
    refine (HN.out).mono ?_
    rintro e w' ⟨rfl, rfl⟩
    go_wp2_with fail
    go_ret2
    exact ⟨rfl, rfl⟩

set_option maxHeartbeats 1000000 in
theorem text_to (s : Option Addr) (b t r : List Nat) (c : Nat) (k n : Nat) (w : World) (h : BRow w s b) (hl : b.length ≤ 900000) (hc : b.length ≤ c) (hm : c ≤ maxLen) (hk : k ≤ b.length) (hn : 1 ≤ n ∧ n ≤ 2) (ht : HP.textN n (b.drop k) = some (t, r)) :
    Calls Tryz.prog 54 #[.slice s b.length c, vi k, vi n] w fun e w' => (∃ (c' m : Nat) (a : Option Addr), e = .returned (.tuple #[.slice a t.length c', vi m]) ∧ (∀ W, BRow W s b → BRow W a t) ∧ t.length ≤ c' ∧ c' ≤ maxLen ∧ k + n ≤ m ∧ m ≤ b.length ∧ r = b.drop m) ∧ w' = w := by
  have H := Lib.hid h
  clear h
  unfold HP.textN HP.takeN at ht
  by_cases h1 : n ≤ (b.drop k).length
  · rw [if_pos h1] at ht
    dsimp only at ht
    rw [List.length_drop] at h1
    obtain ⟨b0, o0, rfl, -⟩ := H.out.lookup (k := 0) (by omega)
    obtain ⟨hz, hN⟩ := len_num (c := c) H.out hn (by omega : k + n ≤ b.length)
    have HN := Lib.hid hN
    clear hN
    generalize HP.num ((b.drop k).take n) = z at *
    split at ht
    · rename_i h2
      rw [List.drop_drop, List.length_drop] at h2
      simp only [Option.some.injEq, Prod.mk.injEq] at ht
      obtain ⟨rfl, rfl⟩ := ht
      have HT := Lib.hid (fun (W : World) (hW : BRow W (some ⟨b0, o0, none⟩) b) => (hW.drop (k + n)).take z)
      have htl : ((b.drop (k + n)).take z).length = z := by rw [List.length_take, List.length_drop]; omega
      rw [List.drop_drop, htl]
      have hck : ¬ c = k := by omega
      obtain ⟨hn1, hn2⟩ := hn
      clear htl
      go_enter Tryz.func54, Tryz.ntmps54
      go_wp2_with fail
      refine (HN.out).mono ?_
      rintro e w' ⟨rfl, rfl⟩
      go_wp2_with fail
      all_goals go_ret2
      · obtain rfl : z = 0 := by omega
        exact ⟨⟨0, k + n + 0, _, rfl, fun W _ => by rw [List.take_zero]; exact BRow.nil _ _, by omega, by omega, by omega, by omega, by first | rfl | rw [List.drop_drop]⟩, rfl⟩
      · exact ⟨⟨_, k + n + z, _, rfl, HT.out, by omega, by omega, by omega, by omega, by first | rfl | rw [List.drop_drop]⟩, rfl⟩
    · cases ht
  · rw [if_neg h1] at ht
    cases ht

end Go.Proofs.YtneoeekhinlhgaaGreat
