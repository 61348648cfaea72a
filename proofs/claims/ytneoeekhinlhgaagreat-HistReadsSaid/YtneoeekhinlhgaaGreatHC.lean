/-
  The sums of bytes, the program's and the reference's: CRC-32; a number of bytes; two rows of the same bytes. Conditions: rows that are read.
-/
import Derived.Test.YtneoeekhinlhgaaGreatHA
import Derived.Laws.BitsAllLaws
namespace Go.Proofs.YtneoeekhinlhgaaGreat
open Go.RowKit

theorem xor_u32 (a b : Nat) (ha : a < 4294967296) (hb : b < 4294967296) : bits .xor .u32 (a : Int) (b : Int) = ((a ^^^ b : Nat) : Int) := u32_xor_nat a b ha hb
theorem and1_u32 (a : Nat) (ha : a < 4294967296) : bits .and .u32 (a : Int) 1 = ((a % 2 : Nat) : Int) := by
  have := u32_and_nat a 1 ha (by decide)
  rw [nat_mask1] at this
  exact this

theorem not_u32 (z : Nat) (h : z < 4294967296) : bits .xor .u32 IntKind.u32.max (z : Int) = ((4294967295 - z : Nat) : Int) := by
  have := xor_u32 4294967295 z (by decide) h
  rw [show 4294967295 ^^^ z = 4294967295 - z by
    have := HP.xor_eq_zero (x := 4294967295 - z) (y := 4294967295 ^^^ z) (by
      rw [← Nat.xor_assoc, Nat.xor_comm (4294967295 - z), Nat.xor_assoc, Nat.xor_comm (4294967295 - z), HP.xor_not h, Nat.xor_self])
    exact this.symm] at this
  exact this
theorem digit_u32 (z y : Nat) (hz : z < 4294967296) (hy : y < 4294967296) : bits .and .u32 (bits .xor .u32 (z : Int) (y : Int)) 1 = (((z ^^^ y) % 2 : Nat) : Int) := by
  rw [xor_u32 z y hz hy]
  exact and1_u32 _ (HP.xor_lt hz hy)
theorem digit_u32' (z b j : Nat) (hz : z < 4294967296) (hb : b < 256) : bits .and .u32 (bits .xor .u32 (z : Int) ((b : Int) / 2 ^ j)) 1 = (((z ^^^ b / 2 ^ j) % 2 : Nat) : Int) := by
  rw [show (b : Int) / 2 ^ j = ((b / 2 ^ j : Nat) : Int) by simp]
  exact digit_u32 z _ hz (Nat.lt_of_le_of_lt (Nat.div_le_self _ _) (by omega))
theorem xor_poly (z : Nat) (h : z < 4294967296) : bits .xor .u32 ((z : Int) / 2) 3988292384 = ((z / 2 ^^^ 3988292384 : Nat) : Int) := xor_u32 (z / 2) 3988292384 (by omega) (by omega)

set_option maxHeartbeats 1000000 in
theorem CPut_any (r b : Nat) (w : World) (hr : r < 4294967296) (hb : b < 256) :
    Calls Tryz.prog 80 #[vw r, vb b] w fun e w' => e = .returned (vw (HP.put r b)) ∧ w' = w := by
  have hx := xor_u32 r b hr (by omega)
  have hxl : r ^^^ b < 4294967296 := HP.xor_lt hr (by omega)
  go_enter Tryz.func80, Tryz.ntmps80
  go_wp2_with fail
  go_loop [0, 9] (fun y i => ∃ j z : Nat, j ≤ 8 ∧ i = vi j ∧ y = vw z ∧ Hid (z = HP.steps j (r ^^^ b)) ∧ z < 4294967296) (fun _ i => 8 - (intOf i).toNat)
  case atStart => exact ⟨0, r ^^^ b, by omega, rfl, rfl, Lib.hid rfl, hxl⟩
  case round =>
    obtain ⟨j, z, hj, rfl, rfl, hz, hzl⟩ := hrel
    have h1 := and1_u32 z hzl
    have h2 := xor_poly z hzl
    have hstep : HP.steps (j + 1) (r ^^^ b) = HP.step z := by rw [HP.steps, hz.out]
    have hlt' := HP.step_lt hzl
    have HS := Lib.hid hstep
    clear hstep
    by_cases hlt : j < 8
    · rcases Nat.mod_two_eq_zero_or_one z with hm | hm
      · have Hs : Hid (HP.step z = z / 2) := Lib.hid (by rw [HP.step, if_neg (by omega)])
        clear hlt'
        rw [hm] at h1
        have Hm := Lib.hid hm
        clear hm
        go_wp2_with fail
        go_round
        case rel => exact ⟨j + 1, z / 2, by omega, by go_num, by go_num, Lib.hid (by rw [HS.out, Hs.out]), by omega⟩
        case measure => simp [intOf]; omega
      · have Hs : Hid (HP.step z = z / 2 ^^^ 3988292384) := Lib.hid (by rw [HP.step, if_pos hm])
        have hlt2 : z / 2 ^^^ 3988292384 < 4294967296 := HP.xor_lt (by omega) (by omega)
        clear hlt'
        rw [hm] at h1
        have Hm := Lib.hid hm
        clear hm
        go_wp2_with fail
        go_round
        case rel => exact ⟨j + 1, z / 2 ^^^ 3988292384, by omega, by go_num, rfl, Lib.hid (by rw [HS.out, Hs.out]), hlt2⟩
        case measure => simp [intOf]; omega
    · obtain rfl : j = 8 := by omega
      have Hz := hz
      go_wp2_with fail
      go_ret
      exact ⟨by rw [Hz.out]; rfl, rfl⟩

set_option maxHeartbeats 1000000 in
theorem CMore_any (a : Option Addr) (l : List Nat) (c : Nat) (w : World) (h : BRow w a l) (hl : l.length ≤ 9000000) :
    Calls Tryz.prog 51 #[vw 0, .slice a l.length c] w fun e w' => e = .returned (vw (HP.sum l)) ∧ w' = w := by
  have HR := Lib.hid h
  have hs := HP.reg_lt l (r := 4294967295) (by omega) h.small
  clear h
  go_enter Tryz.func51, Tryz.ntmps51
  go_wp2_with fail
  go_loop [5, 12] (fun y i => ∃ k z : Nat, k ≤ l.length ∧ i = vi k ∧ y = vw z ∧ Hid (z = HP.reg 4294967295 (l.take k)) ∧ z < 4294967296) (fun _ i => l.length - (intOf i).toNat)
  case atStart => exact ⟨0, 4294967295, by omega, rfl, rfl, Lib.hid rfl, by omega⟩
  case round =>
    obtain ⟨k, z, hk, rfl, rfl, hz, hzl⟩ := hrel
    by_cases hlt : k < l.length
    · obtain ⟨b, o, rfl, hc, hsm⟩ := HR.out.lookup hlt
      have HS := Lib.hid (show HP.reg 4294967295 (l.take (k + 1)) = HP.put z (l.getD k 0) by
        rw [List.take_succ_eq_append_getElem hlt, HP.reg_append, ← hz.out]
        simp [HP.reg, List.getD, hlt])
      have hp := HP.put_lt hzl hsm
      generalize l.getD k 0 = x at hc hsm HS hp
      go_wp2_with (go_at_call 80; refine (CPut_any _ _ _ hzl hsm).mono ?_; rintro e w1 ⟨rfl, rfl⟩)
      go_round
      case rel => exact ⟨k + 1, HP.put z x, by omega, by go_num, rfl, Lib.hid (by rw [HS.out]), hp⟩
      case measure => simp [intOf]; omega
    · obtain rfl : k = l.length := by omega
      have Hz := hz
      go_wp2_with fail
      go_ret
      refine ⟨congrArg (fun x => Ending.returned (Value.int .u32 x)) ?_, rfl⟩
      have hz' := hz.out
      rw [List.take_length] at hz'
      rw [not_u32 z hzl, hz']
      rfl

theorem CSum_any (a : Option Addr) (l : List Nat) (c : Nat) (w : World) (h : BRow w a l) (hl : l.length ≤ 9000000) :
    Calls Tryz.prog 25 #[.slice a l.length c] w fun e w' => e = .returned (vw (HP.sum l)) ∧ w' = w := by
  have HR := Lib.hid h
  clear h
  go_enter Tryz.func25, Tryz.ntmps25
  go_wp2_with (go_at_call 51; refine (CMore_any _ _ _ _ HR.out hl).mono ?_; rintro e w1 ⟨rfl, rfl⟩)
  go_ret
  exact ⟨rfl, rfl⟩

set_option maxHeartbeats 1000000 in
theorem RPut_any (r b : Nat) (w : World) (hr : r < 4294967296) (hb : b < 256) :
    Calls Tryz.prog 53 #[vw r, vb b] w fun e w' => e = .returned (vw (HP.put r b)) ∧ w' = w := by
  have HD := Lib.hid (HP.digit_put r hb)
  go_enter Tryz.func53, Tryz.ntmps53
  go_wp2_with fail
  go_loop [0, 5] (fun y i => ∃ j z : Nat, j ≤ 8 ∧ i = vi j ∧ y = vw z ∧ Hid (z = HP.digit b j r) ∧ z < 4294967296) (fun _ i => 8 - (intOf i).toNat)
  case atStart => exact ⟨0, r, by omega, rfl, rfl, Lib.hid rfl, hr⟩
  case round =>
    obtain ⟨j, z, hj, rfl, rfl, hz, hzl⟩ := hrel
    by_cases hlt : j < 8
    · have h1 := digit_u32' z b j hzl hb
      have h2 := xor_poly z hzl
      rcases Nat.mod_two_eq_zero_or_one (z ^^^ b / 2 ^ j) with hm | hm
      · have HS := Lib.hid (show HP.digit b (j + 1) r = z / 2 by simp only [HP.digit, ← hz.out]; rw [if_neg (by omega)])
        rw [hm] at h1
        have Hm := Lib.hid hm
        clear hm
        go_wp2_with fail
        go_round
        case rel => exact ⟨j + 1, z / 2, by omega, by go_num, by go_num, Lib.hid (by rw [HS.out]), by omega⟩
        case measure => simp [intOf]; omega
      · have HS := Lib.hid (show HP.digit b (j + 1) r = z / 2 ^^^ 3988292384 by simp only [HP.digit, ← hz.out]; rw [if_pos hm])
        have hlt2 : z / 2 ^^^ 3988292384 < 4294967296 := HP.xor_lt (by omega) (by omega)
        rw [hm] at h1
        have Hm := Lib.hid hm
        clear hm
        go_wp2_with fail
        go_round
        case rel => exact ⟨j + 1, z / 2 ^^^ 3988292384, by omega, by go_num, rfl, Lib.hid (by rw [HS.out]), hlt2⟩
        case measure => simp [intOf]; omega
    · obtain rfl : j = 8 := by omega
      have hz' : z = HP.put r b := by rw [hz.out, HD.out]
      subst hz'
      clear hz HD
      go_wp2_with fail
      go_ret
      exact ⟨rfl, rfl⟩

set_option maxHeartbeats 1000000 in
theorem RMore_any (a : Option Addr) (l : List Nat) (c : Nat) (w : World) (h : BRow w a l) (hl : l.length ≤ 9000000) :
    Calls Tryz.prog 29 #[vw 0, .slice a l.length c] w fun e w' => e = .returned (vw (HP.sum l)) ∧ w' = w := by
  have HR := Lib.hid h
  have hs := HP.reg_lt l (r := 4294967295) (by omega) h.small
  clear h
  go_enter Tryz.func29, Tryz.ntmps29
  go_wp2_with fail
  go_loop [5, 6] (fun y i => ∃ k z : Nat, k ≤ l.length ∧ i = vi k ∧ y = vw z ∧ Hid (z = HP.reg 4294967295 (l.take k)) ∧ z < 4294967296) (fun _ i => l.length - (intOf i).toNat)
  case atStart => exact ⟨0, 4294967295, by omega, rfl, rfl, Lib.hid rfl, by omega⟩
  case round =>
    obtain ⟨k, z, hk, rfl, rfl, hz, hzl⟩ := hrel
    by_cases hlt : k < l.length
    · obtain ⟨b, o, rfl, hc, hsm⟩ := HR.out.lookup hlt
      have HS := Lib.hid (show HP.reg 4294967295 (l.take (k + 1)) = HP.put z (l.getD k 0) by
        rw [List.take_succ_eq_append_getElem hlt, HP.reg_append, ← hz.out]
        simp [HP.reg, List.getD, hlt])
      have hp := HP.put_lt hzl hsm
      generalize l.getD k 0 = x at hc hsm HS hp
      go_wp2_with (go_at_call 53; refine (RPut_any _ _ _ hzl hsm).mono ?_; rintro e w1 ⟨rfl, rfl⟩)
      go_round
      case rel => exact ⟨k + 1, HP.put z x, by omega, by go_num, rfl, Lib.hid (by rw [HS.out]), hp⟩
      case measure => simp [intOf]; omega
    · obtain rfl : k = l.length := by omega
      have Hz := hz
      go_wp2_with fail
      go_ret
      refine ⟨congrArg (fun x => Ending.returned (Value.int .u32 x)) ?_, rfl⟩
      have hz' := hz.out
      rw [List.take_length] at hz'
      subst hz'
      simp [HP.sum]
      omega

theorem RSum_any (a : Option Addr) (l : List Nat) (c : Nat) (w : World) (h : BRow w a l) (hl : l.length ≤ 9000000) :
    Calls Tryz.prog 14 #[.slice a l.length c] w fun e w' => e = .returned (vw (HP.sum l)) ∧ w' = w := by
  have HR := Lib.hid h
  clear h
  go_enter Tryz.func14, Tryz.ntmps14
  go_wp2_with (go_at_call 29; refine (RMore_any _ _ _ _ HR.out hl).mono ?_; rintro e w1 ⟨rfl, rfl⟩)
  go_ret
  exact ⟨rfl, rfl⟩

theorem SameBytes_any (a a' : Option Addr) (l : List Nat) (c c' : Nat) (w : World) (h : BRow w a l) (h' : BRow w a' l) :
    Calls Tryz.prog 12 #[.slice a l.length c, .slice a' l.length c'] w fun e w' => e = .returned (.bool true) ∧ w' = w := by
  have h1 := run_text h c
  have h2 := run_text h' c'
  clear h h'
  go_enter Tryz.func12, Tryz.ntmps12
  go_wp2_with fail
  go_ret
  exact ⟨rfl, rfl⟩

set_option maxHeartbeats 1000000 in
theorem Num_any (a : Option Addr) (l : List Nat) (c : Nat) (w : World) (h : BRow w a l) (hl : l.length ≤ 8) :
    Calls Tryz.prog 34 #[.slice a l.length c] w fun e w' => e = .returned (vq (HP.num l)) ∧ w' = w := by
  have HR := Lib.hid h
  clear h
  go_enter Tryz.func34, Tryz.ntmps34
  go_wp2_with fail
  go_loop [3, 4] (fun y i => ∃ (k z : Nat) (i' : Int), k ≤ l.length ∧ i = vi i' ∧ Hid (i' = l.length - 1 - k) ∧ y = vq z ∧ Hid (z = HP.num (l.drop (l.length - k))) ∧ Hid (z < 256 ^ k)) (fun _ i => (intOf i + 1).toNat)
  case atStart => exact ⟨0, 0, (l.length : Int) - 1, by omega, rfl, Lib.hid (by simp), rfl, Lib.hid (by simp [HP.num]), Lib.hid (by simp)⟩
  case round =>
    obtain ⟨k, z, i', hk, rfl, hi, rfl, hz, hzl⟩ := hrel
    by_cases hlt : k < l.length
    · obtain ⟨j, rfl⟩ : ∃ j : Nat, i' = j := ⟨i'.toNat, by have := hi.out; omega⟩
      have hj : j + k + 1 = l.length := by have := hi.out; omega
      obtain ⟨b, o, rfl, hc, hsm⟩ := HR.out.lookup (k := j) (by omega)
      have HS := Lib.hid (show HP.num (l.drop (l.length - (k + 1))) = z * 256 + l.getD j 0 by
        rw [show l.length - (k + 1) = j by omega, List.drop_eq_getElem_cons (by omega), HP.num, hz.out, show l.length - k = j + 1 by omega]
        simp [List.getD, show j < l.length by omega]
        omega)
      have hp : z * 256 + l.getD j 0 < 256 ^ (k + 1) := by have := hzl.out; rw [Nat.pow_succ]; omega
      have hp8 : z * 256 + l.getD j 0 < 18446744073709551616 := Nat.lt_of_lt_of_le hp (Nat.le_trans (Nat.pow_le_pow_right (by omega) (show k + 1 ≤ 8 by omega)) (by decide))
      have HP' := Lib.hid hp
      clear hp
      have hjl : (j : Int) < (l.length : Int) := by omega
      have Hj := Lib.hid hj
      clear hj hzl hz
      generalize l.getD j 0 = x at hc hsm HS HP' hp8
      go_wp2_with fail
      go_round
      case rel => exact ⟨k + 1, z * 256 + x, (j : Int) - 1, by omega, rfl, Lib.hid (by have := Hj.out; omega), by go_num, Lib.hid (by rw [HS.out]), HP'⟩
      case measure => simp [intOf]
    · obtain rfl : k = l.length := by omega
      have hi' : i' < 0 := by have := hi.out; omega
      have hz' := hz.out
      rw [Nat.sub_self, List.drop_zero] at hz'
      subst hz'
      go_wp2_with fail
      go_ret
      exact ⟨rfl, rfl⟩

theorem tmod_fix (k n : Int) (hn : 0 < n) : (0 ≤ k.tmod n → k.tmod n = k % n) ∧ (k.tmod n < 0 → k.tmod n + n = k % n) ∧ -n < k.tmod n ∧ k.tmod n < n := by
  have h1 := Int.lt_tmod_of_pos k hn
  have h2 := Int.tmod_lt_of_pos k hn
  have h3 : (k.tmod n) % n = k % n := by rw [Int.tmod_def, Int.sub_mul_emod_self_left]
  refine ⟨fun h => ?_, fun h => ?_, h1, h2⟩
  · rw [← h3, Int.emod_eq_of_lt h h2]
  · have h4 : (k.tmod n + n) % n = k % n := by rw [Int.add_emod_right, h3]
    rw [← h4, Int.emod_eq_of_lt (by omega) (by omega)]

set_option maxHeartbeats 1000000 in
theorem Among_any (k n : Int) (w : World) (hn : 1 ≤ n) (hn' : n ≤ 9223372036854775807) :
    Calls Tryz.prog 18 #[vi k, vi n] w fun e w' => e = .returned (vi (k % n)) ∧ w' = w := by
  obtain ⟨h1, h2, h3, h4⟩ := tmod_fix k n (by omega)
  have H1 := Lib.hid h1
  have H2 := Lib.hid h2
  clear h1 h2
  go_enter Tryz.func18, Tryz.ntmps18
  by_cases h0 : 0 ≤ k.tmod n
  · go_wp2_with fail
    go_ret
    exact ⟨ret_int (H1.out h0), rfl⟩
  · have h0' : k.tmod n < 0 := by omega
    go_wp2_with fail
    go_ret
    exact ⟨ret_int (H2.out h0'), rfl⟩

end Go.Proofs.YtneoeekhinlhgaaGreat
