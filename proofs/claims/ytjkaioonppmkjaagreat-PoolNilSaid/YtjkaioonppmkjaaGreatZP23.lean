/-
  Lemmas for a law's proof, put together from several texts: each part says what it shows, and its conditions.
-/
import Derived.Test.YtjkaioonppmkjaaGreatZP04
import Derived.Test.YtjkaioonppmkjaaGreatZP02
import Derived.Laws.BitsAllLaws
/-
  The sum of bytes (CRC-32), and what a tag is made of: a number's bytes, sizes, what is right, what is erased. Conditions: rows that are read.
-/
namespace Go.Proofs.YtjkaioonppmkjaaGreat
open Go.RowKit

theorem xor_u32 (a b : Nat) (ha : a < 4294967296) (hb : b < 4294967296) : bits .xor .u32 (a : Int) (b : Int) = ((a ^^^ b : Nat) : Int) := u32_xor_nat a b ha hb
theorem and1_u32 (a : Nat) (ha : a < 4294967296) : bits .and .u32 (a : Int) 1 = ((a % 2 : Nat) : Int) := by
  have := u32_and_nat a 1 ha (by decide)
  rw [nat_mask1] at this
  exact this

theorem not_u32 (z : Nat) (h : z < 4294967296) : bits .xor .u32 IntKind.u32.max (z : Int) = ((4294967295 - z : Nat) : Int) := by
  have := xor_u32 4294967295 z (by decide) h
  rw [show 4294967295 ^^^ z = 4294967295 - z by
    have := HP.xor_eq_zero (x := 4294967295 - z) (y := 4294967295 ^^^ z) (by
      rw [← Nat.xor_assoc, Nat.xor_comm (4294967295 - z), Nat.xor_assoc, Nat.xor_comm (4294967295 - z), HP.xor_not h, Nat.xor_self])
    exact this.symm] at this
  exact this
theorem digit_u32 (z y : Nat) (hz : z < 4294967296) (hy : y < 4294967296) : bits .and .u32 (bits .xor .u32 (z : Int) (y : Int)) 1 = (((z ^^^ y) % 2 : Nat) : Int) := by
  rw [xor_u32 z y hz hy]
  exact and1_u32 _ (HP.xor_lt hz hy)
theorem digit_u32' (z b j : Nat) (hz : z < 4294967296) (hb : b < 256) : bits .and .u32 (bits .xor .u32 (z : Int) ((b : Int) / 2 ^ j)) 1 = (((z ^^^ b / 2 ^ j) % 2 : Nat) : Int) := by
  rw [show (b : Int) / 2 ^ j = ((b / 2 ^ j : Nat) : Int) by simp]
  exact digit_u32 z _ hz (Nat.lt_of_le_of_lt (Nat.div_le_self _ _) (by omega))
theorem xor_poly (z : Nat) (h : z < 4294967296) : bits .xor .u32 ((z : Int) / 2) 3988292384 = ((z / 2 ^^^ 3988292384 : Nat) : Int) := xor_u32 (z / 2) 3988292384 (by omega) (by omega)

set_option maxHeartbeats 1000000 in
theorem CPut_any (r b : Nat) (w : World) (hr : r < 4294967296) (hb : b < 256) :
    Calls Tryz.prog 161 #[vw r, vb b] w fun e w' => e = .returned (vw (HP.put r b)) ∧ w' = w := by
  have hx := xor_u32 r b hr (by omega)
  have hxl : r ^^^ b < 4294967296 := HP.xor_lt hr (by omega)
  go_enter Tryz.func161, Tryz.ntmps161
  go_wp2_with fail
  go_loop [0, 9] (fun y i => ∃ j z : Nat, j ≤ 8 ∧ i = vi j ∧ y = vw z ∧ Hid (z = HP.steps j (r ^^^ b)) ∧ z < 4294967296) (fun _ i => 8 - (intOf i).toNat)
  case atStart => exact ⟨0, r ^^^ b, by omega, rfl, rfl, Lib.hid rfl, hxl⟩
  case round =>
    obtain ⟨j, z, hj, rfl, rfl, hz, hzl⟩ := hrel
    have h1 := and1_u32 z hzl
    have h2 := xor_poly z hzl
    have hstep : HP.steps (j + 1) (r ^^^ b) = HP.step z := by rw [HP.steps, hz.out]
    have hlt' := HP.step_lt hzl
    have HS := Lib.hid hstep
    clear hstep
    by_cases hlt : j < 8
    · rcases Nat.mod_two_eq_zero_or_one z with hm | hm
      · have Hs : Hid (HP.step z = z / 2) := Lib.hid (by rw [HP.step, if_neg (by omega)])
        clear hlt'
        rw [hm] at h1
        have Hm := Lib.hid hm
        clear hm
        go_wp2_with fail
        go_round
        case rel => exact ⟨j + 1, z / 2, by omega, by go_num, by go_num, Lib.hid (by rw [HS.out, Hs.out]), by omega⟩
        case measure => simp [intOf]; omega
      · have Hs : Hid (HP.step z = z / 2 ^^^ 3988292384) := Lib.hid (by rw [HP.step, if_pos hm])
        have hlt2 : z / 2 ^^^ 3988292384 < 4294967296 := HP.xor_lt (by omega) (by omega)
        clear hlt'
        rw [hm] at h1
        have Hm := Lib.hid hm
        clear hm
        go_wp2_with fail
        go_round
        case rel => exact ⟨j + 1, z / 2 ^^^ 3988292384, by omega, by go_num, rfl, Lib.hid (by rw [HS.out, Hs.out]), hlt2⟩
        case measure => simp [intOf]; omega
    · obtain rfl : j = 8 := by omega
      have Hz := hz
      go_wp2_with fail
      go_ret
      exact ⟨by rw [Hz.out]; rfl, rfl⟩

set_option maxHeartbeats 1000000 in
theorem CMore_any (a : Option Addr) (l : List Nat) (c : Nat) (w : World) (h : BRow w a l) (hl : l.length ≤ 9000000) :
    Calls Tryz.prog 136 #[vw 0, .slice a l.length c] w fun e w' => e = .returned (vw (HP.sum l)) ∧ w' = w := by
  have HR := Lib.hid h
  have hs := HP.reg_lt l (r := 4294967295) (by omega) h.small
  clear h
  go_enter Tryz.func136, Tryz.ntmps136
  go_wp2_with fail
  go_loop [5, 12] (fun y i => ∃ k z : Nat, k ≤ l.length ∧ i = vi k ∧ y = vw z ∧ Hid (z = HP.reg 4294967295 (l.take k)) ∧ z < 4294967296) (fun _ i => l.length - (intOf i).toNat)
  case atStart => exact ⟨0, 4294967295, by omega, rfl, rfl, Lib.hid rfl, by omega⟩
  case round =>
    obtain ⟨k, z, hk, rfl, rfl, hz, hzl⟩ := hrel
    by_cases hlt : k < l.length
    · obtain ⟨b, o, rfl, hc, hsm⟩ := HR.out.lookup hlt
      have HS := Lib.hid (show HP.reg 4294967295 (l.take (k + 1)) = HP.put z (l.getD k 0) by
        rw [List.take_succ_eq_append_getElem hlt, HP.reg_append, ← hz.out]
        simp [HP.reg, List.getD, hlt])
      have hp := HP.put_lt hzl hsm
      generalize l.getD k 0 = x at hc hsm HS hp
      go_wp2_with (go_at_call 161; refine (CPut_any _ _ _ hzl hsm).mono ?_; rintro e w1 ⟨rfl, rfl⟩)
      go_round
      case rel => exact ⟨k + 1, HP.put z x, by omega, by go_num, rfl, Lib.hid (by rw [HS.out]), hp⟩
      case measure => simp [intOf]; omega
    · obtain rfl : k = l.length := by omega
      have Hz := hz
      go_wp2_with fail
      go_ret
      refine ⟨congrArg (fun x => Ending.returned (Value.int .u32 x)) ?_, rfl⟩
      have hz' := hz.out
      rw [List.take_length] at hz'
      rw [not_u32 z hzl, hz']
      rfl

theorem CSum_any (a : Option Addr) (l : List Nat) (c : Nat) (w : World) (h : BRow w a l) (hl : l.length ≤ 9000000) :
    Calls Tryz.prog 107 #[.slice a l.length c] w fun e w' => e = .returned (vw (HP.sum l)) ∧ w' = w := by
  have HR := Lib.hid h
  clear h
  go_enter Tryz.func107, Tryz.ntmps107
  go_wp2_with (go_at_call 136; refine (CMore_any _ _ _ _ HR.out hl).mono ?_; rintro e w1 ⟨rfl, rfl⟩)
  go_ret
  exact ⟨rfl, rfl⟩

theorem tput_step {w wr : World} {base j x y : Nat} {m : Value} {l : List Nat} (hy : y = x / 256 ^ j) (hown : Own wr base m (l ++ HP.le j x)) (hb : base ≤ wr.heap.size) (hB : Stp base w wr) (hn : l.length + j + 1 ≤ 1000000) :
    ∃ v' w', (Builtin.append_ #[23, 23] 23 #[m, .slice (some ⟨wr.heap.size, 0, none⟩) 1 1]).run Tryz.prog (wr.alloc (.cells #[.int .u8 ((y : Int) % 256)] 5)) = .ok v' w' ∧
      Own w' base v' (l ++ HP.le (j + 1) x) ∧ base ≤ w'.heap.size ∧ Stp base w w' := by
  subst hy
  obtain ⟨v', w', hrun, ho, hg⟩ := append_bytes (c := 1) (hown.old ((Below.refl _ _).alloc (Nat.le_refl _) _)) (byte_row wr (x / 256 ^ j % 256) (by omega)) (by simp [HP.le_length]; omega) (by simp; omega)
  have hst := (hB.alloc hb _).trans hg
  refine ⟨v', w', hrun, ?_, by have := hg.size; simp at this; omega, hst⟩
  rw [HP.le_snoc, ← List.append_assoc]
  exact ho
theorem div_more {x y j : Nat} (h : y = x / 256 ^ j) : y / 256 = x / 256 ^ (j + 1) := by
  rw [h, Nat.div_div_eq_div_mul, Nat.pow_succ]

set_option maxHeartbeats 1000000 in
theorem tput_any (base : Nat) (v : Value) (l : List Nat) (x k : Nat) (w : World) (hown : Own w base v l) (hb : base ≤ w.heap.size) (hx : x < 18446744073709551616) (hn : l.length + k ≤ 1000000) (hk : k ≤ 8) :
    Calls Tryz.prog 151 #[v, vq x, vi k] w fun e w' => ∃ v', e = .returned v' ∧ Own w' base v' (l ++ HP.le k x) ∧ Stp base w w' := by
  have HO := Lib.hid hown
  clear hown
  go_enter Tryz.func151, Tryz.ntmps151
  go_wp2_with fail
  go_loopw [0, 1, 8] (fun m y i wr => ∃ j z : Nat, j ≤ k ∧ i = vi j ∧ y = vq z ∧ Hid (z = x / 256 ^ j) ∧ z < 18446744073709551616 ∧ Hid (Own wr base m (l ++ HP.le j x)) ∧ Hid (base ≤ wr.heap.size ∧ Stp base w wr)) (fun _ _ i _ => k - (intOf i).toNat)
  case atStart => exact ⟨0, x, Nat.zero_le _, rfl, rfl, Lib.hid (by simp), hx, Lib.hid (by simpa [HP.le] using HO.out), Lib.hid ⟨hb, Stp.refl _ _⟩⟩
  case round =>
    obtain ⟨j, y, hj, rfl, rfl, hy, hyl, ho, hB⟩ := hrel
    by_cases hlt : j < k
    · obtain ⟨v', w', hrun, ho', hb', hB'⟩ := tput_step hy.out ho.out hB.out.1 hB.out.2 (by omega)
      have HRun := Lib.hid hrun
      have HO2 := Lib.hid ho'
      have HB2 := Lib.hid (And.intro hb' hB')
      clear hrun ho' hb' hB' ho hB
      go_wp2_with (at_builtin; refine wpList_append_run rfl (.tmp 10) (.tmp 13) rfl rfl rfl HRun.out ?_)
      go_roundw
      case rel => exact ⟨j + 1, y / 256, by omega, rfl, rfl, Lib.hid (div_more hy.out), by omega, HO2, HB2⟩
      case measure => simp [intOf]; omega
    · obtain rfl : j = k := by omega
      have HB2 := hB
      have HO2 := ho
      go_wp2_with fail
      go_ret
      exact ⟨_, rfl, HO2.out, HB2.out.2⟩


theorem sized_any (n : Int) (w : World) : Calls Tryz.prog 103 #[vi n] w fun e w' => e = .returned (.bool (TP.sized n)) ∧ w' = w := by
  unfold TP.sized
  go_enter Tryz.func103, Tryz.ntmps103
  by_cases h1 : n = 64
  · subst h1; go_wp2_with fail; go_ret; exact ⟨rfl, rfl⟩
  · have q1 : (n == 64) = false := beq_eq_false_iff_ne.2 h1
    by_cases h2 : n = 128
    · subst h2; go_wp2_with fail; go_ret; exact ⟨rfl, rfl⟩
    · have q2 : (n == 128) = false := beq_eq_false_iff_ne.2 h2
      by_cases h3 : n = 256
      · subst h3; go_wp2_with fail; go_ret; exact ⟨rfl, rfl⟩
      · have q3 : (n == 256) = false := beq_eq_false_iff_ne.2 h3
        by_cases h4 : n = 512
        · subst h4; go_wp2_with fail; go_ret; exact ⟨rfl, rfl⟩
        · have q4 : (n == 512) = false := beq_eq_false_iff_ne.2 h4
          go_wp2_with fail
          go_ret
          exact ⟨by rw [q1, q2, q3, q4]; rfl, rfl⟩
abbrev vtag (t : TP.Tag) : Value := .agg #[vi t.kind, vw t.page, vq t.seq, vq t.epoch]
theorem right_alloc {w : World} {t : TP.Tag} : Below w.heap.size w (w.alloc (.cells #[vi t.kind, vw t.page, vq t.seq, vq t.epoch] 96)) := (Below.refl _ _).alloc (Nat.le_refl _) _
set_option maxHeartbeats 2000000 in
theorem tRight_any (t : TP.Tag) (w : World) : Calls Tryz.prog 106 #[vtag t] w fun e w' => e = .returned (.bool (TP.right t)) ∧ Below w.heap.size w w' := by
  obtain ⟨kd, pg, sq, ep⟩ := t
  have HB := Lib.hid (right_alloc (w := w) (t := ⟨kd, pg, sq, ep⟩))
  have HD : Hid (TP.right ⟨kd, pg, sq, ep⟩ = ((kd == 1 || kd == 2) && decide (pg < 8192) && decide (1 ≤ sq) && decide (sq < 4611686018427387904) && decide (1 ≤ ep) && decide (ep < 4611686018427387904))) := Lib.hid rfl
  rw [HD.out]
  clear HD
  go_enter Tryz.func106, Tryz.ntmps106
  have key : ∀ b : Bool, (kd == 1 || kd == 2) = b → (b = false → (kd == 1) = false ∧ (kd == 2) = false) ∧ (b = true → kd = 1 ∨ (kd = 2 ∧ (kd == 1) = false)) := by
    intro b hb
    subst hb
    refine ⟨fun h => by simpa using h, fun h => ?_⟩
    by_cases h1 : kd = 1
    · exact .inl h1
    · simp [h1] at h
      exact .inr ⟨h, beq_eq_false_iff_ne.2 h1⟩
  cases hk : (kd == 1 || kd == 2)
  · obtain ⟨q1, q2⟩ := (key _ hk).1 rfl
    clear hk key
    go_wp2_with fail
    go_ret
    exact ⟨by simp, HB.out⟩
  · have hk2 := (key _ hk).2 rfl
    clear hk key
    by_cases p1 : pg < 8192
    · have p1' : (pg : Int) < 8192 := by omega
      by_cases p2 : 1 ≤ sq
      · have p2' : (1 : Int) ≤ sq := by omega
        by_cases p3 : sq < 4611686018427387904
        · have p3' : (sq : Int) < 4611686018427387904 := by omega
          by_cases p4 : 1 ≤ ep
          · have p4' : (1 : Int) ≤ ep := by omega
            by_cases p5 : ep < 4611686018427387904
            · have p5' : (ep : Int) < 4611686018427387904 := by omega
              rcases hk2 with rfl | ⟨rfl, q1⟩
              all_goals
                go_wp2_with fail
                go_ret
                exact ⟨by first | rfl | simp, HB.out⟩
            · have p5' : ¬ (ep : Int) < 4611686018427387904 := by omega
              rcases hk2 with rfl | ⟨rfl, q1⟩
              all_goals
                go_wp2_with fail
                go_ret
                exact ⟨by first | rfl | simp, HB.out⟩
          · have p4' : ¬ (1 : Int) ≤ ep := by omega
            rcases hk2 with rfl | ⟨rfl, q1⟩
            all_goals
              go_wp2_with fail
              go_ret
              exact ⟨by first | rfl | simp, HB.out⟩
        · have p3' : ¬ (sq : Int) < 4611686018427387904 := by omega
          rcases hk2 with rfl | ⟨rfl, q1⟩
          all_goals
            go_wp2_with fail
            go_ret
            exact ⟨by first | rfl | simp, HB.out⟩
      · have p2' : ¬ (1 : Int) ≤ sq := by omega
        rcases hk2 with rfl | ⟨rfl, q1⟩
        all_goals
          go_wp2_with fail
          go_ret
          exact ⟨by first | rfl | simp, HB.out⟩
    · have p1' : ¬ (pg : Int) < 8192 := by omega
      rcases hk2 with rfl | ⟨rfl, q1⟩
      all_goals
        go_wp2_with fail
        go_ret
        exact ⟨by first | rfl | simp, HB.out⟩
set_option maxHeartbeats 1000000 in
theorem erased_any (a : Option Addr) (l : List Nat) (c : Nat) (w : World) (h : BRow w a l) (hl : l.length ≤ 9000000) :
    Calls Tryz.prog 104 #[.slice a l.length c] w fun e w' => e = .returned (.bool (TP.ones l)) ∧ w' = w := by
  have HR := Lib.hid h
  clear h
  have HD : Hid (TP.ones l = l.all (· == 255)) := Lib.hid rfl
  go_enter Tryz.func104, Tryz.ntmps104
  go_wp2_with fail
  go_loop [7] (fun i => ∃ k : Nat, k ≤ l.length ∧ i = vi k ∧ Hid (∀ j, j < k → l.getD j 0 = 255)) (fun i => l.length - (intOf i).toNat)
  case atStart => exact ⟨0, by omega, rfl, Lib.hid (by omega)⟩
  case round =>
    obtain ⟨k, hk, rfl, hall⟩ := hrel
    by_cases hlt : k < l.length
    · obtain ⟨b, o, rfl, hc, hsm⟩ := HR.out.lookup hlt
      have HX : Hid (l.getD k 0 ∈ l) := Lib.hid (NP.getD_mem hlt)
      have HN : Hid (∀ j, j < k + 1 → l.getD j 0 = 255 ∨ j = k) := Lib.hid (fun j hj => by
        by_cases e : j = k
        · exact .inr e
        · exact .inl (hall.out j (by omega)))
      by_cases hx : l.getD k 0 = 255
      · have HN2 : Hid (∀ j, j < k + 1 → l.getD j 0 = 255) := Lib.hid (fun j hj => by
          rcases HN.out j hj with e | e
          · exact e
          · rw [e]; exact hx)
        rw [hx] at hc
        clear HN HX hsm hx
        go_wp2_with fail
        go_round
        case rel => exact ⟨k + 1, by omega, by go_num, HN2⟩
        case measure => simp [intOf]; omega
      · have HF : Hid (l.all (· == 255) = false) := Lib.hid (List.all_eq_false.2 ⟨_, HX.out, by simpa using hx⟩)
        generalize l.getD k 0 = x at hc hsm hx
        have hq : ((x : Int) != 255) = true := by simp; omega
        clear HN HX hall
        go_wp2_with fail
        go_ret
        exact ⟨by rw [HD.out, HF.out]; rfl, rfl⟩
    · obtain rfl : k = l.length := by omega
      have HT : Hid (l.all (· == 255) = true) := Lib.hid (List.all_eq_true.2 fun x hx => by
        obtain ⟨j, hj, rfl⟩ := List.mem_iff_getElem.1 hx
        have := hall.out j hj
        rw [List.getD_eq_getElem?_getD, List.getElem?_eq_getElem hj] at this
        simpa using this)
      clear hall
      go_wp2_with fail
      go_ret
      exact ⟨by rw [HD.out, HT.out]; rfl, rfl⟩

end Go.Proofs.YtjkaioonppmkjaaGreat

