/-
  Lemmas for a law's proof, put together from several texts: each part says what it shows, and its conditions.
-/
import Derived.Test.YtnfhlocflpdlcaaGreatZT01
import Derived.Test.YtnfhlocflpdlcaaGreatZT04
import Derived.Laws.BitsAllLaws
import Derived.Test.YtnfhlocflpdlcaaGreatZT02
import Derived.Deep.RegionLaw
import Derived.Deep.DeepCutAuto
import Derived.Deep.CutBlock
/-
  A page with its tag, in plain words. No program in sight; no conditions.
-/
namespace Go.Proofs.YtnfhlocflpdlcaaGreat.TP

structure Tag where
  kind : Int
  page : Nat
  seq : Nat
  epoch : Nat
deriving DecidableEq
def zero : Tag := ⟨0, 0, 0, 0⟩
instance : Inhabited Tag := ⟨zero⟩
def sized (n : Int) : Bool := n == 64 || n == 128 || n == 256 || n == 512
def right (t : Tag) : Bool := (t.kind == 1 || t.kind == 2) && decide (t.page < 8192) && decide (1 ≤ t.seq) && decide (t.seq < 4611686018427387904) && decide (1 ≤ t.epoch) && decide (t.epoch < 4611686018427387904)
def kindB (k : Int) : Nat := (k % 256).toNat
def head (t : Tag) (p : List Nat) : List Nat := p ++ [67, 85, kindB t.kind, 0] ++ HP.le 4 t.page ++ HP.le 8 t.seq ++ HP.le 8 t.epoch
def bytes (t : Tag) (p : List Nat) : List Nat := head t p ++ HP.le 4 (HP.sum (head t p)) ++ HP.le 4 0
def write (t : Tag) (p : List Nat) : List Nat × Int := if right t && sized p.length then (bytes t p, 0) else ([], 1)
def ones (l : List Nat) : Bool := l.all (· == 255)
/-- What stands beside a page, read. -/
def tagOf (r : List Nat) : Tag := ⟨HP.num ((r.drop 2).take 1), HP.num ((r.drop 4).take 4), HP.num ((r.drop 8).take 8), HP.num ((r.drop 16).take 8)⟩
def goodB (b r : List Nat) (n : Nat) : Bool := HP.num (r.take 2) == 21827 && HP.num ((r.drop 3).take 1) == 0 && HP.num ((r.drop 28).take 4) == 0 && right (tagOf r) && HP.num ((r.drop 24).take 4) == HP.sum (b.take (n + 24))
def read (b : List Nat) : Tag × List Nat × Int :=
  if sized ((b.length : Int) - 32) = false then (zero, [], 1)
  else if ones b then (zero, [], 20)
  else
    let n := b.length - 32
    let r := b.drop n
    if goodB b r n then (tagOf r, b.take n, 0) else (zero, [], 21)

theorem head_length (t : Tag) (p : List Nat) : (head t p).length = p.length + 24 := by simp [head, HP.le_length]
theorem bytes_length (t : Tag) (p : List Nat) : (bytes t p).length = p.length + 32 := by simp [bytes, head_length, HP.le_length]
theorem kindB_lt (k : Int) : kindB k < 256 := by unfold kindB; omega
theorem head_small {t : Tag} {p : List Nat} (h : ∀ y ∈ p, y < 256) : ∀ y ∈ head t p, y < 256 := by
  intro y hy
  simp only [head, List.mem_append, List.mem_cons, List.not_mem_nil, or_false] at hy
  rcases hy with (((hy | hy) | hy) | hy) | hy
  · exact h y hy
  · have := kindB_lt t.kind; omega
  · exact HP.le_small _ _ y hy
  · exact HP.le_small _ _ y hy
  · exact HP.le_small _ _ y hy
theorem bytes_small {t : Tag} {p : List Nat} (h : ∀ y ∈ p, y < 256) : ∀ y ∈ bytes t p, y < 256 := by
  intro y hy
  simp only [bytes, List.mem_append] at hy
  rcases hy with (hy | hy) | hy
  · exact head_small h y hy
  · exact HP.le_small _ _ y hy
  · exact HP.le_small _ _ y hy
theorem read_small {b : List Nat} (h : ∀ y ∈ b, y < 256) : ∀ y ∈ (read b).2.1, y < 256 := by
  unfold read
  split
  · simp
  · split
    · simp
    · dsimp only
      split
      · intro y hy; exact h y (List.mem_of_mem_take hy)
      · simp
end Go.Proofs.YtnfhlocflpdlcaaGreat.TP

/-
  The sum of bytes (CRC-32), and what a tag is made of: a number's bytes, sizes, what is right, what is erased. Conditions: rows that are read.
-/
namespace Go.Proofs.YtnfhlocflpdlcaaGreat
open Go.RowKit

theorem xor_u32 (a b : Nat) (ha : a < 4294967296) (hb : b < 4294967296) : bits .xor .u32 (a : Int) (b : Int) = ((a ^^^ b : Nat) : Int) := u32_xor_nat a b ha hb
theorem and1_u32 (a : Nat) (ha : a < 4294967296) : bits .and .u32 (a : Int) 1 = ((a % 2 : Nat) : Int) := by
  have := u32_and_nat a 1 ha (by decide)
  rw [nat_mask1] at this
  exact this

theorem not_u32 (z : Nat) (h : z < 4294967296) : bits .xor .u32 IntKind.u32.max (z : Int) = ((4294967295 - z : Nat) : Int) := by
  have := xor_u32 4294967295 z (by decide) h
  rw [show 4294967295 ^^^ z = 4294967295 - z by
    have := HP.xor_eq_zero (x := 4294967295 - z) (y := 4294967295 ^^^ z) (by
      rw [← Nat.xor_assoc, Nat.xor_comm (4294967295 - z), Nat.xor_assoc, Nat.xor_comm (4294967295 - z), HP.xor_not h, Nat.xor_self])
    exact this.symm] at this
  exact this
theorem digit_u32 (z y : Nat) (hz : z < 4294967296) (hy : y < 4294967296) : bits .and .u32 (bits .xor .u32 (z : Int) (y : Int)) 1 = (((z ^^^ y) % 2 : Nat) : Int) := by
  rw [xor_u32 z y hz hy]
  exact and1_u32 _ (HP.xor_lt hz hy)
theorem digit_u32' (z b j : Nat) (hz : z < 4294967296) (hb : b < 256) : bits .and .u32 (bits .xor .u32 (z : Int) ((b : Int) / 2 ^ j)) 1 = (((z ^^^ b / 2 ^ j) % 2 : Nat) : Int) := by
  rw [show (b : Int) / 2 ^ j = ((b / 2 ^ j : Nat) : Int) by simp]
  exact digit_u32 z _ hz (Nat.lt_of_le_of_lt (Nat.div_le_self _ _) (by omega))
theorem xor_poly (z : Nat) (h : z < 4294967296) : bits .xor .u32 ((z : Int) / 2) 3988292384 = ((z / 2 ^^^ 3988292384 : Nat) : Int) := xor_u32 (z / 2) 3988292384 (by omega) (by omega)

set_option maxHeartbeats 1000000 in
theorem CPut_any (r b : Nat) (w : World) (hr : r < 4294967296) (hb : b < 256) :
    Calls Tryz.prog 212 #[vw r, vb b] w fun e w' => e = .returned (vw (HP.put r b)) ∧ w' = w := by
  have hx := xor_u32 r b hr (by omega)
  have hxl : r ^^^ b < 4294967296 := HP.xor_lt hr (by omega)
  go_enter Tryz.func212, Tryz.ntmps212
  go_wp2_with fail
  go_loop [0, 9] (fun y i => ∃ j z : Nat, j ≤ 8 ∧ i = vi j ∧ y = vw z ∧ Hid (z = HP.steps j (r ^^^ b)) ∧ z < 4294967296) (fun _ i => 8 - (intOf i).toNat)
  case atStart => exact ⟨0, r ^^^ b, by omega, rfl, rfl, Lib.hid rfl, hxl⟩
  case round =>
    obtain ⟨j, z, hj, rfl, rfl, hz, hzl⟩ := hrel
    have h1 := and1_u32 z hzl
    have h2 := xor_poly z hzl
    have hstep : HP.steps (j + 1) (r ^^^ b) = HP.step z := by rw [HP.steps, hz.out]
    have hlt' := HP.step_lt hzl
    have HS := Lib.hid hstep
    clear hstep
    by_cases hlt : j < 8
    · rcases Nat.mod_two_eq_zero_or_one z with hm | hm
      · have Hs : Hid (HP.step z = z / 2) := Lib.hid (by rw [HP.step, if_neg (by omega)])
        clear hlt'
        rw [hm] at h1
        have Hm := Lib.hid hm
        clear hm
        go_wp2_with fail
        go_round
        case rel => exact ⟨j + 1, z / 2, by omega, by go_num, by go_num, Lib.hid (by rw [HS.out, Hs.out]), by omega⟩
        case measure => simp [intOf]; omega
      · have Hs : Hid (HP.step z = z / 2 ^^^ 3988292384) := Lib.hid (by rw [HP.step, if_pos hm])
        have hlt2 : z / 2 ^^^ 3988292384 < 4294967296 := HP.xor_lt (by omega) (by omega)
        clear hlt'
        rw [hm] at h1
        have Hm := Lib.hid hm
        clear hm
        go_wp2_with fail
        go_round
        case rel => exact ⟨j + 1, z / 2 ^^^ 3988292384, by omega, by go_num, rfl, Lib.hid (by rw [HS.out, Hs.out]), hlt2⟩
        case measure => simp [intOf]; omega
    · obtain rfl : j = 8 := by omega
      have Hz := hz
      go_wp2_with fail
      go_ret
      exact ⟨by rw [Hz.out]; rfl, rfl⟩

set_option maxHeartbeats 1000000 in
theorem CMore_any (a : Option Addr) (l : List Nat) (c : Nat) (w : World) (h : BRow w a l) (hl : l.length ≤ 9000000) :
    Calls Tryz.prog 194 #[vw 0, .slice a l.length c] w fun e w' => e = .returned (vw (HP.sum l)) ∧ w' = w := by
  have HR := Lib.hid h
  have hs := HP.reg_lt l (r := 4294967295) (by omega) h.small
  clear h
  go_enter Tryz.func194, Tryz.ntmps194
  go_wp2_with fail
  go_loop [5, 12] (fun y i => ∃ k z : Nat, k ≤ l.length ∧ i = vi k ∧ y = vw z ∧ Hid (z = HP.reg 4294967295 (l.take k)) ∧ z < 4294967296) (fun _ i => l.length - (intOf i).toNat)
  case atStart => exact ⟨0, 4294967295, by omega, rfl, rfl, Lib.hid rfl, by omega⟩
  case round =>
    obtain ⟨k, z, hk, rfl, rfl, hz, hzl⟩ := hrel
    by_cases hlt : k < l.length
    · obtain ⟨b, o, rfl, hc, hsm⟩ := HR.out.lookup hlt
      have HS := Lib.hid (show HP.reg 4294967295 (l.take (k + 1)) = HP.put z (l.getD k 0) by
        rw [List.take_succ_eq_append_getElem hlt, HP.reg_append, ← hz.out]
        simp [HP.reg, List.getD, hlt])
      have hp := HP.put_lt hzl hsm
      generalize l.getD k 0 = x at hc hsm HS hp
      go_wp2_with (go_at_call 212; refine (CPut_any _ _ _ hzl hsm).mono ?_; rintro e w1 ⟨rfl, rfl⟩)
      go_round
      case rel => exact ⟨k + 1, HP.put z x, by omega, by go_num, rfl, Lib.hid (by rw [HS.out]), hp⟩
      case measure => simp [intOf]; omega
    · obtain rfl : k = l.length := by omega
      have Hz := hz
      go_wp2_with fail
      go_ret
      refine ⟨congrArg (fun x => Ending.returned (Value.int .u32 x)) ?_, rfl⟩
      have hz' := hz.out
      rw [List.take_length] at hz'
      rw [not_u32 z hzl, hz']
      rfl

theorem CSum_any (a : Option Addr) (l : List Nat) (c : Nat) (w : World) (h : BRow w a l) (hl : l.length ≤ 9000000) :
    Calls Tryz.prog 170 #[.slice a l.length c] w fun e w' => e = .returned (vw (HP.sum l)) ∧ w' = w := by
  have HR := Lib.hid h
  clear h
  go_enter Tryz.func170, Tryz.ntmps170
  go_wp2_with (go_at_call 194; refine (CMore_any _ _ _ _ HR.out hl).mono ?_; rintro e w1 ⟨rfl, rfl⟩)
  go_ret
  exact ⟨rfl, rfl⟩

theorem tput_step {w wr : World} {base j x y : Nat} {m : Value} {l : List Nat} (hy : y = x / 256 ^ j) (hown : Own wr base m (l ++ HP.le j x)) (hb : base ≤ wr.heap.size) (hB : Stp base w wr) (hn : l.length + j + 1 ≤ 1000000) :
    ∃ v' w', (Builtin.append_ #[56, 56] 56 #[m, .slice (some ⟨wr.heap.size, 0, none⟩) 1 1]).run Tryz.prog (wr.alloc (.cells #[.int .u8 ((y : Int) % 256)] 5)) = .ok v' w' ∧
      Own w' base v' (l ++ HP.le (j + 1) x) ∧ base ≤ w'.heap.size ∧ Stp base w w' := by
  subst hy
  obtain ⟨v', w', hrun, ho, hg⟩ := append_bytes (c := 1) (hown.old ((Below.refl _ _).alloc (Nat.le_refl _) _)) (byte_row wr (x / 256 ^ j % 256) (by omega)) (by simp [HP.le_length]; omega) (by simp; omega)
  have hst := (hB.alloc hb _).trans hg
  refine ⟨v', w', hrun, ?_, by have := hg.size; simp at this; omega, hst⟩
  rw [HP.le_snoc, ← List.append_assoc]
  exact ho
theorem div_more {x y j : Nat} (h : y = x / 256 ^ j) : y / 256 = x / 256 ^ (j + 1) := by
  rw [h, Nat.div_div_eq_div_mul, Nat.pow_succ]

set_option maxHeartbeats 1000000 in
theorem tput_any (base : Nat) (v : Value) (l : List Nat) (x k : Nat) (w : World) (hown : Own w base v l) (hb : base ≤ w.heap.size) (hx : x < 18446744073709551616) (hn : l.length + k ≤ 1000000) (hk : k ≤ 8) :
    Calls Tryz.prog 208 #[v, vq x, vi k] w fun e w' => ∃ v', e = .returned v' ∧ Own w' base v' (l ++ HP.le k x) ∧ Stp base w w' := by
  have HO := Lib.hid hown
  clear hown
  go_enter Tryz.func208, Tryz.ntmps208
  go_wp2_with fail
  go_loopw [0, 1, 8] (fun m y i wr => ∃ j z : Nat, j ≤ k ∧ i = vi j ∧ y = vq z ∧ Hid (z = x / 256 ^ j) ∧ z < 18446744073709551616 ∧ Hid (Own wr base m (l ++ HP.le j x)) ∧ Hid (base ≤ wr.heap.size ∧ Stp base w wr)) (fun _ _ i _ => k - (intOf i).toNat)
  case atStart => exact ⟨0, x, Nat.zero_le _, rfl, rfl, Lib.hid (by simp), hx, Lib.hid (by simpa [HP.le] using HO.out), Lib.hid ⟨hb, Stp.refl _ _⟩⟩
  case round =>
    obtain ⟨j, y, hj, rfl, rfl, hy, hyl, ho, hB⟩ := hrel
    by_cases hlt : j < k
    · obtain ⟨v', w', hrun, ho', hb', hB'⟩ := tput_step hy.out ho.out hB.out.1 hB.out.2 (by omega)
      have HRun := Lib.hid hrun
      have HO2 := Lib.hid ho'
      have HB2 := Lib.hid (And.intro hb' hB')
      clear hrun ho' hb' hB' ho hB
      go_wp2_with (at_builtin; refine wpList_append_run rfl (.tmp 10) (.tmp 13) rfl rfl rfl HRun.out ?_)
      go_roundw
      case rel => exact ⟨j + 1, y / 256, by omega, rfl, rfl, Lib.hid (div_more hy.out), by omega, HO2, HB2⟩
      case measure => simp [intOf]; omega
    · obtain rfl : j = k := by omega
      have HB2 := hB
      have HO2 := ho
      go_wp2_with fail
      go_ret
      exact ⟨_, rfl, HO2.out, HB2.out.2⟩


theorem sized_any (n : Int) (w : World) : Calls Tryz.prog 166 #[vi n] w fun e w' => e = .returned (.bool (TP.sized n)) ∧ w' = w := by
  unfold TP.sized
  go_enter Tryz.func166, Tryz.ntmps166
  by_cases h1 : n = 64
  · subst h1; go_wp2_with fail; go_ret; exact ⟨rfl, rfl⟩
  · have q1 : (n == 64) = false := beq_eq_false_iff_ne.2 h1
    by_cases h2 : n = 128
    · subst h2; go_wp2_with fail; go_ret; exact ⟨rfl, rfl⟩
    · have q2 : (n == 128) = false := beq_eq_false_iff_ne.2 h2
      by_cases h3 : n = 256
      · subst h3; go_wp2_with fail; go_ret; exact ⟨rfl, rfl⟩
      · have q3 : (n == 256) = false := beq_eq_false_iff_ne.2 h3
        by_cases h4 : n = 512
        · subst h4; go_wp2_with fail; go_ret; exact ⟨rfl, rfl⟩
        · have q4 : (n == 512) = false := beq_eq_false_iff_ne.2 h4
          go_wp2_with fail
          go_ret
          exact ⟨by rw [q1, q2, q3, q4]; rfl, rfl⟩
abbrev vtag (t : TP.Tag) : Value := .agg #[vi t.kind, vw t.page, vq t.seq, vq t.epoch]
theorem right_alloc {w : World} {t : TP.Tag} : Below w.heap.size w (w.alloc (.cells #[vi t.kind, vw t.page, vq t.seq, vq t.epoch] 202)) := (Below.refl _ _).alloc (Nat.le_refl _) _
set_option maxHeartbeats 2000000 in
theorem tRight_any (t : TP.Tag) (w : World) : Calls Tryz.prog 169 #[vtag t] w fun e w' => e = .returned (.bool (TP.right t)) ∧ Below w.heap.size w w' := by
  obtain ⟨kd, pg, sq, ep⟩ := t
  have HB := Lib.hid (right_alloc (w := w) (t := ⟨kd, pg, sq, ep⟩))
  have HD : Hid (TP.right ⟨kd, pg, sq, ep⟩ = ((kd == 1 || kd == 2) && decide (pg < 8192) && decide (1 ≤ sq) && decide (sq < 4611686018427387904) && decide (1 ≤ ep) && decide (ep < 4611686018427387904))) := Lib.hid rfl
  rw [HD.out]
  clear HD
  go_enter Tryz.func169, Tryz.ntmps169
  have key : ∀ b : Bool, (kd == 1 || kd == 2) = b → (b = false → (kd == 1) = false ∧ (kd == 2) = false) ∧ (b = true → kd = 1 ∨ (kd = 2 ∧ (kd == 1) = false)) := by
    intro b hb
    subst hb
    refine ⟨fun h => by simpa using h, fun h => ?_⟩
    by_cases h1 : kd = 1
    · exact .inl h1
    · simp [h1] at h
      exact .inr ⟨h, beq_eq_false_iff_ne.2 h1⟩
  cases hk : (kd == 1 || kd == 2)
  · obtain ⟨q1, q2⟩ := (key _ hk).1 rfl
    clear hk key
    go_wp2_with fail
    go_ret
    exact ⟨by simp, HB.out⟩
  · have hk2 := (key _ hk).2 rfl
    clear hk key
    by_cases p1 : pg < 8192
    · have p1' : (pg : Int) < 8192 := by omega
      by_cases p2 : 1 ≤ sq
      · have p2' : (1 : Int) ≤ sq := by omega
        by_cases p3 : sq < 4611686018427387904
        · have p3' : (sq : Int) < 4611686018427387904 := by omega
          by_cases p4 : 1 ≤ ep
          · have p4' : (1 : Int) ≤ ep := by omega
            by_cases p5 : ep < 4611686018427387904
            · have p5' : (ep : Int) < 4611686018427387904 := by omega
              rcases hk2 with rfl | ⟨rfl, q1⟩
              all_goals
                go_wp2_with fail
                go_ret
                exact ⟨by first | rfl | simp, HB.out⟩
            · have p5' : ¬ (ep : Int) < 4611686018427387904 := by omega
              rcases hk2 with rfl | ⟨rfl, q1⟩
              all_goals
                go_wp2_with fail
                go_ret
                exact ⟨by first | rfl | simp, HB.out⟩
          · have p4' : ¬ (1 : Int) ≤ ep := by omega
            rcases hk2 with rfl | ⟨rfl, q1⟩
            all_goals
              go_wp2_with fail
              go_ret
              exact ⟨by first | rfl | simp, HB.out⟩
        · have p3' : ¬ (sq : Int) < 4611686018427387904 := by omega
          rcases hk2 with rfl | ⟨rfl, q1⟩
          all_goals
            go_wp2_with fail
            go_ret
            exact ⟨by first | rfl | simp, HB.out⟩
      · have p2' : ¬ (1 : Int) ≤ sq := by omega
        rcases hk2 with rfl | ⟨rfl, q1⟩
        all_goals
          go_wp2_with fail
          go_ret
          exact ⟨by first | rfl | simp, HB.out⟩
    · have p1' : ¬ (pg : Int) < 8192 := by omega
      rcases hk2 with rfl | ⟨rfl, q1⟩
      all_goals
        go_wp2_with fail
        go_ret
        exact ⟨by first | rfl | simp, HB.out⟩
set_option maxHeartbeats 1000000 in
theorem erased_any (a : Option Addr) (l : List Nat) (c : Nat) (w : World) (h : BRow w a l) (hl : l.length ≤ 9000000) :
    Calls Tryz.prog 167 #[.slice a l.length c] w fun e w' => e = .returned (.bool (TP.ones l)) ∧ w' = w := by
  have HR := Lib.hid h
  clear h
  have HD : Hid (TP.ones l = l.all (· == 255)) := Lib.hid rfl
  go_enter Tryz.func167, Tryz.ntmps167
  go_wp2_with fail
  go_loop [7] (fun i => ∃ k : Nat, k ≤ l.length ∧ i = vi k ∧ Hid (∀ j, j < k → l.getD j 0 = 255)) (fun i => l.length - (intOf i).toNat)
  case atStart => exact ⟨0, by omega, rfl, Lib.hid (by omega)⟩
  case round =>
    obtain ⟨k, hk, rfl, hall⟩ := hrel
    by_cases hlt : k < l.length
    · obtain ⟨b, o, rfl, hc, hsm⟩ := HR.out.lookup hlt
      have HX : Hid (l.getD k 0 ∈ l) := Lib.hid (NP.getD_mem hlt)
      have HN : Hid (∀ j, j < k + 1 → l.getD j 0 = 255 ∨ j = k) := Lib.hid (fun j hj => by
        by_cases e : j = k
        · exact .inr e
        · exact .inl (hall.out j (by omega)))
      by_cases hx : l.getD k 0 = 255
      · have HN2 : Hid (∀ j, j < k + 1 → l.getD j 0 = 255) := Lib.hid (fun j hj => by
          rcases HN.out j hj with e | e
          · exact e
          · rw [e]; exact hx)
        rw [hx] at hc
        clear HN HX hsm hx
        go_wp2_with fail
        go_round
        case rel => exact ⟨k + 1, by omega, by go_num, HN2⟩
        case measure => simp [intOf]; omega
      · have HF : Hid (l.all (· == 255) = false) := Lib.hid (List.all_eq_false.2 ⟨_, HX.out, by simpa using hx⟩)
        generalize l.getD k 0 = x at hc hsm hx
        have hq : ((x : Int) != 255) = true := by simp; omega
        clear HN HX hall
        go_wp2_with fail
        go_ret
        exact ⟨by rw [HD.out, HF.out]; rfl, rfl⟩
    · obtain rfl : k = l.length := by omega
      have HT : Hid (l.all (· == 255) = true) := Lib.hid (List.all_eq_true.2 fun x hx => by
        obtain ⟨j, hj, rfl⟩ := List.mem_iff_getElem.1 hx
        have := hall.out j hj
        rw [List.getD_eq_getElem?_getD, List.getElem?_eq_getElem hj] at this
        simpa using this)
      clear hall
      go_wp2_with fail
      go_ret
      exact ⟨by rw [HD.out, HT.out]; rfl, rfl⟩

end Go.Proofs.YtnfhlocflpdlcaaGreat

/-
  Inodes: which are right, their bytes written. Conditions: an inode that is right, with six direct pages.
-/
namespace Go.Proofs.YtnfhlocflpdlcaaGreat.ino
open Go.RowKit
abbrev inoC : PI.Ino → Array Value
  | ⟨kd, ln, sz, [d0, d1, d2, d3, d4, d5], sg, db⟩ => #[vi kd, vi ln, vi sz, vi d0, vi d1, vi d2, vi d3, vi d4, vi d5, vi sg, vi db]
  | _ => #[]
abbrev inoV (i : PI.Ino) : Value := .agg (inoC i)
theorem six {l : List Nat} (h : l.length = 6) : ∃ d0 d1 d2 d3 d4 d5, l = [d0, d1, d2, d3, d4, d5] := by
  match l, h with
  | [d0, d1, d2, d3, d4, d5], _ => exact ⟨d0, d1, d2, d3, d4, d5, rfl⟩
section
variable {w : World}
theorem sized_64 : Calls Tryz.prog 122 #[vi 64] w fun e w' => e = .returned (.bool true) ∧ w' = w := by
  go_enter Tryz.func122, Tryz.ntmps122
  go_wp2_with fail
  go_ret
  exact ⟨rfl, rfl⟩
theorem PerPage_64 : Calls Tryz.prog 72 #[vi 64] w fun e w' => e = .returned (vi 2) ∧ w' = w := by
  go_enter Tryz.func72, Tryz.ntmps72
  go_wp2_with fail
  refine sized_64.mono ?_
  rintro e w' ⟨rfl, rfl⟩
  go_wp2_with fail
  go_ret
  exact ⟨rfl, rfl⟩
theorem there_64 (a : Option Addr) (b : List Nat) (c : Nat) (k : Nat) (hl : b.length = 64) (hk : k < 2) : Calls Tryz.prog 77 #[.slice a b.length c, vi k] w fun e w' => e = .returned (.bool true) ∧ w' = w := by
  rw [hl]
  have h0 : (0 : Int) ≤ (k : Int) := by omega
  have h2 : (k : Int) < 2 := by omega
  clear hl hk
  go_enter Tryz.func77, Tryz.ntmps77
  go_wp2_with fail
  refine PerPage_64.mono ?_
  rintro e w' ⟨rfl, rfl⟩
  go_wp2_with fail
  go_ret
  exact ⟨rfl, rfl⟩
theorem page_any (p : Nat) (h : p < 8192) : Calls Tryz.prog 171 #[vi p] w fun e w' => e = .returned (.bool true) ∧ w' = w := by
  have h0 : (0 : Int) ≤ (p : Int) := by omega
  have h2 : (p : Int) < 8192 := by omega
  go_enter Tryz.func171, Tryz.ntmps171
  go_wp2_with fail
  go_ret
  exact ⟨rfl, rfl⟩
theorem eql_none (w : World) : (binOp .eql 50 (.agg #[vi 0, vi 0, vi 0, vi 0, vi 0, vi 0, vi 0, vi 0, vi 0, vi 0, vi 0]) (.agg #[vi 0, vi 0, vi 0, vi 0, vi 0, vi 0, vi 0, vi 0, vi 0, vi 0, vi 0])).run Tryz.prog w = .ok (.bool true) w := by kernel_rfl
theorem six_index (d0 d1 d2 d3 d4 d5 : Int) (w : World) : (Instr.index 48 (.agg #[vi d0, vi d1, vi d2, vi d3, vi d4, vi d5]) (vi 0)).run Tryz.prog w = .ok (vi d0) w ∧ (Instr.index 48 (.agg #[vi d0, vi d1, vi d2, vi d3, vi d4, vi d5]) (vi 1)).run Tryz.prog w = .ok (vi d1) w ∧
    (Instr.index 48 (.agg #[vi d0, vi d1, vi d2, vi d3, vi d4, vi d5]) (vi 2)).run Tryz.prog w = .ok (vi d2) w ∧ (Instr.index 48 (.agg #[vi d0, vi d1, vi d2, vi d3, vi d4, vi d5]) (vi 3)).run Tryz.prog w = .ok (vi d3) w ∧
    (Instr.index 48 (.agg #[vi d0, vi d1, vi d2, vi d3, vi d4, vi d5]) (vi 4)).run Tryz.prog w = .ok (vi d4) w ∧ (Instr.index 48 (.agg #[vi d0, vi d1, vi d2, vi d3, vi d4, vi d5]) (vi 5)).run Tryz.prog w = .ok (vi d5) w := by
  refine ⟨?_, ?_, ?_, ?_, ?_, ?_⟩ <;> kernel_rfl
set_option maxRecDepth 100000 in
set_option maxHeartbeats 2000000 in
theorem Right_any (i : PI.Ino) (hl : i.direct.length = 6) (hr : PI.right i = true) : Calls Tryz.prog 129 #[inoV i] w fun e w' => e = .returned (.bool true) ∧ Below w.heap.size w w' := by
  obtain ⟨kd, ln, sz, dl, sg, db⟩ := i
  obtain ⟨d0, d1, d2, d3, d4, d5, rfl⟩ := six (l := dl) hl
  clear hl
  by_cases hk : kd = 0
  · have hn := PI.right_none hr hk
    injection hn with h1 h2 h3 h4 h5 h6
    simp only [List.cons.injEq, and_true] at h4
    obtain ⟨rfl, rfl, rfl, rfl, rfl, rfl⟩ := h4
    subst h1 h2 h3 h5 h6
    clear hr hk
    have he := eql_none
    simp only [inoV, inoC]
    go_enter Tryz.func129, Tryz.ntmps129
    go_wp2_with fail
    go_ret
    exact ⟨rfl, (Below.refl _ _).alloc (Nat.le_refl _) _⟩
  · obtain ⟨hp, hkd, hln, hsz, hsg, hdb⟩ := PI.right_some hr hk
    have p0 := hp d0 (by simp)
    have p1 := hp d1 (by simp)
    have p2 := hp d2 (by simp)
    have p3 := hp d3 (by simp)
    have p4 := hp d4 (by simp)
    have p5 := hp d5 (by simp)
    clear hp hr
    have hk' : ((kd : Int) == 0) = false := by simp; exact hk
    have HD : Hid (∀ k, k < 6 → [d0, d1, d2, d3, d4, d5].getD k 0 < 8192) := Lib.hid (fun k hk => by
      obtain rfl | rfl | rfl | rfl | rfl | rfl : k = 0 ∨ k = 1 ∨ k = 2 ∨ k = 3 ∨ k = 4 ∨ k = 5 := by omega
      all_goals simpa)
    simp only [inoV, inoC]
    clear hk
    go_enter Tryz.func129, Tryz.ntmps129
    go_upto_region 3 with fail
    have HB1 : Hid (Below w.heap.size w (w.alloc (.cells #[vi kd, vi ln, vi sz, vi d0, vi d1, vi d2, vi d3, vi d4, vi d5, vi sg, vi db] 50))) := Lib.hid ((Below.refl _ _).alloc (Nat.le_refl _) _)
    have G := Blk.new w 50 #[vi kd, vi ln, vi sz, vi d0, vi d1, vi d2, vi d3, vi d4, vi d5, vi sg, vi db]
    obtain ⟨g, hg⟩ : ∃ g, g = w.heap.size := ⟨_, rfl⟩
    rw [← hg] at G ⊢
    clear hg
    generalize w.alloc (.cells #[vi kd, vi ln, vi sz, vi d0, vi d1, vi d2, vi d3, vi d4, vi d5, vi sg, vi db] 50) = w1 at *
    have g0 : w1.cell? ⟨g, 0, none⟩ = some (vi kd) := G.cell 0
    have g1 : w1.cell? ⟨g, 1, none⟩ = some (vi ln) := G.cell 1
    have g2 : w1.cell? ⟨g, 2, none⟩ = some (vi sz) := G.cell 2
    have g3 : w1.cell? ⟨g, 3, none⟩ = some (vi d0) := G.cell 3
    have g4 : w1.cell? ⟨g, 4, none⟩ = some (vi d1) := G.cell 4
    have g5 : w1.cell? ⟨g, 5, none⟩ = some (vi d2) := G.cell 5
    have g6 : w1.cell? ⟨g, 6, none⟩ = some (vi d3) := G.cell 6
    have g7 : w1.cell? ⟨g, 7, none⟩ = some (vi d4) := G.cell 7
    have g8 : w1.cell? ⟨g, 8, none⟩ = some (vi d5) := G.cell 8
    have g9 : w1.cell? ⟨g, 9, none⟩ = some (vi sg) := G.cell 9
    have g10 : w1.cell? ⟨g, 10, none⟩ = some (vi db) := G.cell 10
    clear G
    go_wp2_with fail
    go_loopw [13] (fun i wr => ∃ k : Nat, k ≤ 6 ∧ i = vi k ∧ wr = w1) (fun i _ => 6 - (intOf i).toNat)
    case atStart => exact ⟨0, by decide, rfl, rfl⟩
    case round =>
      obtain ⟨k, hk6, rfl, rfl⟩ := hrel
      by_cases h6 : k = 6
      · subst h6
        have i0 : (0 : Int) ≤ (ln : Int) := by omega
        have hln' : ln ≤ 1000 := hln
        have hsz' : sz ≤ 2147483647 := hsz
        have i1 : (ln : Int) ≤ 1000 := by omega
        have i2 : (0 : Int) ≤ (sz : Int) := by omega
        have i3 : (sz : Int) ≤ 2147483647 := by omega
        have hkd' : kd = 1 ∨ kd = 2 := hkd
        clear hkd hln hsz p0 p1 p2 p3 p4 p5 HD hk'
        rcases hkd' with rfl | rfl
        all_goals
          go_wp2_with fail
          refine (page_any sg hsg).mono ?_
          rintro e w' ⟨rfl, rfl⟩
          go_wp2_with fail
          refine (page_any db hdb).mono ?_
          rintro e w' ⟨rfl, rfl⟩
          go_wp2_with fail
          go_ret
          exact ⟨rfl, HB1.out⟩
      · clear hkd hln hsz hsg hdb hk' HD
        obtain ⟨x0, x1, x2, x3, x4, x5⟩ := six_index d0 d1 d2 d3 d4 d5 wr
        rcases (by omega : k = 0 ∨ k = 1 ∨ k = 2 ∨ k = 3 ∨ k = 4 ∨ k = 5) with rfl | rfl | rfl | rfl | rfl | rfl
        · clear hk6 h6
          go_wp2_with fail
          refine (page_any d0 p0).mono ?_
          rintro e w' ⟨rfl, rfl⟩
          go_wp2_with fail
          go_roundw
          case rel => exact ⟨1, by decide, rfl, trivial⟩
          case measure => simp [intOf]
        · clear hk6 h6
          go_wp2_with fail
          refine (page_any d1 p1).mono ?_
          rintro e w' ⟨rfl, rfl⟩
          go_wp2_with fail
          go_roundw
          case rel => exact ⟨2, by decide, rfl, trivial⟩
          case measure => simp [intOf]
        · clear hk6 h6
          go_wp2_with fail
          refine (page_any d2 p2).mono ?_
          rintro e w' ⟨rfl, rfl⟩
          go_wp2_with fail
          go_roundw
          case rel => exact ⟨3, by decide, rfl, trivial⟩
          case measure => simp [intOf]
        · clear hk6 h6
          go_wp2_with fail
          refine (page_any d3 p3).mono ?_
          rintro e w' ⟨rfl, rfl⟩
          go_wp2_with fail
          go_roundw
          case rel => exact ⟨4, by decide, rfl, trivial⟩
          case measure => simp [intOf]
        · clear hk6 h6
          go_wp2_with fail
          refine (page_any d4 p4).mono ?_
          rintro e w' ⟨rfl, rfl⟩
          go_wp2_with fail
          go_roundw
          case rel => exact ⟨5, by decide, rfl, trivial⟩
          case measure => simp [intOf]
        · clear hk6 h6
          go_wp2_with fail
          refine (page_any d5 p5).mono ?_
          rintro e w' ⟨rfl, rfl⟩
          go_wp2_with fail
          go_roundw
          case rel => exact ⟨6, by decide, rfl, trivial⟩
          case measure => simp [intOf]
end
end Go.Proofs.YtnfhlocflpdlcaaGreat.ino

