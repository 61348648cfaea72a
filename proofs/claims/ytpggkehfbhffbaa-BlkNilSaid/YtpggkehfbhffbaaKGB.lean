/-
  gc: which of two blocks is emptier, may it be erased, and the best one of a row: for every row that is read.
-/
import Derived.Test.YtpggkehfbhffbaaKGA
namespace Go.Proofs.Ytpggkehfbhffbaa.gcs
open Go.RowKit

def wornB (x y : Blk) : Bool := decide (x.r < y.r)
def emptierB (x y : Blk) : Bool := decide (x.l < y.l) || x.l == y.l && decide (x.r < y.r)
def mayB (least : Int) (x : Blk) : Bool := x.s != 4 && decide (x.r - least < 4)

set_option maxHeartbeats 1000000 in
theorem emptier_any (x y : Blk) (w : World) :
    Calls Try.prog 115 #[x.v, y.v] w fun e w' => e = .returned (.bool (emptierB x y)) ∧ Below w.heap.size w w' := by
  obtain ⟨s, l, r, n⟩ := x
  obtain ⟨s', l', r', n'⟩ := y
  go_enter Try.func115, Try.ntmps115
  rcases Int.lt_trichotomy l l' with h | rfl | h
  · go_wp2_with fail
    go_ret
    exact ⟨ret_bool (by simp [emptierB, h]), ((Below.refl _ _).alloc (Nat.le_refl _) _).alloc (by simp) _⟩
  · go_wp2_with fail
    refine (worn_any ⟨s, l, r, n⟩ ⟨s', l, r', n'⟩ _).mono ?_
    rintro e w1 ⟨rfl, hb1⟩
    go_wp2_with fail
    go_ret
    exact ⟨ret_bool (by simp [emptierB]), (((Below.refl _ _).alloc (Nat.le_refl _) _).alloc (by simp) _).trans (hb1.mono (by simp; omega))⟩
  · have h1 : ¬ l < l' := by omega
    have h2 : (l == l') = false := by simp; omega
    go_wp2_with fail
    go_ret
    exact ⟨ret_bool (by simp [emptierB, h1, h2]), ((Below.refl _ _).alloc (Nat.le_refl _) _).alloc (by simp) _⟩

set_option maxHeartbeats 1000000 in
theorem may_any (x : Blk) (least : Int) (w : World) (h1 : 0 ≤ x.r) (h2 : x.r ≤ 1099511627776) (h3 : 0 ≤ least) (h4 : least ≤ 1099511627776):
    Calls Try.prog 112 #[x.v, vi least] w fun e w' => e = .returned (.bool (mayB least x)) ∧ Below w.heap.size w w' := by
  obtain ⟨s, l, r, n⟩ := x
  dsimp only at h1 h2
  go_enter Try.func112, Try.ntmps112
  go_wp2_with fail
  refine (good_any ⟨s, l, r, n⟩ _).mono ?_
  rintro e w1 ⟨rfl, hb1⟩
  have hc : w1.cell? ⟨w.heap.size, 2, none⟩ = some (vi r) := cell_below (w := w.alloc (.cells #[vi s, vi l, vi r, vi n] 121)) (by simp) hb1
  by_cases hs : (s != 4) = true
  all_goals
    go_wp2_with fail
    go_ret
    refine ⟨ret_bool (by simp [mayB, *]), ?_⟩
    exact ((Below.refl _ _).alloc (Nat.le_refl _) _).trans (hb1.mono (by simp))

def bestTo (P : Blk → Bool) (Q : Blk → Blk → Bool) (bs : List Blk) : Nat → Int
  | 0 => -1
  | k + 1 => if P (bs.getD k default) && (decide (bestTo P Q bs k < 0) || Q (bs.getD k default) (bs.getD (bestTo P Q bs k).toNat default)) then k else bestTo P Q bs k
def best (P : Blk → Bool) (Q : Blk → Blk → Bool) (bs : List Blk) : Int := bestTo P Q bs bs.length

theorem bestTo_bd (P : Blk → Bool) (Q : Blk → Blk → Bool) (bs : List Blk) (k : Nat) : -1 ≤ bestTo P Q bs k ∧ bestTo P Q bs k < k := by
  induction k with
  | zero => simp [bestTo]
  | succ k ih => unfold bestTo; split <;> omega

set_option maxHeartbeats 2000000 in
theorem best_any (F G : Nat) (cm cb : Array Value) (v : Value) (bs : List Blk) (w : World) (P : Blk → Bool) (Q : Blk → Blk → Bool) (hrow : Row w v bs)
    (hF : ∀ args W, (callFunc F args).run Try.prog W = .ok (.enter F args) W) (hG : ∀ args W, (callFunc G args).run Try.prog W = .ok (.enter G args) W)
    (hMay : ∀ (x : Blk) (W : World), x ∈ bs → Below w.heap.size w W → Calls Try.prog F (#[x.v] ++ cm) W fun e W' => e = .returned (.bool (P x)) ∧ Below W.heap.size W W')
    (hBet : ∀ (x y : Blk) (W : World), Below w.heap.size w W → Calls Try.prog G (#[x.v, y.v] ++ cb) W fun e W' => e = .returned (.bool (Q x y)) ∧ Below W.heap.size W W') :
    Calls Try.prog 104 #[v, .func (.func F) #[] cm, .func (.func G) #[] cb] w fun e w' => e = .returned (vi (best P Q bs)) ∧ Below w.heap.size w w' := by
  obtain ⟨hlen, a, cap, rfl, hrow⟩ := hrow
  have HR := Lib.hid hrow
  have HM := Lib.hid hMay
  have HB := Lib.hid hBet
  clear hrow hMay hBet
  go_enter Try.func104, Try.ntmps104
  go_wp2_with fail
  go_loopw [7, 12] (fun at_ i wr => ∃ k : Nat, k ≤ bs.length ∧ i = vi k ∧ at_ = vi (bestTo P Q bs k) ∧ Below w.heap.size w wr) (fun _ i _ => bs.length - (intOf i).toNat)
  case atStart => exact ⟨0, Nat.zero_le _, rfl, rfl, Below.refl _ _⟩
  case round =>
    obtain ⟨k, hk, rfl, rfl, hb⟩ := hrel
    have hbd := bestTo_bd P Q bs k
    by_cases hlt : k < bs.length
    · rcases HR.out with h0 | ⟨b, o, rfl, hc⟩
      · rw [h0] at hlt; simp at hlt
      have HC := Lib.hid hc
      clear hc
      have hx := (HC.out k hlt).below hb
      have hin : bs.getD k default ∈ bs := by rw [List.getD_eq_getElem?_getD, List.getElem?_eq_getElem hlt]; exact List.getElem_mem hlt
      have hstep : bestTo P Q bs (k + 1) = if P (bs.getD k default) && (decide (bestTo P Q bs k < 0) || Q (bs.getD k default) (bs.getD (bestTo P Q bs k).toNat default)) then (k : Int) else bestTo P Q bs k := rfl
      generalize bs.getD k default = x at hx hin hstep
      obtain ⟨h0, h1, h2, h3⟩ := hx
      generalize bestTo P Q bs k = at_ at *
      have Hs := Lib.hid hstep
      have Hin := Lib.hid hin
      clear hstep hin
      go_wp2_with fail
      obtain ⟨W, hWe⟩ : ∃ W : World, W = wr.alloc (Obj.cells #[vi x.s, vi x.l, vi x.r, vi x.n] 121) := ⟨_, rfl⟩
      rw [show wr.alloc (Obj.cells #[Value.int IntKind.i64 x.s, Value.int IntKind.i64 x.l, Value.int IntKind.i64 x.r, Value.int IntKind.i64 x.n] 121) = W from hWe.symm]
      have hbW : Below w.heap.size w W := by rw [hWe]; exact hb.alloc hb.size _
      have g : At4 W wr.heap.size 0 x := by rw [hWe]; exact ⟨by simp, by simp, by simp, by simp⟩
      have g0 := Sub.cell g.1
      have g1 := Sub.cell (a := ⟨wr.heap.size, 1, none⟩) g.2.1
      have g2 := Sub.cell (a := ⟨wr.heap.size, 2, none⟩) g.2.2.1
      have g3 := Sub.cell (a := ⟨wr.heap.size, 3, none⟩) g.2.2.2
      clear h0 h1 h2 h3 hWe g
      have hM := fun n : Sub W => HM.out x n.w Hin.out (hbW.trans (n.below.mono hbW.size))
      by_cases hP : P x = true
      · rw [hP] at hM
        have HM1 := Lib.hid hM
        clear hM
        by_cases h0 : at_ < 0
        · refine wp_region_sub (by kernel_rfl) (by kernel_rfl) ?_
          repeat (go_big_quiet_step (exact ext_of (HM1.out _)))
          refine wpQuiet_nil ?_
          rintro _ ⟨nq, rfl⟩
          have hbq := nq.below
          go_wp2_with fail
          go_roundw
          case rel => exact ⟨k + 1, by omega, by go_num, by rw [Hs.out]; simp [hP, h0], hbW.trans (hbq.mono hbW.size)⟩
          case measure => simp [intOf]; omega
        · obtain ⟨j, rfl⟩ : ∃ j : Nat, at_ = j := ⟨at_.toNat, by omega⟩
          have hy := (HC.out j (by omega)).below hbW
          have Hs' : bestTo P Q bs (k + 1) = if Q x (bs.getD j default) then (k : Int) else j := by rw [Hs.out]; simp [hP, h0]
          generalize bs.getD j default = y at hy Hs'
          have y0 := Sub.cell hy.1
          have y1 := Sub.cell hy.2.1
          have y2 := Sub.cell hy.2.2.1
          have y3 := Sub.cell hy.2.2.2
          clear hy Hs
          have hj0 : (0 : Int) ≤ (j : Int) := by omega
          have hj1 : (j : Int) < (bs.length : Int) := by omega
          have hB := fun n : Sub W => HB.out x y n.w (hbW.trans (n.below.mono hbW.size))
          cases hQ : Q x y
          all_goals
            rw [hQ] at hB
            have HB1 := Lib.hid hB
            have Hs := Lib.hid Hs'
            clear hB Hs'
            refine wp_region_sub (by kernel_rfl) (by kernel_rfl) ?_
            repeat (go_big_quiet_step (first | exact ext_of (HM1.out _) | exact ext_of (HB1.out _)))
            refine wpQuiet_nil ?_
            rintro _ ⟨nq, rfl⟩
            have hbq := nq.below
            go_wp2_with fail
            go_roundw
            case rel => exact ⟨k + 1, by omega, by go_num, by rw [Hs.out, hQ]; simp, hbW.trans (hbq.mono hbW.size)⟩
            case measure => simp [intOf]; omega
      · have hP' : P x = false := by simpa using hP
        rw [hP'] at hM
        have HM1 := Lib.hid hM
        clear hM
        refine wp_region_sub (by kernel_rfl) (by kernel_rfl) ?_
        repeat (go_big_quiet_step (exact ext_of (HM1.out _)))
        refine wpQuiet_nil ?_
        rintro _ ⟨nq, rfl⟩
        have hbq := nq.below
        go_wp2_with fail
        go_roundw
        case rel => exact ⟨k + 1, by omega, by go_num, by rw [Hs.out]; simp [hP'], hbW.trans (hbq.mono hbW.size)⟩
        case measure => simp [intOf]; omega
    · go_wp2_with fail
      go_ret
      obtain rfl : k = bs.length := by omega
      exact ⟨rfl, hb⟩

end Go.Proofs.Ytpggkehfbhffbaa.gcs
