/-
  The document's chip: its places, a block marked, bytes as many as a page has, faults. Conditions: a chip that is told by RefAt.
-/
import Derived.Test.YtpggkehfbhffbaaRA
namespace Go.Proofs.Ytpggkehfbhffbaa
open Go.RowKit

section
variable {base : Nat} {w : World} {k : Nat} {R : RefM}
theorem place_any (h : RefAt base w k R) (j p : Int) : Calls Try.prog 99 #[ptr k, vi j, vi p] w fun e w' => e = .returned (vi (NP.asked R.view j p)) ∧ w' = w := by
  have c0 : w.cell? ⟨k, 0, none⟩ = some (vi R.B) := h.chip.cell 0
  have c1 : w.cell? ⟨k, 1, none⟩ = some (vi R.P) := h.chip.cell 1
  have c8 : w.cell? ⟨k, 10, none⟩ = some (.bool R.down) := h.chip.cell 10
  clear h
  have HA : Hid (NP.asked R.view j p = if R.down then 4 else if 0 ≤ j ∧ j < R.B ∧ 0 ≤ p ∧ p < R.P then 0 else 12) := Lib.hid rfl
  generalize R.down = down at *
  generalize R.B = B at *
  generalize R.P = P at *
  cases down
  · by_cases hj0 : 0 ≤ j
    · by_cases hj1 : j < B
      · by_cases hp0 : 0 ≤ p
        · by_cases hp1 : p < P
          · have H := Lib.hid (show NP.asked R.view j p = 0 by rw [HA.out]; simp [hj0, hj1, hp0, hp1])
            go_enter Try.func99, Try.ntmps99
            go_wp2_with fail
            go_ret
            exact ⟨ret_int H.out.symm, rfl⟩
          · have H := Lib.hid (show NP.asked R.view j p = 12 by rw [HA.out]; simp [hp1])
            go_enter Try.func99, Try.ntmps99
            go_wp2_with fail
            go_ret
            exact ⟨ret_int H.out.symm, rfl⟩
        · have H := Lib.hid (show NP.asked R.view j p = 12 by rw [HA.out]; simp [hp0])
          go_enter Try.func99, Try.ntmps99
          go_wp2_with fail
          go_ret
          exact ⟨ret_int H.out.symm, rfl⟩
      · have H := Lib.hid (show NP.asked R.view j p = 12 by rw [HA.out]; simp [hj1])
        go_enter Try.func99, Try.ntmps99
        go_wp2_with fail
        go_ret
        exact ⟨ret_int H.out.symm, rfl⟩
    · have H := Lib.hid (show NP.asked R.view j p = 12 by rw [HA.out]; simp [hj0])
      go_enter Try.func99, Try.ntmps99
      go_wp2_with fail
      go_ret
      exact ⟨ret_int H.out.symm, rfl⟩
  · have H := Lib.hid (show NP.asked R.view j p = 4 by rw [HA.out]; simp)
    go_enter Try.func99, Try.ntmps99
    go_wp2_with fail
    go_ret
    exact ⟨ret_int H.out.symm, rfl⟩

/-- What an act leaves. -/
def RActPost (base : Nat) (w : World) (k : Nat) (R : RefM) (r : Int × NP.Chp) (e : Ending) (w' : World) : Prop :=
  ∃ R', e = .returned (vi r.1) ∧ RGoes base w k R w' R' ∧ R'.view = r.2
theorem RActPost.mk {r : Int × NP.Chp} {n : Int} {V : NP.Chp} {w' : World} (hr : r = (n, V)) {R' : RefM} (hg : RGoes base w k R w' R') (hv : R'.view = V) : RActPost base w k R r (.returned (vi n)) w' :=
  ⟨R', by rw [hr], hg, by rw [hr]; exact hv⟩
theorem rmark_view (h : RefAt base w k R) {i : Nat} (hi : i < R.B) : RefM.view { R with bd := R.bd.set i true } = NP.markB R.view i := by
  unfold NP.markB NP.setBlk
  rw [R.blk hi]
  unfold RefM.view
  congr 1
  refine RefM.view_set R { R with bd := R.bd.set i true } _ (fun j hj => ?_) rfl
  unfold RefM.blo
  dsimp only
  rw [getD_set' _ _ _ _ _ (by rw [h.ld]; exact hi)]
  by_cases e : j = i
  · subst e; simp
  · simp [e]
theorem rMark_any (h : RefAt base w k R) (j : Int) : Calls Try.prog 67 #[ptr k, vi j] w (RActPost base w k R (NP.mark R.view j)) := by
  have HC := Lib.hid h
  by_cases he : NP.asked R.view j 0 = 0
  · obtain ⟨hd, hj0, hj1, hp0, hp1⟩ := NP.asked_zero he
    change j < R.B at hj1
    obtain ⟨i, rfl⟩ : ∃ i : Nat, j = i := ⟨j.toNat, by omega⟩
    have HE := Lib.hid he
    have HQ := Lib.hid (show NP.mark R.view i = (0, RefM.view { R with bd := R.bd.set i true }) by
      unfold NP.mark
      dsimp only
      rw [if_pos he, Int.toNat_natCast, rmark_view h (by omega)])
    have hib : i < R.bd.length := by rw [h.ld]; omega
    have c6 : w.cell? ⟨k, 6, none⟩ = some (.slice (some ⟨R.gd, 0, none⟩) R.bd.length R.cd) := h.chip.cell 6
    have d6 := h.dcell hib
    have z6 := h.bd.frozen i
    have HG := Lib.hid (h.setD i true)
    clear h hd he hp0 hp1 hj0 hj1
    generalize R.bd.getD i false = b at *
    go_enter Try.func67, Try.ntmps67
    go_wp2_with fail
    refine (place_any HC.out _ _).mono ?_
    rintro e w' ⟨rfl, rfl⟩
    rw [HE.out]
    go_wp2_with fail
    go_ret
    exact .mk HQ.out HG.out rfl
  · have HQ := Lib.hid (show NP.mark R.view j = (NP.asked R.view j 0, R.view) by unfold NP.mark; dsimp only; rw [if_neg he])
    clear h
    go_enter Try.func67, Try.ntmps67
    go_wp2_with fail
    refine (place_any HC.out _ _).mono ?_
    rintro e w' ⟨rfl, rfl⟩
    generalize NP.asked R.view j 0 = n at *
    have hn : ((n : Int) != 0) = true := by simp [he]
    go_wp2_with fail
    go_ret
    exact .mk HQ.out (RGoes.refl HC.out) rfl

theorem torn_getD (n : Nat) (l : List Nat) {i : Nat} (hi : i < n) : (NP.torn n l)[i]? = some (if i < l.length then l.getD i 0 else 255) := by
  unfold NP.torn
  by_cases h : i < l.length
  · rw [List.getElem?_append_left (by simp; omega), List.getElem?_take_of_lt hi, List.getElem?_eq_getElem h, if_pos h, List.getD_eq_getElem?_getD, List.getElem?_eq_getElem h]
    rfl
  · rw [List.getElem?_append_right (by simp; omega), if_neg h, List.getElem?_replicate, if_pos (by simp; omega)]
theorem take_torn (n : Nat) (l : List Nat) {i : Nat} (hi : i < n) : (NP.torn n l).take (i + 1) = (NP.torn n l).take i ++ [if i < l.length then l.getD i 0 else 255] := by
  rw [List.take_add_one, torn_getD n l hi]
  rfl
set_option maxRecDepth 100000 in
set_option maxHeartbeats 2000000 in
theorem rfull_any (h : RefAt base w k R) (hS : R.S ≤ 512) (a : Option Addr) (l : List Nat) (c : Nat) (hr : BRow w a l) (hl : l.length ≤ maxLen) :
    Calls Try.prog 101 #[ptr k, .slice a l.length c] w fun e w' => ∃ v', e = .returned v' ∧ Own w' w.heap.size v' (NP.torn (R.S + 32) l) ∧ Below w.heap.size w w' := by
  have c2 : w.cell? ⟨k, 2, none⟩ = some (vi R.S) := h.chip.cell 2
  have hk := h.chip.lt
  have HR := Lib.hid hr
  have hl2 : l.length ≤ 9223372036854775807 := by unfold maxLen at hl; omega
  clear h hr hl
  generalize R.S = S at *
  have HT : Hid ((NP.torn (S + 32) l).length = S + 32) := Lib.hid (NP.torn_length _ _)
  have HST : Hid (∀ i, i < S + 32 → (NP.torn (S + 32) l).take (i + 1) = (NP.torn (S + 32) l).take i ++ [if i < l.length then l.getD i 0 else 255]) := Lib.hid (fun i hi => take_torn _ _ hi)
  generalize NP.torn (S + 32) l = T at *
  go_enter Try.func101, Try.ntmps101
  go_wp2_with fail
  go_loopw [5, 6] (fun vq v wr => ∃ (i : Nat) (q : Value), q = vq ∧ i ≤ S + 32 ∧ v = vi i ∧ Hid (Own wr w.heap.size q (T.take i)) ∧ Hid (Below w.heap.size w wr)) (fun _ v _ => S + 32 - (intOf v).toNat)
  case atStart => exact ⟨0, _, rfl, Nat.zero_le _, rfl, Lib.hid (Own.nil _ _), Lib.hid (Below.refl _ _)⟩
  case round =>
    obtain ⟨i, q, rfl, hi, rfl, ho, hb⟩ := hrel
    have c2' : wr.cell? ⟨k, 2, none⟩ = some (vi S) := cell_below c2 hb.out
    have hwl : w.heap.size ≤ wr.heap.size := hb.out.size
    by_cases hlt : i < S + 32
    · have hTl : (T.take i).length = i := by rw [List.length_take, HT.out]; omega
      obtain ⟨qa, qc, hq⟩ := own_form ho.out
      rw [hTl] at hq
      subst hq
      by_cases hil : i < l.length
      · obtain ⟨b, o, hab, hcell⟩ := (HR.out.below hb.out).lookup hil
        subst hab
        have HS4 := HST.out i hlt
        rw [if_pos hil] at HS4
        have hx := HR.out.small _ (getD_mem (d := 0) hil)
        generalize l.getD i 0 = x at *
        obtain ⟨v4, w4, hrun4, ho4, hs4⟩ := append_new (w := wr) ho.out [x] (by simpa using hx) (n := 1) rfl rfl (cs := #[vb x]) rfl (by rw [hTl]; omega) hb.out.size
        rw [← HS4] at ho4
        have HO4 := Lib.hid ho4
        have HB4 := Lib.hid (hb.out.trans hs4.below)
        have RA : AppRun 32 32 32 (.slice qa i qc) (.slice (some ⟨wr.heap.size, 0, none⟩) 1 1) (wr.alloc (.cells #[vb x] 5)) v4 w4 := ⟨hrun4⟩
        obtain ⟨v4a, v4c, hv4⟩ := own_form ho4
        subst hv4
        clear hrun4 ho4 hs4 ho hb HS4
        go_wp2_with (at_builtin; refine wpList_append_run rfl (.tmp 21) (.tmp 26) rfl rfl rfl RA.run ?_)
        go_roundw
        case rel => exact ⟨i + 1, _, rfl, by omega, by go_num, Lib.hid (by have := HO4.out; rw [List.length_take] at this; exact this), HB4⟩
        case measure => simp [intOf]; omega
      · obtain ⟨v4, w4, hrun4, ho4, hs4⟩ := append_new (w := wr) ho.out [255] (by simp) (n := 1) rfl rfl (cs := #[vb 255]) rfl (by rw [hTl]; omega) hb.out.size
        have HS4 := HST.out i hlt
        rw [if_neg hil] at HS4
        rw [← HS4] at ho4
        have HO4 := Lib.hid ho4
        have HB4 := Lib.hid (hb.out.trans hs4.below)
        have RA : AppRun 32 32 32 (.slice qa i qc) (.slice (some ⟨wr.heap.size, 0, none⟩) 1 1) (wr.alloc (.cells #[vb 255] 5)) v4 w4 := ⟨hrun4⟩
        obtain ⟨v4a, v4c, hv4⟩ := own_form ho4
        subst hv4
        clear hrun4 ho4 hs4 ho hb HS4
        go_wp2_with (at_builtin; refine wpList_append_run rfl (.tmp 28) (.tmp 29) rfl rfl rfl RA.run ?_)
        go_roundw
        case rel => exact ⟨i + 1, _, rfl, by omega, by go_num, Lib.hid (by have := HO4.out; rw [List.length_take] at this; exact this), HB4⟩
        case measure => simp [intOf]; omega
    · obtain rfl : i = S + 32 := by omega
      have ho' := ho.out
      rw [List.take_of_length_le (by rw [HT.out]; exact Nat.le_refl _)] at ho'
      have HO' := Lib.hid ho'
      clear ho ho'
      go_wp2_with fail
      go_ret
      exact ⟨_, rfl, HO'.out, hb.out⟩
end

end Go.Proofs.Ytpggkehfbhffbaa
