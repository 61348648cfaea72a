/-
  Lemmas for a law's proof, put together from several texts: each part says what it shows, and its conditions.
-/
import Derived.Test.YtnfhlocflpdlcaaGreatZT13
import Derived.Deep.RegionHeld3
import Derived.BigRegion
import Derived.StillTailTactics
/-
  A manager of a chip's blocks: asked whether it can be asked, whether a block is there; a block closed, and one opened. Conditions: a manager and its chip told by Held.
-/
namespace Go.Proofs.YtnfhlocflpdlcaaGreat.mgr
open Go.RowKit

section
variable {base : Nat} {w w' : World} {m : Nat} {G : MgM} {M : ChM}
theorem ready_any (h : Held base w m G M) : Calls Tryz.prog 226 #[ptr m] w fun e w' => e = .returned (vi (if M.down then 4 else 0)) ∧ w' = w := by
  obtain ⟨c0, c1, c2, c3, c4, c5⟩ := h.cells
  have HU := Lib.hid (Up_any h.chip)
  clear h c1 c2 c3 c4 c5
  generalize M.down = d at *
  cases d
  · go_enter Tryz.func226, Tryz.ntmps226
    go_wp2_with fail
    refine HU.out.mono ?_
    rintro e w' ⟨rfl, rfl⟩
    go_wp2_with fail
    go_ret
    exact ⟨rfl, rfl⟩
  · go_enter Tryz.func226, Tryz.ntmps226
    go_wp2_with fail
    refine HU.out.mono ?_
    rintro e w' ⟨rfl, rfl⟩
    go_wp2_with fail
    go_ret
    exact ⟨rfl, rfl⟩
set_option maxHeartbeats 1000000 in
theorem there_any (h : Held base w m G M) (k : Int) : Calls Tryz.prog 193 #[ptr m, vi k] w fun e w' => e = .returned (.bool (G.view.there k)) ∧ w' = w := by
  obtain ⟨c0, c1, c2, c3, c4, c5⟩ := h.cells
  have H := Lib.hid h
  clear c0 c2 c3 c4 c5
  by_cases h0 : 0 ≤ k
  · by_cases h1 : k < G.l.length
    · obtain ⟨i, rfl⟩ : ∃ i : Nat, k = i := ⟨k.toNat, by omega⟩
      have hi : i < G.l.length := by omega
      have HQ : Hid (G.view.there i = ((G.l.getD i default).s != 4)) := Lib.hid (by
        unfold Mg.there
        rw [decide_eq_true h0, decide_eq_true (by exact h1)]
        rfl)
      obtain ⟨d0, d1, d2, d3⟩ := h.bcells hi
      clear d1 d2 d3 h
      generalize (G.l.getD i default).s = s at *
      go_enter Tryz.func193, Tryz.ntmps193
      go_wp2_with fail
      go_ret
      exact ⟨ret_bool HQ.out.symm, rfl⟩
    · have HQ : Hid (G.view.there k = false) := Lib.hid (by
        unfold Mg.there
        rw [decide_eq_false (p := k < _) (by exact h1)]
        simp)
      clear h
      have h2 : (G.l.length : Int) ≤ k := by omega
      go_enter Tryz.func193, Tryz.ntmps193
      go_wp2_with fail
      go_ret
      exact ⟨ret_bool HQ.out.symm, rfl⟩
  · have HQ : Hid (G.view.there k = false) := Lib.hid (by
      unfold Mg.there
      rw [decide_eq_false h0]
      rfl)
    clear h
    go_enter Tryz.func193, Tryz.ntmps193
    go_wp2_with fail
    go_ret
    exact ⟨ret_bool HQ.out.symm, rfl⟩
theorem Held.closed0 (h : Held base w m G M) {i : Nat} (hi : i < G.l.length) (hl : (G.l.getD i default).l = 0) : HGoes base w m G M ((w.setCell ⟨G.gl, i * 4, none⟩ (vi 2)).setCell ⟨G.gl, i * 4, none⟩ (vi 3)) (G.view.put i (closeB (G.view.blk i))) M := by
  have e : ∀ z, (G.l.set i z).getD i default = z := fun z => by rw [blk_set _ _ _ _ hi, if_pos rfl]
  have h1 := h.cell hi (j := 0) (by decide) (vi 2) { G.l.getD i default with s := 2 } rfl
  have h2 := h1.trans (h1.at_.cell (i := i) (j := 0) (by simpa [Mg.put] using hi) (by decide) (vi 3) { G.l.getD i default with s := 3 } (by dsimp only [MgM.lay, Mg.put, MgM.view]; rw [e]; rfl))
  have hq : closeB (G.view.blk i) = { G.l.getD i default with s := 3 } := by unfold closeB; rw [if_pos hl]
  rw [hq]
  simpa only [MgM.lay, Mg.put, MgM.view, List.set_set, Nat.add_zero] using h2
theorem Held.closed1 (h : Held base w m G M) {i : Nat} (hi : i < G.l.length) (hl : ¬ (G.l.getD i default).l = 0) : HGoes base w m G M (w.setCell ⟨G.gl, i * 4, none⟩ (vi 2)) (G.view.put i (closeB (G.view.blk i))) M := by
  have h1 := h.cell hi (j := 0) (by decide) (vi 2) { G.l.getD i default with s := 2 } rfl
  have hq : closeB (G.view.blk i) = { G.l.getD i default with s := 2 } := by unfold closeB; rw [if_neg hl]
  rw [hq]
  exact h1
theorem HGoes.shut {g' : Mg} {M' : ChM} (h : HGoes base w m G M w' g' M') {i : Nat} (ha : (i : Int) = g'.at_) : HGoes base w m G M (w'.setCell ⟨m, 2, none⟩ (vi (-1))) (g'.shut i) M' := by
  have := h.trans (h.at_.field 2 (vi (-1)) { g' with at_ := -1 } rfl rfl)
  have e : g'.shut i = { g' with at_ := -1 } := by unfold Mg.shut; rw [if_pos ha]
  rw [e]
  exact this
theorem HGoes.shutNo {g' : Mg} {M' : ChM} (h : HGoes base w m G M w' g' M') {i : Nat} (ha : ¬ (i : Int) = g'.at_) : HGoes base w m G M w' (g'.shut i) M' := by
  have e : g'.shut i = g' := by unfold Mg.shut; rw [if_neg ha]
  rw [e]
  exact h
set_option maxRecDepth 100000 in
set_option maxHeartbeats 1000000 in
theorem close_any (h : Held base w m G M) (i : Nat) (hi : i < G.l.length) : Calls Tryz.prog 229 #[ptr m, vi i] w fun e w' => e = .returned (.tuple #[]) ∧ HGoes base w m G M w' (G.view.close i) M := by
  obtain ⟨c0, c1, c2, c3, c4, c5⟩ := h.cells
  have z0 := h.mgr.row.frozen (i * 4)
  have z2 := h.mgr.mgr.frozen 2
  have hne := h.ne
  have hi0 : (0 : Int) ≤ (i : Int) := by omega
  have hi1 : (i : Int) < (G.l.length : Int) := by omega
  obtain ⟨d0, d1, d2, d3⟩ := h.bcells hi
  have hne' : ¬ G.gl = m := fun e => hne e.symm
  have HA : Hid (G.view.close i = (G.view.put i (closeB (G.view.blk i))).shut i) := Lib.hid rfl
  have HAT : Hid ((G.view.put i (closeB (G.view.blk i))).at_ = G.at_) := Lib.hid rfl
  by_cases hl : (G.l.getD i default).l = 0
  · have HG := Lib.hid (h.closed0 hi hl)
    rw [hl] at d1
    clear c0 c3 c4 c5 d2 d3 h hi hl
    by_cases ha : (i : Int) = G.at_
    · have hq : ((i : Int) == G.at_) = true := by simp [ha]
      have HE := Lib.hid (HG.out.shut (i := i) ha)
      clear HG ha HAT
      generalize G.view.close i = V at *
      generalize (G.view.put i (closeB (G.view.blk i))).shut i = V' at *
      go_enter Tryz.func229, Tryz.ntmps229
      go_wp2_with fail
      go_end0
      exact ⟨rfl, by rw [HA.out]; exact HE.out⟩
    · have hq : ((i : Int) == G.at_) = false := by simp [ha]
      have HE := Lib.hid (HG.out.shutNo (i := i) ha)
      clear HG ha HAT
      generalize G.view.close i = V at *
      generalize (G.view.put i (closeB (G.view.blk i))).shut i = V' at *
      go_enter Tryz.func229, Tryz.ntmps229
      go_wp2_with fail
      go_end0
      exact ⟨rfl, by rw [HA.out]; exact HE.out⟩
  · have HG := Lib.hid (h.closed1 hi hl)
    have hl' : ((G.l.getD i default).l == 0) = false := by simpa using hl
    generalize (G.l.getD i default).l = n at *
    clear c0 c3 c4 c5 d2 d3 h hi hl
    by_cases ha : (i : Int) = G.at_
    · have hq : ((i : Int) == G.at_) = true := by simp [ha]
      have HE := Lib.hid (HG.out.shut (i := i) ha)
      clear HG ha HAT
      generalize G.view.close i = V at *
      generalize (G.view.put i (closeB (G.view.blk i))).shut i = V' at *
      go_enter Tryz.func229, Tryz.ntmps229
      go_wp2_with fail
      go_end0
      exact ⟨rfl, by rw [HA.out]; exact HE.out⟩
    · have hq : ((i : Int) == G.at_) = false := by simp [ha]
      have HE := Lib.hid (HG.out.shutNo (i := i) ha)
      clear HG ha HAT
      generalize G.view.close i = V at *
      generalize (G.view.put i (closeB (G.view.blk i))).shut i = V' at *
      go_enter Tryz.func229, Tryz.ntmps229
      go_wp2_with fail
      go_end0
      exact ⟨rfl, by rw [HA.out]; exact HE.out⟩
theorem bestTo_step (P : gcs.Blk → Bool) (Q : gcs.Blk → gcs.Blk → Bool) (bs : List gcs.Blk) (k : Nat) : gcs.bestTo P Q bs (k + 1) = if P (bs.getD k default) && (decide (gcs.bestTo P Q bs k < 0) || Q (bs.getD k default) (bs.getD (gcs.bestTo P Q bs k).toNat default)) then (k : Int) else gcs.bestTo P Q bs k := rfl
theorem HGoes.openAt {g' : Mg} (h : HGoes base w m G M w' g' M) {i : Nat} (hi : i < g'.l.length) : HGoes base w m G M (((((w'.setCell ⟨G.gl, i * 4, none⟩ (vi 1)).setCell ⟨G.gl, i * 4 + 1, none⟩ (vi 0)).setCell ⟨G.gl, i * 4 + 2, none⟩ (vi (g'.blk i).r)).setCell ⟨G.gl, i * 4 + 3, none⟩ (vi 0)).setCell ⟨m, 2, none⟩ (vi i)) (g'.openAt i) M := by
  have h1 := h.trans (h.at_.block hi ⟨1, 0, (g'.blk i).r, 0⟩)
  exact h1.trans (h1.at_.field 2 (vi i) (g'.openAt i) rfl rfl)
theorem alloc_below (w : World) (o : Obj) : Below w.heap.size w (w.alloc o) := (Below.refl _ _).alloc (Nat.le_refl _) o
set_option maxRecDepth 100000 in
set_option maxHeartbeats 2000000 in
theorem begin_any (h : Held base w m G M) : Calls Tryz.prog 227 #[ptr m] w fun e w' => e = .returned (.bool (decide (0 ≤ G.view.freeI))) ∧ HGoes base w m G M w' G.view.begun M := by
  obtain ⟨c0, c1, c2, c3, c4, c5⟩ := h.cells
  have hlen : G.l.length ≤ 9223372036854775807 := by obtain ⟨cur, _, h1, h2, _⟩ := h.mgr.row.blk; unfold maxLen at h2; omega
  have hne := h.ne
  have hgl := h.mgr.row.lt
  have hml := h.mgr.mgr.lt
  have H := Lib.hid h
  clear c0 c2 c3 c4 c5 h
  go_enter Tryz.func227, Tryz.ntmps227
  go_wp2_with fail
  go_loopw [3, 11] (fun at_ i wr => ∃ k : Nat, k ≤ G.l.length ∧ i = vi k ∧ at_ = vi (gcs.bestTo freeB gcs.wornB G.l k) ∧ Below w.heap.size w wr) (fun _ i _ => G.l.length - (intOf i).toNat)
  case atStart => exact ⟨0, Nat.zero_le _, rfl, rfl, Below.refl _ _⟩
  case round =>
    obtain ⟨k, hk, rfl, rfl, hb⟩ := hrel
    have hbd := gcs.bestTo_bd freeB gcs.wornB G.l k
    by_cases hlt : k < G.l.length
    · have H1 := Lib.hid (H.out.old hb)
      obtain ⟨d0, d1, d2, d3⟩ := H1.out.bcells hlt
      have c1' : wr.cell? ⟨m, 1, none⟩ = some (.slice (some ⟨G.gl, 0, none⟩) G.l.length G.cl) := H1.out.cells.2.1
      have hst := Lib.hid (bestTo_step freeB gcs.wornB G.l k)
      generalize hnx : gcs.bestTo freeB gcs.wornB G.l (k + 1) = nx at *
      generalize hat : gcs.bestTo freeB gcs.wornB G.l k = at_ at *
      have HAT := Lib.hid hat
      have HBA : Hid (0 ≤ at_ → at_.toNat < G.l.length) := Lib.hid (by omega)
      generalize G.l.getD k default = x at *
      obtain ⟨xs, xl, xr, xn⟩ := x
      dsimp only at *
      have HW : Hid (Below w.heap.size w (wr.alloc (.cells #[vi xs, vi xl, vi xr, vi xn] 236))) := Lib.hid (hb.alloc hb.size _)
      have F0 : (wr.alloc (.cells #[vi xs, vi xl, vi xr, vi xn] 236)).cell? ⟨wr.heap.size, 0, none⟩ = some (vi xs) := (Blk.new _ _ _).cell 0
      have F2 : (wr.alloc (.cells #[vi xs, vi xl, vi xr, vi xn] 236)).cell? ⟨wr.heap.size, 2, none⟩ = some (vi xr) := (Blk.new _ _ _).cell 2
      have C1 : (wr.alloc (.cells #[vi xs, vi xl, vi xr, vi xn] 236)).cell? ⟨m, 1, none⟩ = some (.slice (some ⟨G.gl, 0, none⟩) G.l.length G.cl) := cell_below c1' (alloc_below _ _)
      have fin : ∀ (y : Int) (W : World), nx = y → Below w.heap.size w W → ∃ k' : Nat, k' ≤ G.l.length ∧ vi ((k : Int) + 1) = vi k' ∧ vi y = vi (gcs.bestTo freeB gcs.wornB G.l k') ∧ Below w.heap.size w W :=
        fun y W hy hW => ⟨k + 1, by omega, by simp, by rw [hnx, hy], hW⟩
      have FIN := Lib.hid fin
      have H2 := Lib.hid (H1.out.old (alloc_below wr (.cells #[vi xs, vi xl, vi xr, vi xn] 236)))
      clear fin hat hb H1 hnx
      by_cases hs : xs = 0
      · have hsq : (xs == 0) = true := beq_iff_eq.2 hs
        by_cases ha : at_ = -1
        · have hq : (at_ == -1) = true := beq_iff_eq.2 ha
          have HN : Hid (nx = (k : Int)) := Lib.hid (by rw [hst.out, if_pos]; simp [freeB, hs, ha])
          clear hs ha hst
          go_upto_region 5 with fail
          clear d0 d1 d2 d3 c1'
          generalize wr.alloc (.cells #[vi xs, vi xl, vi xr, vi xn] 236) = w1 at *
          go_quiet (fail)
          go_wp2_with fail
          go_roundw
          case rel => exact FIN.out _ _ HN.out (below_drewN HW.out _)
          case measure => simp [intOf]; omega
        · have hq : (at_ == -1) = false := beq_eq_false_iff_ne.2 ha
          obtain ⟨j, rfl⟩ : ∃ j : Nat, at_ = j := ⟨at_.toNat, by omega⟩
          have hj : j < G.l.length := by omega
          have hj0 : (0 : Int) ≤ (j : Int) := by omega
          have hj1 : (j : Int) < (G.l.length : Int) := by omega
          have e2 := (H2.out.bcells hj).2.2.1
          have HN : Hid (nx = if xr < (G.l.getD j default).r then (k : Int) else (j : Int)) := Lib.hid (by
            rw [hst.out]
            have : ¬ (j : Int) < 0 := by omega
            by_cases hy : xr < (G.l.getD j default).r
            · rw [if_pos hy, if_pos]; simp only [freeB, hs, gcs.wornB, Int.toNat_natCast, decide_eq_true hy]; simp
            · rw [if_neg hy, if_neg]; simp only [freeB, hs, gcs.wornB, Int.toNat_natCast, decide_eq_false hy]; simp)
          generalize (G.l.getD j default).r = yr at *
          clear hs ha hst
          by_cases hy : xr < yr
          · have hyd : decide (xr < yr) = true := decide_eq_true hy
            rw [if_pos hy] at HN
            go_upto_region 5 with fail
            clear d0 d1 d2 d3 c1'
            generalize wr.alloc (.cells #[vi xs, vi xl, vi xr, vi xn] 236) = w1 at *
            go_quiet (fail)
            go_wp2_with fail
            go_roundw
            case rel => exact FIN.out _ _ HN.out (below_drewN HW.out _)
            case measure => simp [intOf]; omega
          · have hyd : decide (xr < yr) = false := decide_eq_false hy
            rw [if_neg hy] at HN
            go_upto_region 5 with fail
            clear d0 d1 d2 d3 c1'
            generalize wr.alloc (.cells #[vi xs, vi xl, vi xr, vi xn] 236) = w1 at *
            go_quiet (fail)
            go_wp2_with fail
            go_roundw
            case rel => exact FIN.out _ _ HN.out (below_drewN HW.out _)
            case measure => simp [intOf]; omega
      · have hsq : (xs == 0) = false := beq_eq_false_iff_ne.2 hs
        have HN : Hid (nx = at_) := Lib.hid (by rw [hst.out, if_neg]; simp [freeB, hs])
        clear hs hst
        go_upto_region 5 with fail
        clear d0 d1 d2 d3 c1'
        generalize wr.alloc (.cells #[vi xs, vi xl, vi xr, vi xn] 236) = w1 at *
        go_quiet (fail)
        go_wp2_with fail
        go_roundw
        case rel => exact FIN.out _ _ HN.out (below_drewN HW.out _)
        case measure => simp [intOf]; omega
    · obtain rfl : k = G.l.length := by omega
      have HG := Lib.hid (HGoes.of_old H.out hb)
      have HB := Lib.hid hb
      generalize hat : gcs.bestTo freeB gcs.wornB G.l G.l.length = at_ at *
      have HF : Hid (G.view.freeI = at_) := Lib.hid hat
      clear hat
      by_cases ha : at_ = -1
      · have hq : (at_ == -1) = true := beq_iff_eq.2 ha
        have HQ : Hid (G.view.begun = G.view ∧ decide (0 ≤ G.view.freeI) = false) := Lib.hid (by
          refine ⟨?_, ?_⟩
          · unfold Mg.begun; rw [HF.out, if_pos (by omega)]
          · rw [HF.out]; simp [ha])
        clear ha hb
        go_wp2_with fail
        go_ret
        exact ⟨ret_bool HQ.out.2.symm, by rw [HQ.out.1]; exact HG.out⟩
      · have hq : (at_ == -1) = false := beq_eq_false_iff_ne.2 ha
        obtain ⟨j, rfl⟩ : ∃ j : Nat, at_ = j := ⟨at_.toNat, by omega⟩
        have hj : j < G.l.length := by omega
        have hj0 : (0 : Int) ≤ (j : Int) := by omega
        have hj1 : (j : Int) < (G.l.length : Int) := by omega
        have HQ : Hid (G.view.begun = G.view.openAt j ∧ decide (0 ≤ G.view.freeI) = true) := Lib.hid (by
          refine ⟨?_, ?_⟩
          · unfold Mg.begun; rw [HF.out, if_neg (by omega), Int.toNat_natCast]
          · rw [HF.out]; simp)
        have H1 := Lib.hid (H.out.old hb)
        obtain ⟨d0, d1, d2, d3⟩ := H1.out.bcells hj
        have c1' : wr.cell? ⟨m, 1, none⟩ = some (.slice (some ⟨G.gl, 0, none⟩) G.l.length G.cl) := H1.out.cells.2.1
        have c2' : wr.cell? ⟨m, 2, none⟩ = some (vi G.at_) := H1.out.cells.2.2.1
        have z := fun j => H1.out.mgr.row.frozen j
        have z2 := H1.out.mgr.mgr.frozen 2
        have HO := Lib.hid (((HG.out.old (Below.refl _ _).drew).openAt (i := j) hj))
        have hne' : ¬ G.gl = m := fun e => hne e.symm
        have z00 := z (j * 4)
        have z01 := z (j * 4 + 1)
        have z02 := z (j * 4 + 2)
        have z03 := z (j * 4 + 3)
        generalize (G.l.getD j default).s = s at *
        generalize (G.l.getD j default).l = l at *
        change Hid (HGoes base w m G M (((((wr.drew.setCell ⟨G.gl, j * 4, none⟩ (vi 1)).setCell ⟨G.gl, j * 4 + 1, none⟩ (vi 0)).setCell ⟨G.gl, j * 4 + 2, none⟩ (vi (G.l.getD j default).r)).setCell ⟨G.gl, j * 4 + 3, none⟩ (vi 0)).setCell ⟨m, 2, none⟩ (vi j)) _ M) at HO
        generalize (G.l.getD j default).r = r at *
        generalize (G.l.getD j default).n = n at *
        clear ha hb z H1 HG
        go_wp2_with fail
        go_still_tail 15, (by kernel_rfl)
        change wpList _ _ _ _ _ wr.drew
        go_wp2_with fail
        go_ret
        exact ⟨ret_bool HQ.out.2.symm, by rw [HQ.out.1]; exact HO.out⟩
end

end Go.Proofs.YtnfhlocflpdlcaaGreat.mgr

