/-
  Lemmas for a law's proof, put together from several texts: each part says what it shows, and its conditions.
-/
import Derived.Test.YtpggkehfbhffbaaZC14
import Derived.Deep.RegionHeld3
import Derived.BigRegion
import Derived.StillTailTactics
import Derived.Test.YtpggkehfbhffbaaZC08
import Derived.Test.YtpggkehfbhffbaaZC09
import Derived.Test.YtpggkehfbhffbaaZC05
/-
  A manager of a chip's blocks: asked whether it can be asked, whether a block is there; a block closed, and one opened. Conditions: a manager and its chip told by Held.
-/
namespace Go.Proofs.Ytpggkehfbhffbaa.mgr
open Go.RowKit

section
variable {base : Nat} {w w' : World} {m : Nat} {G : MgM} {M : ChM}
theorem ready_any (h : Held base w m G M) : Calls Try.prog 79 #[ptr m] w fun e w' => e = .returned (vi (if M.down then 4 else 0)) ∧ w' = w := by
  obtain ⟨c0, c1, c2, c3, c4, c5⟩ := h.cells
  have HU := Lib.hid (Up_any h.chip)
  clear h c1 c2 c3 c4 c5
  generalize M.down = d at *
  cases d
  · go_enter Try.func79, Try.ntmps79
    go_wp2_with fail
    refine HU.out.mono ?_
    rintro e w' ⟨rfl, rfl⟩
    go_wp2_with fail
    go_ret
    exact ⟨rfl, rfl⟩
  · go_enter Try.func79, Try.ntmps79
    go_wp2_with fail
    refine HU.out.mono ?_
    rintro e w' ⟨rfl, rfl⟩
    go_wp2_with fail
    go_ret
    exact ⟨rfl, rfl⟩
set_option maxHeartbeats 1000000 in
theorem there_any (h : Held base w m G M) (k : Int) : Calls Try.prog 87 #[ptr m, vi k] w fun e w' => e = .returned (.bool (G.view.there k)) ∧ w' = w := by
  obtain ⟨c0, c1, c2, c3, c4, c5⟩ := h.cells
  have H := Lib.hid h
  clear c0 c2 c3 c4 c5
  by_cases h0 : 0 ≤ k
  · by_cases h1 : k < G.l.length
    · obtain ⟨i, rfl⟩ : ∃ i : Nat, k = i := ⟨k.toNat, by omega⟩
      have hi : i < G.l.length := by omega
      have HQ : Hid (G.view.there i = ((G.l.getD i default).s != 4)) := Lib.hid (by
        unfold Mg.there
        rw [decide_eq_true h0, decide_eq_true (by exact h1)]
        rfl)
      obtain ⟨d0, d1, d2, d3⟩ := h.bcells hi
      clear d1 d2 d3 h
      generalize (G.l.getD i default).s = s at *
      go_enter Try.func87, Try.ntmps87
      go_wp2_with fail
      go_ret
      exact ⟨ret_bool HQ.out.symm, rfl⟩
    · have HQ : Hid (G.view.there k = false) := Lib.hid (by
        unfold Mg.there
        rw [decide_eq_false (p := k < _) (by exact h1)]
        simp)
      clear h
      have h2 : (G.l.length : Int) ≤ k := by omega
      go_enter Try.func87, Try.ntmps87
      go_wp2_with fail
      go_ret
      exact ⟨ret_bool HQ.out.symm, rfl⟩
  · have HQ : Hid (G.view.there k = false) := Lib.hid (by
      unfold Mg.there
      rw [decide_eq_false h0]
      rfl)
    clear h
    go_enter Try.func87, Try.ntmps87
    go_wp2_with fail
    go_ret
    exact ⟨ret_bool HQ.out.symm, rfl⟩
theorem Held.closed0 (h : Held base w m G M) {i : Nat} (hi : i < G.l.length) (hl : (G.l.getD i default).l = 0) : HGoes base w m G M ((w.setCell ⟨G.gl, i * 4, none⟩ (vi 2)).setCell ⟨G.gl, i * 4, none⟩ (vi 3)) (G.view.put i (closeB (G.view.blk i))) M := by
  have e : ∀ z, (G.l.set i z).getD i default = z := fun z => by rw [blk_set _ _ _ _ hi, if_pos rfl]
  have h1 := h.cell hi (j := 0) (by decide) (vi 2) { G.l.getD i default with s := 2 } rfl
  have h2 := h1.trans (h1.at_.cell (i := i) (j := 0) (by simpa [Mg.put] using hi) (by decide) (vi 3) { G.l.getD i default with s := 3 } (by dsimp only [MgM.lay, Mg.put, MgM.view]; rw [e]; rfl))
  have hq : closeB (G.view.blk i) = { G.l.getD i default with s := 3 } := by unfold closeB; rw [if_pos hl]
  rw [hq]
  simpa only [MgM.lay, Mg.put, MgM.view, List.set_set, Nat.add_zero] using h2
theorem Held.closed1 (h : Held base w m G M) {i : Nat} (hi : i < G.l.length) (hl : ¬ (G.l.getD i default).l = 0) : HGoes base w m G M (w.setCell ⟨G.gl, i * 4, none⟩ (vi 2)) (G.view.put i (closeB (G.view.blk i))) M := by
  have h1 := h.cell hi (j := 0) (by decide) (vi 2) { G.l.getD i default with s := 2 } rfl
  have hq : closeB (G.view.blk i) = { G.l.getD i default with s := 2 } := by unfold closeB; rw [if_neg hl]
  rw [hq]
  exact h1
theorem HGoes.shut {g' : Mg} {M' : ChM} (h : HGoes base w m G M w' g' M') {i : Nat} (ha : (i : Int) = g'.at_) : HGoes base w m G M (w'.setCell ⟨m, 2, none⟩ (vi (-1))) (g'.shut i) M' := by
  have := h.trans (h.at_.field 2 (vi (-1)) { g' with at_ := -1 } rfl rfl)
  have e : g'.shut i = { g' with at_ := -1 } := by unfold Mg.shut; rw [if_pos ha]
  rw [e]
  exact this
theorem HGoes.shutNo {g' : Mg} {M' : ChM} (h : HGoes base w m G M w' g' M') {i : Nat} (ha : ¬ (i : Int) = g'.at_) : HGoes base w m G M w' (g'.shut i) M' := by
  have e : g'.shut i = g' := by unfold Mg.shut; rw [if_neg ha]
  rw [e]
  exact h
set_option maxRecDepth 100000 in
set_option maxHeartbeats 1000000 in
theorem close_any (h : Held base w m G M) (i : Nat) (hi : i < G.l.length) : Calls Try.prog 81 #[ptr m, vi i] w fun e w' => e = .returned (.tuple #[]) ∧ HGoes base w m G M w' (G.view.close i) M := by
  obtain ⟨c0, c1, c2, c3, c4, c5⟩ := h.cells
  have z0 := h.mgr.row.frozen (i * 4)
  have z2 := h.mgr.mgr.frozen 2
  have hne := h.ne
  have hi0 : (0 : Int) ≤ (i : Int) := by omega
  have hi1 : (i : Int) < (G.l.length : Int) := by omega
  obtain ⟨d0, d1, d2, d3⟩ := h.bcells hi
  have hne' : ¬ G.gl = m := fun e => hne e.symm
  have HA : Hid (G.view.close i = (G.view.put i (closeB (G.view.blk i))).shut i) := Lib.hid rfl
  have HAT : Hid ((G.view.put i (closeB (G.view.blk i))).at_ = G.at_) := Lib.hid rfl
  by_cases hl : (G.l.getD i default).l = 0
  · have HG := Lib.hid (h.closed0 hi hl)
    rw [hl] at d1
    clear c0 c3 c4 c5 d2 d3 h hi hl
    by_cases ha : (i : Int) = G.at_
    · have hq : ((i : Int) == G.at_) = true := by simp [ha]
      have HE := Lib.hid (HG.out.shut (i := i) ha)
      clear HG ha HAT
      generalize G.view.close i = V at *
      generalize (G.view.put i (closeB (G.view.blk i))).shut i = V' at *
      go_enter Try.func81, Try.ntmps81
      go_wp2_with fail
      go_end0
      exact ⟨rfl, by rw [HA.out]; exact HE.out⟩
    · have hq : ((i : Int) == G.at_) = false := by simp [ha]
      have HE := Lib.hid (HG.out.shutNo (i := i) ha)
      clear HG ha HAT
      generalize G.view.close i = V at *
      generalize (G.view.put i (closeB (G.view.blk i))).shut i = V' at *
      go_enter Try.func81, Try.ntmps81
      go_wp2_with fail
      go_end0
      exact ⟨rfl, by rw [HA.out]; exact HE.out⟩
  · have HG := Lib.hid (h.closed1 hi hl)
    have hl' : ((G.l.getD i default).l == 0) = false := by simpa using hl
    generalize (G.l.getD i default).l = n at *
    clear c0 c3 c4 c5 d2 d3 h hi hl
    by_cases ha : (i : Int) = G.at_
    · have hq : ((i : Int) == G.at_) = true := by simp [ha]
      have HE := Lib.hid (HG.out.shut (i := i) ha)
      clear HG ha HAT
      generalize G.view.close i = V at *
      generalize (G.view.put i (closeB (G.view.blk i))).shut i = V' at *
      go_enter Try.func81, Try.ntmps81
      go_wp2_with fail
      go_end0
      exact ⟨rfl, by rw [HA.out]; exact HE.out⟩
    · have hq : ((i : Int) == G.at_) = false := by simp [ha]
      have HE := Lib.hid (HG.out.shutNo (i := i) ha)
      clear HG ha HAT
      generalize G.view.close i = V at *
      generalize (G.view.put i (closeB (G.view.blk i))).shut i = V' at *
      go_enter Try.func81, Try.ntmps81
      go_wp2_with fail
      go_end0
      exact ⟨rfl, by rw [HA.out]; exact HE.out⟩
theorem bestTo_step (P : gcs.Blk → Bool) (Q : gcs.Blk → gcs.Blk → Bool) (bs : List gcs.Blk) (k : Nat) : gcs.bestTo P Q bs (k + 1) = if P (bs.getD k default) && (decide (gcs.bestTo P Q bs k < 0) || Q (bs.getD k default) (bs.getD (gcs.bestTo P Q bs k).toNat default)) then (k : Int) else gcs.bestTo P Q bs k := rfl
theorem HGoes.openAt {g' : Mg} (h : HGoes base w m G M w' g' M) {i : Nat} (hi : i < g'.l.length) : HGoes base w m G M (((((w'.setCell ⟨G.gl, i * 4, none⟩ (vi 1)).setCell ⟨G.gl, i * 4 + 1, none⟩ (vi 0)).setCell ⟨G.gl, i * 4 + 2, none⟩ (vi (g'.blk i).r)).setCell ⟨G.gl, i * 4 + 3, none⟩ (vi 0)).setCell ⟨m, 2, none⟩ (vi i)) (g'.openAt i) M := by
  have h1 := h.trans (h.at_.block hi ⟨1, 0, (g'.blk i).r, 0⟩)
  exact h1.trans (h1.at_.field 2 (vi i) (g'.openAt i) rfl rfl)
theorem alloc_below (w : World) (o : Obj) : Below w.heap.size w (w.alloc o) := (Below.refl _ _).alloc (Nat.le_refl _) o
set_option maxRecDepth 100000 in
set_option maxHeartbeats 2000000 in
theorem begin_any (h : Held base w m G M) : Calls Try.prog 80 #[ptr m] w fun e w' => e = .returned (.bool (decide (0 ≤ G.view.freeI))) ∧ HGoes base w m G M w' G.view.begun M := by
  obtain ⟨c0, c1, c2, c3, c4, c5⟩ := h.cells
  have hlen : G.l.length ≤ 9223372036854775807 := by obtain ⟨cur, _, h1, h2, _⟩ := h.mgr.row.blk; unfold maxLen at h2; omega
  have hne := h.ne
  have hgl := h.mgr.row.lt
  have hml := h.mgr.mgr.lt
  have H := Lib.hid h
  clear c0 c2 c3 c4 c5 h
  go_enter Try.func80, Try.ntmps80
  go_wp2_with fail
  go_loopw [3, 11] (fun at_ i wr => ∃ k : Nat, k ≤ G.l.length ∧ i = vi k ∧ at_ = vi (gcs.bestTo freeB gcs.wornB G.l k) ∧ Below w.heap.size w wr) (fun _ i _ => G.l.length - (intOf i).toNat)
  case atStart => exact ⟨0, Nat.zero_le _, rfl, rfl, Below.refl _ _⟩
  case round =>
    obtain ⟨k, hk, rfl, rfl, hb⟩ := hrel
    have hbd := gcs.bestTo_bd freeB gcs.wornB G.l k
    by_cases hlt : k < G.l.length
    · have H1 := Lib.hid (H.out.old hb)
      obtain ⟨d0, d1, d2, d3⟩ := H1.out.bcells hlt
      have c1' : wr.cell? ⟨m, 1, none⟩ = some (.slice (some ⟨G.gl, 0, none⟩) G.l.length G.cl) := H1.out.cells.2.1
      have hst := Lib.hid (bestTo_step freeB gcs.wornB G.l k)
      generalize hnx : gcs.bestTo freeB gcs.wornB G.l (k + 1) = nx at *
      generalize hat : gcs.bestTo freeB gcs.wornB G.l k = at_ at *
      have HAT := Lib.hid hat
      have HBA : Hid (0 ≤ at_ → at_.toNat < G.l.length) := Lib.hid (by omega)
      generalize G.l.getD k default = x at *
      obtain ⟨xs, xl, xr, xn⟩ := x
      dsimp only at *
      have HW : Hid (Below w.heap.size w (wr.alloc (.cells #[vi xs, vi xl, vi xr, vi xn] 121))) := Lib.hid (hb.alloc hb.size _)
      have F0 : (wr.alloc (.cells #[vi xs, vi xl, vi xr, vi xn] 121)).cell? ⟨wr.heap.size, 0, none⟩ = some (vi xs) := (Blk.new _ _ _).cell 0
      have F2 : (wr.alloc (.cells #[vi xs, vi xl, vi xr, vi xn] 121)).cell? ⟨wr.heap.size, 2, none⟩ = some (vi xr) := (Blk.new _ _ _).cell 2
      have C1 : (wr.alloc (.cells #[vi xs, vi xl, vi xr, vi xn] 121)).cell? ⟨m, 1, none⟩ = some (.slice (some ⟨G.gl, 0, none⟩) G.l.length G.cl) := cell_below c1' (alloc_below _ _)
      have fin : ∀ (y : Int) (W : World), nx = y → Below w.heap.size w W → ∃ k' : Nat, k' ≤ G.l.length ∧ vi ((k : Int) + 1) = vi k' ∧ vi y = vi (gcs.bestTo freeB gcs.wornB G.l k') ∧ Below w.heap.size w W :=
        fun y W hy hW => ⟨k + 1, by omega, by simp, by rw [hnx, hy], hW⟩
      have FIN := Lib.hid fin
      have H2 := Lib.hid (H1.out.old (alloc_below wr (.cells #[vi xs, vi xl, vi xr, vi xn] 121)))
      clear fin hat hb H1 hnx
      by_cases hs : xs = 0
      · have hsq : (xs == 0) = true := beq_iff_eq.2 hs
        by_cases ha : at_ = -1
        · have hq : (at_ == -1) = true := beq_iff_eq.2 ha
          have HN : Hid (nx = (k : Int)) := Lib.hid (by rw [hst.out, if_pos]; simp [freeB, hs, ha])
          clear hs ha hst
          go_upto_region 5 with fail
          clear d0 d1 d2 d3 c1'
          generalize wr.alloc (.cells #[vi xs, vi xl, vi xr, vi xn] 121) = w1 at *
          go_quiet (fail)
          go_wp2_with fail
          go_roundw
          case rel => exact FIN.out _ _ HN.out (below_drewN HW.out _)
          case measure => simp [intOf]; omega
        · have hq : (at_ == -1) = false := beq_eq_false_iff_ne.2 ha
          obtain ⟨j, rfl⟩ : ∃ j : Nat, at_ = j := ⟨at_.toNat, by omega⟩
          have hj : j < G.l.length := by omega
          have hj0 : (0 : Int) ≤ (j : Int) := by omega
          have hj1 : (j : Int) < (G.l.length : Int) := by omega
          have e2 := (H2.out.bcells hj).2.2.1
          have HN : Hid (nx = if xr < (G.l.getD j default).r then (k : Int) else (j : Int)) := Lib.hid (by
            rw [hst.out]
            have : ¬ (j : Int) < 0 := by omega
            by_cases hy : xr < (G.l.getD j default).r
            · rw [if_pos hy, if_pos]; simp only [freeB, hs, gcs.wornB, Int.toNat_natCast, decide_eq_true hy]; simp
            · rw [if_neg hy, if_neg]; simp only [freeB, hs, gcs.wornB, Int.toNat_natCast, decide_eq_false hy]; simp)
          generalize (G.l.getD j default).r = yr at *
          clear hs ha hst
          by_cases hy : xr < yr
          · have hyd : decide (xr < yr) = true := decide_eq_true hy
            rw [if_pos hy] at HN
            go_upto_region 5 with fail
            clear d0 d1 d2 d3 c1'
            generalize wr.alloc (.cells #[vi xs, vi xl, vi xr, vi xn] 121) = w1 at *
            go_quiet (fail)
            go_wp2_with fail
            go_roundw
            case rel => exact FIN.out _ _ HN.out (below_drewN HW.out _)
            case measure => simp [intOf]; omega
          · have hyd : decide (xr < yr) = false := decide_eq_false hy
            rw [if_neg hy] at HN
            go_upto_region 5 with fail
            clear d0 d1 d2 d3 c1'
            generalize wr.alloc (.cells #[vi xs, vi xl, vi xr, vi xn] 121) = w1 at *
            go_quiet (fail)
            go_wp2_with fail
            go_roundw
            case rel => exact FIN.out _ _ HN.out (below_drewN HW.out _)
            case measure => simp [intOf]; omega
      · have hsq : (xs == 0) = false := beq_eq_false_iff_ne.2 hs
        have HN : Hid (nx = at_) := Lib.hid (by rw [hst.out, if_neg]; simp [freeB, hs])
        clear hs hst
        go_upto_region 5 with fail
        clear d0 d1 d2 d3 c1'
        generalize wr.alloc (.cells #[vi xs, vi xl, vi xr, vi xn] 121) = w1 at *
        go_quiet (fail)
        go_wp2_with fail
        go_roundw
        case rel => exact FIN.out _ _ HN.out (below_drewN HW.out _)
        case measure => simp [intOf]; omega
    · obtain rfl : k = G.l.length := by omega
      have HG := Lib.hid (HGoes.of_old H.out hb)
      have HB := Lib.hid hb
      generalize hat : gcs.bestTo freeB gcs.wornB G.l G.l.length = at_ at *
      have HF : Hid (G.view.freeI = at_) := Lib.hid hat
      clear hat
      by_cases ha : at_ = -1
      · have hq : (at_ == -1) = true := beq_iff_eq.2 ha
        have HQ : Hid (G.view.begun = G.view ∧ decide (0 ≤ G.view.freeI) = false) := Lib.hid (by
          refine ⟨?_, ?_⟩
          · unfold Mg.begun; rw [HF.out, if_pos (by omega)]
          · rw [HF.out]; simp [ha])
        clear ha hb
        go_wp2_with fail
        go_ret
        exact ⟨ret_bool HQ.out.2.symm, by rw [HQ.out.1]; exact HG.out⟩
      · have hq : (at_ == -1) = false := beq_eq_false_iff_ne.2 ha
        obtain ⟨j, rfl⟩ : ∃ j : Nat, at_ = j := ⟨at_.toNat, by omega⟩
        have hj : j < G.l.length := by omega
        have hj0 : (0 : Int) ≤ (j : Int) := by omega
        have hj1 : (j : Int) < (G.l.length : Int) := by omega
        have HQ : Hid (G.view.begun = G.view.openAt j ∧ decide (0 ≤ G.view.freeI) = true) := Lib.hid (by
          refine ⟨?_, ?_⟩
          · unfold Mg.begun; rw [HF.out, if_neg (by omega), Int.toNat_natCast]
          · rw [HF.out]; simp)
        have H1 := Lib.hid (H.out.old hb)
        obtain ⟨d0, d1, d2, d3⟩ := H1.out.bcells hj
        have c1' : wr.cell? ⟨m, 1, none⟩ = some (.slice (some ⟨G.gl, 0, none⟩) G.l.length G.cl) := H1.out.cells.2.1
        have c2' : wr.cell? ⟨m, 2, none⟩ = some (vi G.at_) := H1.out.cells.2.2.1
        have z := fun j => H1.out.mgr.row.frozen j
        have z2 := H1.out.mgr.mgr.frozen 2
        have HO := Lib.hid (((HG.out.old (Below.refl _ _).drew).openAt (i := j) hj))
        have hne' : ¬ G.gl = m := fun e => hne e.symm
        have z00 := z (j * 4)
        have z01 := z (j * 4 + 1)
        have z02 := z (j * 4 + 2)
        have z03 := z (j * 4 + 3)
        generalize (G.l.getD j default).s = s at *
        generalize (G.l.getD j default).l = l at *
        change Hid (HGoes base w m G M (((((wr.drew.setCell ⟨G.gl, j * 4, none⟩ (vi 1)).setCell ⟨G.gl, j * 4 + 1, none⟩ (vi 0)).setCell ⟨G.gl, j * 4 + 2, none⟩ (vi (G.l.getD j default).r)).setCell ⟨G.gl, j * 4 + 3, none⟩ (vi 0)).setCell ⟨m, 2, none⟩ (vi j)) _ M) at HO
        generalize (G.l.getD j default).r = r at *
        generalize (G.l.getD j default).n = n at *
        clear ha hb z H1 HG
        go_wp2_with fail
        go_still_tail 15, (by kernel_rfl)
        change wpList _ _ _ _ _ wr.drew
        go_wp2_with fail
        go_ret
        exact ⟨ret_bool HQ.out.2.symm, by rw [HQ.out.1]; exact HO.out⟩
end

end Go.Proofs.Ytpggkehfbhffbaa.mgr

/-
  The fixed calls of chapter 2 answer as they should. No conditions.
-/
namespace Go.Proofs.Ytpggkehfbhffbaa
open Go.RowKit

def zs96 : List Nat := List.replicate 96 0
theorem zs96_small : ∀ x ∈ zs96, x < 256 := by intro x hx; rw [(List.mem_replicate.1 hx).2]; decide
def kV0 : NP.Chp := NP.blank 8 4 64
theorem kV0_ok : kV0.ok := NP.blank_ok rfl
def kV1 : NP.Chp := (NP.program kV0 0 0 zs96).2
theorem kV1_ok : kV1.ok := (NP.act_ok kV0_ok (by intro f hf; cases hf) (.program 0 0 zs96) zs96_small).1
def kV2 : NP.Chp := (NP.erase kV1 0).2
theorem kV2_ok : kV2.ok := (NP.act_ok kV1_ok (by intro f hf; cases hf) (.erase 0) trivial).1
theorem k1 : NP.program kV0 0 1 zs96 = (10, kV0) := by kernel_rfl
theorem k2 : NP.program kV0 0 0 zs96 = (0, kV1) := by kernel_rfl
theorem k3 : NP.program kV1 0 0 zs96 = (10, kV1) := by kernel_rfl
theorem k4 : NP.erase kV1 0 = (0, kV2) := by kernel_rfl

section
variable {base : Nat} {w : World} {k : Nat} {M : ChM}
theorem Program_96 (h : ChipAt base w k M) (hok : M.view.ok) (p : Int) (a : Option Addr) (hr : SRow base w a zs96) (c : Nat) : Calls Try.prog 21 #[ptr k, vi 0, vi p, .slice a 96 c] w (ActPost base w k M (NP.program M.view 0 p zs96)) := by
  have := Program_any h hok 0 p a zs96 c hr
  rw [show zs96.length = 96 from List.length_replicate ..] at this
  exact this
theorem wear_view (M : ChM) (j : Int) (hB : M.bs.length = M.B) : wearM M j = NP.wearAt M.view j := by
  have hB' : (M.view.B : Int) = M.bs.length := by rw [hB]; rfl
  unfold wearM NP.wearAt
  rw [hB']
  by_cases h : 0 ≤ j ∧ j < M.bs.length
  · rw [if_pos h, if_pos h, view_blk (by omega)]
    rfl
  · rw [if_neg h, if_neg h]
end
set_option maxHeartbeats 2000000 in
theorem known02_any (w : World) : Calls Try.prog 12 #[] w fun e w' => e = .returned (.bool true) ∧ Below w.heap.size w w' := by
  have hmk : ∀ w : World, (Instr.makeSlice 32 (.int .i64 96) (.int .i64 96)).run Try.prog w = .ok (.slice (some ⟨w.heap.size, 0, none⟩) 96 96) (w.alloc (.cells (madeCells #[vb 0] 96) 5)) := fun w => make_bytes 96 (by omega) w
  go_enter Try.func12, Try.ntmps12
  go_wp2_with fail
  refine (New_any w.heap.size 8 4 64 none [] 0 _ (.inl rfl) (Nat.zero_le _) (Nat.le_refl _)).mono ?_
  rintro e w1 hn
  rw [show NP.new 8 4 64 [] = some kV0 from rfl] at hn
  obtain ⟨k, M, rfl, hm, hv⟩ := hn
  have HM := Lib.hid hm
  have HV := Lib.hid hv
  clear hm hv
  go_wp2_with fail
  have HR0 := Lib.hid (own_zeros w1 96 (by omega))
  have HM1 := Lib.hid (HM.out.at_.old ((Below.refl _ w1).alloc (Nat.le_refl _) (.cells (madeCells #[vb 0] 96) 5)))
  have HB1 := Lib.hid (HM.out.below.alloc HM.out.below.size (.cells (madeCells #[vb 0] 96) 5))
  have HOWN := Lib.hid HM.out.own
  clear hmk HM
  generalize w1.alloc (.cells (madeCells #[vb 0] 96) 5) = w2 at *
  generalize w1.heap.size = g at *
  obtain ⟨a, c, ha, hs, -⟩ := HR0.out.srow (base := w.heap.size) zs96_small
  rw [List.length_replicate] at ha
  injection ha with ha1 _ ha3
  subst ha1 ha3
  have HS := Lib.hid hs
  clear hs HR0
  refine (Program_96 HM1.out (by rw [HV.out]; exact kV0_ok) 1 _ HS.out 96).mono ?_
  rw [HV.out, k1]
  rintro e w3 ⟨M3, rfl, hg3, hv3⟩
  have HG3 := Lib.hid hg3
  have HV3 : Hid (M3.view = kV0) := Lib.hid hv3
  have HS3 := Lib.hid (HS.out.chg hg3.chg HM1.out.mine)
  clear hg3 hv3 HS
  go_wp2_with fail
  refine (Program_96 HG3.out.at_ (by rw [HV3.out]; exact kV0_ok) 0 _ HS3.out 96).mono ?_
  rw [HV3.out]
  rw [k2]
  rintro e w4 ⟨M4, rfl, hg4, hv4⟩
  have HG4 := Lib.hid (HG3.out.trans hg4)
  have HV4 : Hid (M4.view = kV1) := Lib.hid hv4
  have HS4 := Lib.hid (HS3.out.chg hg4.chg HG3.out.at_.mine)
  clear hg4 hv4 HS3 HG3
  go_wp2_with fail
  refine (Program_96 HG4.out.at_ (by rw [HV4.out]; exact kV1_ok) 0 _ HS4.out 96).mono ?_
  rw [HV4.out]
  rw [k3]
  rintro e w5 ⟨M5, rfl, hg5, hv5⟩
  have HG5 := Lib.hid (HG4.out.trans hg5)
  have HV5 : Hid (M5.view = kV1) := Lib.hid hv5
  clear hg5 hv5 HS4 HG4
  go_wp2_with fail
  refine (Erase_any HG5.out.at_ (by rw [HV5.out]; exact kV1_ok) 0).mono ?_
  rw [HV5.out]
  rw [k4]
  rintro e w6 ⟨M6, rfl, hg6, hv6⟩
  have HG6 := Lib.hid (HG5.out.trans hg6)
  have HV6 : Hid (M6.view = kV2) := Lib.hid hv6
  have hw6 : wearM M6 0 = 1 := by rw [wear_view _ _ (ok_len (by rw [hv6]; exact kV2_ok)), hv6]; kernel_rfl
  have hs6 : M6.strokes = 2 := by
    have : M6.view.strokes = 2 := by rw [hv6]; kernel_rfl
    exact this
  have HW6 := Lib.hid hw6
  have HS6 := Lib.hid hs6
  clear hg6 hv6 HG5 hw6 hs6
  go_wp2_with fail
  refine (Wear_any HG6.out.at_ 0).mono ?_
  rintro e w' ⟨rfl, rfl⟩
  rw [HW6.out]
  go_wp2_with fail
  refine (Strokes_any HG6.out.at_).mono ?_
  rintro e w' ⟨rfl, rfl⟩
  rw [HS6.out]
  go_wp2_with fail
  go_ret
  exact ⟨rfl, HB1.out.trans (HG6.out.chg.to_below (fun n _ hn => HOWN.out n hn) HB1.out.size)⟩

end Go.Proofs.Ytpggkehfbhffbaa

/-
  A manager of a chip's blocks: a page dropped, a block asked whether it is idle, a block gone. Conditions: a manager and its chip told by Held.
-/
namespace Go.Proofs.Ytpggkehfbhffbaa.mgr
open Go.RowKit

section
variable {base : Nat} {w w' : World} {m : Nat} {G : MgM} {M : ChM}
theorem there_yes {g : Mg} {k : Int} (h : g.there k = true) : ∃ i : Nat, k = i ∧ i < g.l.length ∧ (g.blk i).s ≠ 4 := by
  unfold Mg.there at h
  simp only [Bool.and_eq_true, decide_eq_true_eq, bne_iff_ne, ne_eq] at h
  exact ⟨k.toNat, by omega, by omega, h.2⟩
def HPost (base : Nat) (w : World) (m : Nat) (G : MgM) (M : ChM) (r : Int × NP.Chp × Mg) (e : Ending) (w' : World) : Prop :=
  ∃ M', e = .returned (vi r.1) ∧ HGoes base w m G M w' r.2.2 M' ∧ M'.view = r.2.1
theorem HPost.mk {r : Int × NP.Chp × Mg} {n : Int} {V : NP.Chp} {g' : Mg} (hr : r = (n, V, g')) {M' : ChM} (hg : HGoes base w m G M w' g' M') (hv : M'.view = V) : HPost base w m G M r (.returned (vi n)) w' :=
  ⟨M', by rw [hr], by rw [hr]; exact hg, by rw [hr]; exact hv⟩
set_option maxRecDepth 100000 in
set_option maxHeartbeats 2000000 in
theorem Drop_any (h : Held base w m G M) (hok : G.view.ok M.view) (hP32 : M.P ≤ 32) (k : Int) : Calls Try.prog 40 #[ptr m, vi k] w fun e w' => e = .returned (vi (G.view.drop k).1) ∧ HGoes base w m G M w' (G.view.drop k).2 M := by
  have HT := Lib.hid (there_any h k)
  cases ht : G.view.there k
  · have HQ : Hid (G.view.drop k = (1, G.view)) := Lib.hid (by unfold Mg.drop; rw [if_pos (.inl ht)])
    have H := Lib.hid h
    rw [ht] at HT
    clear ht h hok
    go_enter Try.func40, Try.ntmps40
    go_wp2_with fail
    refine HT.out.mono ?_
    rintro e w' ⟨rfl, rfl⟩
    go_wp2_with fail
    go_ret
    exact ⟨ret_int (by rw [HQ.out]), by rw [HQ.out]; exact HGoes.refl H.out⟩
  · obtain ⟨i, rfl, hi, hs4⟩ := there_yes ht
    obtain ⟨c0, c1, c2, c3, c4, c5⟩ := h.cells
    obtain ⟨d0, d1, d2, d3⟩ := h.bcells hi
    have hi0 : (0 : Int) ≤ (i : Int) := by omega
    have hi1 : (i : Int) < (G.l.length : Int) := by
      have : i < G.l.length := hi
      omega
    have hr := hok.rng _ (blk_mem hi)
    have hP : M.view.P = M.P := rfl
    have HDEF : Hid (G.view.drop i = if G.view.there i = false ∨ (G.l.getD i default).l = 0 then (1, G.view) else (0, G.view.put i { G.l.getD i default with l := (G.l.getD i default).l - 1, s := if (G.l.getD i default).s = 2 ∧ (G.l.getD i default).l - 1 = 0 then 3 else (G.l.getD i default).s })) := Lib.hid (by
      unfold Mg.drop; simp only [Int.toNat_natCast])
    rw [ht] at HT HDEF
    have H := Lib.hid h
    have HI := Lib.hid hi
    by_cases hl : (G.l.getD i default).l = 0
    · have HQ : Hid (G.view.drop i = (1, G.view)) := Lib.hid (by rw [HDEF.out, if_pos (.inr hl)])
      rw [hl] at d1
      clear ht h hok hr hl d0 d2 d3 hs4 c0 c2 c3 c4 c5 hi HDEF
      go_enter Try.func40, Try.ntmps40
      go_wp2_with fail
      refine HT.out.mono ?_
      rintro e w' ⟨rfl, rfl⟩
      go_wp2_with fail
      go_ret
      exact ⟨ret_int (by rw [HQ.out]), by rw [HQ.out]; exact HGoes.refl H.out⟩
    · have HQ : Hid (G.view.drop i = (0, G.view.put i { G.l.getD i default with l := (G.l.getD i default).l - 1, s := if (G.l.getD i default).s = 2 ∧ (G.l.getD i default).l - 1 = 0 then 3 else (G.l.getD i default).s })) := Lib.hid (by
        rw [HDEF.out, if_neg (by simpa using hl)])
      have hb := hP32
      have hlb : 0 ≤ (G.l.getD i default).l ∧ (G.l.getD i default).l ≤ 32 := ⟨hr.2.2.1, by have h1 : (G.l.getD i default).l ≤ M.view.P := hr.2.2.2.1; omega⟩
      have h1 := h.cell hi (j := 1) (by decide) (vi ((G.l.getD i default).l - 1)) { G.l.getD i default with l := (G.l.getD i default).l - 1 } rfl
      have h2 := h1.trans (h1.at_.cell (i := i) (j := 0) (by simpa [Mg.put] using hi) (by decide) (vi 3) { G.l.getD i default with l := (G.l.getD i default).l - 1, s := 3 } (by dsimp only [MgM.lay, Mg.put, MgM.view]; rw [blk_set _ _ _ _ hi, if_pos rfl]; rfl))
      simp only [Mg.put, List.set_set, Nat.add_zero] at h1 h2
      have H1 := Lib.hid h1
      have H2 := Lib.hid h2
      have z0 := h.mgr.row.frozen (i * 4)
      have z1 := h.mgr.row.frozen (i * 4 + 1)
      clear h1 h2 HDEF ht h hok hr hs4 c0 c2 c3 c4 c5 hi d2 d3 hb HI
      generalize hxl : (G.l.getD i default).l = xl at *
      generalize hxs : (G.l.getD i default).s = xs at *
      have q1 : IntKind.i64.wrap (xl - 1) = xl - 1 := IntWalk.i64_in _ (by omega)
      have hl' : (xl == 0) = false := beq_eq_false_iff_ne.2 hl
      have hne : ¬ m = G.gl := H.out.ne
      clear hxl hxs
      by_cases h2s : xs = 2
      · have hs' : (xs == 2) = true := beq_iff_eq.2 h2s
        by_cases h1l : xl - 1 = 0
        · have hl'' : (xl - 1 == 0) = true := beq_iff_eq.2 h1l
          rw [if_pos ⟨h2s, h1l⟩] at HQ
          clear h2s h1l hl
          go_enter Try.func40, Try.ntmps40
          go_wp2_with fail
          refine HT.out.mono ?_
          rintro e w' ⟨rfl, rfl⟩
          go_wp2_with fail
          go_ret
          exact ⟨ret_int (by rw [HQ.out]), by rw [HQ.out]; exact H2.out⟩
        · have hl'' : (xl - 1 == 0) = false := beq_eq_false_iff_ne.2 h1l
          rw [if_neg (by simp [h1l])] at HQ
          clear h2s h1l hl
          go_enter Try.func40, Try.ntmps40
          go_wp2_with fail
          refine HT.out.mono ?_
          rintro e w' ⟨rfl, rfl⟩
          go_wp2_with fail
          go_ret
          exact ⟨ret_int (by rw [HQ.out]), by rw [HQ.out]; exact H1.out⟩
      · have hs' : (xs == 2) = false := beq_eq_false_iff_ne.2 h2s
        rw [if_neg (by simp [h2s])] at HQ
        clear h2s hl
        go_enter Try.func40, Try.ntmps40
        go_wp2_with fail
        refine HT.out.mono ?_
        rintro e w' ⟨rfl, rfl⟩
        go_wp2_with fail
        go_ret
        exact ⟨ret_int (by rw [HQ.out]), by rw [HQ.out]; exact H1.out⟩
def idleV (M : ChM) (g : Mg) (k : Int) : Int := g.idle M.view k
set_option maxRecDepth 100000 in
set_option maxHeartbeats 1000000 in
theorem idle_any (h : Held base w m G M) (k : Int) : Calls Try.prog 88 #[ptr m, vi k] w fun e w' => e = .returned (vi (G.view.idle M.view k)) ∧ w' = w := by
  have HT := Lib.hid (there_any h k)
  have HR := Lib.hid (ready_any h)
  have HDEF : Hid (G.view.idle M.view k = if M.down then 4 else if G.view.there k = false ∨ 0 < (G.l.getD k.toNat default).l then 1 else 0) := Lib.hid rfl
  cases hd : M.down
  · rw [hd] at HR HDEF
    rw [if_neg (by decide)] at HDEF HR
    cases ht : G.view.there k
    · rw [ht] at HT
      rw [if_pos (.inl ht)] at HDEF
      clear h ht hd
      go_enter Try.func88, Try.ntmps88
      go_wp2_with fail
      refine HR.out.mono ?_
      rintro e w' ⟨rfl, rfl⟩
      go_wp2_with fail
      refine HT.out.mono ?_
      rintro e w' ⟨rfl, rfl⟩
      go_wp2_with fail
      go_ret
      exact ⟨ret_int HDEF.out.symm, rfl⟩
    · obtain ⟨i, rfl, hi, hs4⟩ := there_yes ht
      obtain ⟨c0, c1, c2, c3, c4, c5⟩ := h.cells
      obtain ⟨d0, d1, d2, d3⟩ := h.bcells hi
      have hi0 : (0 : Int) ≤ (i : Int) := by omega
      have hi1 : (i : Int) < (G.l.length : Int) := by
        have : i < G.l.length := hi
        omega
      rw [ht] at HT HDEF
      rw [Int.toNat_natCast] at HDEF
      clear h ht hd c0 c2 c3 c4 c5 hs4 hi d0 d2 d3
      generalize (G.l.getD i default).l = xl at *
      by_cases hl : 0 < xl
      · rw [if_pos (.inr hl)] at HDEF
        go_enter Try.func88, Try.ntmps88
        go_wp2_with fail
        refine HR.out.mono ?_
        rintro e w' ⟨rfl, rfl⟩
        go_wp2_with fail
        refine HT.out.mono ?_
        rintro e w' ⟨rfl, rfl⟩
        go_wp2_with fail
        go_ret
        exact ⟨ret_int HDEF.out.symm, rfl⟩
      · rw [if_neg (by simp [hl])] at HDEF
        go_enter Try.func88, Try.ntmps88
        go_wp2_with fail
        refine HR.out.mono ?_
        rintro e w' ⟨rfl, rfl⟩
        go_wp2_with fail
        refine HT.out.mono ?_
        rintro e w' ⟨rfl, rfl⟩
        go_wp2_with fail
        go_ret
        exact ⟨ret_int HDEF.out.symm, rfl⟩
  · rw [hd] at HR HDEF
    rw [if_pos rfl] at HDEF HR
    clear h hd HT
    go_enter Try.func88, Try.ntmps88
    go_wp2_with fail
    refine HR.out.mono ?_
    rintro e w' ⟨rfl, rfl⟩
    go_wp2_with fail
    go_ret
    exact ⟨ret_int HDEF.out.symm, rfl⟩
end

end Go.Proofs.Ytpggkehfbhffbaa.mgr

/-
  A manager of a chip's blocks: a block gone, a block retired. Conditions: a manager and its chip told by Held.
-/
namespace Go.Proofs.Ytpggkehfbhffbaa.mgr
open Go.RowKit

section
variable {base : Nat} {w w' : World} {m : Nat} {G : MgM} {M : ChM}
theorem other4 {gl o : Nat} {v0 v1 v2 v3 : Value} {p : Addr} (hp : gl ≠ p.block) : ((((w.setCell ⟨gl, o, none⟩ v0).setCell ⟨gl, o + 1, none⟩ v1).setCell ⟨gl, o + 2, none⟩ v2).setCell ⟨gl, o + 3, none⟩ v3).cell? p = w.cell? p := by
  have : ∀ o', (⟨gl, o', none⟩ : Addr) ≠ p := fun o' e => hp (by rw [← e])
  rw [World.cell?_setCell_other _ _ _ _ (this _), World.cell?_setCell_other _ _ _ _ (this _), World.cell?_setCell_other _ _ _ _ (this _), World.cell?_setCell_other _ _ _ _ (this _)]
theorem wearM_view (M : ChM) (hok : M.view.ok) (j : Int) : wearM M j = NP.wearAt M.view j := wear_view M j (ok_len hok)
set_option maxRecDepth 100000 in
set_option maxHeartbeats 4000000 in
theorem gone_any (h : Held base w m G M) (hok : M.view.ok) (i : Nat) (hi : i < G.l.length) : Calls Try.prog 89 #[ptr m, vi i] w (HPost base w m G M (G.view.gone M.view i)) := by
  obtain ⟨c0, c1, c2, c3, c4, c5⟩ := h.cells
  have HM := Lib.hid (Mark_any h.chip hok i)
  have HDEF : Hid (G.view.gone M.view i = if (NP.mark M.view i).1 = 0 then (0, (NP.mark M.view i).2, (G.view.put i ⟨4, 0, NP.wearAt (NP.mark M.view i).2 i, 0⟩).shut i) else ((NP.mark M.view i).1, (NP.mark M.view i).2, G.view)) := Lib.hid rfl
  have hact := (NP.act_ok hok (faults_small h.chip.faults) (.mark i) trivial).1
  change (NP.mark M.view i).2.ok at hact
  have hPB : (NP.mark M.view i).2.P = M.view.P ∧ (NP.mark M.view i).2.B = M.view.B := by
    unfold NP.mark; dsimp only; split
    · exact ⟨rfl, rfl⟩
    · exact ⟨rfl, rfl⟩
  have H := Lib.hid h
  have hi0 : (0 : Int) ≤ (i : Int) := by omega
  have hi1 : (i : Int) < (G.l.length : Int) := by omega
  have HI := Lib.hid hi
  clear c1 c2 c3 c4 c5 h hok
  generalize hr1 : (NP.mark M.view i).1 = r1 at *
  generalize hr2 : (NP.mark M.view i).2 = V2 at *
  have HOK2 := Lib.hid hact
  have HM2 : Hid (Calls Try.prog 23 #[ptr G.k, vi i] w fun e w' => ∃ M', e = .returned (vi r1) ∧ Goes base w G.k M w' M' ∧ M'.view = V2) := Lib.hid (HM.out.mono (by
    rintro e w' ⟨M', he, hg, hv⟩
    exact ⟨M', by rw [he, hr1], hg, by rw [hv, hr2]⟩))
  clear hr1 hr2 hact HM hPB
  by_cases hz : r1 = 0
  · rw [if_pos hz] at HDEF
    have hzq : (r1 != 0) = false := by simp [hz]
    go_enter Try.func89, Try.ntmps89
    go_wp2_with fail
    refine HM2.out.mono ?_
    rintro e w1 ⟨M', rfl, hg, hv⟩
    have HG1 := Lib.hid (H.out.chipGoes hg)
    have HV := Lib.hid hv
    have hws : wearM M' i = NP.wearAt V2 i := by rw [wearM_view M' (by rw [hv]; exact HOK2.out), hv]
    generalize NP.wearAt V2 i = wr at *
    have HW := Lib.hid (fun w' (hc : ChipAt base w' G.k M') => Wear_any hc i)
    rw [hws] at HW
    have k0 : w1.cell? ⟨m, 0, none⟩ = some (ptr G.k) := HG1.out.at_.cells.1
    have k1 : w1.cell? ⟨m, 1, none⟩ = some (.slice (some ⟨G.gl, 0, none⟩) G.l.length G.cl) := HG1.out.at_.cells.2.1
    have k2 : w1.cell? ⟨m, 2, none⟩ = some (vi G.at_) := HG1.out.at_.cells.2.2.1
    have z2 := HG1.out.at_.mgr.mgr.frozen 2
    have z := fun j => HG1.out.at_.mgr.row.frozen j
    obtain ⟨d0, d1, d2, d3⟩ := HG1.out.at_.bcells HI.out
    clear hg hv hws c0
    have zz0 := z (i * 4)
    have zz1 := z (i * 4 + 1)
    have zz2 := z (i * 4 + 2)
    have zz3 := z (i * 4 + 3)
    have hne : Hid (G.gl ≠ m) := Lib.hid (fun e => H.out.ne e.symm)
    have hne1 : ¬ G.gl = m := hne.out
    have HS : Hid (w1.drew.cell? ⟨m, 0, none⟩ = some (ptr G.k) ∧ w1.drew.cell? ⟨m, 1, none⟩ = some (.slice (some ⟨G.gl, 0, none⟩) G.l.length G.cl)) := Lib.hid ⟨k0, k1⟩
    have HWD := Lib.hid (HW.out _ (HG1.out.at_.chip.old (Below.refl _ _).drew))
    have HFIN := Lib.hid ((HG1.out.old (Below.refl _ _).drew).trans ((HG1.out.old (Below.refl _ _).drew).at_.block (i := i) HI.out ⟨4, 0, wr, 0⟩))
    clear z HW
    go_upto_region 4 with fail
    go_region_held3 (fun w' => w'.cell? ⟨m, 0, none⟩ = some (ptr G.k) ∧ w'.cell? ⟨m, 1, none⟩ = some (.slice (some ⟨G.gl, 0, none⟩) G.l.length G.cl))
      (first
        | exact HS.out
        | exact ⟨(other4 hne.out).trans HS.out.1, (other4 hne.out).trans HS.out.2⟩)
      (first | (go_at_call 34; refine HWD.out.mono ?_; rintro e w' ⟨rfl, rfl⟩))
    change Hid (HGoes base w m G M ((((w1.setCell ⟨G.gl, i * 4, none⟩ (vi 4)).setCell ⟨G.gl, i * 4 + 1, none⟩ (vi 0)).setCell ⟨G.gl, i * 4 + 2, none⟩ (vi wr)).setCell ⟨G.gl, i * 4 + 3, none⟩ (vi 0)).drew (G.view.put i ⟨4, 0, wr, 0⟩) M') at HFIN
    change Exit.then _ _ _ _ ((((w1.setCell ⟨G.gl, i * 4, none⟩ (vi 4)).setCell ⟨G.gl, i * 4 + 1, none⟩ (vi 0)).setCell ⟨G.gl, i * 4 + 2, none⟩ (vi wr)).setCell ⟨G.gl, i * 4 + 3, none⟩ (vi 0)).drew
    clear k0 k1 k2 z2 d0 d1 d2 d3 zz0 zz1 zz2 zz3 HS HWD HG1
    generalize ((((w1.setCell ⟨G.gl, i * 4, none⟩ (vi 4)).setCell ⟨G.gl, i * 4 + 1, none⟩ (vi 0)).setCell ⟨G.gl, i * 4 + 2, none⟩ (vi wr)).setCell ⟨G.gl, i * 4 + 3, none⟩ (vi 0)).drew = w2 at *
    have k2 : w2.cell? ⟨m, 2, none⟩ = some (vi G.at_) := HFIN.out.at_.cells.2.2.1
    have z2 := HFIN.out.at_.mgr.mgr.frozen 2
    by_cases ha : (i : Int) = G.at_
    · have hq : ((i : Int) == G.at_) = true := beq_iff_eq.2 ha
      have HE := Lib.hid (HFIN.out.shut (i := i) ha)
      clear ha
      go_wp2_with fail
      go_ret
      exact HPost.mk HDEF.out HE.out HV.out
    · have hq : ((i : Int) == G.at_) = false := beq_eq_false_iff_ne.2 ha
      have HE := Lib.hid (HFIN.out.shutNo (i := i) ha)
      clear ha
      go_wp2_with fail
      go_ret
      exact HPost.mk HDEF.out HE.out HV.out
  · rw [if_neg hz] at HDEF
    have hzq : (r1 != 0) = true := by simp [hz]
    go_enter Try.func89, Try.ntmps89
    go_wp2_with fail
    refine HM2.out.mono ?_
    rintro e w1 ⟨M', rfl, hg, hv⟩
    have HG1 := Lib.hid (H.out.chipGoes hg)
    have HV := Lib.hid hv
    clear hg hv
    go_wp2_with fail
    go_ret
    exact HPost.mk HDEF.out HG1.out HV.out
set_option maxRecDepth 100000 in
theorem Retire_any (h : Held base w m G M) (hok : M.view.ok) (k : Int) : Calls Try.prog 42 #[ptr m, vi k] w (HPost base w m G M (G.view.retire M.view k)) := by
  have HDEF : Hid (G.view.retire M.view k = if G.view.idle M.view k ≠ 0 then (G.view.idle M.view k, M.view, G.view) else G.view.gone M.view k.toNat) := Lib.hid rfl
  have HI := Lib.hid (idle_any h k)
  have H := Lib.hid h
  have HOK := Lib.hid hok
  by_cases hz : G.view.idle M.view k = 0
  · rw [if_neg (by simp [hz])] at HDEF
    rw [hz] at HI
    obtain ⟨i, rfl, hi, -⟩ : ∃ i : Nat, k = i ∧ i < G.view.l.length ∧ True := by
      unfold Mg.idle at hz
      split at hz
      · simp at hz
      · split at hz
        · simp at hz
        · rename_i h1 h2
          obtain ⟨i, h3, h4, _⟩ := there_yes (k := k) (g := G.view) (by
            cases ht : G.view.there k
            · exact absurd (.inl ht) h2
            · rfl)
          exact ⟨i, h3, h4, trivial⟩
    rw [Int.toNat_natCast] at HDEF
    have HJ := Lib.hid hi
    clear hz h hok hi
    go_enter Try.func42, Try.ntmps42
    go_wp2_with fail
    refine HI.out.mono ?_
    rintro e w' ⟨rfl, rfl⟩
    go_wp2_with fail
    refine (gone_any H.out HOK.out i HJ.out).mono ?_
    rintro e w2 ⟨M', rfl, hg, hv⟩
    have HG := Lib.hid hg
    have HV := Lib.hid hv
    have HX : Hid ((G.view.gone M.view i).1 = (G.view.gone M.view i).1) := Lib.hid rfl
    clear hg hv HX
    generalize G.view.retire M.view i = R at *
    generalize G.view.gone M.view i = R' at *
    obtain rfl := HDEF.out
    go_wp2_with fail
    go_ret
    exact ⟨M', rfl, HG.out, HV.out⟩
  · rw [if_pos hz] at HDEF
    generalize G.view.idle M.view k = n at *
    have hzq : (n != 0) = true := by simp [hz]
    clear h hok hz
    go_enter Try.func42, Try.ntmps42
    go_wp2_with fail
    refine HI.out.mono ?_
    rintro e w' ⟨rfl, rfl⟩
    go_wp2_with fail
    go_ret
    exact HPost.mk HDEF.out (HGoes.refl H.out) rfl
end

end Go.Proofs.Ytpggkehfbhffbaa.mgr

/-
  A row of blocks copied. Conditions: a row that can be read.
-/
namespace Go.Proofs.Ytpggkehfbhffbaa.mgr
open Go.RowKit

theorem row_info : (Try.prog.info? 121).map (fun i => (i.zero, i.size, i.bytes)) = some (some (.agg #[vi 0, vi 0, vi 0, vi 0]), 4, 32) := by kernel_rfl
set_option maxHeartbeats 1000000 in
theorem CloneR_any (a : Option Addr) (n c : Nat) (xs : List Value) (w : World) (hx : xs.length = n * 4) (hc : ∀ ad, a = some ad → ∀ j u, xs[j]? = some u → w.cell? (ad.add j) = some u) (h1 : ∀ u ∈ xs, u.oneCell' = true) (hz : a = none → n = 0) (hn : n ≤ 100000) :
    Calls Try.prog 85 #[.slice a n c] w fun e w' => ∃ v', e = .returned v' ∧ w'.ownsRow w.heap.size 121 4 v' n xs ∧ Below w.heap.size w w' := by
  have hen := fun (w : World) (a : Option Addr) (n c : Nat) => Lib.run_eql_slice_nil (P := Try.prog) w 76 121 a n c 0 0 Try.underlying76
  cases a with
  | none =>
    have h0 := hz rfl
    subst h0
    have hx0 : xs = [] := List.eq_nil_of_length_eq_zero (by omega)
    subst hx0
    clear hx hc h1 hz hn
    go_enter Try.func85, Try.ntmps85
    go_wp2_with fail
    go_ret
    exact ⟨_, rfl, World.ownsRow_nil _ _ _ _, Below.refl _ _⟩
  | some ad =>
    obtain ⟨i0, hi, hz0, hz1, hz2⟩ := info_parts row_info
    have hown : (w.alloc (.cells #[] 121)).ownsRow w.heap.size 121 4 (.slice (some ⟨w.heap.size, 0, none⟩) 0 0) 0 [] := World.ownsRow_lit w #[] 0 (Nat.le_refl _) (Nat.zero_le _) rfl
    have hb := (Below.refl w.heap.size w).alloc (Nat.le_refl _) (.cells #[] 121)
    obtain ⟨v', w', hrun, ho, hg, _⟩ := run_append_own_at (P := Try.prog) (w.alloc (.cells #[] 121)) w.heap.size 76 76 121 i0 _ 4 32 Try.underlying76 hi hz0 hz1 hz2 rfl (by omega) _ 0 [] hown
      ad n c xs (by omega) (fun j u hu => cell_below (hc ad rfl j u hu) hb) h1 (by unfold maxLen; omega) (by omega) (by simp)
    have R : AppRun 76 76 76 (.slice (some ⟨w.heap.size, 0, none⟩) 0 0) (.slice (some ad) n c) (w.alloc (.cells #[] 121)) v' w' := ⟨hrun⟩
    have HB := Lib.hid (hb.grown hg (by simp) (fun k hk => (hown.lt k hk).1))
    rw [Nat.zero_add, List.nil_append] at ho
    have HO := Lib.hid ho
    clear hrun ho hg hown hi hz0 hz1 hz2 hx hc h1 hz hb
    go_enter Try.func85, Try.ntmps85
    go_wp2_with (at_builtin; refine wpList_append_run rfl (.tmp 5) (.tmp 6) rfl rfl rfl R.run ?_)
    go_ret
    exact ⟨_, rfl, HO.out, HB.out⟩


end Go.Proofs.Ytpggkehfbhffbaa.mgr

/-
  Truth values that a slice reads as; numbers made. No conditions.
-/
namespace Go.Proofs.Ytpggkehfbhffbaa
open Go.RowKit

/-- Truth values that a slice reads as. -/
def BoRow (w : World) (a : Option Addr) (l : List Bool) : Prop := l = [] ∨ ∃ b o, a = some ⟨b, o, none⟩ ∧ ∀ i, i < l.length → w.cell? ⟨b, o + i, none⟩ = some (.bool (l.getD i false))
theorem BoRow.lookup {w : World} {a : Option Addr} {l : List Bool} (h : BoRow w a l) {i : Nat} (hi : i < l.length) : ∃ b o, a = some ⟨b, o, none⟩ ∧ w.cell? ⟨b, o + i, none⟩ = some (.bool (l.getD i false)) := by
  rcases h with rfl | ⟨b, o, rfl, h⟩
  · simp at hi
  · exact ⟨b, o, rfl, h i hi⟩
theorem BoRow.old {w w' : World} {a : Option Addr} {l : List Bool} (h : BoRow w a l) (q : Below w.heap.size w w') : BoRow w' a l := by
  rcases h with h | ⟨b, o, rfl, h⟩
  · exact .inl h
  · exact .inr ⟨b, o, rfl, fun i hi => cell_below (h i hi) q⟩
theorem borow_own {w : World} {base : Nat} {v : Value} {l : List Bool} (h : w.ownsRow base 4 1 v l.length (l.map Value.bool)) : ∃ a c, v = .slice a l.length c ∧ BoRow w a l := by
  have h' := h
  rcases h'.2 with ⟨rfl, h0⟩ | ⟨g, cap, cur, rfl, _⟩
  · have : l = [] := List.eq_nil_of_length_eq_zero h0
    subst this
    exact ⟨none, 0, rfl, .inl rfl⟩
  · refine ⟨_, cap, rfl, .inr ⟨g, 0, rfl, fun i hi => ?_⟩⟩
    rw [Nat.zero_add, World.ownsRow.cellAt h i (by omega), List.getElem?_map, List.getElem?_eq_getElem hi, List.getD_eq_getElem?_getD, List.getElem?_eq_getElem hi]
    rfl
theorem mgr.int_info : (Try.prog.info? 3).map (fun i => (i.zero, i.size, i.bytes)) = some (some (vi 0), 1, 8) := by kernel_rfl
theorem mgr.make_ints (n : Nat) (hn : n ≤ 1000000) (w : World) : (Instr.makeSlice 24 (.int .i64 (n : Int)) (.int .i64 (n : Int))).run Try.prog w = .ok (.slice (some ⟨w.heap.size, 0, none⟩) n n) (w.alloc (.cells (madeCells #[vi 0] n) 3)) :=
  run_make_row' 24 3 (vi 0) 8 Try.underlying24 mgr.int_info rfl .i64 .i64 n (by omega) (by omega) w

theorem alloc_box (w : World) (cs : Array Value) (t : TypeId) : Below w.heap.size w (w.alloc (.cells cs t)) := (Below.refl _ _).alloc (Nat.le_refl _) _
theorem bad_view (M : ChM) (j : Int) (hB : M.bs.length = M.B) : badM M j = NP.badAt M.view j := by
  have hB' : (M.view.B : Int) = M.bs.length := by rw [hB]; rfl
  unfold badM NP.badAt
  rw [hB']
  by_cases h : 0 ≤ j ∧ j < M.bs.length
  · rw [if_pos h, if_pos h, view_blk (by omega)]
    rfl
  · rw [if_neg h, if_neg h]

end Go.Proofs.Ytpggkehfbhffbaa

