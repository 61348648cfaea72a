/-
  Lemmas for a law's proof, put together from several texts: each part says what it shows, and its conditions.
-/
import Derived.Test.YtjkaioonppmkjaaGreatZP09
import Derived.Deep.RegionHeld3
import Derived.BigRegion
import Derived.StillTailTactics
import Derived.Test.YtjkaioonppmkjaaGreatZP08
import Derived.Laws.CopyOwn
import Derived.Deep.OwnRows
import Derived.Laws.Bits64b
/-
  A manager of a chip's blocks: asked whether it can be asked, whether a block is there; a block closed, and one opened. Conditions: a manager and its chip told by Held.
-/
namespace Go.Proofs.YtjkaioonppmkjaaGreat.mgr
open Go.RowKit

section
variable {base : Nat} {w w' : World} {m : Nat} {G : MgM} {M : ChM}
theorem ready_any (h : Held base w m G M) : Calls Tryz.prog 183 #[ptr m] w fun e w' => e = .returned (vi (if M.down then 4 else 0)) ∧ w' = w := by
  obtain ⟨c0, c1, c2, c3, c4, c5⟩ := h.cells
  have HU := Lib.hid (Up_any h.chip)
  clear h c1 c2 c3 c4 c5
  generalize M.down = d at *
  cases d
  · go_enter Tryz.func183, Tryz.ntmps183
    go_wp2_with fail
    refine HU.out.mono ?_
    rintro e w' ⟨rfl, rfl⟩
    go_wp2_with fail
    go_ret
    exact ⟨rfl, rfl⟩
  · go_enter Tryz.func183, Tryz.ntmps183
    go_wp2_with fail
    refine HU.out.mono ?_
    rintro e w' ⟨rfl, rfl⟩
    go_wp2_with fail
    go_ret
    exact ⟨rfl, rfl⟩
set_option maxHeartbeats 1000000 in
theorem there_any (h : Held base w m G M) (k : Int) : Calls Tryz.prog 123 #[ptr m, vi k] w fun e w' => e = .returned (.bool (G.view.there k)) ∧ w' = w := by
  obtain ⟨c0, c1, c2, c3, c4, c5⟩ := h.cells
  have H := Lib.hid h
  clear c0 c2 c3 c4 c5
  by_cases h0 : 0 ≤ k
  · by_cases h1 : k < G.l.length
    · obtain ⟨i, rfl⟩ : ∃ i : Nat, k = i := ⟨k.toNat, by omega⟩
      have hi : i < G.l.length := by omega
      have HQ : Hid (G.view.there i = ((G.l.getD i default).s != 4)) := Lib.hid (by
        unfold Mg.there
        rw [decide_eq_true h0, decide_eq_true (by exact h1)]
        rfl)
      obtain ⟨d0, d1, d2, d3⟩ := h.bcells hi
      clear d1 d2 d3 h
      generalize (G.l.getD i default).s = s at *
      go_enter Tryz.func123, Tryz.ntmps123
      go_wp2_with fail
      go_ret
      exact ⟨ret_bool HQ.out.symm, rfl⟩
    · have HQ : Hid (G.view.there k = false) := Lib.hid (by
        unfold Mg.there
        rw [decide_eq_false (p := k < _) (by exact h1)]
        simp)
      clear h
      have h2 : (G.l.length : Int) ≤ k := by omega
      go_enter Tryz.func123, Tryz.ntmps123
      go_wp2_with fail
      go_ret
      exact ⟨ret_bool HQ.out.symm, rfl⟩
  · have HQ : Hid (G.view.there k = false) := Lib.hid (by
      unfold Mg.there
      rw [decide_eq_false h0]
      rfl)
    clear h
    go_enter Tryz.func123, Tryz.ntmps123
    go_wp2_with fail
    go_ret
    exact ⟨ret_bool HQ.out.symm, rfl⟩
theorem Held.closed0 (h : Held base w m G M) {i : Nat} (hi : i < G.l.length) (hl : (G.l.getD i default).l = 0) : HGoes base w m G M ((w.setCell ⟨G.gl, i * 4, none⟩ (vi 2)).setCell ⟨G.gl, i * 4, none⟩ (vi 3)) (G.view.put i (closeB (G.view.blk i))) M := by
  have e : ∀ z, (G.l.set i z).getD i default = z := fun z => by rw [blk_set _ _ _ _ hi, if_pos rfl]
  have h1 := h.cell hi (j := 0) (by decide) (vi 2) { G.l.getD i default with s := 2 } rfl
  have h2 := h1.trans (h1.at_.cell (i := i) (j := 0) (by simpa [Mg.put] using hi) (by decide) (vi 3) { G.l.getD i default with s := 3 } (by dsimp only [MgM.lay, Mg.put, MgM.view]; rw [e]; rfl))
  have hq : closeB (G.view.blk i) = { G.l.getD i default with s := 3 } := by unfold closeB; rw [if_pos hl]
  rw [hq]
  simpa only [MgM.lay, Mg.put, MgM.view, List.set_set, Nat.add_zero] using h2
theorem Held.closed1 (h : Held base w m G M) {i : Nat} (hi : i < G.l.length) (hl : ¬ (G.l.getD i default).l = 0) : HGoes base w m G M (w.setCell ⟨G.gl, i * 4, none⟩ (vi 2)) (G.view.put i (closeB (G.view.blk i))) M := by
  have h1 := h.cell hi (j := 0) (by decide) (vi 2) { G.l.getD i default with s := 2 } rfl
  have hq : closeB (G.view.blk i) = { G.l.getD i default with s := 2 } := by unfold closeB; rw [if_neg hl]
  rw [hq]
  exact h1
theorem HGoes.shut {g' : Mg} {M' : ChM} (h : HGoes base w m G M w' g' M') {i : Nat} (ha : (i : Int) = g'.at_) : HGoes base w m G M (w'.setCell ⟨m, 2, none⟩ (vi (-1))) (g'.shut i) M' := by
  have := h.trans (h.at_.field 2 (vi (-1)) { g' with at_ := -1 } rfl rfl)
  have e : g'.shut i = { g' with at_ := -1 } := by unfold Mg.shut; rw [if_pos ha]
  rw [e]
  exact this
theorem HGoes.shutNo {g' : Mg} {M' : ChM} (h : HGoes base w m G M w' g' M') {i : Nat} (ha : ¬ (i : Int) = g'.at_) : HGoes base w m G M w' (g'.shut i) M' := by
  have e : g'.shut i = g' := by unfold Mg.shut; rw [if_neg ha]
  rw [e]
  exact h
set_option maxRecDepth 100000 in
set_option maxHeartbeats 1000000 in
theorem close_any (h : Held base w m G M) (i : Nat) (hi : i < G.l.length) : Calls Tryz.prog 186 #[ptr m, vi i] w fun e w' => e = .returned (.tuple #[]) ∧ HGoes base w m G M w' (G.view.close i) M := by
  obtain ⟨c0, c1, c2, c3, c4, c5⟩ := h.cells
  have z0 := h.mgr.row.frozen (i * 4)
  have z2 := h.mgr.mgr.frozen 2
  have hne := h.ne
  have hi0 : (0 : Int) ≤ (i : Int) := by omega
  have hi1 : (i : Int) < (G.l.length : Int) := by omega
  obtain ⟨d0, d1, d2, d3⟩ := h.bcells hi
  have hne' : ¬ G.gl = m := fun e => hne e.symm
  have HA : Hid (G.view.close i = (G.view.put i (closeB (G.view.blk i))).shut i) := Lib.hid rfl
  have HAT : Hid ((G.view.put i (closeB (G.view.blk i))).at_ = G.at_) := Lib.hid rfl
  by_cases hl : (G.l.getD i default).l = 0
  · have HG := Lib.hid (h.closed0 hi hl)
    rw [hl] at d1
    clear c0 c3 c4 c5 d2 d3 h hi hl
    by_cases ha : (i : Int) = G.at_
    · have hq : ((i : Int) == G.at_) = true := by simp [ha]
      have HE := Lib.hid (HG.out.shut (i := i) ha)
      clear HG ha HAT
      generalize G.view.close i = V at *
      generalize (G.view.put i (closeB (G.view.blk i))).shut i = V' at *
      go_enter Tryz.func186, Tryz.ntmps186
      go_wp2_with fail
      go_end0
      exact ⟨rfl, by rw [HA.out]; exact HE.out⟩
    · have hq : ((i : Int) == G.at_) = false := by simp [ha]
      have HE := Lib.hid (HG.out.shutNo (i := i) ha)
      clear HG ha HAT
      generalize G.view.close i = V at *
      generalize (G.view.put i (closeB (G.view.blk i))).shut i = V' at *
      go_enter Tryz.func186, Tryz.ntmps186
      go_wp2_with fail
      go_end0
      exact ⟨rfl, by rw [HA.out]; exact HE.out⟩
  · have HG := Lib.hid (h.closed1 hi hl)
    have hl' : ((G.l.getD i default).l == 0) = false := by simpa using hl
    generalize (G.l.getD i default).l = n at *
    clear c0 c3 c4 c5 d2 d3 h hi hl
    by_cases ha : (i : Int) = G.at_
    · have hq : ((i : Int) == G.at_) = true := by simp [ha]
      have HE := Lib.hid (HG.out.shut (i := i) ha)
      clear HG ha HAT
      generalize G.view.close i = V at *
      generalize (G.view.put i (closeB (G.view.blk i))).shut i = V' at *
      go_enter Tryz.func186, Tryz.ntmps186
      go_wp2_with fail
      go_end0
      exact ⟨rfl, by rw [HA.out]; exact HE.out⟩
    · have hq : ((i : Int) == G.at_) = false := by simp [ha]
      have HE := Lib.hid (HG.out.shutNo (i := i) ha)
      clear HG ha HAT
      generalize G.view.close i = V at *
      generalize (G.view.put i (closeB (G.view.blk i))).shut i = V' at *
      go_enter Tryz.func186, Tryz.ntmps186
      go_wp2_with fail
      go_end0
      exact ⟨rfl, by rw [HA.out]; exact HE.out⟩
theorem bestTo_step (P : gcs.Blk → Bool) (Q : gcs.Blk → gcs.Blk → Bool) (bs : List gcs.Blk) (k : Nat) : gcs.bestTo P Q bs (k + 1) = if P (bs.getD k default) && (decide (gcs.bestTo P Q bs k < 0) || Q (bs.getD k default) (bs.getD (gcs.bestTo P Q bs k).toNat default)) then (k : Int) else gcs.bestTo P Q bs k := rfl
theorem HGoes.openAt {g' : Mg} (h : HGoes base w m G M w' g' M) {i : Nat} (hi : i < g'.l.length) : HGoes base w m G M (((((w'.setCell ⟨G.gl, i * 4, none⟩ (vi 1)).setCell ⟨G.gl, i * 4 + 1, none⟩ (vi 0)).setCell ⟨G.gl, i * 4 + 2, none⟩ (vi (g'.blk i).r)).setCell ⟨G.gl, i * 4 + 3, none⟩ (vi 0)).setCell ⟨m, 2, none⟩ (vi i)) (g'.openAt i) M := by
  have h1 := h.trans (h.at_.block hi ⟨1, 0, (g'.blk i).r, 0⟩)
  exact h1.trans (h1.at_.field 2 (vi i) (g'.openAt i) rfl rfl)
theorem alloc_below (w : World) (o : Obj) : Below w.heap.size w (w.alloc o) := (Below.refl _ _).alloc (Nat.le_refl _) o
set_option maxRecDepth 100000 in
set_option maxHeartbeats 2000000 in
theorem begin_any (h : Held base w m G M) : Calls Tryz.prog 184 #[ptr m] w fun e w' => e = .returned (.bool (decide (0 ≤ G.view.freeI))) ∧ HGoes base w m G M w' G.view.begun M := by
  obtain ⟨c0, c1, c2, c3, c4, c5⟩ := h.cells
  have hlen : G.l.length ≤ 9223372036854775807 := by obtain ⟨cur, _, h1, h2, _⟩ := h.mgr.row.blk; unfold maxLen at h2; omega
  have hne := h.ne
  have hgl := h.mgr.row.lt
  have hml := h.mgr.mgr.lt
  have H := Lib.hid h
  clear c0 c2 c3 c4 c5 h
  go_enter Tryz.func184, Tryz.ntmps184
  go_wp2_with fail
  go_loopw [3, 11] (fun at_ i wr => ∃ k : Nat, k ≤ G.l.length ∧ i = vi k ∧ at_ = vi (gcs.bestTo freeB gcs.wornB G.l k) ∧ Below w.heap.size w wr) (fun _ i _ => G.l.length - (intOf i).toNat)
  case atStart => exact ⟨0, Nat.zero_le _, rfl, rfl, Below.refl _ _⟩
  case round =>
    obtain ⟨k, hk, rfl, rfl, hb⟩ := hrel
    have hbd := gcs.bestTo_bd freeB gcs.wornB G.l k
    by_cases hlt : k < G.l.length
    · have H1 := Lib.hid (H.out.old hb)
      obtain ⟨d0, d1, d2, d3⟩ := H1.out.bcells hlt
      have c1' : wr.cell? ⟨m, 1, none⟩ = some (.slice (some ⟨G.gl, 0, none⟩) G.l.length G.cl) := H1.out.cells.2.1
      have hst := Lib.hid (bestTo_step freeB gcs.wornB G.l k)
      generalize hnx : gcs.bestTo freeB gcs.wornB G.l (k + 1) = nx at *
      generalize hat : gcs.bestTo freeB gcs.wornB G.l k = at_ at *
      have HAT := Lib.hid hat
      have HBA : Hid (0 ≤ at_ → at_.toNat < G.l.length) := Lib.hid (by omega)
      generalize G.l.getD k default = x at *
      obtain ⟨xs, xl, xr, xn⟩ := x
      dsimp only at *
      have HW : Hid (Below w.heap.size w (wr.alloc (.cells #[vi xs, vi xl, vi xr, vi xn] 173))) := Lib.hid (hb.alloc hb.size _)
      have F0 : (wr.alloc (.cells #[vi xs, vi xl, vi xr, vi xn] 173)).cell? ⟨wr.heap.size, 0, none⟩ = some (vi xs) := (Blk.new _ _ _).cell 0
      have F2 : (wr.alloc (.cells #[vi xs, vi xl, vi xr, vi xn] 173)).cell? ⟨wr.heap.size, 2, none⟩ = some (vi xr) := (Blk.new _ _ _).cell 2
      have C1 : (wr.alloc (.cells #[vi xs, vi xl, vi xr, vi xn] 173)).cell? ⟨m, 1, none⟩ = some (.slice (some ⟨G.gl, 0, none⟩) G.l.length G.cl) := cell_below c1' (alloc_below _ _)
      have fin : ∀ (y : Int) (W : World), nx = y → Below w.heap.size w W → ∃ k' : Nat, k' ≤ G.l.length ∧ vi ((k : Int) + 1) = vi k' ∧ vi y = vi (gcs.bestTo freeB gcs.wornB G.l k') ∧ Below w.heap.size w W :=
        fun y W hy hW => ⟨k + 1, by omega, by simp, by rw [hnx, hy], hW⟩
      have FIN := Lib.hid fin
      have H2 := Lib.hid (H1.out.old (alloc_below wr (.cells #[vi xs, vi xl, vi xr, vi xn] 173)))
      clear fin hat hb H1 hnx
      by_cases hs : xs = 0
      · have hsq : (xs == 0) = true := beq_iff_eq.2 hs
        by_cases ha : at_ = -1
        · have hq : (at_ == -1) = true := beq_iff_eq.2 ha
          have HN : Hid (nx = (k : Int)) := Lib.hid (by rw [hst.out, if_pos]; simp [freeB, hs, ha])
          clear hs ha hst
          go_upto_region 5 with fail
          clear d0 d1 d2 d3 c1'
          generalize wr.alloc (.cells #[vi xs, vi xl, vi xr, vi xn] 173) = w1 at *
          go_quiet (fail)
          go_wp2_with fail
          go_roundw
          case rel => exact FIN.out _ _ HN.out (below_drewN HW.out _)
          case measure => simp [intOf]; omega
        · have hq : (at_ == -1) = false := beq_eq_false_iff_ne.2 ha
          obtain ⟨j, rfl⟩ : ∃ j : Nat, at_ = j := ⟨at_.toNat, by omega⟩
          have hj : j < G.l.length := by omega
          have hj0 : (0 : Int) ≤ (j : Int) := by omega
          have hj1 : (j : Int) < (G.l.length : Int) := by omega
          have e2 := (H2.out.bcells hj).2.2.1
          have HN : Hid (nx = if xr < (G.l.getD j default).r then (k : Int) else (j : Int)) := Lib.hid (by
            rw [hst.out]
            have : ¬ (j : Int) < 0 := by omega
            by_cases hy : xr < (G.l.getD j default).r
            · rw [if_pos hy, if_pos]; simp only [freeB, hs, gcs.wornB, Int.toNat_natCast, decide_eq_true hy]; simp
            · rw [if_neg hy, if_neg]; simp only [freeB, hs, gcs.wornB, Int.toNat_natCast, decide_eq_false hy]; simp)
          generalize (G.l.getD j default).r = yr at *
          clear hs ha hst
          by_cases hy : xr < yr
          · have hyd : decide (xr < yr) = true := decide_eq_true hy
            rw [if_pos hy] at HN
            go_upto_region 5 with fail
            clear d0 d1 d2 d3 c1'
            generalize wr.alloc (.cells #[vi xs, vi xl, vi xr, vi xn] 173) = w1 at *
            go_quiet (fail)
            go_wp2_with fail
            go_roundw
            case rel => exact FIN.out _ _ HN.out (below_drewN HW.out _)
            case measure => simp [intOf]; omega
          · have hyd : decide (xr < yr) = false := decide_eq_false hy
            rw [if_neg hy] at HN
            go_upto_region 5 with fail
            clear d0 d1 d2 d3 c1'
            generalize wr.alloc (.cells #[vi xs, vi xl, vi xr, vi xn] 173) = w1 at *
            go_quiet (fail)
            go_wp2_with fail
            go_roundw
            case rel => exact FIN.out _ _ HN.out (below_drewN HW.out _)
            case measure => simp [intOf]; omega
      · have hsq : (xs == 0) = false := beq_eq_false_iff_ne.2 hs
        have HN : Hid (nx = at_) := Lib.hid (by rw [hst.out, if_neg]; simp [freeB, hs])
        clear hs hst
        go_upto_region 5 with fail
        clear d0 d1 d2 d3 c1'
        generalize wr.alloc (.cells #[vi xs, vi xl, vi xr, vi xn] 173) = w1 at *
        go_quiet (fail)
        go_wp2_with fail
        go_roundw
        case rel => exact FIN.out _ _ HN.out (below_drewN HW.out _)
        case measure => simp [intOf]; omega
    · obtain rfl : k = G.l.length := by omega
      have HG := Lib.hid (HGoes.of_old H.out hb)
      have HB := Lib.hid hb
      generalize hat : gcs.bestTo freeB gcs.wornB G.l G.l.length = at_ at *
      have HF : Hid (G.view.freeI = at_) := Lib.hid hat
      clear hat
      by_cases ha : at_ = -1
      · have hq : (at_ == -1) = true := beq_iff_eq.2 ha
        have HQ : Hid (G.view.begun = G.view ∧ decide (0 ≤ G.view.freeI) = false) := Lib.hid (by
          refine ⟨?_, ?_⟩
          · unfold Mg.begun; rw [HF.out, if_pos (by omega)]
          · rw [HF.out]; simp [ha])
        clear ha hb
        go_wp2_with fail
        go_ret
        exact ⟨ret_bool HQ.out.2.symm, by rw [HQ.out.1]; exact HG.out⟩
      · have hq : (at_ == -1) = false := beq_eq_false_iff_ne.2 ha
        obtain ⟨j, rfl⟩ : ∃ j : Nat, at_ = j := ⟨at_.toNat, by omega⟩
        have hj : j < G.l.length := by omega
        have hj0 : (0 : Int) ≤ (j : Int) := by omega
        have hj1 : (j : Int) < (G.l.length : Int) := by omega
        have HQ : Hid (G.view.begun = G.view.openAt j ∧ decide (0 ≤ G.view.freeI) = true) := Lib.hid (by
          refine ⟨?_, ?_⟩
          · unfold Mg.begun; rw [HF.out, if_neg (by omega), Int.toNat_natCast]
          · rw [HF.out]; simp)
        have H1 := Lib.hid (H.out.old hb)
        obtain ⟨d0, d1, d2, d3⟩ := H1.out.bcells hj
        have c1' : wr.cell? ⟨m, 1, none⟩ = some (.slice (some ⟨G.gl, 0, none⟩) G.l.length G.cl) := H1.out.cells.2.1
        have c2' : wr.cell? ⟨m, 2, none⟩ = some (vi G.at_) := H1.out.cells.2.2.1
        have z := fun j => H1.out.mgr.row.frozen j
        have z2 := H1.out.mgr.mgr.frozen 2
        have HO := Lib.hid (((HG.out.old (Below.refl _ _).drew).openAt (i := j) hj))
        have hne' : ¬ G.gl = m := fun e => hne e.symm
        have z00 := z (j * 4)
        have z01 := z (j * 4 + 1)
        have z02 := z (j * 4 + 2)
        have z03 := z (j * 4 + 3)
        generalize (G.l.getD j default).s = s at *
        generalize (G.l.getD j default).l = l at *
        change Hid (HGoes base w m G M (((((wr.drew.setCell ⟨G.gl, j * 4, none⟩ (vi 1)).setCell ⟨G.gl, j * 4 + 1, none⟩ (vi 0)).setCell ⟨G.gl, j * 4 + 2, none⟩ (vi (G.l.getD j default).r)).setCell ⟨G.gl, j * 4 + 3, none⟩ (vi 0)).setCell ⟨m, 2, none⟩ (vi j)) _ M) at HO
        generalize (G.l.getD j default).r = r at *
        generalize (G.l.getD j default).n = n at *
        clear ha hb z H1 HG
        go_wp2_with fail
        go_still_tail 15, (by kernel_rfl)
        change wpList _ _ _ _ _ wr.drew
        go_wp2_with fail
        go_ret
        exact ⟨ret_bool HQ.out.2.symm, by rw [HQ.out.1]; exact HO.out⟩
end

end Go.Proofs.YtjkaioonppmkjaaGreat.mgr

/-
  Rows of bytes that are made: bytes 255, bytes that are torn, one byte many times, bytes again. Conditions: fewer than 900000 bytes.
-/
namespace Go.Proofs.YtjkaioonppmkjaaGreat
open Go.RowKit

/-- An append's, a copy's run. -/
structure AppRun (t u ty : TypeId) (v src : Value) (w : World) (v' : Value) (w' : World) : Prop where
  run : (Builtin.append_ #[t, u] ty #[v, src]).run Tryz.prog w = .ok v' w'
structure CopyRun (t u ty : TypeId) (v src : Value) (w : World) (v' : Value) (w' : World) : Prop where
  run : (Builtin.copy_ #[t, u] ty #[v, src]).run Tryz.prog w = .ok v' w'
theorem wpList_copy_run {w w' : World} {ops : Array Oper} {rest : List Oper} {o : Oper} {a : Act} {Q : Exit → Act → World → Prop} (hgd : o.guard = none) (s x : Operand) {t u : TypeId}
    (ho : o.op = .call { callee := .builtin .copy, args := #[s, x], argTypes := #[t, u] }) {v src v' : Value} (hs : a.eval s = v) (hx : a.eval x = src)
    (hrun : CopyRun t u o.type v src w v' w') (h : wpList Tryz.prog ops Q rest (a.put o.dst v') w') : wpList Tryz.prog ops Q (o :: rest) a w := by
  refine wpList_plain hgd fun K hK => ?_
  unfold Oper.wp execOp
  simp only [ho, resolve, invoke, builtin, Sem.run_bind, Sem.run_pure, Result.andThen_ok, List.map_toArray, List.map_cons, List.map_nil, hs, hx, hrun.run]
  exact hK _ _ h

/-- A byte stored into a row of the call's own. -/
theorem own_set {w : World} {base g n c : Nat} {l : List Nat} (h : Own w base (.slice (some ⟨g, 0, none⟩) n c) l) (hn : n = l.length) (j x : Nat) :
    Own (w.setCell ⟨g, j, none⟩ (vb x)) base (.slice (some ⟨g, 0, none⟩) n c) (l.set j x) := by
  subst hn
  have := (World.ownsRow.stored h j (vb x)).1
  unfold Own bv
  rw [List.length_set, List.map_set]
  exact this
theorem own_frozen {w : World} {base g n c : Nat} {l : List Nat} (h : Own w base (.slice (some ⟨g, 0, none⟩) n c) l) (hn : n = l.length) (j : Nat) : w.frozen? ⟨g, j, none⟩ = false := by
  subst hn
  exact World.ownsRow.frozenAt h j
theorem own_cell {w : World} {base g n c : Nat} {l : List Nat} (h : Own w base (.slice (some ⟨g, 0, none⟩) n c) l) (hn : n = l.length) {j : Nat} (hj : j < n) : w.cell? ⟨g, j, none⟩ = some (vb (l.getD j 0)) := by
  subst hn
  rw [World.ownsRow.cellAt h j (by omega), bv_get hj]
/-- Zeros. -/
theorem own_zeros (w : World) (n : Nat) (hn : n ≤ 1000000) : Own (w.alloc (.cells (madeCells #[vb 0] n) 5)) w.heap.size (.slice (some ⟨w.heap.size, 0, none⟩) n n) (List.replicate n 0) := by
  have := World.ownsRow_lit (base := w.heap.size) (size := 1) (e := 5) w (madeCells #[vb 0] n) n (Nat.le_refl _) (by unfold maxLen; omega) (by simp [madeCells])
  rw [toList_madeCells_one] at this
  unfold Own bv
  rw [List.length_replicate, List.map_replicate]
  exact this
theorem make_bytes (n : Nat) (hn : n ≤ 1000000) (w : World) : (Instr.makeSlice 23 (.int .i64 (n : Int)) (.int .i64 (n : Int))).run Tryz.prog w = .ok (.slice (some ⟨w.heap.size, 0, none⟩) n n) (w.alloc (.cells (madeCells #[vb 0] n) 5)) :=
  run_make_row' 23 5 (vb 0) 1 Tryz.underlying23 byte_info rfl .i64 .i64 n (by omega) (by omega) w
/-- A copy into a row of the call's own. -/
theorem copy_bytes {w : World} {base g n c : Nat} {l m : List Nat} (h : Own w base (.slice (some ⟨g, 0, none⟩) n c) l) (hn : n = l.length) (j : Nat) (hj : j ≤ n) {a : Option Addr} (hr : BRow w a m) (cm : Nat) (cj : Nat) :
    ∃ w', CopyRun 23 23 3 (.slice (some ⟨g, j, none⟩) (n - j) cj) (.slice a m.length cm) w (vi (min m.length (n - j) : Nat)) w' ∧
      Own w' base (.slice (some ⟨g, 0, none⟩) n c) (l.take j ++ m.take (n - j) ++ l.drop (j + min m.length (n - j))) ∧ w.grownBy w' (some g) := by
  subst hn
  obtain ⟨h1, h2⟩ := h
  rcases h2 with ⟨h2, _⟩ | ⟨g', cap, cur, hv, hb, hg, hnc, hcm, hcs, htk⟩
  · cases h2
  injection hv with hv _ hc
  injection hv with hv
  injection hv with hv
  subst hv hc
  have hcs' : (bv (m.take (l.length - j))).length = min m.length (l.length - j) := by rw [bv_length, List.length_take]; omega
  have hlen : (l.take j ++ m.take (l.length - j) ++ l.drop (j + min m.length (l.length - j))).length = l.length := by
    simp only [List.length_append, List.length_take, List.length_drop]; omega
  by_cases hz : min m.length (l.length - j) = 0
  · have hrun := run_copy_none (P := Tryz.prog) w 23 23 3 5 (some ⟨g, j, none⟩) a (l.length - j) cj m.length cm Tryz.underlying23 (by
      have := byte_info
      cases hq : Tryz.prog.info? 5 with
      | none => rw [hq] at this; cases this
      | some i => rw [hq] at this; simp at this; simp [this]) hz
    refine ⟨w, ⟨by rw [hrun, hz]; rfl⟩, ?_, World.grownBy.refl w _⟩
    have e : l.take j ++ m.take (l.length - j) ++ l.drop (j + min m.length (l.length - j)) = l := by
      have : m.take (l.length - j) = [] := List.eq_nil_of_length_eq_zero (by rw [List.length_take]; omega)
      rw [this, hz, List.append_nil, Nat.add_zero, List.take_append_drop]
    rw [e]
    exact ⟨h1, .inr ⟨g, c, cur, rfl, hb, hg, hnc, hcm, hcs, htk⟩⟩
  · obtain ⟨b, o, rfl, _⟩ := hr.lookup (k := 0) (by omega)
    have hrun := run_copy_row (P := Tryz.prog) w 23 23 3 5 g j (l.length - j) cj ⟨b, o, none⟩ m.length cm cur 5 (bv (m.take (l.length - j))) Tryz.underlying23 (by
      have := byte_info
      cases hq : Tryz.prog.info? 5 with
      | none => rw [hq] at this; cases this
      | some i => rw [hq] at this; simp at this; simp [this]) hg hcs' ((hr.take _).news) (by rw [hcs']; omega) (bv_one _)
    rw [hcs'] at hrun
    refine ⟨_, ⟨hrun⟩, ⟨by rw [hlen, bv_length, hlen, Nat.mul_one], .inr ⟨g, c, _, by rw [hlen], hb, setRow_heap w g _ _ _ _ hg, by rw [hlen]; exact hnc, hcm, ?_, ?_⟩⟩, ⟨rfl, rfl, rfl, by simp [World.setRow], fun k _ hne => setRow_other w g k _ (fun e => hne (by rw [e]))⟩⟩
    · simp only [List.size_toArray, List.length_append, List.length_take, List.length_drop, hcs', Array.length_toList]
      omega
    · rw [hlen, Nat.mul_one]
      rw [Nat.mul_one] at htk
      have hcl : cur.toList.length = c := by rw [Array.length_toList, hcs, Nat.mul_one]
      have e1 : cur.toList.take j = bv (l.take j) := by
        have := congrArg (List.take j) htk
        rw [List.take_take, Nat.min_eq_left hj] at this
        rw [this]
        exact (List.map_take ..).symm
      have e2 : (cur.toList.drop (j + min m.length (l.length - j))).take (l.length - (j + min m.length (l.length - j))) = bv (l.drop (j + min m.length (l.length - j))) := by
        have := congrArg (List.drop (j + min m.length (l.length - j))) htk
        rw [List.drop_take] at this
        rw [this]
        exact (List.map_drop ..).symm
      rw [List.toList_toArray, bv_append, bv_append, ← e1, ← e2, List.take_append, List.length_append, hcs', List.length_take, hcl, Nat.min_eq_left (by omega), List.take_of_length_le (by rw [List.length_append, List.length_take, hcs', hcl]; omega)]

set_option maxHeartbeats 1000000 in
theorem ones_any (n : Nat) (w : World) (hn : n ≤ 900000) : Calls Tryz.prog 101 #[vi n] w fun e w' => ∃ v', e = .returned v' ∧ Own w' w.heap.size v' (List.replicate n 255) ∧ Below w.heap.size w w' := by
  have hmk := make_bytes n (by omega)
  have HO := Lib.hid (own_zeros w n (by omega))
  have HB := Lib.hid ((Below.refl w.heap.size w).alloc (Nat.le_refl _) (.cells (madeCells #[vb 0] n) 5))
  go_enter Tryz.func101, Tryz.ntmps101
  go_wp2_with fail
  clear hmk
  generalize w.alloc (.cells (madeCells #[vb 0] n) 5) = w1 at *
  generalize hg : w.heap.size = g at *
  have HG := Lib.hid hg
  clear hg
  go_loopw [9] (fun i wr => ∃ k : Nat, k ≤ n ∧ i = vi k ∧ Hid (Own wr g (.slice (some ⟨g, 0, none⟩) n n) (List.replicate k 255 ++ List.replicate (n - k) 0)) ∧ Hid (Below g w wr)) (fun i _ => n - (intOf i).toNat)
  case atStart => exact ⟨0, Nat.zero_le _, rfl, HO, HB⟩
  case round =>
    obtain ⟨k, hk, rfl, ho, hb⟩ := hrel
    by_cases hlt : k < n
    · have hl : n = (List.replicate k 255 ++ List.replicate (n - k) 0).length := by simp; omega
      have hc := own_cell ho.out hl hlt
      have hf := own_frozen ho.out hl k
      have HS : Hid (Own (wr.setCell ⟨g, k, none⟩ (vb 255)) g (.slice (some ⟨g, 0, none⟩) n n) (List.replicate (k + 1) 255 ++ List.replicate (n - (k + 1)) 0)) := Lib.hid (by
        have := own_set ho.out hl k 255
        rw [List.set_append_right _ _ (by simp), List.length_replicate, Nat.sub_self, show n - k = (n - (k + 1)) + 1 by omega, List.replicate_succ, List.set_cons_zero] at this
        rw [List.replicate_succ', List.append_assoc]
        exact this)
      have HL := Lib.hid hl
      clear hl ho
      go_wp2_with fail
      go_roundw
      case rel => exact ⟨k + 1, by omega, by go_num, HS, Lib.hid (hb.out.setCell (Nat.le_refl _) _)⟩
      case measure => simp [intOf]; omega
    · obtain rfl : k = n := by omega
      have ho' := ho.out
      rw [Nat.sub_self, List.replicate_zero, List.append_nil] at ho'
      have HO' := Lib.hid ho'
      clear ho ho'
      go_wp2_with fail
      go_ret
      exact ⟨_, rfl, by rw [HG.out]; exact HO'.out, by rw [HG.out]; exact hb.out⟩

set_option maxHeartbeats 1000000 in
theorem Clone_any (a : Option Addr) (l : List Nat) (c : Nat) (w : World) (h : BRow w a l) (hl : l.length ≤ 900000) :
    Calls Tryz.prog 73 #[.slice a l.length c] w fun e w' => ∃ v', e = .returned v' ∧ Own w' w.heap.size v' l ∧ Below w.heap.size w w' := by
  have hen := fun (w : World) (a : Option Addr) (n c : Nat) => Lib.run_eql_slice_nil (P := Tryz.prog) w 23 5 a n c 0 0 Tryz.underlying23
  cases a with
  | none =>
    have h0 : l = [] := by
      rcases h.at_ with h | ⟨b, o, he, _⟩
      · exact h
      · cases he
    subst h0
    go_enter Tryz.func73, Tryz.ntmps73
    go_wp2_with fail
    go_ret
    exact ⟨_, rfl, Own.nil _ _, Below.refl _ _⟩
  | some ad =>
    obtain ⟨v', w', hrun, ho, hs⟩ := append_bytes (c := c) (Own.lit (Nat.le_refl w.heap.size) [] (by simp) (cs := #[]) rfl) (h.below ((Below.refl _ w).alloc (Nat.le_refl _) _)) (by simp; omega) (by simp)
    have R : AppRun 23 23 23 (.slice (some ⟨w.heap.size, 0, none⟩) 0 0) (.slice (some ad) l.length c) (w.alloc (.cells #[] 5)) v' w' := ⟨hrun⟩
    have HB := Lib.hid (((Below.refl w.heap.size w).alloc (Nat.le_refl _) (.cells #[] 5)).trans hs.below)
    have HO := Lib.hid ho
    clear hrun ho hs
    go_enter Tryz.func73, Tryz.ntmps73
    go_wp2_with (at_builtin; refine wpList_append_run rfl (.tmp 5) (.tmp 6) rfl rfl rfl R.run ?_)
    go_ret
    exact ⟨_, rfl, HO.out, HB.out⟩

set_option maxHeartbeats 1000000 in
theorem torn_any {base k : Nat} {M : ChM} {w : World} (h : ChipAt base w k M) (hS : M.S ≤ 512) (a : Option Addr) (l : List Nat) (c : Nat) (hr : BRow w a l) :
    Calls Tryz.prog 225 #[ptr k, .slice a l.length c] w fun e w' => ∃ v', e = .returned v' ∧ Own w' w.heap.size v' (NP.torn (M.S + 32) l) ∧ Below w.heap.size w w' := by
  have HC := Lib.hid h
  have HR := Lib.hid hr
  clear h hr
  go_enter Tryz.func225, Tryz.ntmps225
  go_wp2_with fail
  refine (full_any HC.out hS).mono ?_
  rintro e w' ⟨rfl, rfl⟩
  go_wp2_with fail
  refine (ones_any (M.S + 32) _ (by omega)).mono ?_
  rintro e w2 ⟨v2, rfl, ho2, hb2⟩
  rcases ho2.2 with ⟨_, h0⟩ | ⟨g, cap, cur, hv, hg, _⟩
  · simp at h0
  rw [List.length_replicate] at hv
  subst hv
  obtain ⟨w3, hrun, ho3, hg3⟩ := copy_bytes ho2 (List.length_replicate ..).symm 0 (Nat.zero_le _) (HR.out.below hb2) c cap
  have HRun := Lib.hid hrun
  have HO3 : Hid (Own w3 w'.heap.size (.slice (some ⟨g, 0, none⟩) (M.S + 32) cap) (NP.torn (M.S + 32) l)) := Lib.hid (by
    have e : NP.torn (M.S + 32) l = (List.replicate (M.S + 32) 255).take 0 ++ l.take (M.S + 32 - 0) ++ (List.replicate (M.S + 32) 255).drop (0 + min l.length (M.S + 32 - 0)) := by
      simp only [NP.torn, List.take_zero, List.nil_append, Nat.sub_zero, Nat.zero_add, List.drop_replicate]
      congr 2
      omega
    rw [e]
    exact ho3)
  have HB3 := Lib.hid (hb2.grown hg3 hb2.size (fun x hx => by injection hx with hx; omega))
  clear hrun ho3 hg3 ho2
  go_wp2_with (refine wpList_copy_run rfl (.tmp 9) (.tmp 10) rfl rfl rfl HRun.out ?_)
  go_ret
  exact ⟨_, rfl, HO3.out, HB3.out⟩

end Go.Proofs.YtjkaioonppmkjaaGreat

