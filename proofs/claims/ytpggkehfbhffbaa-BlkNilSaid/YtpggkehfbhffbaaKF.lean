/-
  A manager of a chip's blocks: a block gone, a block retired. Conditions: a manager and its chip told by Held.
-/
import Derived.Test.YtpggkehfbhffbaaKE
namespace Go.Proofs.Ytpggkehfbhffbaa.mgr
open Go.RowKit

section
variable {base : Nat} {w w' : World} {m : Nat} {G : MgM} {M : ChM}
theorem other4 {gl o : Nat} {v0 v1 v2 v3 : Value} {p : Addr} (hp : gl ≠ p.block) : ((((w.setCell ⟨gl, o, none⟩ v0).setCell ⟨gl, o + 1, none⟩ v1).setCell ⟨gl, o + 2, none⟩ v2).setCell ⟨gl, o + 3, none⟩ v3).cell? p = w.cell? p := by
  have : ∀ o', (⟨gl, o', none⟩ : Addr) ≠ p := fun o' e => hp (by rw [← e])
  rw [World.cell?_setCell_other _ _ _ _ (this _), World.cell?_setCell_other _ _ _ _ (this _), World.cell?_setCell_other _ _ _ _ (this _), World.cell?_setCell_other _ _ _ _ (this _)]
theorem wearM_view (M : ChM) (hok : M.view.ok) (j : Int) : wearM M j = NP.wearAt M.view j := wear_view M j (ok_len hok)
set_option maxRecDepth 100000 in
set_option maxHeartbeats 4000000 in
theorem gone_any (h : Held base w m G M) (hok : M.view.ok) (i : Nat) (hi : i < G.l.length) : Calls Try.prog 89 #[ptr m, vi i] w (HPost base w m G M (G.view.gone M.view i)) := by
  obtain ⟨c0, c1, c2, c3, c4, c5⟩ := h.cells
  have HM := Lib.hid (Mark_any h.chip hok i)
  have HDEF : Hid (G.view.gone M.view i = if (NP.mark M.view i).1 = 0 then (0, (NP.mark M.view i).2, (G.view.put i ⟨4, 0, NP.wearAt (NP.mark M.view i).2 i, 0⟩).shut i) else ((NP.mark M.view i).1, (NP.mark M.view i).2, G.view)) := Lib.hid rfl
  have hact := (NP.act_ok hok (faults_small h.chip.faults) (.mark i) trivial).1
  change (NP.mark M.view i).2.ok at hact
  have hPB : (NP.mark M.view i).2.P = M.view.P ∧ (NP.mark M.view i).2.B = M.view.B := by
    unfold NP.mark; dsimp only; split
    · exact ⟨rfl, rfl⟩
    · exact ⟨rfl, rfl⟩
  have H := Lib.hid h
  have hi0 : (0 : Int) ≤ (i : Int) := by omega
  have hi1 : (i : Int) < (G.l.length : Int) := by omega
  have HI := Lib.hid hi
  clear c1 c2 c3 c4 c5 h hok
  generalize hr1 : (NP.mark M.view i).1 = r1 at *
  generalize hr2 : (NP.mark M.view i).2 = V2 at *
  have HOK2 := Lib.hid hact
  have HM2 : Hid (Calls Try.prog 23 #[ptr G.k, vi i] w fun e w' => ∃ M', e = .returned (vi r1) ∧ Goes base w G.k M w' M' ∧ M'.view = V2) := Lib.hid (HM.out.mono (by
    rintro e w' ⟨M', he, hg, hv⟩
    exact ⟨M', by rw [he, hr1], hg, by rw [hv, hr2]⟩))
  clear hr1 hr2 hact HM hPB
  by_cases hz : r1 = 0
  · rw [if_pos hz] at HDEF
    have hzq : (r1 != 0) = false := by simp [hz]
    go_enter Try.func89, Try.ntmps89
    go_wp2_with fail
    refine HM2.out.mono ?_
    rintro e w1 ⟨M', rfl, hg, hv⟩
    have HG1 := Lib.hid (H.out.chipGoes hg)
    have HV := Lib.hid hv
    have hws : wearM M' i = NP.wearAt V2 i := by rw [wearM_view M' (by rw [hv]; exact HOK2.out), hv]
    generalize NP.wearAt V2 i = wr at *
    have HW := Lib.hid (fun w' (hc : ChipAt base w' G.k M') => Wear_any hc i)
    rw [hws] at HW
    have k0 : w1.cell? ⟨m, 0, none⟩ = some (ptr G.k) := HG1.out.at_.cells.1
    have k1 : w1.cell? ⟨m, 1, none⟩ = some (.slice (some ⟨G.gl, 0, none⟩) G.l.length G.cl) := HG1.out.at_.cells.2.1
    have k2 : w1.cell? ⟨m, 2, none⟩ = some (vi G.at_) := HG1.out.at_.cells.2.2.1
    have z2 := HG1.out.at_.mgr.mgr.frozen 2
    have z := fun j => HG1.out.at_.mgr.row.frozen j
    obtain ⟨d0, d1, d2, d3⟩ := HG1.out.at_.bcells HI.out
    clear hg hv hws c0
    have zz0 := z (i * 4)
    have zz1 := z (i * 4 + 1)
    have zz2 := z (i * 4 + 2)
    have zz3 := z (i * 4 + 3)
    have hne : Hid (G.gl ≠ m) := Lib.hid (fun e => H.out.ne e.symm)
    have hne1 : ¬ G.gl = m := hne.out
    have HS : Hid (w1.drew.cell? ⟨m, 0, none⟩ = some (ptr G.k) ∧ w1.drew.cell? ⟨m, 1, none⟩ = some (.slice (some ⟨G.gl, 0, none⟩) G.l.length G.cl)) := Lib.hid ⟨k0, k1⟩
    have HWD := Lib.hid (HW.out _ (HG1.out.at_.chip.old (Below.refl _ _).drew))
    have HFIN := Lib.hid ((HG1.out.old (Below.refl _ _).drew).trans ((HG1.out.old (Below.refl _ _).drew).at_.block (i := i) HI.out ⟨4, 0, wr, 0⟩))
    clear z HW
    go_upto_region 4 with fail
    go_region_held3 (fun w' => w'.cell? ⟨m, 0, none⟩ = some (ptr G.k) ∧ w'.cell? ⟨m, 1, none⟩ = some (.slice (some ⟨G.gl, 0, none⟩) G.l.length G.cl))
      (first
        | exact HS.out
        | exact ⟨(other4 hne.out).trans HS.out.1, (other4 hne.out).trans HS.out.2⟩)
      (first | (go_at_call 34; refine HWD.out.mono ?_; rintro e w' ⟨rfl, rfl⟩))
    change Hid (HGoes base w m G M ((((w1.setCell ⟨G.gl, i * 4, none⟩ (vi 4)).setCell ⟨G.gl, i * 4 + 1, none⟩ (vi 0)).setCell ⟨G.gl, i * 4 + 2, none⟩ (vi wr)).setCell ⟨G.gl, i * 4 + 3, none⟩ (vi 0)).drew (G.view.put i ⟨4, 0, wr, 0⟩) M') at HFIN
    change Exit.then _ _ _ _ ((((w1.setCell ⟨G.gl, i * 4, none⟩ (vi 4)).setCell ⟨G.gl, i * 4 + 1, none⟩ (vi 0)).setCell ⟨G.gl, i * 4 + 2, none⟩ (vi wr)).setCell ⟨G.gl, i * 4 + 3, none⟩ (vi 0)).drew
    clear k0 k1 k2 z2 d0 d1 d2 d3 zz0 zz1 zz2 zz3 HS HWD HG1
    generalize ((((w1.setCell ⟨G.gl, i * 4, none⟩ (vi 4)).setCell ⟨G.gl, i * 4 + 1, none⟩ (vi 0)).setCell ⟨G.gl, i * 4 + 2, none⟩ (vi wr)).setCell ⟨G.gl, i * 4 + 3, none⟩ (vi 0)).drew = w2 at *
    have k2 : w2.cell? ⟨m, 2, none⟩ = some (vi G.at_) := HFIN.out.at_.cells.2.2.1
    have z2 := HFIN.out.at_.mgr.mgr.frozen 2
    by_cases ha : (i : Int) = G.at_
    · have hq : ((i : Int) == G.at_) = true := beq_iff_eq.2 ha
      have HE := Lib.hid (HFIN.out.shut (i := i) ha)
      clear ha
      go_wp2_with fail
      go_ret
      exact HPost.mk HDEF.out HE.out HV.out
    · have hq : ((i : Int) == G.at_) = false := beq_eq_false_iff_ne.2 ha
      have HE := Lib.hid (HFIN.out.shutNo (i := i) ha)
      clear ha
      go_wp2_with fail
      go_ret
      exact HPost.mk HDEF.out HE.out HV.out
  · rw [if_neg hz] at HDEF
    have hzq : (r1 != 0) = true := by simp [hz]
    go_enter Try.func89, Try.ntmps89
    go_wp2_with fail
    refine HM2.out.mono ?_
    rintro e w1 ⟨M', rfl, hg, hv⟩
    have HG1 := Lib.hid (H.out.chipGoes hg)
    have HV := Lib.hid hv
    clear hg hv
    go_wp2_with fail
    go_ret
    exact HPost.mk HDEF.out HG1.out HV.out
set_option maxRecDepth 100000 in
theorem Retire_any (h : Held base w m G M) (hok : M.view.ok) (k : Int) : Calls Try.prog 42 #[ptr m, vi k] w (HPost base w m G M (G.view.retire M.view k)) := by
  have HDEF : Hid (G.view.retire M.view k = if G.view.idle M.view k ≠ 0 then (G.view.idle M.view k, M.view, G.view) else G.view.gone M.view k.toNat) := Lib.hid rfl
  have HI := Lib.hid (idle_any h k)
  have H := Lib.hid h
  have HOK := Lib.hid hok
  by_cases hz : G.view.idle M.view k = 0
  · rw [if_neg (by simp [hz])] at HDEF
    rw [hz] at HI
    obtain ⟨i, rfl, hi, -⟩ : ∃ i : Nat, k = i ∧ i < G.view.l.length ∧ True := by
      unfold Mg.idle at hz
      split at hz
      · simp at hz
      · split at hz
        · simp at hz
        · rename_i h1 h2
          obtain ⟨i, h3, h4, _⟩ := there_yes (k := k) (g := G.view) (by
            cases ht : G.view.there k
            · exact absurd (.inl ht) h2
            · rfl)
          exact ⟨i, h3, h4, trivial⟩
    rw [Int.toNat_natCast] at HDEF
    have HJ := Lib.hid hi
    clear hz h hok hi
    go_enter Try.func42, Try.ntmps42
    go_wp2_with fail
    refine HI.out.mono ?_
    rintro e w' ⟨rfl, rfl⟩
    go_wp2_with fail
    refine (gone_any H.out HOK.out i HJ.out).mono ?_
    rintro e w2 ⟨M', rfl, hg, hv⟩
    have HG := Lib.hid hg
    have HV := Lib.hid hv
    have HX : Hid ((G.view.gone M.view i).1 = (G.view.gone M.view i).1) := Lib.hid rfl
    clear hg hv HX
    generalize G.view.retire M.view i = R at *
    generalize G.view.gone M.view i = R' at *
    obtain rfl := HDEF.out
    go_wp2_with fail
    go_ret
    exact ⟨M', rfl, HG.out, HV.out⟩
  · rw [if_pos hz] at HDEF
    generalize G.view.idle M.view k = n at *
    have hzq : (n != 0) = true := by simp [hz]
    clear h hok hz
    go_enter Try.func42, Try.ntmps42
    go_wp2_with fail
    refine HI.out.mono ?_
    rintro e w' ⟨rfl, rfl⟩
    go_wp2_with fail
    go_ret
    exact HPost.mk HDEF.out (HGoes.refl H.out) rfl
end

end Go.Proofs.Ytpggkehfbhffbaa.mgr
