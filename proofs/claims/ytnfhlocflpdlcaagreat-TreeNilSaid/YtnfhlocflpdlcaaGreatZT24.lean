/-
  Lemmas for a law's proof, put together from several texts: each part says what it shows, and its conditions.
-/
import Derived.Test.YtnfhlocflpdlcaaGreatZT20
import Derived.Test.YtnfhlocflpdlcaaGreatZT22
import Derived.Test.YtnfhlocflpdlcaaGreatZT23
/-
  A manager of a chip's blocks: a block erased. Conditions: a manager and its chip told by Held.
-/
namespace Go.Proofs.YtnfhlocflpdlcaaGreat.mgr
open Go.RowKit

section
variable {base : Nat} {w w' : World} {m : Nat} {G : MgM} {M : ChM}
/-- What is left of an erasing, by what the chip told. -/
def Mg.wiped (c : NP.Chp) (g1 : Mg) (i : Nat) (e : Int) : Int × NP.Chp × Mg :=
  if e = 0 then (0, c, (g1.put i ⟨0, 0, NP.wearAt c i, 0⟩).shut i)
  else if e = 11 then (11, (Mg.gone c g1 i).2)
  else (e, c, g1)
theorem idle_zero {c : NP.Chp} {g : Mg} {k : Int} (hz : g.idle c k = 0) : ∃ i : Nat, k = i ∧ i < g.l.length := by
  unfold Mg.idle at hz
  split at hz
  · simp at hz
  · split at hz
    · simp at hz
    · rename_i h1 h2
      obtain ⟨i, h3, h4, _⟩ := there_yes (k := k) (g := g) (by
        cases ht : g.there k
        · exact absurd (.inl ht) h2
        · rfl)
      exact ⟨i, h3, h4⟩
theorem chip_Erase {k : Nat} (h : ChipAt base w k M) (hok : M.view.ok) (j : Int) : Calls Tryz.prog 114 #[ptr k, vi j] w (ActPost base w k M (NP.erase M.view j)) := Go.Proofs.YtnfhlocflpdlcaaGreat.Erase_any h hok j
theorem wearM_of {V : NP.Chp} {M' : ChM} (hv : M'.view = V) (hok : V.ok) (j : Int) : wearM M' j = NP.wearAt V j := by rw [wearM_view M' (by rw [hv]; exact hok), hv]
set_option maxRecDepth 100000 in
set_option maxHeartbeats 4000000 in
theorem Erase_any (h : Held base w m G M) (hok : M.view.ok) (k : Int) : Calls Tryz.prog 245 #[ptr m, vi k] w (HPost base w m G M (G.view.erase M.view k)) := by
  have HI := Lib.hid (idle_any h k)
  have H := Lib.hid h
  have HOK := Lib.hid hok
  by_cases hz : G.view.idle M.view k = 0
  · obtain ⟨i, rfl, hi⟩ := idle_zero hz
    have hi0 : (0 : Int) ≤ (i : Int) := by omega
    have hi1 : (i : Int) < (G.l.length : Int) := by
      have : i < G.l.length := hi
      omega
    have HII : Hid (i < G.l.length) := Lib.hid hi
    obtain ⟨c0, c1, c2, c3, c4, c5⟩ := h.cells
    obtain ⟨d0, d1, d2, d3⟩ := h.bcells hi
    have HDEF : Hid (G.view.erase M.view i = if (G.l.getD i default).s = 1 ∧ 0 < (G.l.getD i default).n then (1, M.view, G.view) else
        Mg.wiped (NP.erase M.view i).2 (G.view.put i { G.l.getD i default with r := NP.wearAt (NP.erase M.view i).2 i }) i (NP.erase M.view i).1) := Lib.hid (by
      unfold Mg.erase Mg.wiped
      dsimp only
      rw [hz, if_neg (by simp), Int.toNat_natCast])
    rw [hz] at HI
    by_cases ho : (G.l.getD i default).s = 1 ∧ 0 < (G.l.getD i default).n
    · rw [if_pos ho] at HDEF
      have hs : ((G.l.getD i default).s == 1) = true := beq_iff_eq.2 ho.1
      have hn := ho.2
      generalize (G.l.getD i default).s = xs at *
      generalize (G.l.getD i default).n = xn at *
      clear h hok hz hi d1 d2 c0 c2 c3 c4 c5 ho
      go_enter Tryz.func245, Tryz.ntmps245
      go_wp2_with fail
      refine HI.out.mono ?_
      rintro e w' ⟨rfl, rfl⟩
      go_wp2_with fail
      go_ret
      exact HPost.mk HDEF.out (HGoes.refl H.out) rfl
    · rw [if_neg ho] at HDEF
      have hact := (NP.act_ok hok (faults_small h.chip.faults) (.erase i) trivial).1
      change (NP.erase M.view i).2.ok at hact
      have HE := Lib.hid (chip_Erase h.chip hok i)
      have HGET : Hid (∀ z, (G.l.set i z).getD i default = z) := Lib.hid (fun z => by rw [blk_set _ _ _ _ hi, if_pos rfl])
      generalize hr1 : (NP.erase M.view i).1 = r1 at *
      generalize hr2 : (NP.erase M.view i).2 = V2 at *
      have HOK2 := Lib.hid hact
      have HE2 : Hid (Calls Tryz.prog 114 #[ptr G.k, vi i] w fun e w' => ∃ M', e = .returned (vi r1) ∧ Goes base w G.k M w' M' ∧ M'.view = V2) := Lib.hid (HE.out.mono (by
        rintro e w' ⟨M', he, hg, hv⟩
        exact ⟨M', by rw [he, hr1], hg, by rw [hv, hr2]⟩))
      clear hr1 hr2 hact HE h hok hz hi c2 c3 c4 c5 d1 d2
      have hdec : ((G.l.getD i default).s == 1) = false ∨ (((G.l.getD i default).s == 1) = true ∧ ¬ 0 < (G.l.getD i default).n) := by
        by_cases hs : (G.l.getD i default).s = 1
        · exact .inr ⟨beq_iff_eq.2 hs, fun hn => ho ⟨hs, hn⟩⟩
        · exact .inl (beq_eq_false_iff_ne.2 hs)
      clear ho
      generalize (G.l.getD i default).s = xs at d0 hdec
      generalize (G.l.getD i default).n = xn at d3 hdec
      have HDC := Lib.hid hdec
      clear hdec
      go_enter Tryz.func245, Tryz.ntmps245
      go_wp2_with fail
      refine HI.out.mono ?_
      rintro e w' ⟨rfl, rfl⟩
      go_upto_region 4 with fail
      go_cut [32] from 13 to 32 (fun v wx => v = .bool false ∧ wx = w')
      case first =>
        rcases HDC.out with hs | ⟨hs, hn⟩
        · go_wp2_with fail
          go_meet
          exact ⟨rfl, rfl⟩
        · have hn' : decide (0 < xn) = false := decide_eq_false (by omega)
          go_wp2_with fail
          go_meet
          exact ⟨rfl, rfl⟩
      case rest =>
      obtain ⟨rfl, rfl⟩ := hcut
      clear HDC d0 d3
      go_wp2_with fail
      refine HE2.out.mono ?_
      rintro e w1 ⟨M', rfl, hg, hv⟩
      have HG1 := Lib.hid (H.out.chipGoes hg)
      have HV := Lib.hid hv
      have HW := Lib.hid (fun w' (hc : ChipAt base w' G.k M') => Wear_any hc i)
      rw [wearM_of hv HOK2.out] at HW
      have HWV : Hid (NP.wearAt V2 i = NP.wearAt V2 i) := Lib.hid rfl
      clear hg hv c0 c1
      have k0 : w1.cell? ⟨m, 0, none⟩ = some (ptr G.k) := HG1.out.at_.cells.1
      have k1 : w1.cell? ⟨m, 1, none⟩ = some (.slice (some ⟨G.gl, 0, none⟩) G.l.length G.cl) := HG1.out.at_.cells.2.1
      have d2 := (HG1.out.at_.bcells HII.out).2.2.1
      have z2 := HG1.out.at_.mgr.row.frozen (i * 4 + 2)
      have hne : Hid (G.gl ≠ m) := Lib.hid (fun e => H.out.ne e.symm)
      have hne1 : ¬ G.gl = m := hne.out
      have HS : Hid (w1.drew.cell? ⟨m, 0, none⟩ = some (ptr G.k) ∧ w1.drew.cell? ⟨m, 1, none⟩ = some (.slice (some ⟨G.gl, 0, none⟩) G.l.length G.cl)) := Lib.hid ⟨k0, k1⟩
      have hadr : Hid (∀ o j, (⟨G.gl, o, none⟩ : Addr) ≠ ⟨m, j, none⟩) := Lib.hid (fun o j e => hne.out (by injection e))
      have HWD := Lib.hid (HW.out _ (HG1.out.at_.chip.old (Below.refl _ _).drew))
      have HG2 : Hid (HGoes base wc m G M (w1.setCell ⟨G.gl, i * 4 + 2, none⟩ (vi (NP.wearAt V2 i))).drew (G.view.put i { G.l.getD i default with r := NP.wearAt V2 i }) M') := Lib.hid
        ((HG1.out.trans (HG1.out.at_.cell (i := i) (j := 2) HII.out (by decide) (vi (NP.wearAt V2 i)) { G.l.getD i default with r := NP.wearAt V2 i } rfl)).old (Below.refl _ _).drew)
      have HLL : Hid ((G.view.put i { G.l.getD i default with r := NP.wearAt V2 i }).l.length = G.l.length) := Lib.hid (by simp [Mg.put])
      generalize G.view.put i { G.l.getD i default with r := NP.wearAt V2 i } = g1 at *
      generalize (G.l.getD i default).r = xr at *
      go_upto_region 7 with fail
      go_region_held3 (fun w' => w'.cell? ⟨m, 0, none⟩ = some (ptr G.k) ∧ w'.cell? ⟨m, 1, none⟩ = some (.slice (some ⟨G.gl, 0, none⟩) G.l.length G.cl))
        (first
          | exact HS.out
          | exact ⟨(World.cell?_setCell_other _ _ _ _ (hadr.out _ _)).trans HS.out.1, (World.cell?_setCell_other _ _ _ _ (hadr.out _ _)).trans HS.out.2⟩)
        (first | (go_at_call 155; refine HWD.out.mono ?_; rintro e w' ⟨rfl, rfl⟩))
      change Exit.then _ _ _ _ (w1.setCell ⟨G.gl, i * 4 + 2, none⟩ (vi (NP.wearAt V2 i))).drew
      clear k0 k1 d2 z2 HS HWD HG1
      generalize (w1.setCell ⟨G.gl, i * 4 + 2, none⟩ (vi (NP.wearAt V2 i))).drew = w2 at *
      have HOKM : Hid (M'.view.ok) := Lib.hid (by rw [HV.out]; exact HOK2.out)
      by_cases h0 : r1 = 0
      · subst h0
        have HDEF2 : Hid (G.view.erase M.view i = (0, V2, (g1.put i ⟨0, 0, NP.wearAt V2 i, 0⟩).shut i)) := Lib.hid (by rw [HDEF.out]; rfl)
        have k0 : w2.cell? ⟨m, 0, none⟩ = some (ptr G.k) := HG2.out.at_.cells.1
        have k1 : w2.cell? ⟨m, 1, none⟩ = some (.slice (some ⟨G.gl, 0, none⟩) G.l.length G.cl) := by
          rw [← HLL.out]; exact HG2.out.at_.cells.2.1
        have hi3 : i < g1.l.length := by rw [HLL.out]; exact HII.out
        obtain ⟨d0, d1, d2, d3⟩ := HG2.out.at_.bcells hi3
        have z := fun j => HG2.out.at_.mgr.row.frozen j
        have zz0 := z (i * 4)
        have zz1 := z (i * 4 + 1)
        have zz2 := z (i * 4 + 2)
        have zz3 := z (i * 4 + 3)
        have HS : Hid (w2.drew.cell? ⟨m, 0, none⟩ = some (ptr G.k) ∧ w2.drew.cell? ⟨m, 1, none⟩ = some (.slice (some ⟨G.gl, 0, none⟩) G.l.length G.cl)) := Lib.hid ⟨k0, k1⟩
        have HWD := Lib.hid (HW.out _ (HG2.out.at_.chip.old (Below.refl _ _).drew))
        have HFIN : Hid (HGoes base wc m G M ((((w2.setCell ⟨G.gl, i * 4, none⟩ (vi 0)).setCell ⟨G.gl, i * 4 + 1, none⟩ (vi 0)).setCell ⟨G.gl, i * 4 + 2, none⟩ (vi (NP.wearAt V2 i))).setCell ⟨G.gl, i * 4 + 3, none⟩ (vi 0)).drew (g1.put i ⟨0, 0, NP.wearAt V2 i, 0⟩) M') := Lib.hid
          ((HG2.out.trans (HG2.out.at_.block (i := i) hi3 ⟨0, 0, NP.wearAt V2 i, 0⟩)).old (Below.refl _ _).drew)
        have HAT : Hid ((g1.put i ⟨0, 0, NP.wearAt V2 i, 0⟩).at_ = g1.at_) := Lib.hid rfl
        dsimp only [MgM.lay] at d0 d1 d2 d3
        generalize (g1.l.getD i default).s = y0 at *
        generalize (g1.l.getD i default).l = y1 at *
        generalize (g1.l.getD i default).r = y2 at *
        generalize (g1.l.getD i default).n = y3 at *
        clear z HW hi3 HDEF
        go_upto_region 11 with fail
        go_region_held3 (fun w' => w'.cell? ⟨m, 0, none⟩ = some (ptr G.k) ∧ w'.cell? ⟨m, 1, none⟩ = some (.slice (some ⟨G.gl, 0, none⟩) G.l.length G.cl))
          (first
            | exact HS.out
            | exact ⟨(other4 hne.out).trans HS.out.1, (other4 hne.out).trans HS.out.2⟩)
          (first | (go_at_call 155; refine HWD.out.mono ?_; rintro e w' ⟨rfl, rfl⟩))
        change Exit.then _ _ _ _ ((((w2.setCell ⟨G.gl, i * 4, none⟩ (vi 0)).setCell ⟨G.gl, i * 4 + 1, none⟩ (vi 0)).setCell ⟨G.gl, i * 4 + 2, none⟩ (vi (NP.wearAt V2 i))).setCell ⟨G.gl, i * 4 + 3, none⟩ (vi 0)).drew
        clear k0 k1 d0 d1 d2 d3 zz0 zz1 zz2 zz3 HS HWD HG2
        generalize ((((w2.setCell ⟨G.gl, i * 4, none⟩ (vi 0)).setCell ⟨G.gl, i * 4 + 1, none⟩ (vi 0)).setCell ⟨G.gl, i * 4 + 2, none⟩ (vi (NP.wearAt V2 i))).setCell ⟨G.gl, i * 4 + 3, none⟩ (vi 0)).drew = w3 at *
        have k2 : w3.cell? ⟨m, 2, none⟩ = some (vi g1.at_) := HFIN.out.at_.cells.2.2.1
        have z2 := HFIN.out.at_.mgr.mgr.frozen 2
        by_cases ha : (i : Int) = g1.at_
        · have hq : ((i : Int) == g1.at_) = true := beq_iff_eq.2 ha
          have HE := Lib.hid (HFIN.out.shut (i := i) ha)
          clear ha
          go_wp2_with fail
          go_ret
          exact HPost.mk HDEF2.out HE.out HV.out
        · have hq : ((i : Int) == g1.at_) = false := beq_eq_false_iff_ne.2 ha
          have HE := Lib.hid (HFIN.out.shutNo (i := i) ha)
          clear ha
          go_wp2_with fail
          go_ret
          exact HPost.mk HDEF2.out HE.out HV.out
      · have hq0 : (r1 == 0) = false := beq_eq_false_iff_ne.2 h0
        by_cases h11 : r1 = 11
        · subst h11
          have HDEF2 : Hid (G.view.erase M.view i = (11, (Mg.gone V2 g1 i).2)) := Lib.hid (by rw [HDEF.out]; rfl)
          clear hq0 h0 HDEF
          go_wp2_with fail
          refine (gone_any HG2.out.at_ HOKM.out i (by dsimp only [MgM.lay]; rw [HLL.out]; exact HII.out)).mono ?_
          rintro e w3 ⟨M3, rfl, hg3, hv3⟩
          rw [HV.out] at hg3 hv3
          have HG3 := Lib.hid (HG2.out.trans hg3)
          have HV3 := Lib.hid hv3
          clear hg3 hv3
          rw [HV.out]
          change Hid (HGoes base wc m G M w3 (Mg.gone V2 g1 i).2.2 M3) at HG3
          change Hid (M3.view = (Mg.gone V2 g1 i).2.1) at HV3
          generalize Mg.gone V2 (MgM.lay G g1).view i = X at *
          go_wp2_with fail
          go_ret
          exact ⟨M3, ret_int (by rw [HDEF2.out]), by rw [HDEF2.out]; exact HG3.out, by rw [HDEF2.out]; exact HV3.out⟩
        · have hq1 : (r1 == 11) = false := beq_eq_false_iff_ne.2 h11
          have HDEF2 : Hid (G.view.erase M.view i = (r1, V2, g1)) := Lib.hid (by rw [HDEF.out]; unfold Mg.wiped; rw [if_neg h0, if_neg h11])
          clear h0 h11 HDEF
          go_wp2_with fail
          go_ret
          exact HPost.mk HDEF2.out HG2.out HV.out
  · have HDEF : Hid (G.view.erase M.view k = (G.view.idle M.view k, M.view, G.view)) := Lib.hid (by unfold Mg.erase; dsimp only; rw [if_pos hz])
    generalize G.view.idle M.view k = n at *
    have hzq : (n != 0) = true := by simp [hz]
    clear h hok hz
    go_enter Tryz.func245, Tryz.ntmps245
    go_wp2_with fail
    refine HI.out.mono ?_
    rintro e w' ⟨rfl, rfl⟩
    go_wp2_with fail
    go_ret
    exact HPost.mk HDEF.out (HGoes.refl H.out) rfl
end

end Go.Proofs.YtnfhlocflpdlcaaGreat.mgr

/-
  What an operation of a manager leaves, in plain words: the chip goes by its own acts, the manager stays right, a page that is programmed stays. No program in sight; conditions: a chip and a manager that are right.
-/
namespace Go.Proofs.YtnfhlocflpdlcaaGreat.mgr
open Go.RowKit

/-- What holds of a chip behind operations. -/
structure Good6 (c : NP.Chp) : Prop where
  ok : c.ok
  small : NP.small c.fs
  order : c.order
theorem Good6.act {c : NP.Chp} (h : Good6 c) (a : NP.Act) (ha : a.fine) : Good6 (NP.act c a) := by
  obtain ⟨h1, h2⟩ := NP.act_ok h.ok h.small a ha
  exact ⟨h1, h2, NP.order_act h.ok h.order a⟩
theorem new_good6 {b p s : Int} {bad : List Int} {d : NP.Chp} (e : NP.new b p s bad = some d) : Good6 d := by
  obtain ⟨h1, h2, h3, _⟩ := NP.new_ok e
  exact ⟨h1, (by rw [h3]; exact fun f hf => by cases hf), h2⟩
/-- What a manager tells depends on what it is alone. -/
def Mg.std (g : Mg) : MgM := ⟨0, g.l, 0, 0, g.at_, g.reserve, g.bad, g.even⟩
theorem Mg.ok.fit {c : NP.Chp} {g : Mg} (h : g.ok c) (hB : c.B ≤ 128) (hP : c.P ≤ 32) : g.std.fit c.P := by
  refine ⟨by have := h.len; show g.l.length ≤ 128; omega, hP, ?_⟩
  rcases h.at1 with e | ⟨i, e, hi, hs⟩
  · exact .inl e
  · have h1 := h.open_ _ (blk_mem hi) hs
    have h2 := h.rng _ (blk_mem hi)
    exact .inr ⟨i, e, hi, h2.2.2.2.2.1, h2.2.2.2.2.2⟩
theorem MgM.fit_of {G : MgM} {g : Mg} {P : Nat} (hv : G.view = g) (h : g.std.fit P) : G.fit P := by subst hv; exact h
theorem roomL_of {G : MgM} {g : Mg} (hv : G.view = g) (P : Nat) : roomL G P = roomL g.std P := by subst hv; rfl
theorem nextL_of {G : MgM} {g : Mg} (hv : G.view = g) (P : Nat) : nextL G P = nextL g.std P := by subst hv; rfl
/-- A chip behind acts; only these blocks may be erased. -/
inductive ActsN (E : Int → Prop) (c : NP.Chp) : NP.Chp → Prop where
  | refl : ActsN E c c
  | step {c' : NP.Chp} (a : NP.Act) : ActsN E c c' → a.fine → (∀ k, a = .erase k → E k) → ActsN E c (NP.act c' a)
theorem act_dims6 (c : NP.Chp) (a : NP.Act) : (NP.act c a).B = c.B ∧ (NP.act c a).P = c.P ∧ (NP.act c a).S = c.S := by
  cases a with
  | program k p b =>
    unfold NP.act NP.program
    dsimp only
    repeat (first | exact ⟨rfl, rfl, rfl⟩ | split)
  | erase k =>
    unfold NP.act NP.erase
    dsimp only
    repeat (first | exact ⟨rfl, rfl, rfl⟩ | split)
  | mark k =>
    unfold NP.act NP.mark
    dsimp only
    repeat (first | exact ⟨rfl, rfl, rfl⟩ | split)
  | read k p =>
    unfold NP.act NP.readP
    dsimp only
    repeat (first | exact ⟨rfl, rfl, rfl⟩ | split)
  | lose => exact ⟨rfl, rfl, rfl⟩
  | start => exact ⟨rfl, rfl, rfl⟩
  | none => exact ⟨rfl, rfl, rfl⟩
  | script l =>
    show (NP.script c l).2.B = c.B ∧ (NP.script c l).2.P = c.P ∧ (NP.script c l).2.S = c.S
    unfold NP.script
    split <;> exact ⟨rfl, rfl, rfl⟩
section
variable {E E' : Int → Prop} {c c' c'' : NP.Chp}
theorem ActsN.trans (h : ActsN E c c') (q : ActsN E c' c'') : ActsN E c c'' := by
  induction q with
  | refl => exact h
  | step a _ h2 h3 ih => exact .step a ih h2 h3
theorem ActsN.mono (h : ActsN E c c') (hE : ∀ k, E k → E' k) : ActsN E' c c' := by
  induction h with
  | refl => exact .refl
  | step a _ h2 h3 ih => exact .step a ih h2 (fun k e => hE k (h3 k e))
theorem ActsN.good (h : ActsN E c c') (hg : Good6 c) : Good6 c' := by
  induction h with
  | refl => exact hg
  | step a _ h2 _ ih => exact ih.act a h2
theorem ActsN.dims (h : ActsN E c c') : c'.B = c.B ∧ c'.P = c.P ∧ c'.S = c.S := by
  induction h with
  | refl => exact ⟨rfl, rfl, rfl⟩
  | step a _ _ _ ih =>
    exact ⟨(act_dims6 _ a).1.trans ih.1, (act_dims6 _ a).2.1.trans ih.2.1, (act_dims6 _ a).2.2.trans ih.2.2⟩
theorem ActsN.kept (h : ActsN E c c') (hg : Good6 c) {k p : Nat} (hk : ¬ E k) (hp : (c.blk k).page p ≠ []) : (c'.blk k).page p = (c.blk k).page p := by
  induction h with
  | refl => rfl
  | @step c1 a h1 h2 h3 ih =>
    have hg1 := h1.good hg
    rw [← ih]
    exact NP.keeps hg1.ok hg1.order a (by rw [ih]; exact hp) (fun e => hk (h3 _ e))
theorem ActsN.one (a : NP.Act) (h2 : a.fine) (h3 : ∀ k, a = .erase k → E k) : ActsN E c (NP.act c a) := .step a .refl h2 h3
theorem Mg.ok.acts {g : Mg} (h : g.ok c) (q : ActsN E c c') : g.ok c' := h.chip q.dims.1 q.dims.2.1
theorem ok_dims (h : c.ok) : 8 ≤ c.B ∧ c.B ≤ 128 ∧ 4 ≤ c.P ∧ c.P ≤ 32 ∧ 64 ≤ c.S := by
  have : NP.rightB c.B c.P c.S = true := h.right
  unfold NP.rightB at this
  simp only [Bool.and_eq_true, decide_eq_true_eq, Bool.or_eq_true, beq_iff_eq] at this
  omega
/-- What is programmed is there. -/
theorem program_there (h : c.ok) {k p : Int} {b : List Nat} (h0 : (NP.program c k p b).1 = 0) : 0 ≤ k ∧ k < c.B ∧ 0 ≤ p ∧ p < c.P ∧ b.length = c.full ∧ ((NP.program c k p b).2.blk k.toNat).page p.toNat = b := by
  revert h0
  unfold NP.program
  dsimp only
  split
  · rename_i he
    obtain ⟨_, h0, h1, h2, h3⟩ := NP.asked_zero he
    have hk : k.toNat < c.B := by omega
    split
    · rename_i hl
      split
      · intro h; cases h
      · split
        · intro h; cases h
        · rename_i hb
          simp only [Bool.or_eq_true, decide_eq_true_eq, not_or, Decidable.not_not] at hb
          have hn : (c.blk k.toNat).next < c.P := by omega
          split
          · intro h; cases h
          · split
            · intro h; cases h
            · split
              · intro h; cases h
              · intro _
                refine ⟨h0, h1, h2, h3, hl, ?_⟩
                rw [NP.put_page (NP.stroke_ok h) hk hn, if_pos]
                exact ⟨rfl, by show (c.blk k.toNat).next = _; omega⟩
    · intro h; cases h
  · intro h; rename_i he; exact absurd h he
end

section
variable {c : NP.Chp} {g : Mg} {b : List Nat}
theorem progTo_acts (hb : ∀ y ∈ b, y < 256) : ∀ (n : Nat) (c : NP.Chp) (g : Mg), ActsN (fun _ => False) c (Mg.progTo b n c g).2.1
  | 0, c, g => .refl
  | n + 1, c, g => by
    rw [progTo_succ]
    unfold Mg.progStep
    dsimp only
    generalize g.ready = g
    split
    · exact .refl
    · have h1 : ActsN (fun _ => False) c (NP.program c g.at_.toNat (g.blk g.at_.toNat).n b).2 := .one (.program g.at_.toNat (g.blk g.at_.toNat).n b) hb (fun k e => by cases e)
      split
      · exact h1.trans (progTo_acts hb n _ _)
      · split
        · exact h1
        · split <;> exact h1
theorem program_acts6 (hb : ∀ y ∈ b, y < 256) : ActsN (fun _ => False) c (Mg.program b c g).2.1 := by
  unfold Mg.program
  split
  · exact .refl
  · split
    · exact .refl
    · exact progTo_acts hb _ _ _
/-- A page more in a block that is open. -/
theorem Mg.ok.more (h : g.ok c) {i : Nat} (hi : i < g.l.length) (ha : g.at_ = i) (hs : (g.blk i).s = 1) :
    (if (g.blk i).n + 1 = c.P then (g.put i { g.blk i with n := (g.blk i).n + 1, l := (g.blk i).l + 1 }).close i else g.put i { g.blk i with n := (g.blk i).n + 1, l := (g.blk i).l + 1 }).ok c := by
  obtain ⟨h1, h2, h3, h4, h5, h6⟩ := h.rng (g.blk i) (blk_mem hi)
  obtain ⟨h7, h8⟩ := h.open_ (g.blk i) (blk_mem hi) hs
  split
  · rename_i e
    have e1 : (g.put i { g.blk i with n := (g.blk i).n + 1, l := (g.blk i).l + 1 }).close i = { g with l := g.l.set i (closeB { g.blk i with n := (g.blk i).n + 1, l := (g.blk i).l + 1 }), at_ := if (i : Int) = g.at_ then -1 else g.at_ } := by
      unfold Mg.close Mg.shut Mg.put Mg.blk
      dsimp only
      rw [blk_set _ _ _ _ hi, if_pos rfl, List.set_set]
    rw [e1]
    refine h.lay hi _ ?_ ?_ ?_ _ ?_ (fun _ => rfl)
    · unfold closeB; dsimp only; split <;> omega
    · unfold closeB; dsimp only; split <;> omega
    · unfold closeB; dsimp only; split <;> omega
    · unfold closeB; dsimp only; split <;> omega
  · have e1 : g.put i { g.blk i with n := (g.blk i).n + 1, l := (g.blk i).l + 1 } = { g with l := g.l.set i { g.blk i with n := (g.blk i).n + 1, l := (g.blk i).l + 1 }, at_ := i } := by
      unfold Mg.put
      rw [← ha]
    rw [e1]
    refine h.lay hi _ ?_ ?_ ?_ _ ?_ ?_
    · dsimp only; omega
    · dsimp only; intro e; exact absurd hs e
    · dsimp only; omega
    · intro _; exact ⟨.inr ha, rfl⟩
    · dsimp only; intro e; exact absurd hs e
theorem progTo_right (hb : ∀ y ∈ b, y < 256) : ∀ (n : Nat) (c : NP.Chp) (g : Mg), c.ok → Good6 c → g.ok c → (Mg.progTo b n c g).2.2.ok (Mg.progTo b n c g).2.1
  | 0, c, g, _, _, h => h
  | n + 1, c, g, hc, hG, h => by
    rw [progTo_succ]
    unfold Mg.progStep
    dsimp only
    have hr := h.ready (by have := ok_dims hc; omega)
    generalize g.ready = g at *
    split
    · exact hr
    · rename_i ha
      rcases hr.at1 with e | ⟨i, e, hi, hs⟩
      · exact absurd e ha
      · rw [e, Int.toNat_natCast]
        have h1 : ActsN (fun _ => False) c (NP.program c i (g.blk i).n b).2 := .one (.program i (g.blk i).n b) hb (fun k e => by cases e)
        split
        · exact progTo_right hb n _ _ (h1.good hG).ok (h1.good hG) ((hr.close hi).acts h1)
        · split
          · exact (hr.more hi e hs).acts h1
          · split
            · exact (hr.close hi).acts h1
            · exact hr.acts h1
theorem program_right (hb : ∀ y ∈ b, y < 256) (hG : Good6 c) (h : g.ok c) : (Mg.program b c g).2.2.ok (Mg.program b c g).2.1 := by
  unfold Mg.program
  split
  · exact h
  · split
    · exact h
    · exact progTo_right hb _ _ _ hG.ok hG h
/-- Where it was told that it was programmed it is. -/
theorem progTo_there (hb : ∀ y ∈ b, y < 256) : ∀ (n : Nat) (c : NP.Chp) (g : Mg), Good6 c → g.ok c → (Mg.progTo b n c g).1.2.2 = 0 →
    0 ≤ (Mg.progTo b n c g).1.1 ∧ (Mg.progTo b n c g).1.1 < c.B ∧ 0 ≤ (Mg.progTo b n c g).1.2.1 ∧ (Mg.progTo b n c g).1.2.1 < c.P ∧ b.length = c.full ∧ ((Mg.progTo b n c g).2.1.blk (Mg.progTo b n c g).1.1.toNat).page (Mg.progTo b n c g).1.2.1.toNat = b
  | 0, c, g, _, _ => fun e => by cases e
  | n + 1, c, g, hG, h => by
    rw [progTo_succ]
    unfold Mg.progStep
    dsimp only
    have hr := h.ready (by have := ok_dims hG.ok; omega)
    generalize g.ready = g at *
    split
    · intro e; cases e
    · rename_i ha
      rcases hr.at1 with e | ⟨i, e, hi, hs⟩
      · exact absurd e ha
      · rw [e, Int.toNat_natCast]
        have h1 : ActsN (fun _ => False) c (NP.program c i (g.blk i).n b).2 := .one (.program i (g.blk i).n b) hb (fun k e => by cases e)
        split
        · intro h0
          have ih := progTo_there hb n _ _ (h1.good hG) ((hr.close hi).acts h1) h0
          rw [h1.dims.1, h1.dims.2.1] at ih
          have hf : (NP.program c i (g.blk i).n b).2.full = c.full := by unfold NP.Chp.full; rw [h1.dims.2.2]
          rw [hf] at ih
          exact ih
        · split
          · rename_i h0
            intro _
            have := program_there hG.ok h0
            dsimp only
            rw [Int.toNat_natCast] at this ⊢
            exact this
          · split
            · rename_i h0; intro e; cases e
            · rename_i h0 _; intro e; exact absurd e h0
theorem program_there6 (hb : ∀ y ∈ b, y < 256) (hG : Good6 c) (h : g.ok c) (h0 : (Mg.program b c g).1.2.2 = 0) :
    0 ≤ (Mg.program b c g).1.1 ∧ (Mg.program b c g).1.1 < c.B ∧ 0 ≤ (Mg.program b c g).1.2.1 ∧ (Mg.program b c g).1.2.1 < c.P ∧ b.length = c.full ∧ ((Mg.program b c g).2.1.blk (Mg.program b c g).1.1.toNat).page (Mg.program b c g).1.2.1.toNat = b := by
  revert h0
  unfold Mg.program
  split
  · intro e; cases e
  · split
    · intro e; cases e
    · exact progTo_there hb _ _ _ hG h
theorem there_i {k : Int} (h : g.there k = true) : 0 ≤ k ∧ k.toNat < g.l.length := by
  unfold Mg.there at h
  simp only [Bool.and_eq_true, decide_eq_true_eq] at h
  omega
theorem drop_right (h : g.ok c) (k : Int) : (g.drop k).2.ok c := by
  unfold Mg.drop
  dsimp only
  split
  · exact h
  · rename_i hn
    simp only [not_or, Bool.not_eq_false] at hn
    obtain ⟨h0, hi⟩ := there_i hn.1
    obtain ⟨h1, h2, h3, h4, h5, h6⟩ := h.rng (g.blk k.toNat) (blk_mem hi)
    have h7 := h.none_ (g.blk k.toNat) (blk_mem hi)
    have h8 := h.open_ (g.blk k.toNat) (blk_mem hi)
    have h9 := h.at2 k.toNat hi
    have HA := Lib.hid h.at1
    refine h.lay hi _ ?_ ?_ ?_ g.at_ ?_ ?_
    · dsimp only; split <;> omega
    · dsimp only; split <;> omega
    · dsimp only; split <;> omega
    · dsimp only
      intro e
      split at e
      · omega
      · have := h9 e
        exact ⟨.inr this, this⟩
    · dsimp only
      intro e
      split
      · rename_i e2
        rcases HA.out with e3 | ⟨i, e3, hi2, hs⟩
        · omega
        · obtain rfl : i = k.toNat := by omega
          rw [if_neg (by omega)] at e
          exact absurd hs e
      · rfl
/-- A block is done with: it is free, or bad. -/
theorem Mg.ok.done (h : g.ok c) {i : Nat} (hi : i < g.l.length) (s r : Int) (h0 : s = 0 ∨ s = 4) : ((g.put i ⟨s, 0, r, 0⟩).shut i).ok c := by
  refine h.lay hi ⟨s, 0, r, 0⟩ ?_ ?_ ?_ _ ?_ (fun _ => rfl)
  · dsimp only; omega
  · dsimp only; omega
  · dsimp only; omega
  · dsimp only; omega
theorem Mg.ok.worn (h : g.ok c) {i : Nat} (hi : i < g.l.length) (r : Int) : (g.put i { g.blk i with r := r }).ok c := by
  have h1 := h.rng (g.blk i) (blk_mem hi)
  have h7 := h.none_ (g.blk i) (blk_mem hi)
  have h8 := h.open_ (g.blk i) (blk_mem hi)
  have h9 := h.at2 i hi
  have HA := Lib.hid h.at1
  refine h.lay hi { g.blk i with r := r } h1 h7 h8 g.at_ ?_ ?_
  · intro e; exact ⟨.inr (h9 e), h9 e⟩
  · dsimp only
    intro e
    split
    · rename_i e2
      rcases HA.out with e3 | ⟨j, e3, hi2, hs⟩
      · omega
      · obtain rfl : j = i := by omega
        exact absurd hs e
    · rfl
theorem gone_acts (k : Nat) : ActsN (fun _ => False) c (Mg.gone c g k).2.1 := by
  unfold Mg.gone
  dsimp only
  have h1 : ActsN (fun _ => False) c (NP.mark c k).2 := .one (.mark k) trivial (fun k e => by cases e)
  split <;> exact h1
theorem gone_right (h : g.ok c) {k : Nat} (hi : k < g.l.length) : (Mg.gone c g k).2.2.ok (Mg.gone c g k).2.1 := by
  have h1 := gone_acts (c := c) (g := g) k
  refine Mg.ok.acts ?_ h1
  unfold Mg.gone
  dsimp only
  split
  · exact h.done hi 4 _ (.inr rfl)
  · exact h
theorem idle_i {k : Int} (h : g.idle c k = 0) : 0 ≤ k ∧ k.toNat < g.l.length := by
  unfold Mg.idle at h
  split at h
  · cases h
  · split at h
    · cases h
    · rename_i hn
      simp only [not_or, Bool.not_eq_false] at hn
      exact there_i hn.1
theorem erase_acts6 (k : Int) : ActsN (fun j => j = k) c (Mg.erase c g k).2.1 := by
  unfold Mg.erase
  dsimp only
  have h1 : ActsN (fun j => j = k) c (NP.erase c k).2 := .one (.erase k) trivial (fun j e => by injection e with e; exact e.symm)
  split
  · exact .refl
  · split
    · exact .refl
    · split
      · exact h1
      · split
        · refine h1.trans ?_
          exact (gone_acts _).mono (fun _ e => e.elim)
        · exact h1
theorem erase_right (h : g.ok c) (k : Int) : (Mg.erase c g k).2.2.ok (Mg.erase c g k).2.1 := by
  refine Mg.ok.acts ?_ (erase_acts6 (c := c) (g := g) k)
  unfold Mg.erase
  dsimp only
  split
  · exact h
  · rename_i hz
    obtain ⟨h0, hi⟩ := idle_i (by simpa using hz)
    split
    · exact h
    · have hw := h.worn hi (NP.wearAt (NP.erase c k).2 k)
      have hil : k.toNat < (g.put k.toNat { g.blk k.toNat with r := NP.wearAt (NP.erase c k).2 k }).l.length := by
        show k.toNat < (g.l.set _ _).length
        rw [List.length_set]; exact hi
      split
      · exact hw.done hil 0 _ (.inl rfl)
      · split
        · dsimp only
          unfold Mg.gone
          dsimp only
          split
          · exact hw.done hil 4 _ (.inr rfl)
          · exact hw
        · exact hw
theorem retire_acts (k : Int) : ActsN (fun _ => False) c (Mg.retire c g k).2.1 := by
  unfold Mg.retire
  dsimp only
  split
  · exact .refl
  · exact gone_acts _
theorem retire_right (h : g.ok c) (k : Int) : (Mg.retire c g k).2.2.ok (Mg.retire c g k).2.1 := by
  unfold Mg.retire
  dsimp only
  split
  · exact h
  · rename_i hz
    exact gone_right h (idle_i (by simpa using hz)).2
end

end Go.Proofs.YtnfhlocflpdlcaaGreat.mgr

