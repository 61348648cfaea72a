/-
  Lemmas for a law's proof, put together from several texts: each part says what it shows, and its conditions.
-/
import Derived.Test.YtpggkehfbhffbaaZC15
import Derived.WalkMore
import Derived.Deep.LoopGhost
import Derived.Test.YtpggkehfbhffbaaZC13
import Derived.Test.YtpggkehfbhffbaaZC12
import Derived.StillTailTactics
/-
  A manager of a chip's blocks: a page programmed somewhere. Conditions: a manager and its chip told by Held.
-/
namespace Go.Proofs.Ytpggkehfbhffbaa.mgr
open Go.RowKit

section
variable {base : Nat} {w w' : World} {m : Nat} {G : MgM} {M : ChM}
theorem field_g2 (x y z : Int) (w : World) : (Instr.field 23 (.agg #[vi x, vi y, vi z]) 2).run Try.prog w = .ok (vi z) w := by kernel_rfl
theorem chip_Program {k : Nat} (h : ChipAt base w k M) (hok : M.view.ok) (j p : Int) (a : Option Addr) (l : List Nat) (c : Nat) (hr : SRow base w a l) : Calls Try.prog 21 #[ptr k, vi j, vi p, .slice a l.length c] w (ActPost base w k M (NP.program M.view j p l)) := Go.Proofs.Ytpggkehfbhffbaa.Program_any h hok j p a l c hr
/-- What a programming answers and leaves. -/
def PPost (base : Nat) (w : World) (m : Nat) (G : MgM) (M : ChM) (r : (Int × Int × Int) × NP.Chp × Mg) (e : Ending) (w' : World) : Prop :=
  ∃ M', e = .returned (.tuple #[vi r.1.1, vi r.1.2.1, vi r.1.2.2]) ∧ HGoes base w m G M w' r.2.2 M' ∧ M'.view = r.2.1
theorem PPost.mk {r : (Int × Int × Int) × NP.Chp × Mg} {x y z : Int} {V : NP.Chp} {g' : Mg} (hr : r = ((x, y, z), V, g')) {M' : ChM} (hg : HGoes base w m G M w' g' M') (hv : M'.view = V) : PPost base w m G M r (.returned (.tuple #[vi x, vi y, vi z])) w' :=
  ⟨M', by rw [hr], by rw [hr]; exact hg, by rw [hr]; exact hv⟩
theorem program_BP (c : NP.Chp) (j p : Int) (b : List Nat) : (NP.program c j p b).2.B = c.B ∧ (NP.program c j p b).2.P = c.P ∧ (NP.program c j p b).2.S = c.S := by
  unfold NP.program
  dsimp only
  repeat (first | exact ⟨rfl, rfl, rfl⟩ | split)
theorem count_set (s : Int) : ∀ (l : List gcs.Blk) (i : Nat) (x : gcs.Blk), i < l.length → countL s (l.set i x) + (if (l.getD i default).s = s then 1 else 0) = countL s l + (if x.s = s then 1 else 0)
  | y :: l, 0, x, _ => by
    unfold countL
    simp only [List.set_cons_zero, List.filter_cons, List.getD_cons_zero, beq_iff_eq]
    split <;> split <;> simp <;> omega
  | y :: l, i + 1, x, h => by
    have ih := count_set s l i x (by simpa using h)
    unfold countL at ih ⊢
    simp only [List.set_cons_succ, List.filter_cons, List.getD_cons_succ, beq_iff_eq] at ih ⊢
    by_cases hy : y.s = s
    · rw [if_pos hy, if_pos hy]; simp only [List.length_cons]; omega
    · rw [if_neg hy, if_neg hy]; exact ih
def Mg.ready (g : Mg) : Mg := if g.at_ = -1 then g.begun else g
/-- How many blocks may be asked yet. -/
def Mg.need (g : Mg) : Nat := countL 0 g.l + (if g.at_ = -1 then 1 else 2)
/-- One step of a programming. -/
def Mg.progStep (b : List Nat) (n : Nat) (c : NP.Chp) (g : Mg) : (Int × Int × Int) × NP.Chp × Mg :=
  if g.at_ = -1 then ((0, 0, 40), c, g)
  else
    let i := g.at_.toNat
    let x := g.blk i
    let r := NP.program c i x.n b
    if r.1 = 10 then Mg.progTo b n r.2 (g.close i)
    else if r.1 = 0 then
      let g1 := g.put i { x with n := x.n + 1, l := x.l + 1 }
      ((i, x.n, 0), r.2, if x.n + 1 = c.P then g1.close i else g1)
    else if r.1 = 11 then ((i, x.n, 11), r.2, g.close i)
    else ((0, 0, r.1), r.2, g)
theorem progTo_succ (b : List Nat) (n : Nat) (c : NP.Chp) (g : Mg) : Mg.progTo b (n + 1) c g = Mg.progStep b n c g.ready := rfl
theorem Mg.need_close {g : Mg} {i : Nat} (hi : i < g.l.length) (ha : g.at_ = i) (hs : (g.blk i).s = 1) : (g.close i).need + 1 = countL 0 g.l + 2 := by
  have h1 := count_set 0 g.l i (closeB (g.blk i)) hi
  have h2 : (closeB (g.blk i)).s ≠ 0 := by unfold closeB; dsimp only; split <;> decide
  have h3 : ¬ (g.l.getD i default).s = 0 := by
    have : (g.l.getD i default).s = 1 := hs
    omega
  rw [if_neg h2, if_neg h3] at h1
  have h4 : (g.close i).at_ = -1 := by unfold Mg.close Mg.shut Mg.put; dsimp only; rw [if_pos ha.symm]
  have h5 : (g.close i).l = g.l.set i (closeB (g.blk i)) := rfl
  unfold Mg.need
  rw [h4, h5, if_pos rfl]
  omega
theorem Mg.need_ready {g : Mg} (ha : g.ready.at_ ≠ -1) : countL 0 g.ready.l + 2 ≤ g.need := by
  unfold Mg.ready at ha ⊢
  by_cases h0 : g.at_ = -1
  · rw [if_pos h0] at ha ⊢
    unfold Mg.begun at ha ⊢
    split
    · rename_i h1
      rw [if_pos h1] at ha
      exact absurd h0 ha
    · rename_i h1
      have hi : g.freeI.toNat < g.l.length := by have := g.freeI_lt; omega
      have h2 := count_set 0 g.l g.freeI.toNat ⟨1, 0, (g.blk g.freeI.toNat).r, 0⟩ hi
      have h3 : (g.l.getD g.freeI.toNat default).s = 0 := Mg.freeI_free (by omega)
      rw [if_pos h3, if_neg (show ¬ (1 : Int) = 0 by decide)] at h2
      unfold Mg.need
      rw [if_pos h0]
      show countL 0 (g.l.set _ _) + 2 ≤ _
      omega
  · rw [if_neg h0]
    unfold Mg.need
    rw [if_neg h0]
    exact Nat.le_refl _
theorem Mg.ok.ready {c : NP.Chp} {g : Mg} (h : g.ok c) (hP : 0 < c.P) : g.ready.ok c := by
  unfold Mg.ready
  split
  · rename_i h0; exact h.begun hP h0
  · exact h
/-- A programming under way: so many blocks may be asked yet. -/
structure PSt (base : Nat) (w : World) (m : Nat) (G : MgM) (M : ChM) (l : List Nat) (R : (Int × Int × Int) × NP.Chp × Mg) (k : Nat) (wr : World) (g : Mg) (M' : ChM) : Prop where
  goes : HGoes base w m G M wr g M'
  vok : M'.view.ok
  gok : g.ok M'.view
  eq : R = Mg.progTo l k M'.view g
  need : g.need ≤ k
  P : M'.P = M.P
theorem HGoes.closed {g' : Mg} {M' M'' : ChM} {w'' : World} {g'' : Mg} (h : HGoes base w m G M w' g' M') (q : HGoes base w' m (G.lay g') M' w'' g'' M'') : HGoes base w m G M w'' g'' M'' := h.trans q
set_option maxRecDepth 100000 in
set_option maxHeartbeats 8000000 in
theorem Program_any (h : Held base w m G M) (hok : M.view.ok) (hg : G.view.ok M.view) (a : Option Addr) (l : List Nat) (c : Nat) (hr : SRow base w a l) :
    Calls Try.prog 37 #[ptr m, .slice a l.length c] w (PPost base w m G M (G.view.program l M.view)) := by
  have HDEF : Hid (G.view.program l M.view = if M.down then ((0, 0, 4), M.view, G.view) else if l.length ≠ M.S + 32 then ((0, 0, 1), M.view, G.view) else Mg.progTo l (countL 0 G.l + 2) M.view G.view) := Lib.hid rfl
  have HR := Lib.hid (ready_any h)
  have H := Lib.hid h
  have HOK := Lib.hid hok
  have HGK := Lib.hid hg
  have HRW := Lib.hid hr
  have hS := (ok_S hok).1
  obtain ⟨c0, c1, c2, c3, c4, c5⟩ := h.cells
  clear c1 c2 c3 c4 c5
  by_cases hd : M.down = true
  · rw [hd, if_pos rfl] at HR HDEF
    clear h hok hg hr hd
    go_enter Try.func37, Try.ntmps37
    go_wp2_with fail
    go_step3
    go_wp2_with fail
    refine HR.out.mono ?_
    rintro e w' ⟨rfl, rfl⟩
    go_wp2_with fail
    rw [Exit.noGoto_ret]
    go_ret3
    exact PPost.mk HDEF.out (HGoes.refl H.out) rfl
  · have hd' : M.down = false := by simpa using hd
    rw [hd', if_neg (by simp)] at HR HDEF
    by_cases hl : l.length = M.S + 32
    · rw [if_neg (by simpa using hl)] at HDEF
      have HL := Lib.hid hl
      have hq : ((l.length : Int) != (M.S : Int) + 32) = false := by rw [hl]; simp
      have hP4 : Hid (4 ≤ M.P ∧ M.P ≤ 32) := Lib.hid (by
        have : NP.rightB M.B M.P M.S = true := hok.right
        unfold NP.rightB at this
        simp only [Bool.and_eq_true, decide_eq_true_eq] at this
        omega)
      have HB0 : Hid (countL 0 G.l + 2 = countL 0 G.l + 2) := Lib.hid rfl
      clear h hok hg hr hd hd' hl HB0
      go_enter Try.func37, Try.ntmps37
      go_wp2_with fail
      go_step3
      go_wp2_with fail
      refine HR.out.mono ?_
      rintro e w' ⟨rfl, rfl⟩
      go_wp2_with fail
      refine (Geo_any H.out.chip).mono ?_
      rintro e w1 ⟨rfl, hb1⟩
      have hf := field_g2
      have HB := Lib.hid hb1
      have hst : PSt base w' m G M l (G.view.program l M.view) (countL 0 G.l + 2) w1 G.view M := ⟨HGoes.of_old H.out hb1, HOK.out, HGK.out, HDEF.out, by unfold Mg.need; split <;> simp, rfl⟩
      have HST := Lib.hid hst
      generalize G.view.program l M.view = R at *
      clear hb1 c0 hst
      go_wp2_with fail
      clear hf
      go_step3
      go_wp2_with fail
      go_loopg [8, 9, 10] (countL 0 G.l + 2) (fun n s8 s9 s10 wr => ∃ (x y : Int) (g : Mg) (M' : ChM), s8 = vi x ∧ s9 = vi y ∧ s10 = vi 40 ∧ Hid (PSt base w' m G M l R n wr g M'))
      case atStart => exact ⟨0, 0, G.view, M, rfl, rfl, rfl, HST⟩
      case round =>
        clear HST
        obtain ⟨x, y, g, M', rfl, rfl, rfl, HST⟩ := hrel
        obtain ⟨n, rfl⟩ : ∃ n, gk = n + 1 := ⟨gk - 1, by have := HST.out.need; unfold Mg.need at this; split at this <;> omega⟩
        have k2 : wr.cell? ⟨m, 2, none⟩ = some (vi g.at_) := HST.out.goes.at_.cells.2.2.1
        have HE := Lib.hid HST.out.eq
        rw [progTo_succ] at HE
        have hg1 : 0 < M'.view.P := by have h1 := hP4.out; have h2 := HST.out.P; show 0 < M'.P; omega
        have HGR := Lib.hid (HST.out.gok.ready hg1)
        have HNR := Lib.hid (fun h => Nat.le_trans (Mg.need_ready (g := g) h) HST.out.need)
        have HVK := Lib.hid HST.out.vok
        have HPP := Lib.hid HST.out.P
        clear hg1
        go_upto_region 7 with fail
        go_cut [35] from 27 to 94 (fun v wx => v = .bool (g.ready.at_ != -1) ∧ Hid (HGoes base w' m G M wx g.ready M'))
        case first =>
          by_cases ha : g.at_ = -1
          · have haq : (g.at_ != -1) = false := by simp [ha]
            have HRD : Hid (g.ready = g.begun) := Lib.hid (by unfold Mg.ready; rw [if_pos ha])
            have HFR : Hid (decide (0 ≤ g.freeI) = (g.begun.at_ != -1)) := Lib.hid (by
              unfold Mg.begun
              split
              · rename_i h1
                rw [decide_eq_false (by omega), haq]
              · rename_i h1
                rw [decide_eq_true (by omega)]
                have : (g.openAt g.freeI.toNat).at_ = g.freeI.toNat := rfl
                rw [this]; simp only [Bool.true_eq, bne_iff_ne, ne_eq]; omega)
            clear ha
            go_wp2_with fail
            refine (begin_any HST.out.goes.at_).mono ?_
            rintro e wx ⟨rfl, hgx⟩
            have HGX := Lib.hid (HST.out.goes.trans hgx)
            clear hgx
            rw [show (MgM.view (G.lay g)).freeI = g.freeI from rfl, HFR.out]
            go_wp2_with fail
            go_meet
            exact ⟨by rw [HRD.out], by rw [HRD.out]; exact HGX⟩
          · have haq : (g.at_ != -1) = true := by simp [ha]
            have HRD : Hid (g.ready = g) := Lib.hid (by unfold Mg.ready; rw [if_neg ha])
            clear ha
            go_wp2_with fail
            go_meet
            exact ⟨by rw [HRD.out, haq], by rw [HRD.out]; exact Lib.hid HST.out.goes⟩
        case rest =>
        obtain ⟨rfl, HG2⟩ := hcut
        clear k2 HST
        generalize g.ready = g2 at *
        by_cases ha : g2.at_ = -1
        · have haq : (g2.at_ != -1) = false := by simp [ha]
          have HE2 : Hid (R = ((0, 0, 40), M'.view, g2)) := Lib.hid (by rw [HE.out]; unfold Mg.progStep; rw [if_pos ha])
          clear ha
          go_wp2_with fail
          rw [Exit.noGoto_ret]
          go_ret3
          exact PPost.mk HE2.out HG2.out rfl
        · have haq : (g2.at_ != -1) = true := by simp [ha]
          rcases HGR.out.at1 with e | ⟨i, hat, hi, hsi⟩
          · exact absurd e ha
          have hx := HGR.out.open_ (g2.blk i) (blk_mem hi) hsi
          have hr := HGR.out.rng (g2.blk i) (blk_mem hi)
          have hE : R = Mg.progStep l n M'.view g2 := HE.out
          unfold Mg.progStep at hE
          dsimp only at hE
          rw [if_neg ha, hat, Int.toNat_natCast] at hE
          have hact := NP.act_ok HVK.out (faults_small HG2.out.at_.chip.faults) (.program i (g2.blk i).n l) HRW.out.row.small
          change (NP.program M'.view i (g2.blk i).n l).2.ok ∧ _ at hact
          have hBP := program_BP M'.view i (g2.blk i).n l
          have HCP : Hid (∀ w', HGoes base w' m (G.lay g2) M' w' g2 M' → SRow base w' a l → Calls Try.prog 21 #[ptr G.k, vi i, vi (g2.blk i).n, .slice a l.length c] w' (ActPost base w' G.k M' (NP.program M'.view i (g2.blk i).n l))) := Lib.hid (fun w' h hr => chip_Program h.at_.chip HVK.out i _ a l c hr)
          have HNC : Hid ((g2.close i).need ≤ n) := Lib.hid (by
            have h1 := Mg.need_close hi hat hsi
            have h2 := HNR.out ha
            omega)
          have HCK : Hid ((g2.close i).ok M'.view) := Lib.hid (HGR.out.close hi)
          have HII := Lib.hid hi
          have HAT := Lib.hid hat
          have hP2 : M'.view.P = M.P := HPP.out
          have hP5 := hP4.out
          rw [hP2] at hx hr hE
          have k0 : wc.cell? ⟨m, 0, none⟩ = some (ptr G.k) := HG2.out.at_.cells.1
          have k1 : wc.cell? ⟨m, 1, none⟩ = some (.slice (some ⟨G.gl, 0, none⟩) g2.l.length G.cl) := HG2.out.at_.cells.2.1
          have k2 : wc.cell? ⟨m, 2, none⟩ = some (vi i) := by have := HG2.out.at_.cells.2.2.1; rw [← hat]; exact this
          obtain ⟨d0, d1, d2, d3⟩ := HG2.out.at_.bcells (i := i) hi
          change _ = some (vi (g2.blk i).n) at d3
          have hi0 : (0 : Int) ≤ (i : Int) := by omega
          have hi1 : (i : Int) < (g2.l.length : Int) := by omega
          generalize hxx : g2.blk i = x at *
          generalize hr1 : (NP.program M'.view i x.n l).1 = r1 at *
          generalize hr2 : (NP.program M'.view i x.n l).2 = V2 at *
          have HX := Lib.hid hxx
          have HR1 := Lib.hid hr1
          have HR2 := Lib.hid hr2
          have HE2 := Lib.hid hE
          have HACT := Lib.hid hact
          have HBP := Lib.hid hBP
          have HXB := Lib.hid hx
          have HRB := Lib.hid hr
          clear ha hat hi hsi hx hr hE hact hBP hP2 hxx hr1 hr2 d0 d1 d2 HE
          obtain ⟨xs, xl, xr, xn⟩ := x
          dsimp only at *
          go_wp2_with fail
          refine (HCP.out _ (HGoes.refl HG2.out.at_) (HRW.out.chg HG2.out.chg H.out.mine)).mono ?_
          rintro e wd ⟨Md, rfl, hgd, hvd⟩
          rw [HR1.out]
          rw [HR2.out] at hvd
          have HGD := Lib.hid (HG2.out.trans (HG2.out.at_.chipGoes hgd))
          have HVD := Lib.hid hvd
          clear hgd hvd k0 k1 k2 d3
          by_cases e10 : r1 = 10
          · subst e10
            have HE3 : Hid (R = Mg.progTo l n V2 (g2.close i)) := Lib.hid (by rw [HE2.out, if_pos rfl])
            clear HE2
            go_wp2_with fail
            refine (close_any HGD.out.at_ i HII.out).mono ?_
            rintro e we ⟨rfl, hge⟩
            have HGE := Lib.hid (HGD.out.trans hge)
            clear hge
            go_wp2_with fail
            go_roundg n
            case measure => omega
            case rel =>
              refine ⟨i, xn, g2.close i, Md, rfl, rfl, rfl, Lib.hid ⟨HGE.out, by rw [HVD.out]; exact HACT.out.1, HCK.out.chip (by rw [HVD.out]; exact HBP.out.1) (by rw [HVD.out]; exact HBP.out.2.1), by rw [HVD.out]; exact HE3.out, HNC.out, ?_⟩⟩
              have h1 : Md.view.P = M'.view.P := by rw [HVD.out]; exact HBP.out.2.1
              exact h1.trans HPP.out
          · have q10 : (r1 == 10) = false := beq_eq_false_iff_ne.2 e10
            by_cases e0 : r1 = 0
            · subst e0
              rw [if_neg (by decide), if_pos rfl] at HE2
              have k0 : wd.cell? ⟨m, 0, none⟩ = some (ptr G.k) := HGD.out.at_.cells.1
              obtain ⟨d0, d1, d2, d3⟩ := HGD.out.at_.bcells (i := i) HII.out
              change wd.cell? _ = some (vi (g2.blk i).l) at d1
              change wd.cell? _ = some (vi (g2.blk i).n) at d3
              rw [HX.out] at d1 d3
              dsimp only at d1 d3
              have z1 := HGD.out.at_.mgr.row.frozen (i * 4 + 1)
              have z3 := HGD.out.at_.mgr.row.frozen (i * 4 + 3)
              have hx := HXB.out
              have hr := HRB.out
              have q1 : IntKind.i64.wrap (xn + 1) = xn + 1 := IntWalk.i64_in _ (by omega)
              have q2 : IntKind.i64.wrap (xl + 1) = xl + 1 := IntWalk.i64_in _ (by omega)
              have HY : Hid (HGoes base w' m G M ((wd.setCell ⟨G.gl, i * 4 + 3, none⟩ (vi (xn + 1))).setCell ⟨G.gl, i * 4 + 1, none⟩ (vi (xl + 1))) (g2.put i ⟨xs, xl + 1, xr, xn + 1⟩) Md) := Lib.hid (by
                have hx2 : (MgM.lay G g2).l.getD i default = ⟨xs, xl, xr, xn⟩ := HX.out
                have h1 := HGD.out.at_.cell (i := i) (j := 3) HII.out (by decide) (vi (xn + 1)) ⟨xs, xl, xr, xn + 1⟩ (by rw [hx2]; rfl)
                have h2 := h1.at_.cell (i := i) (j := 1) (by simpa [Mg.put] using HII.out) (by decide) (vi (xl + 1)) ⟨xs, xl + 1, xr, xn + 1⟩ (by dsimp only [MgM.lay, Mg.put, MgM.view]; rw [blk_set _ _ _ _ HII.out, if_pos rfl]; rfl)
                have h3 := HGD.out.trans (h1.trans h2)
                simpa only [Mg.put, MgM.view, MgM.lay, List.set_set] using h3)
              have HPA : Hid (∀ n : Sub ((wd.setCell ⟨G.gl, i * 4 + 3, none⟩ (vi (xn + 1))).setCell ⟨G.gl, i * 4 + 1, none⟩ (vi (xl + 1))), Calls Try.prog 82 #[ptr m] n.w fun e w' => e = .returned (vi Md.P) ∧ Below n.w.heap.size n.w w') := Lib.hid (fun n => pages_any (HY.out.at_.mgr.old n.below) (HY.out.at_.chip.old n.below))
              have hMP : Md.P = M.P := by
                have h1 : Md.view.P = M'.view.P := by rw [HVD.out]; exact HBP.out.2.1
                exact h1.trans HPP.out
              rw [hMP] at HPA
              have HCI := Lib.hid (show i < (g2.put i ⟨xs, xl + 1, xr, xn + 1⟩).l.length by simpa [Mg.put] using HII.out)
              clear d0 d2 hMP e10
              generalize g2.put i ⟨xs, xl + 1, xr, xn + 1⟩ = g3 at *
              go_upto_region 19 with fail
              have e3 : ((wd.setCell ⟨G.gl, i * 4 + 3, none⟩ (vi (xn + 1))).setCell ⟨G.gl, i * 4 + 1, none⟩ (vi (xl + 1))).cell? ⟨G.gl, i * 4 + 3, none⟩ = some (vi (xn + 1)) := by
                rw [World.cell?_setCell_other _ _ _ _ (by intro e; injection e with _ e; omega)]
                go_simp
              generalize (wd.setCell ⟨G.gl, i * 4 + 3, none⟩ (vi (xn + 1))).setCell ⟨G.gl, i * 4 + 1, none⟩ (vi (xl + 1)) = we at *
              have e3 := Sub.cell e3
              clear d1 d3 z1 z3 k0
              refine wp_region_sub (by kernel_rfl) (by kernel_rfl) ?_
              repeat (go_big_quiet_step (exact ext_of (HPA.out _)))
              refine wpQuiet_nil ?_
              rintro _ ⟨nq, rfl⟩
              have HZ := Lib.hid (HY.out.old nq.below)
              clear e3
              by_cases hnp : xn + 1 = (M.P : Int)
              · have hnq : (xn + 1 == (M.P : Int)) = true := beq_iff_eq.2 hnp
                have HE3 : Hid (R = (((i : Int), xn, 0), V2, g3.close i)) := Lib.hid (by rw [HE2.out, if_pos hnp])
                clear hnp HE2 hx hr
                go_wp2_with fail
                refine (close_any HZ.out.at_ i HCI.out).mono ?_
                rintro e wf ⟨rfl, hgf⟩
                have HGF := Lib.hid (HZ.out.trans hgf)
                clear hgf
                go_wp2_with fail
                rw [Exit.noGoto_ret]
                go_ret3
                exact PPost.mk HE3.out HGF.out HVD.out
              · have hnq : (xn + 1 == (M.P : Int)) = false := beq_eq_false_iff_ne.2 hnp
                have HE3 : Hid (R = (((i : Int), xn, 0), V2, g3)) := Lib.hid (by rw [HE2.out, if_neg hnp])
                clear hnp HE2 hx hr
                go_wp2_with fail
                rw [Exit.noGoto_ret]
                go_ret3
                exact PPost.mk HE3.out HZ.out HVD.out
            · have q0 : (r1 == 0) = false := beq_eq_false_iff_ne.2 e0
              have q0' : (r1 != 0) = true := by simp [e0]
              by_cases e11 : r1 = 11
              · subst e11
                have HE3 : Hid (R = (((i : Int), xn, 11), V2, g2.close i)) := Lib.hid (by rw [HE2.out, if_neg (by decide), if_neg (by decide), if_pos rfl])
                clear HE2
                go_wp2_with fail
                refine (close_any HGD.out.at_ i HII.out).mono ?_
                rintro e we ⟨rfl, hge⟩
                have HGE := Lib.hid (HGD.out.trans hge)
                clear hge
                go_wp2_with fail
                rw [Exit.noGoto_ret]
                go_ret3
                exact PPost.mk HE3.out HGE.out HVD.out
              · have q11 : (r1 == 11) = false := beq_eq_false_iff_ne.2 e11
                have q11' : (r1 != 11) = true := by simp [e11]
                have HE3 : Hid (R = ((0, 0, r1), V2, g2)) := Lib.hid (by rw [HE2.out, if_neg e10, if_neg e0, if_neg e11])
                clear HE2 e10 e0 e11
                go_wp2_with fail
                rw [Exit.noGoto_ret]
                go_ret3
                exact PPost.mk HE3.out HGD.out HVD.out
    · have HD2 : Hid (G.view.program l M.view = ((0, 0, 1), M.view, G.view)) := Lib.hid (by rw [HDEF.out, if_pos hl])
      have hq : ((l.length : Int) != (M.S : Int) + 32) = true := by simp only [bne_iff_ne, ne_eq]; omega
      clear h hok hg hr hd hd' hl HDEF
      go_enter Try.func37, Try.ntmps37
      go_wp2_with fail
      go_step3
      go_wp2_with fail
      refine HR.out.mono ?_
      rintro e w' ⟨rfl, rfl⟩
      go_wp2_with fail
      refine (Geo_any H.out.chip).mono ?_
      rintro e w1 ⟨rfl, hb1⟩
      have hf := field_g2
      have HG1 := Lib.hid (HGoes.of_old H.out hb1)
      clear hb1 c0
      go_wp2_with fail
      rw [Exit.noGoto_ret]
      go_ret3
      exact PPost.mk HD2.out HG1.out rfl
end

end Go.Proofs.Ytpggkehfbhffbaa.mgr

/-
  The document's chip: a block erased. Conditions: a chip that is told by RefAt, and right.
-/
namespace Go.Proofs.Ytpggkehfbhffbaa
open Go.RowKit

section
variable {base : Nat} {w wr w' w'' : World} {k : Nat} {R R' : RefM}
theorem Chg.over {F : Nat → Prop} (h : Chg F w w') (q : Below w.heap.size w' w'') : Chg F w w'' :=
  ⟨q.os.trans h.os, q.tape.trans h.tape, q.output.trans h.output, Nat.le_trans h.size q.size, fun k hk hn => (q.block k hk).trans (h.block k hk hn)⟩
theorem RefAt.setP' (h : RefAt base w k R) (q : Chg (fun n => n = R.gp) w w') (i : Nat) (pg : PgM) (ha : Arr w' 32 1 R.gp R.ps.length R.cp ((R.ps.set i pg).map (·.v))) (hp : pg.ok base w') : RGoes base w k R w' { R with ps := R.ps.set i pg } := by
  have hF : ∀ n, n = R.gp → Mine base w n := fun n e => h.mine n (.inr (.inl e))
  obtain ⟨h1, h2, h3, h4, h5⟩ := h.k_ne
  refine ⟨⟨?_, ?_, h.nx.chg q (h.nx.ne h.ps (by decide)), h.br.chg q (h.br.ne h.ps (by decide)), h.bd.chg q (h.bd.ne h.ps (by decide)), h.wr.chg q (h.wr.ne h.ps (by decide)), h.ne1, h.ne2, ?_, h.faults.chg q hF, h.low, by simpa using h.lp, h.ln, h.lb, h.ld, h.lw⟩, q.mono (fun n _ e => .inr (.inl e)), fun n hn => .inl hn⟩
  · have := h.chip.chg q h1.symm
    simpa [RefM.cs] using this
  · dsimp only
    rw [List.length_set]
    exact ha
  · intro p hpm
    rcases List.mem_or_eq_of_mem_set hpm with hpm | rfl
    · exact (h.rows p hpm).chg q hF
    · exact hp
/-- The state while a page is filled with one byte. -/
structure FilSt (w0 : World) (R : RefM) (at_ y n : Nat) (v : Value) (wr : World) : Prop where
  chg : Chg (fun n => n = R.gp) w0 wr
  row : Own wr w0.heap.size v (List.replicate n y)
  gp : Arr wr 32 1 R.gp R.ps.length R.cp ((R.ps.map (·.v)).set at_ v)
theorem FilSt.size {w0 : World} {at_ y n : Nat} {v : Value} (h : FilSt w0 R at_ y n v wr) : w0.heap.size ≤ wr.heap.size := h.chg.size
theorem FilSt.next {w0 : World} {at_ y n : Nat} {v : Value} (h : FilSt w0 R at_ y n v wr) (hy : y < 256) (hn : n + 1 ≤ 1000000) :
    ∃ v' w', AppRun 32 32 32 v (.slice (some ⟨wr.heap.size, 0, none⟩) 1 1) (wr.alloc (.cells #[vb y] 5)) v' w' ∧ FilSt w0 R at_ y (n + 1) v' (w'.setCell ⟨R.gp, at_, none⟩ v') ∧ Chg (fun n => n = R.gp) w0 w' ∧
      (∀ g t cs, t ≠ 5 → Blk wr g t cs → Blk w' g t cs) ∧ Arr w' 32 1 R.gp R.ps.length R.cp ((R.ps.map (·.v)).set at_ v) := by
  obtain ⟨v', w', hrun, ho, hs⟩ := append_new h.row [y] (by simpa using hy) (n := 1) rfl rfl (cs := #[vb y]) rfl (by rw [List.length_replicate]; exact hn) h.chg.size
  rw [← List.replicate_succ'] at ho
  have hc := h.chg.over hs.below
  have hga : Arr w' 32 1 R.gp R.ps.length R.cp ((R.ps.map (·.v)).set at_ v) := by
    obtain ⟨cur, hb, h1, h2, h3, h4⟩ := h.gp.blk
    exact ⟨h.gp.1, .inr ⟨R.gp, R.cp, cur, rfl, Nat.zero_le _, hs.blk _ _ _ (by decide) hb, h1, h2, h3, h4⟩⟩
  refine ⟨v', w', ⟨hrun⟩, ⟨hc.setCell (.inl rfl) _, ?_, ?_⟩, hc, hs.blk, hga⟩
  · obtain ⟨cur, hb, _⟩ := hga.blk
    have hb' := hb
    refine World.ownsRow.kept ho (row := some R.gp) ?_ (.inr (own_blk_ne ho hb (by decide)).symm)
    exact ⟨rfl, rfl, rfl, by simp [World.setCell], fun k _ hk => Below.heap_setCell w' ⟨R.gp, at_, none⟩ v' k (fun e => hk (by rw [e]))⟩
  · have := hga.set at_ v'
    rwa [List.set_set] at this
theorem FilSt.done {w0 : World} {at_ y n : Nat} {v : Value} (hR : RefAt base w0 k R) (h : FilSt w0 R at_ y n v wr) (hy : y < 256) (hn : 0 < n) : ∃ pg : PgM, pg.l = List.replicate n y ∧ RGoes base w0 k R wr { R with ps := R.ps.set at_ pg } := by
  obtain ⟨pg, rfl, hp1, hp2⟩ := Own.page (base := base) h.row (by intro x hx; rw [(List.mem_replicate.1 hx).2]; exact hy) (by rw [List.length_replicate]; exact hn)
  refine ⟨pg, hp1, hR.setP' h.chg at_ pg ?_ hp2⟩
  rw [List.map_set]
  exact h.gp
end

end Go.Proofs.Ytpggkehfbhffbaa

