/-
  The document's chip, loaded. Conditions: rows that can be read.
-/
import Derived.Test.YtpggkehfbhffbaaRP
import Derived.Test.YtpggkehfbhffbaaQS
import Derived.StillTailTactics
namespace Go.Proofs.Ytpggkehfbhffbaa
open Go.RowKit

/-- What is loaded, as it came in. -/
abbrev loadD (B P S : Nat) (ps : List PgM) (bl : List Bool) (wl : List Int) : LoadIn := ⟨B, P, S, ps.map (·.l), bl, wl⟩
/-- Pages that came in, and can be kept. -/
structure GRow (base : Nat) (w : World) (a : Option Addr) (ps : List PgM) : Prop where
  row : PRow w a ps
  good : ∀ p ∈ ps, SRow base w p.a p.l ∧ p.l.length ≤ p.c ∧ p.c ≤ maxLen
section
variable {base : Nat} {w wr w' w'' : World} {k : Nat} {R R' : RefM}
theorem GRow.old {a : Option Addr} {ps : List PgM} (h : GRow base w a ps) (b : Below w.heap.size w w') : GRow base w' a ps := ⟨h.row.old b, fun p hp => ⟨(h.good p hp).1.old b, (h.good p hp).2⟩⟩
theorem GRow.ok {a : Option Addr} {ps : List PgM} (h : GRow base w a ps) {n : Nat} (hn : n < ps.length) (hl : (ps.getD n default).l ≠ []) : (ps.getD n default).ok base w := by
  have := h.good _ (getD_mem (d := default) hn)
  exact ⟨this.1, this.2.1, this.2.2, fun e => absurd e hl⟩
theorem page_getD {B P S : Nat} {ps : List PgM} {bl : List Bool} {wl : List Int} (n : Nat) : (loadD B P S ps bl wl).pages.getD n [] = (ps.getD n default).l := by
  show (ps.map (·.l)).getD n [] = _
  rw [List.getD_eq_getElem?_getD, List.getElem?_map, List.getD_eq_getElem?_getD]
  cases ps[n]? <;> rfl
theorem rmark2_view (h : RefAt base w k R) {i : Nat} (hi : i < R.B) (b : Bool) (x : Int) : RefM.view { R with bd := R.bd.set i b, wr := R.wr.set i x } = NP.setBlk R.view i { R.view.blk i with bad := b, wear := x } := by
  unfold NP.setBlk
  rw [R.blk hi]
  unfold RefM.view
  congr 1
  refine RefM.view_set R { R with bd := R.bd.set i b, wr := R.wr.set i x } _ (fun j hj => ?_) rfl
  unfold RefM.blo
  dsimp only
  rw [getD_set' _ _ _ _ _ (by rw [h.ld]; exact hi), getD_set' _ _ _ _ _ (by rw [h.lw]; exact hi)]
  by_cases e : j = i
  · subst e; simp
  · simp [e]
theorem rpage2_view (h : RefAt base w k R) {i q : Nat} (hi : i < R.B) (hq : q < R.P) (pg : PgM) (n : Nat) : RefM.view { R with ps := R.ps.set (i * R.P + q) pg, nx := R.nx.set i n } = NP.setBlk R.view i { R.view.blk i with ps := (R.view.blk i).ps.set q pg.l, next := n } := by
  have hat : i * R.P + q < R.ps.length := by rw [h.lp]; exact at_lt hi hq
  unfold NP.setBlk
  rw [R.blk hi]
  unfold RefM.view
  congr 1
  refine RefM.view_set R { R with ps := R.ps.set (i * R.P + q) pg, nx := R.nx.set i n } _ (fun j hj => ?_) rfl
  unfold RefM.blo
  dsimp only
  rw [getD_set' _ _ _ _ _ (by rw [h.ln]; exact hi)]
  by_cases e : j = i
  · subst e
    simp only [if_true]
    congr 1
    refine (range_map_set _ _ _ _ _ fun p hp => ?_).symm
    rw [getD_set' _ _ _ _ _ hat]
    by_cases e2 : p = q
    · subst e2; simp
    · rw [if_neg (fun e3 => e2 (by omega)), if_neg e2]
  · simp only [e, if_false]
    congr 1
    refine List.map_congr_left fun p hp => ?_
    rw [List.mem_range] at hp
    rw [getD_set' _ _ _ _ _ hat, if_neg (fun e3 => e ((at_inj hp hq).1 e3).1)]
/-- What Load answers. -/
def RLoadPost (base : Nat) (w : World) (D : LoadIn) (e : Ending) (w' : World) : Prop :=
  (D.fine ∧ ∃ k R, e = .returned (.tuple #[ptr k, vi 0]) ∧ RMadeAt base w k R w' ∧ R.view = D.chip (D.B * D.P) D.B) ∨ (¬ D.fine ∧ e = .returned (.tuple #[.pointer none, vi 1]) ∧ Below w.heap.size w w')
theorem RLoadPost.no {D : LoadIn} (h : ¬ D.fine) (hb : Below w.heap.size w w') : RLoadPost base w D (.returned (.tuple #[.pointer none, vi 1])) w' := .inr ⟨h, rfl, hb⟩
theorem RLoadPost.yes {D : LoadIn} (h : D.fine) (hm : RMadeAt base w k R w') (hv : R.view = D.chip (D.B * D.P) D.B) : RLoadPost base w D (.returned (.tuple #[ptr k, vi 0])) w' := .inl ⟨h, k, R, rfl, hm, hv⟩

set_option maxRecDepth 100000 in
set_option maxHeartbeats 8000000 in
theorem rLoad_wrong (b p s : Int) (hr : NP.rightB b p s = false) (v1 v2 v3 : Value) (w : World) : Calls Try.prog 31 #[.agg #[vi b, vi p, vi s], v1, v2, v3] w fun e w' => e = .returned (.tuple #[.pointer none, vi 1]) ∧ Below w.heap.size w w' := by
  have g0 := Lib.hid (Blk.new w 23 #[vi b, vi p, vi s])
  have HB : Hid (Below w.heap.size w (w.alloc (.cells #[vi b, vi p, vi s] 23))) := Lib.hid ((Below.refl _ _).alloc (Nat.le_refl _) _)
  have HR := Lib.hid hr
  clear hr
  go_enter Try.func31, Try.ntmps31
  go_upto_region 1 with fail
  generalize w.alloc (.cells #[vi b, vi p, vi s] 23) = w0 at *
  have c0 : w0.cell? ⟨w.heap.size, 0, none⟩ = some (vi b) := g0.out.cell 0
  have c1 : w0.cell? ⟨w.heap.size, 1, none⟩ = some (vi p) := g0.out.cell 1
  have c2 : w0.cell? ⟨w.heap.size, 2, none⟩ = some (vi s) := g0.out.cell 2
  go_wp2_with fail
  refine (rRight_any b p s _).mono ?_
  rintro e w1 ⟨rfl, hb1⟩
  rw [HR.out]
  have HB1 := Lib.hid (HB.out.trans (hb1.mono HB.out.size))
  clear c0 c1 c2 hb1 g0 HB
  go_wp2_with fail
  go_ret2
  exact ⟨rfl, HB1.out⟩

set_option maxRecDepth 100000 in
set_option maxHeartbeats 8000000 in
theorem rLoad_any (base B P S : Nat) (hrt : NP.rightB B P S = true) (pa : Option Addr) (ps : List PgM) (pc : Nat) (ba : Option Addr) (bl : List Bool) (bc : Nat) (wa : Option Addr) (wl : List Int) (wc : Nat) (w : World)
    (hp : GRow base w pa ps) (hbl : BoRow w ba bl) (hwl : IRow w wa wl) (hbn : bl.length ≤ 140737488355328) (_ : wl.length ≤ 140737488355328) (hb : base ≤ w.heap.size) :
    Calls Try.prog 31 #[.agg #[vi B, vi P, vi S], .slice pa ps.length pc, .slice ba bl.length bc, .slice wa wl.length wc] w (RLoadPost base w (loadD B P S ps bl wl)) := by
  have HP := Lib.hid hp
  have HBO := Lib.hid hbl
  have HW := Lib.hid hwl
  have hpn := hp.row.len
  have g0 := Lib.hid (Blk.new w 23 #[vi B, vi P, vi S])
  have HB : Hid (Below w.heap.size w (w.alloc (.cells #[vi B, vi P, vi S] 23))) := Lib.hid ((Below.refl _ _).alloc (Nat.le_refl _) _)
  have hrt' := hrt
  simp only [NP.rightB, Bool.and_eq_true, decide_eq_true_eq, Bool.or_eq_true, beq_iff_eq] at hrt'
  have hBB : B ≤ 128 := by omega
  have hPP : P ≤ 32 := by omega
  have hP0 : 0 < P := by omega
  have hS : S ≤ 512 := by omega
  have hbp : B * P ≤ 4096 := Nat.le_trans (Nat.mul_le_mul hBB hPP) (by decide)
  have HRT := Lib.hid hrt
  have hbpc : (B : Int) * (P : Int) = ((B * P : Nat) : Int) := by rw [Int.natCast_mul]
  have hq : IntKind.i64.wrap ((B : Int) * (P : Int)) = (B : Int) * (P : Int) := IntWalk.i64_in _ (by rw [hbpc]; omega)
  have HBPC := Lib.hid hbpc
  clear hbpc
  clear hp hbl hwl hrt hrt'
  go_enter Try.func31, Try.ntmps31
  go_upto_region 1 with fail
  generalize w.alloc (.cells #[vi B, vi P, vi S] 23) = w0 at *
  have c0 : w0.cell? ⟨w.heap.size, 0, none⟩ = some (vi B) := g0.out.cell 0
  have c1 : w0.cell? ⟨w.heap.size, 1, none⟩ = some (vi P) := g0.out.cell 1
  have c2 : w0.cell? ⟨w.heap.size, 2, none⟩ = some (vi S) := g0.out.cell 2
  go_wp2_with fail
  refine (rRight_any B P S _).mono ?_
  rintro e w1 ⟨rfl, hb1⟩
  rw [HRT.out]
  have g1 := Lib.hid (g0.out.old hb1)
  have HB1 := Lib.hid (HB.out.trans (hb1.mono HB.out.size))
  clear c0 c1 c2 hb1 g0 HB
  have c0 : w1.cell? ⟨w.heap.size, 0, none⟩ = some (vi B) := g1.out.cell 0
  have c1 : w1.cell? ⟨w.heap.size, 1, none⟩ = some (vi P) := g1.out.cell 1
  have c2 : w1.cell? ⟨w.heap.size, 2, none⟩ = some (vi S) := g1.out.cell 2
  by_cases l1 : ps.length = B * P
  case neg =>
    have e1 : ((ps.length : Int) != (B : Int) * (P : Int)) = true := by rw [HBPC.out]; simp only [bne_iff_ne, ne_eq]; omega
    have HN : Hid (¬ (loadD B P S ps bl wl).fine) := Lib.hid (fun h => l1 (by have := h.lp; simpa using this))
    go_wp2_with fail
    go_ret2
    exact .no HN.out HB1.out
  have e1 : ((ps.length : Int) != (B : Int) * (P : Int)) = false := by rw [l1]; simp
  have L1 := Lib.hid l1
  clear l1
  by_cases l2 : bl.length = B
  case neg =>
    have e2 : ((bl.length : Int) != (B : Int)) = true := by simp only [bne_iff_ne, ne_eq]; omega
    have HN : Hid (¬ (loadD B P S ps bl wl).fine) := Lib.hid (fun h => l2 h.lb)
    go_wp2_with fail
    go_ret2
    exact .no HN.out HB1.out
  have e2 : ((bl.length : Int) != (B : Int)) = false := by rw [l2]; simp
  have L2 := Lib.hid l2
  clear l2
  by_cases l3 : wl.length = B
  case neg =>
    have e3 : ((wl.length : Int) != (B : Int)) = true := by simp only [bne_iff_ne, ne_eq]; omega
    have HN : Hid (¬ (loadD B P S ps bl wl).fine) := Lib.hid (fun h => l3 h.lw)
    go_wp2_with fail
    go_ret2
    exact .no HN.out HB1.out
  have e3 : ((wl.length : Int) != (B : Int)) = false := by rw [l3]; simp
  have L3 := Lib.hid l3
  clear l3
  go_wp2_with fail
  clear e1 e2 e3 hq
  refine (rblank_any B P S hBB hPP _).mono ?_
  rintro e w2 ⟨k, x1, x2, x3, x4, x5, rfl, hm⟩
  have HM := Lib.hid (hm.made (base := base) hBB hPP (Nat.le_trans hb HB1.out.size))
  have HLB : Hid ((blankR B P S x1 x2 x3 x4 x5).B = B ∧ (blankR B P S x1 x2 x3 x4 x5).P = P) := Lib.hid ⟨rfl, rfl⟩
  have HV : Hid ((blankR B P S x1 x2 x3 x4 x5).view = (loadD B P S ps bl wl).chip 0 0) := Lib.hid (by rw [blankR_view, LoadIn.chip_zero])
  have HP1 := Lib.hid (HP.out.old HB1.out)
  have HBO1 := Lib.hid (HBO.out.old HB1.out)
  have HW1 := Lib.hid (HW.out.old HB1.out)
  have HL : Hid (ps.length = B * P ∧ bl.length = B ∧ wl.length = B) := Lib.hid ⟨L1.out, L2.out, L3.out⟩
  have HLW : Hid (bl.length = wl.length) := Lib.hid (by have := HL.out; omega)
  clear c0 c1 c2 hm HP HBO HW L1 L2 L3
  generalize blankR B P S x1 x2 x3 x4 x5 = R at *
  generalize hD : loadD B P S ps bl wl = D at *
  have HD := Lib.hid hD
  clear hD
  go_wp2_with fail
  go_loopw [11] (fun v wr => ∃ (i : Nat) (R : RefM), i ≤ wl.length ∧ v = vi i ∧ Hid (RMadeAt base w1 k R wr) ∧ Hid (R.B = B ∧ R.P = P) ∧ Hid (R.view = D.chip 0 i) ∧ Hid (∀ j, j < i → D.wearOk j)) (fun v _ => wl.length - (intOf v).toNat)
  case atStart => exact ⟨0, R, Nat.zero_le _, rfl, HM, HLB, HV, Lib.hid (fun j hj => absurd hj (Nat.not_lt_zero j))⟩
  case round =>
    clear HM HLB HV R
    obtain ⟨i, R, hi, rfl, HM, HLB, HV, HWK⟩ := hrel
    by_cases hlt : i < wl.length
    · obtain ⟨wg, wo, rfl, hx1⟩ := HW1.out.lookup hlt
      obtain ⟨bg, bo, rfl, hy1⟩ := HBO1.out.lookup (i := i) (by rw [HLW.out]; exact hlt)
      have HX1 := Lib.hid hx1
      have HY1 := Lib.hid hy1
      have hwo : Hid (D.wear.getD i 0 = wl.getD i 0 ∧ D.bad.getD i false = bl.getD i false) := Lib.hid (by rw [← HD.out]; exact ⟨rfl, rfl⟩)
      have hx := cell_below hx1 HM.out.below
      generalize wl.getD i 0 = x at *
      generalize bl.getD i false = y at *
      clear hx1 hy1
      have hq0 : (0 : Int) ≤ (i : Int) := by omega
      have hq1 : (i : Int) < (wl.length : Int) := by omega
      have hq2 : (i : Int) < (bl.length : Int) := by have := HLW.out; omega
      by_cases hx0 : 0 ≤ x
      case neg =>
        have hxd : decide (x < 0) = true := by simp; omega
        have HN : Hid (¬ D.fine) := Lib.hid (fun h => hx0 (by have := (h.wears i (by rw [← HD.out]; have := HL.out; show i < B; omega)).1; rw [hwo.out.1] at this; exact this))
        go_wp2_with fail
        go_ret2
        exact .no HN.out (HB1.out.trans (HM.out.below.mono HB1.out.size))
      have hxd : decide (x < 0) = false := by simp; omega
      by_cases hx9 : x ≤ 1099511627776
      case neg =>
        have hxe : decide (1099511627776 < x) = true := by simp; omega
        have HN : Hid (¬ D.fine) := Lib.hid (fun h => hx9 (by have := (h.wears i (by rw [← HD.out]; have := HL.out; show i < B; omega)).2; rw [hwo.out.1] at this; exact this))
        go_wp2_with fail
        go_ret2
        exact .no HN.out (HB1.out.trans (HM.out.below.mono HB1.out.size))
      have hxe : decide (1099511627776 < x) = false := by simp; omega
      have HWK2 : Hid (∀ j, j < i + 1 → D.wearOk j) := Lib.hid (fun j hj => by
        by_cases e : j = i
        · subst e; unfold LoadIn.wearOk; rw [hwo.out.1]; exact ⟨hx0, hx9⟩
        · exact HWK.out j (by omega))
      have hiB : i < R.B := by rw [HLB.out.1]; have := HL.out; omega
      have hid : i < R.bd.length := by rw [HM.out.at_.ld]; exact hiB
      have hiw : i < R.wr.length := by rw [HM.out.at_.lw]; exact hiB
      have hy := cell_below HY1.out HM.out.below
      have c6 : wr.cell? ⟨k, 6, none⟩ = some (.slice (some ⟨R.gd, 0, none⟩) R.bd.length R.cd) := HM.out.at_.chip.cell 6
      have d6 : wr.cell? ⟨R.gd, i, none⟩ = some (.bool (R.bd.getD i false)) := HM.out.at_.dcell hid
      have z6 : wr.frozen? ⟨R.gd, i, none⟩ = false := HM.out.at_.bd.frozen i
      have HM1 : Hid (RMadeAt base w1 k { R with bd := R.bd.set i y } ((wr.setCell ⟨R.gd, i, none⟩ (.bool y)).drew)) := Lib.hid (by
        have h1 := HM.out.goes (HM.out.at_.setD i y)
        exact h1.goes (RGoes.of_old h1.at_ (Below.refl _ _).drew))
      generalize R.bd.getD i false = bq at *
      go_upto_region 9 with fail
      go_still_tail 10, (by kernel_rfl)
      change wpList _ _ _ _ _ wr.drew
      go_upto_region 10 with fail
      have HI := Lib.hid hiB
      clear c6 d6 z6 hx hy hid hiB hxd hxe
      generalize (wr.setCell ⟨R.gd, i, none⟩ (.bool y)).drew = w4 at *
      have hx := cell_below HX1.out HM1.out.below
      have c7 : w4.cell? ⟨k, 7, none⟩ = some (.slice (some ⟨R.gw, 0, none⟩) R.wr.length R.cw) := HM1.out.at_.chip.cell 7
      have d7 : w4.cell? ⟨R.gw, i, none⟩ = some (vi (R.wr.getD i 0)) := HM1.out.at_.wcell hiw
      have z7 : w4.frozen? ⟨R.gw, i, none⟩ = false := HM1.out.at_.wr.frozen i
      have HM2 : Hid (RMadeAt base w1 k { R with bd := R.bd.set i y, wr := R.wr.set i x } ((w4.setCell ⟨R.gw, i, none⟩ (vi x)).drew)) := Lib.hid (by
        have h1 := HM1.out.goes (HM1.out.at_.setW i x)
        exact h1.goes (RGoes.of_old h1.at_ (Below.refl _ _).drew))
      have HV2 : Hid (RefM.view { R with bd := R.bd.set i y, wr := R.wr.set i x } = D.chip 0 (i + 1)) := Lib.hid (by
        rw [rmark2_view HM.out.at_ HI.out, HV.out, LoadIn.mark_step (by rw [← HD.out]; show i < B; have := HL.out; omega), hwo.out.1, hwo.out.2])
      generalize R.wr.getD i 0 = wq at *
      go_still_tail 10, (by kernel_rfl)
      change wpList _ _ _ _ _ w4.drew
      go_wp2_with fail
      go_roundw
      case rel => exact ⟨i + 1, _, by omega, by go_num, HM2, HLB, HV2, HWK2⟩
      case measure => simp [intOf]; omega
    · obtain rfl : i = wl.length := by omega
      have HV0 : Hid (R.view = D.chip 0 B) := Lib.hid (by rw [HV.out, HL.out.2.2])
      have HWK0 : Hid (∀ j, j < B → D.wearOk j) := Lib.hid (fun j hj => HWK.out j (by rw [HL.out.2.2]; exact hj))
      clear HV HWK HBO1 HW1
      go_wp2_with fail
      go_loopw [12] (fun v wr => ∃ (n : Nat) (R : RefM), n ≤ ps.length ∧ v = vi n ∧ Hid (RMadeAt base w1 k R wr) ∧ Hid (R.B = B ∧ R.P = P) ∧ Hid (R.view = D.chip n B) ∧ Hid (∀ j, j < n → D.pageOk j)) (fun v _ => ps.length - (intOf v).toNat)
      case atStart => exact ⟨0, R, Nat.zero_le _, rfl, HM, HLB, HV0, Lib.hid (fun j hj => absurd hj (Nat.not_lt_zero j))⟩
      case round =>
        clear HM HLB HV0 R hlt hi
        obtain ⟨n, R, hn, rfl, HM, HLB, HV, HPK⟩ := hrel
        by_cases hlt : n < ps.length
        · obtain ⟨pg, po, rfl, hx1, -⟩ := HP1.out.row.lookup hlt
          have HX1 := Lib.hid hx1
          have hpo : Hid (D.pages.getD n [] = (ps.getD n default).l) := Lib.hid (by rw [← HD.out]; exact page_getD n)
          have HOK : Hid ((ps.getD n default).l ≠ [] → (ps.getD n default).ok base w1) := Lib.hid (fun e => HP1.out.ok hlt e)
          have hgn : (ps.getD n default).l.length ≤ maxLen := by have := (HP1.out.good _ (getD_mem (d := default) hlt)); omega
          unfold maxLen at hgn
          generalize ps.getD n default = g at *
          obtain ⟨ga, gl, gc⟩ := g
          dsimp only at *
          have hx := cell_below hx1 HM.out.below
          change wr.cell? ⟨pg, po + n, none⟩ = some (.slice ga gl.length gc) at hx
          clear hx1
          have c2 : wr.cell? ⟨w.heap.size, 2, none⟩ = some (vi S) := (g1.out.below HM.out.below g1.out.lt).cell 2
          have hq0 : (0 : Int) ≤ (n : Int) := by omega
          have hq1 : (n : Int) < (ps.length : Int) := by omega
          have HNB : Hid (n < B * P) := Lib.hid (by have := HL.out; omega)
          by_cases hz : gl.length = 0
          · have e1 : decide ((0 : Int) < (gl.length : Int)) = false := decide_eq_false (by omega)
            have e1n : decide (0 < gl.length) = false := decide_eq_false (by omega)
            have hnil : gl = [] := List.eq_nil_of_length_eq_zero hz
            have HV2 : Hid (R.view = D.chip (n + 1) B) := Lib.hid (by rw [HV.out, LoadIn.skip (by rw [hpo.out, hnil])])
            have HPK2 : Hid (∀ j, j < n + 1 → D.pageOk j) := Lib.hid (fun j hj => by
              by_cases e : j = n
              · subst e; exact .inl (by rw [hpo.out, hnil])
              · exact HPK.out j (by omega))
            clear hz hnil
            go_upto_region 14 with fail
            go_quiet (fail)
            have HM1 := Lib.hid (HM.out.goes (RGoes.of_old HM.out.at_ (below_drewN (Below.refl _ wr) nq)))
            have hx2 : (wr.drewN nq).cell? ⟨pg, po + n, none⟩ = some (.slice ga gl.length gc) := hx
            go_wp2_with fail
            go_roundw
            case rel => exact ⟨n + 1, _, by omega, by go_num, HM1, HLB, HV2, HPK2⟩
            case measure => simp [intOf]; omega
          · have e1 : decide ((0 : Int) < (gl.length : Int)) = true := decide_eq_true (by omega)
            have e1n : decide (0 < gl.length) = true := decide_eq_true (by omega)
            have hne : gl ≠ [] := fun e => hz (by rw [e]; rfl)
            by_cases hs : gl.length = S + 32
            case neg =>
              have e2 : ((gl.length : Int) != (S : Int) + 32) = true := by simp only [bne_iff_ne, ne_eq]; omega
              have HN : Hid (¬ D.fine) := Lib.hid (fun h => by
                have h1 := h.pages n (by rw [← HD.out]; exact HNB.out)
                unfold LoadIn.pageOk at h1
                rw [hpo.out] at h1
                rcases h1 with h1 | h1
                · exact hne h1
                · exact hs (by rw [h1, ← HD.out]))
              clear hz hne hs
              go_upto_region 14 with fail
              go_quiet (fail)
              go_wp2_with fail
              go_ret2
              exact .no HN.out (below_drewN (HB1.out.trans (HM.out.below.mono HB1.out.size)) _)
            have e2 : ((gl.length : Int) != (S : Int) + 32) = false := by rw [hs]; simp
            have hdm : n / P * P + n % P = n := by rw [Nat.mul_comm]; exact Nat.div_add_mod n P
            have hqP : n % P < P := Nat.mod_lt _ hP0
            have hiB : n / P < B := (Nat.div_lt_iff_lt_mul hP0).2 HNB.out
            have t1 : (n : Int) / (P : Int) = ((n / P : Nat) : Int) := (Int.natCast_ediv n P).symm
            have t2 : (n : Int) % (P : Int) = ((n % P : Nat) : Int) := (Int.natCast_emod n P).symm
            have HV2 : Hid (∀ R' : RefM, R'.view = NP.setBlk R.view (n / P) { R.view.blk (n / P) with ps := (R.view.blk (n / P)).ps.set (n % P) gl, next := n % P + 1 } → R'.view = D.chip (n + 1) B) := Lib.hid (fun R' e => by
              have := LoadIn.page_step (d := D) (n := n) (m := B) (by rw [← HD.out]; exact hP0) (by rw [← HD.out]; exact HNB.out) (by rw [hpo.out]; exact hne)
              rw [e, this, HV.out, hpo.out, ← HD.out])
            have HPK2 : Hid (∀ j, j < n + 1 → D.pageOk j) := Lib.hid (fun j hj => by
              by_cases e : j = n
              · subst e; exact .inr (by rw [hpo.out, hs, ← HD.out])
              · exact HPK.out j (by omega))
            have HDM := Lib.hid hdm
            have HOK2 := Lib.hid (HOK.out hne)
            generalize n / P = i at *
            generalize n % P = q at *
            clear hdm hs hz hne HOK
            go_upto_region 14 with fail
            go_quiet (fail)
            have HM1 := Lib.hid (HM.out.goes (RGoes.of_old HM.out.at_ (below_drewN (Below.refl _ wr) nq)))
            clear hx c2
            generalize wr.drewN nq = wd at *
            have hx := cell_below HX1.out HM1.out.below
            change wd.cell? ⟨pg, po + n, none⟩ = some (.slice ga gl.length gc) at hx
            have hnp : n < R.ps.length := by rw [HM1.out.at_.lp, HLB.out.1, HLB.out.2]; exact HNB.out
            have c3 : wd.cell? ⟨k, 3, none⟩ = some (.slice (some ⟨R.gp, 0, none⟩) R.ps.length R.cp) := HM1.out.at_.chip.cell 3
            have d3 := HM1.out.at_.pcell (i := n) hnp
            have z3 := HM1.out.at_.ps.frozen n
            have HM2 : Hid (RMadeAt base w1 k { R with ps := R.ps.set n ⟨ga, gl, gc⟩ } ((wd.setCell ⟨R.gp, n, none⟩ (.slice ga gl.length gc)).drew)) := Lib.hid (by
              have h1 := HM1.out.goes (HM1.out.at_.setP n ⟨ga, gl, gc⟩ (HOK2.out.chg (F := fun _ => False) (Chg.of_below HM1.out.below) (fun _ e => e.elim)))
              exact h1.goes (RGoes.of_old h1.at_ (Below.refl _ _).drew))
            have hin : i < R.nx.length := by rw [HM1.out.at_.ln, HLB.out.1]; exact hiB
            generalize R.ps.getD n default = og at *
            go_upto_region 17 with fail
            go_still_tail 10, (by kernel_rfl)
            change wpList _ _ _ _ _ wd.drew
            go_upto_region 18 with fail
            clear c3 d3 z3 hx
            generalize (wd.setCell ⟨R.gp, n, none⟩ (.slice ga gl.length gc)).drew = w5 at *
            have c4 : w5.cell? ⟨k, 4, none⟩ = some (.slice (some ⟨R.gn, 0, none⟩) R.nx.length R.cn) := HM2.out.at_.chip.cell 4
            have d4 : w5.cell? ⟨R.gn, i, none⟩ = some (vi (R.nx.getD i 0 : Nat)) := HM2.out.at_.ncell (i := i) hin
            have z4 : w5.frozen? ⟨R.gn, i, none⟩ = false := HM2.out.at_.nx.frozen i
            have c1 : w5.cell? ⟨w.heap.size, 1, none⟩ = some (vi P) := (g1.out.below HM2.out.below g1.out.lt).cell 1
            have hp1 : (1 : Int) ≤ (P : Int) := by omega
            have hp2 : (P : Int) ≤ 32 := by omega
            have hn2 : (n : Int) ≤ 4096 := by have := HNB.out; omega
            have hi0 : (0 : Int) ≤ (i : Int) := by omega
            have hi1 : (i : Int) < (R.nx.length : Int) := by omega
            have HM3 : Hid (RMadeAt base w1 k { R with ps := R.ps.set n ⟨ga, gl, gc⟩, nx := R.nx.set i (q + 1) } ((w5.setCell ⟨R.gn, i, none⟩ (vi ((q : Int) + 1))).drew)) := Lib.hid (by
              have h1 := HM2.out.goes (HM2.out.at_.setN i (q + 1))
              exact h1.goes (RGoes.of_old h1.at_ (Below.refl _ _).drew))
            have HV3 : Hid (RefM.view { R with ps := R.ps.set n ⟨ga, gl, gc⟩, nx := R.nx.set i (q + 1) } = D.chip (n + 1) B) := Lib.hid (HV2.out _ (by
              have := rpage2_view HM1.out.at_ (i := i) (q := q) (by rw [HLB.out.1]; exact hiB) (by rw [HLB.out.2]; exact hqP) ⟨ga, gl, gc⟩ (q + 1)
              have e : i * R.P + q = n := by rw [HLB.out.2]; exact HDM.out
              rw [e] at this
              exact this))
            generalize R.nx.getD i 0 = on at *
            have hp3 : ¬ (P = 0) := by omega
            have qi : IntKind.i64.wrap (i : Int) = (i : Int) := IntWalk.i64_in _ (by omega)
            have qq : IntKind.i64.wrap (q : Int) = (q : Int) := IntWalk.i64_in _ (by omega)
            have qq1 : IntKind.i64.wrap ((q : Int) + 1) = (q : Int) + 1 := IntWalk.i64_in _ (by omega)
            go_still_tail 14, (by kernel_rfl)
            change wpList _ _ _ _ _ w5.drew
            go_wp2_with fail
            go_roundw
            case rel => exact ⟨n + 1, _, by omega, by go_num, HM3, HLB, HV3, HPK2⟩
            case measure => simp [intOf]; omega
        · obtain rfl : n = ps.length := by omega
          have HF : Hid D.fine := Lib.hid (by
            have h0 := HL.out
            rw [← HD.out] at HPK HWK0 ⊢
            refine ⟨HRT.out, by show (ps.map _).length = B * P; rw [List.length_map]; exact h0.1, h0.2.1, h0.2.2, fun i hi => HPK.out i (by rw [h0.1]; exact hi), fun i hi => HWK0.out i hi⟩)
          have HV2 : Hid (R.view = D.chip (D.B * D.P) D.B) := Lib.hid (by
            rw [HV.out, HL.out.1]
            conv => rhs; rw [← HD.out]
            rw [← HD.out])
          go_wp2_with fail
          go_ret2
          exact .yes HF.out (HM.out.more HB1.out) HV2.out
end

end Go.Proofs.Ytpggkehfbhffbaa
