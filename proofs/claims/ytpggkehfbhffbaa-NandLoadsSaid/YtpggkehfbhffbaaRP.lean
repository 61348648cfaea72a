/-
  The document's chip made anew, with blocks that are bad. No conditions of its own.
-/
import Derived.Test.YtpggkehfbhffbaaRM
import Derived.Test.YtpggkehfbhffbaaRH
import Derived.StillTailTactics
namespace Go.Proofs.Ytpggkehfbhffbaa
open Go.RowKit

theorem Arr.of_made {w : World} {g n : Nat} {t : TypeId} {v : Value} (h : Blk w g t (madeCells #[v] n)) (hn : n ≤ 1000000) : Arr w t 1 g n n (List.replicate n v) := by
  refine ⟨by simp, .inr ⟨g, n, _, rfl, Nat.zero_le _, h, Nat.le_refl _, by unfold maxLen; omega, by simp [madeCells], ?_⟩⟩
  rw [toList_madeCells_one]
  exact List.take_of_length_le (by simp)
theorem getD_rep {α : Type} (n : Nat) (d : α) (i : Nat) : (List.replicate n d).getD i d = d := by
  rw [List.getD_eq_getElem?_getD, List.getElem?_replicate]
  split <;> rfl
/-- A document's chip that was made in this call. -/
structure RMadeAt (base : Nat) (w : World) (k : Nat) (R : RefM) (w' : World) : Prop where
  at_ : RefAt base w' k R
  below : Below w.heap.size w w'
  own : ∀ n, R.foot k n → w.heap.size ≤ n
theorem RMadeAt.goes {base : Nat} {w wr w' : World} {k : Nat} {R R' : RefM} (h : RMadeAt base w k R wr) (g : RGoes base wr k R w' R') : RMadeAt base w k R' w' :=
  ⟨g.at_, h.below.trans (g.chg.to_below (fun n _ hn => h.own n hn) h.below.size), fun n hn => by
    rcases g.foot n hn with h1 | h1
    · exact h.own n h1
    · exact Nat.le_trans h.below.size h1⟩
theorem RMadeAt.more {base : Nat} {w0 w wr : World} {k : Nat} {R : RefM} (h : RMadeAt base w k R wr) (q : Below w0.heap.size w0 w) : RMadeAt base w0 k R wr :=
  ⟨h.at_, q.trans (h.below.mono q.size), fun n hn => Nat.le_trans q.size (h.own n hn)⟩
def blankR (b p s g1 g2 g3 g4 g5 : Nat) : RefM :=
  ⟨b, p, s, g1, b * p, List.replicate (b * p) default, g2, b, List.replicate b 0, g3, b, List.replicate b false, g4, b, List.replicate b false, g5, b, List.replicate b 0, none, [], 0, 0, false, 0, 0⟩
theorem blankR_view (b p s g1 g2 g3 g4 g5 : Nat) : (blankR b p s g1 g2 g3 g4 g5).view = NP.blank b p s := by
  have h : ∀ i, (blankR b p s g1 g2 g3 g4 g5).blo i = NP.blankB p := fun i => by
    show NP.Blo.mk ((List.range p).map fun q => ((List.replicate (b * p) (default : PgM)).getD (i * p + q) default).l) ((List.replicate b 0).getD i 0) ((List.replicate b false).getD i false) ((List.replicate b false).getD i false) ((List.replicate b (0 : Int)).getD i 0) = _
    simp only [getD_rep]
    unfold NP.blankB
    congr 1
    rw [show (fun _ : Nat => (default : PgM).l) = fun _ => [] from rfl, List.map_const', List.length_range]
  unfold RefM.view NP.blank
  congr 1
  rw [show (blankR b p s g1 g2 g3 g4 g5).blo = fun _ => NP.blankB p from funext h, List.map_const', List.length_range]
  rfl
theorem BlankMem.made {base : Nat} {w w' : World} {b p s kk g1 g2 g3 g4 g5 : Nat} (h : BlankMem w b p s kk g1 g2 g3 g4 g5 w') (hb : b ≤ 128) (hp : p ≤ 32) (hbase : base ≤ w.heap.size) :
    RMadeAt base w kk (blankR b p s g1 g2 g3 g4 g5) w' := by
  have hm : b * p ≤ 4096 := Nat.le_trans (Nat.mul_le_mul hb hp) (by decide)
  obtain ⟨n0, n1, n2, n3, n4, n5⟩ := h.new
  have hlow : ∀ n, (blankR b p s g1 g2 g3 g4 g5).foot kk n → w.heap.size ≤ n := by
    rintro n (rfl | rfl | rfl | rfl | rfl | rfl)
    · exact n0
    · exact n1
    · exact n2
    · exact n3
    · exact n4
    · exact n5
  refine ⟨⟨?_, ?_, ?_, ?_, ?_, ?_, h.ne.1, h.ne.2, ?_, FRow.nil _ _ _, fun n hn => Nat.le_trans hbase (hlow n hn), ?_, ?_, ?_, ?_, ?_⟩, h.below, hlow⟩
  · have := h.chip
    simpa [RefM.cs, blankR] using this
  · have := Arr.of_made h.b1 (by omega)
    simp only [blankR, List.length_replicate, List.map_replicate]
    exact this
  · have := Arr.of_made h.b2 (by omega)
    simpa [blankR] using this
  · have := Arr.of_made h.b3 (by omega)
    simpa [blankR] using this
  · have := Arr.of_made h.b4 (by omega)
    simpa [blankR] using this
  · have := Arr.of_made h.b5 (by omega)
    simpa [blankR] using this
  · intro q hq
    rw [(List.mem_replicate.1 hq).2]
    exact PgM.ok.none _ _
  all_goals simp [blankR]

/-- What New answers. -/
def RNewPost (base : Nat) (w : World) (r : Option NP.Chp) (e : Ending) (w' : World) : Prop :=
  match r with
  | some V => ∃ k R, e = .returned (.tuple #[ptr k, vi 0]) ∧ RMadeAt base w k R w' ∧ R.view = V
  | none => e = .returned (.tuple #[.pointer none, vi 1]) ∧ Below w.heap.size w w'
theorem RNewPost.no {base : Nat} {w w' : World} {r : Option NP.Chp} (h : r = none) (hb : Below w.heap.size w w') : RNewPost base w r (.returned (.tuple #[.pointer none, vi 1])) w' := by
  rw [h]
  exact ⟨rfl, hb⟩
theorem RNewPost.yes {base : Nat} {w w' : World} {r : Option NP.Chp} {k : Nat} {R : RefM} (h : r = some R.view) (hm : RMadeAt base w k R w') : RNewPost base w r (.returned (.tuple #[ptr k, vi 0])) w' := by
  rw [h]
  exact ⟨k, R, rfl, hm, rfl⟩
def markR (R : RefM) (i : Nat) : RefM := { R with bd := R.bd.set i true }

set_option maxRecDepth 100000 in
set_option maxHeartbeats 4000000 in
theorem rNew_any (base : Nat) (b p s : Int) (a : Option Addr) (bad : List Int) (c : Nat) (w : World) (hr : IRow w a bad) (hl : bad.length ≤ 9223372036854775807) (hb : base ≤ w.heap.size) :
    Calls Try.prog 16 #[.agg #[vi b, vi p, vi s], .slice a bad.length c] w (RNewPost base w (NP.new b p s bad)) := by
  have HR := Lib.hid hr
  have g0 := Lib.hid (Blk.new w 23 #[vi b, vi p, vi s])
  have HB : Hid (Below w.heap.size w (w.alloc (.cells #[vi b, vi p, vi s] 23))) := Lib.hid ((Below.refl _ _).alloc (Nat.le_refl _) _)
  clear hr
  go_enter Try.func16, Try.ntmps16
  go_wp2_with fail
  generalize w.alloc (.cells #[vi b, vi p, vi s] 23) = w0 at *
  have c0 : w0.cell? ⟨w.heap.size, 0, none⟩ = some (vi b) := g0.out.cell 0
  have c1 : w0.cell? ⟨w.heap.size, 1, none⟩ = some (vi p) := g0.out.cell 1
  have c2 : w0.cell? ⟨w.heap.size, 2, none⟩ = some (vi s) := g0.out.cell 2
  refine (rRight_any b p s _).mono ?_
  rintro e w1 ⟨rfl, hb1⟩
  have g1 := Lib.hid (g0.out.old hb1)
  have HB1 := Lib.hid (HB.out.trans (hb1.mono HB.out.size))
  clear c0 c1 c2 hb1 g0 HB
  cases hrt : NP.rightB b p s
  · have HQ := Lib.hid (show NP.new b p s bad = none by rw [NP.new, if_neg (by rw [hrt]; simp)])
    clear hrt
    go_wp2_with fail
    go_ret2
    exact RNewPost.no HQ.out HB1.out
  · have HQ := Lib.hid (show NP.new b p s bad = NP.badTo (NP.blank b.toNat p.toNat s.toNat) bad by rw [NP.new, if_pos hrt])
    have hrt' := hrt
    simp only [NP.rightB, Bool.and_eq_true, decide_eq_true_eq, Bool.or_eq_true, beq_iff_eq] at hrt'
    obtain ⟨B, rfl⟩ : ∃ B : Nat, b = B := ⟨b.toNat, by omega⟩
    obtain ⟨P, rfl⟩ : ∃ P : Nat, p = P := ⟨p.toNat, by omega⟩
    obtain ⟨S, rfl⟩ : ∃ S : Nat, s = S := ⟨s.toNat, by omega⟩
    rw [Int.toNat_natCast, Int.toNat_natCast, Int.toNat_natCast] at HQ
    have HRT := Lib.hid hrt
    have hBB : B ≤ 128 := by omega
    have hPP : P ≤ 32 := by omega
    clear hrt hrt'
    have c0 : w1.cell? ⟨w.heap.size, 0, none⟩ = some (vi B) := g1.out.cell 0
    have c1 : w1.cell? ⟨w.heap.size, 1, none⟩ = some (vi P) := g1.out.cell 1
    have c2 : w1.cell? ⟨w.heap.size, 2, none⟩ = some (vi S) := g1.out.cell 2
    go_wp2_with fail
    refine (rblank_any B P S hBB hPP _).mono ?_
    rintro e w2 ⟨k, x1, x2, x3, x4, x5, rfl, hm⟩
    have HM := Lib.hid (hm.made (base := base) hBB hPP (Nat.le_trans hb HB1.out.size))
    have HLB : Hid ((blankR B P S x1 x2 x3 x4 x5).bd.length = B ∧ (blankR B P S x1 x2 x3 x4 x5).B = B) := Lib.hid ⟨List.length_replicate .., rfl⟩
    have HQ2 : Hid (NP.new B P S bad = NP.badTo (blankR B P S x1 x2 x3 x4 x5).view (bad.drop 0)) := Lib.hid (by rw [HQ.out, blankR_view, List.drop_zero])
    clear c0 c1 c2 hm HQ
    generalize blankR B P S x1 x2 x3 x4 x5 = R at *
    go_wp2_with fail
    go_loopw [7] (fun v wr => ∃ (i : Nat) (R : RefM), i ≤ bad.length ∧ v = vi i ∧ Hid (RMadeAt base w1 k R wr) ∧ Hid (R.bd.length = B ∧ R.B = B) ∧ Hid (NP.new B P S bad = NP.badTo R.view (bad.drop i))) (fun v _ => bad.length - (intOf v).toNat)
    case atStart => exact ⟨0, R, Nat.zero_le _, rfl, HM, HLB, HQ2⟩
    case round =>
      clear HM HLB HQ2 R
      obtain ⟨i, R, hi, rfl, HM, HLB, HQ⟩ := hrel
      by_cases hlt : i < bad.length
      · obtain ⟨ba, o, rfl, hx⟩ := (HR.out.below (HB1.out.trans (HM.out.below.mono HB1.out.size))).lookup hlt
        have hdr : bad.drop i = bad.getD i 0 :: bad.drop (i + 1) := by
          rw [List.drop_eq_getElem_cons hlt, List.getD_eq_getElem?_getD, List.getElem?_eq_getElem hlt]
          rfl
        have HDR := Lib.hid hdr
        clear hdr
        generalize bad.getD i 0 = x at *
        have hq0 : (0 : Int) ≤ (i : Int) := by omega
        have hq1 : (i : Int) < (bad.length : Int) := by omega
        have c0 : wr.cell? ⟨w.heap.size, 0, none⟩ = some (vi B) := (g1.out.below HM.out.below g1.out.lt).cell 0
        by_cases hx0 : 0 ≤ x
        · have hxd : decide (x < 0) = false := by simp; omega
          by_cases hx1 : x < B
          · have hxe : decide ((B : Int) ≤ x) = false := by simp; omega
            go_upto_region 7 with fail
            go_quiet (fail)
            have HM1 := Lib.hid (HM.out.goes (RGoes.of_old HM.out.at_ (below_drewN (Below.refl _ wr) nq)))
            obtain ⟨j, rfl⟩ : ∃ j : Nat, x = j := ⟨x.toNat, by omega⟩
            have hj : j < R.bd.length := by rw [HLB.out.1]; omega
            have hx2 : (wr.drewN nq).cell? ⟨ba, o + i, none⟩ = some (vi j) := cell_below hx (below_drewN (Below.refl _ wr) nq)
            clear hx c0
            generalize wr.drewN nq = wd at *
            have c6 : wd.cell? ⟨k, 6, none⟩ = some (.slice (some ⟨R.gd, 0, none⟩) R.bd.length R.cd) := HM1.out.at_.chip.cell 6
            have d6 : wd.cell? ⟨R.gd, j, none⟩ = some (.bool (R.bd.getD j false)) := HM1.out.at_.dcell hj
            have z6 : wd.frozen? ⟨R.gd, j, none⟩ = false := HM1.out.at_.bd.frozen j
            have HM2 : Hid (RMadeAt base w1 k (markR R j) ((wd.setCell ⟨R.gd, j, none⟩ (.bool true)).drew)) := Lib.hid (by
              have h1 := HM1.out.goes (HM1.out.at_.setD j true)
              exact h1.goes (RGoes.of_old h1.at_ (Below.refl _ _).drew))
            have HL2 : Hid ((markR R j).bd.length = B ∧ (markR R j).B = B) := Lib.hid ⟨by show (R.bd.set _ _).length = _; rw [List.length_set]; exact HLB.out.1, HLB.out.2⟩
            have HQ2 : Hid (NP.new B P S bad = NP.badTo (markR R j).view (bad.drop (i + 1))) := Lib.hid (by
              rw [HQ.out, HDR.out, NP.badTo, if_pos ⟨by omega, by show (j : Int) < (R.B : Int); rw [HLB.out.2]; omega⟩, Int.toNat_natCast]
              exact congrArg (fun c => NP.badTo c _) (rmark_view HM1.out.at_ (by rw [HLB.out.2]; omega)).symm)
            generalize R.bd.getD j false = bq at *
            go_upto_region 9 with fail
            go_still_tail 9, (by kernel_rfl)
            change wpList _ _ _ _ _ wd.drew
            go_wp2_with fail
            go_roundw
            case rel => exact ⟨i + 1, _, by omega, by go_num, HM2, HL2, HQ2⟩
            case measure => simp [intOf]; omega
          · have HF : Hid (NP.new B P S bad = none) := Lib.hid (by rw [HQ.out, HDR.out, NP.badTo, if_neg (by show ¬ (0 ≤ x ∧ x < (R.B : Int)); rw [HLB.out.2]; omega)])
            have hxe : decide ((B : Int) ≤ x) = true := by simp; omega
            go_upto_region 7 with fail
            go_quiet (fail)
            go_wp2_with fail
            go_ret2
            exact RNewPost.no HF.out (below_drewN (HB1.out.trans (HM.out.below.mono HB1.out.size)) _)
        · have HF : Hid (NP.new B P S bad = none) := Lib.hid (by rw [HQ.out, HDR.out, NP.badTo, if_neg (by omega)])
          have hxd : decide (x < 0) = true := by simp; omega
          go_upto_region 7 with fail
          go_quiet (fail)
          go_wp2_with fail
          go_ret2
          exact RNewPost.no HF.out (below_drewN (HB1.out.trans (HM.out.below.mono HB1.out.size)) _)
      · obtain rfl : i = bad.length := by omega
        have HF : Hid (NP.new B P S bad = some R.view) := Lib.hid (by rw [HQ.out, List.drop_length]; rfl)
        go_wp2_with fail
        go_ret2
        exact RNewPost.yes HF.out (HM.out.more HB1.out)

end Go.Proofs.Ytpggkehfbhffbaa
