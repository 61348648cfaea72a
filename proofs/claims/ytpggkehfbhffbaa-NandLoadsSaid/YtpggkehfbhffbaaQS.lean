/-
  A chip and the document's tell the same. Conditions: both are told by Two, are right, and hold the same.
-/
import Derived.Test.YtpggkehfbhffbaaNQ
import Derived.Deep.QuietTactic
import Derived.BigQuiet
namespace Go.Proofs.Ytpggkehfbhffbaa
open Go.RowKit

/-- Truth values that a slice reads as. -/
def BoRow (w : World) (a : Option Addr) (l : List Bool) : Prop := l = [] ∨ ∃ b o, a = some ⟨b, o, none⟩ ∧ ∀ i, i < l.length → w.cell? ⟨b, o + i, none⟩ = some (.bool (l.getD i false))
theorem BoRow.lookup {w : World} {a : Option Addr} {l : List Bool} (h : BoRow w a l) {i : Nat} (hi : i < l.length) : ∃ b o, a = some ⟨b, o, none⟩ ∧ w.cell? ⟨b, o + i, none⟩ = some (.bool (l.getD i false)) := by
  rcases h with rfl | ⟨b, o, rfl, h⟩
  · simp at hi
  · exact ⟨b, o, rfl, h i hi⟩
theorem BoRow.old {w w' : World} {a : Option Addr} {l : List Bool} (h : BoRow w a l) (q : Below w.heap.size w w') : BoRow w' a l := by
  rcases h with h | ⟨b, o, rfl, h⟩
  · exact .inl h
  · exact .inr ⟨b, o, rfl, fun i hi => cell_below (h i hi) q⟩
theorem borow_own {w : World} {base : Nat} {v : Value} {l : List Bool} (h : w.ownsRow base 4 1 v l.length (l.map Value.bool)) : ∃ a c, v = .slice a l.length c ∧ BoRow w a l := by
  have h' := h
  rcases h'.2 with ⟨rfl, h0⟩ | ⟨g, cap, cur, rfl, _⟩
  · have : l = [] := List.eq_nil_of_length_eq_zero h0
    subst this
    exact ⟨none, 0, rfl, .inl rfl⟩
  · refine ⟨_, cap, rfl, .inr ⟨g, 0, rfl, fun i hi => ?_⟩⟩
    rw [Nat.zero_add, World.ownsRow.cellAt h i (by omega), List.getElem?_map, List.getElem?_eq_getElem hi, List.getD_eq_getElem?_getD, List.getElem?_eq_getElem hi]
    rfl
section
variable {base : Nat} {w w' wr : World} {k q : Nat} {M : ChM} {R : RefM}
theorem RefAt.prow (h : RefAt base w q R) (hl : R.ps.length ≤ 140737488355328) : PRow w (some ⟨R.gp, 0, none⟩) R.ps :=
  ⟨.inr ⟨R.gp, 0, rfl, fun i hi => by rw [Nat.zero_add]; exact h.pcell hi⟩, fun p hp => (h.rows p hp).row.row, hl⟩
theorem ref_pages (h : RefAt base w q R) : R.view.bs.flatMap (·.ps) = R.ps.map (·.l) := by
  apply List.ext_getElem?
  intro i
  by_cases hP : R.P = 0
  · have h1 : R.ps.length = 0 := by rw [h.lp, hP, Nat.mul_zero]
    have h2 : (R.view.bs.flatMap (·.ps)).length ≤ 0 := by
      have := flat_le (fun x : NP.Blo => x.ps) 0 R.view.bs (fun x hx => by
        obtain ⟨j, _, rfl⟩ := List.mem_map.1 hx
        show ((List.range R.P).map _).length ≤ 0
        simp [hP])
      simpa using this
    rw [List.getElem?_eq_none (by omega), List.getElem?_eq_none (by simp; omega)]
  · have hP' : 0 < R.P := by omega
    have hlen : ∀ x ∈ R.view.bs, x.ps.length = R.P := fun x hx => by
      obtain ⟨j, _, rfl⟩ := List.mem_map.1 hx
      show ((List.range R.P).map _).length = R.P
      simp
    have hbl : R.view.bs.length = R.B := by show ((List.range R.B).map _).length = R.B; simp
    by_cases hi : i < R.B * R.P
    · have hk : i / R.P < R.B := (Nat.div_lt_iff_lt_mul hP').2 hi
      have hq : i % R.P < R.P := Nat.mod_lt _ hP'
      have hdm : i / R.P * R.P + i % R.P = i := by rw [Nat.mul_comm]; exact Nat.div_add_mod i R.P
      have h1 := flat_get2 (f := fun x : NP.Blo => x.ps) (m := R.P) R.view.bs hlen (i := i / R.P) (j := i % R.P) (by rw [hbl]; exact hk) hq
      rw [hdm] at h1
      rw [h1]
      have h2 : R.view.bs.getD (i / R.P) default = R.blo (i / R.P) := R.blk hk
      rw [h2]
      show ((List.range R.P).map _)[i % R.P]? = _
      rw [List.getElem?_map, List.getElem?_range hq, Option.map_some, hdm, List.getElem?_map, List.getD_eq_getElem?_getD, List.getElem?_eq_getElem (by rw [h.lp]; exact hi)]
      rfl
    · have h1 := flat_le (fun x : NP.Blo => x.ps) R.P R.view.bs (fun x hx => by rw [hlen x hx]; exact Nat.le_refl _)
      rw [hbl] at h1
      rw [List.getElem?_eq_none (by omega), List.getElem?_eq_none (by rw [List.length_map, h.lp]; omega)]
theorem ref_bads (h : RefAt base w q R) : R.view.bs.map (·.bad) = R.bd := by
  show ((List.range R.B).map R.blo).map (·.bad) = R.bd
  rw [List.map_map]
  exact (range_ext R.bd false _ h.ld fun p _ => rfl).symm
theorem ref_wears (h : RefAt base w q R) : R.view.bs.map (·.wear) = R.wr := by
  show ((List.range R.B).map R.blo).map (·.wear) = R.wr
  rw [List.map_map]
  exact (range_ext R.wr 0 _ h.lw fun p _ => rfl).symm

set_option maxRecDepth 100000 in
set_option maxHeartbeats 8000000 in
theorem same_any (h : Two base w k M q R) (hs : M.view = R.view) (hok : M.view.ok) (hbase : base ≤ w.heap.size) : Calls Try.prog 32 #[ptr k, ptr q] w fun e w' => e = .returned (.bool true) ∧ Below w.heap.size w w' := by
  have H0 := Lib.hid h
  have HS := Lib.hid hs
  have HOK := Lib.hid hok
  have hpp : R.ps.length ≤ 4096 := by
    have h1 := pages_few hok
    rw [hs, ref_pages h.b, List.length_map] at h1
    exact h1
  have HBW : Hid (M.view.bs.map (·.bad) = R.bd ∧ M.view.bs.map (·.wear) = R.wr ∧ M.view.bs.flatMap (·.ps) = R.ps.map (·.l)) := Lib.hid ⟨by rw [hs]; exact ref_bads h.b, by rw [hs]; exact ref_wears h.b, by rw [hs]; exact ref_pages h.b⟩
  have hdl : R.bd.length ≤ 128 ∧ R.bd.length = R.wr.length := by
    have := (rok_S (R := R) (by rw [← hs]; exact hok)).2.2
    rw [h.b.ld, h.b.lw]
    exact ⟨this, rfl⟩
  have HDL := Lib.hid hdl.2
  have hdl1 := hdl.1
  clear h hs hok hdl
  go_enter Try.func32, Try.ntmps32
  go_wp2_with fail
  refine (Dump_any H0.out.a HOK.out hbase).mono ?_
  rintro e w1 ⟨vp, ps, vb, vw, rfl, hd, hps⟩
  rw [HBW.out.1, HBW.out.2.1] at hd
  rw [HBW.out.2.2] at hps
  have hpf : ps.length ≤ 4096 := by
    have := congrArg List.length hps
    rw [List.length_map, List.length_map] at this
    omega
  obtain ⟨pa, pc, rfl, hp1⟩ := (dump_rows hd (by omega)).1
  obtain ⟨ia, ic, rfl, hi1⟩ := irow_own hd.rw_
  obtain ⟨ba, bc, rfl, hb1⟩ := borow_own hd.rb
  have HP1 := Lib.hid hp1
  have HI1 := Lib.hid hi1
  have HBO := Lib.hid hb1
  have HPS := Lib.hid hps
  have HB1 := Lib.hid hd.below
  have H1 := Lib.hid (H0.out.old hd.below)
  have c3 : w1.cell? ⟨q, 3, none⟩ = some (.slice (some ⟨R.gp, 0, none⟩) R.ps.length R.cp) := H1.out.b.chip.cell 3
  have c6 : w1.cell? ⟨q, 6, none⟩ = some (.slice (some ⟨R.gd, 0, none⟩) R.bd.length R.cd) := H1.out.b.chip.cell 6
  have c7 : w1.cell? ⟨q, 7, none⟩ = some (.slice (some ⟨R.gw, 0, none⟩) R.wr.length R.cw) := H1.out.b.chip.cell 7
  have e1 : ((R.bd.length : Int) != (R.bd.length : Int)) = false := by simp
  have e2 : ((R.wr.length : Int) != (R.wr.length : Int)) = false := by simp
  clear hd hps hp1 hi1 hb1
  go_wp2_with fail
  refine (rSame_any pc R.cp HP1.out (H1.out.b.prow (by omega))).mono ?_
  rw [decide_eq_true HPS.out]
  rintro e w2 ⟨rfl, hb2⟩
  have H2 := Lib.hid (H1.out.old hb2)
  have HI2 := Lib.hid (HI1.out.old hb2)
  have HBO2 := Lib.hid (HBO.out.old hb2)
  have HB2 := Lib.hid (HB1.out.trans (hb2.mono HB1.out.size))
  clear hb2 c3 c6 c7 e1 e2 HI1 HBO HP1 H1 HB1 HPS
  go_wp2_with fail
  go_loopw [8] (fun v wr => ∃ i : Nat, i ≤ R.bd.length ∧ v = vi i ∧ Hid (Below w2.heap.size w2 wr)) (fun v _ => R.bd.length - (intOf v).toNat)
  case atStart => exact ⟨0, Nat.zero_le _, rfl, Lib.hid (Below.refl _ _)⟩
  case round =>
    obtain ⟨i, hi, rfl, hb⟩ := hrel
    by_cases hlt : i < R.bd.length
    · have hltw : i < R.wr.length := by have := HDL.out; omega
      obtain ⟨g1, o1, hia, hc1⟩ := (HI2.out.old hb.out).lookup hltw
      obtain ⟨g2, o2, hba, hc2⟩ := (HBO2.out.old hb.out).lookup hlt
      subst hia hba
      have H3 := Lib.hid (H2.out.old hb.out)
      have c6 : wr.cell? ⟨q, 6, none⟩ = some (.slice (some ⟨R.gd, 0, none⟩) R.bd.length R.cd) := H3.out.b.chip.cell 6
      have c7 : wr.cell? ⟨q, 7, none⟩ = some (.slice (some ⟨R.gw, 0, none⟩) R.wr.length R.cw) := H3.out.b.chip.cell 7
      have d6 := H3.out.b.dcell hlt
      have d7 := H3.out.b.wcell hltw
      have hib : i < R.B := by rw [← H3.out.b.ld]; exact hlt
      have q0 : (0 : Int) ≤ (i : Int) := by omega
      have q1 : (i : Int) < (R.bd.length : Int) := by omega
      have q2 : (i : Int) < (R.wr.length : Int) := by omega
      have HBA : Hid (∀ n, Calls Try.prog 26 #[ptr k, vi i] (wr.drewN n) fun e w' => e = .returned (.bool (R.bd.getD i false)) ∧ w' = wr.drewN n) := Lib.hid (fun n => by
        have := Bad_any (H3.out.a.old (below_drewN (Below.refl _ _) n)) (i : Int)
        rw [bad_view _ _ (ok_len HOK.out), HS.out, NP.badAt, if_pos ⟨q0, by show (i : Int) < (R.B : Int); omega⟩, Int.toNat_natCast, R.blk hib] at this
        exact this)
      have HWA : Hid (∀ n, Calls Try.prog 34 #[ptr k, vi i] (wr.drewN n) fun e w' => e = .returned (vi (R.wr.getD i 0)) ∧ w' = wr.drewN n) := Lib.hid (fun n => by
        have := Wear_any (H3.out.a.old (below_drewN (Below.refl _ _) n)) (i : Int)
        rw [wear_view _ _ (ok_len HOK.out), HS.out, NP.wearAt, if_pos ⟨q0, by show (i : Int) < (R.B : Int); omega⟩, Int.toNat_natCast, R.blk hib] at this
        exact this)
      generalize R.wr.getD i 0 = x at *
      generalize R.bd.getD i false = bq at *
      have hx : (x != x) = false := by simp
      have hbq : (bq != bq) = false := by simp
      clear hib
      go_upto_region 7 with fail
      go_quiet ((first | (go_at_call 26; exact Calls.quiet_of_same (HBA.out _)) | (go_at_call 34; exact Calls.quiet_of_same (HWA.out _))))
      have HB3 := Lib.hid (below_drewN hb.out nq)
      go_wp2_with fail
      go_roundw
      case rel => exact ⟨i + 1, by omega, by go_num, HB3⟩
      case measure => simp [intOf]; omega
    · obtain rfl : i = R.bd.length := by omega
      have H3 := Lib.hid (H2.out.old hb.out)
      have HB3 := Lib.hid (HB2.out.trans (hb.out.mono HB2.out.size))
      have HD : Hid (M.down = R.down) := Lib.hid (congrArg (·.down) HS.out)
      have HSK : Hid (M.strokes = R.strokes) := Lib.hid (congrArg (·.strokes) HS.out)
      have HRD : Hid (M.reads = R.reads) := Lib.hid (congrArg (·.reads) HS.out)
      have HGB : Hid (M.B = R.B) := Lib.hid (congrArg (·.B) HS.out)
      have HGP : Hid (M.P = R.P) := Lib.hid (congrArg (·.P) HS.out)
      have HGS : Hid (M.S = R.S) := Lib.hid (congrArg (·.S) HS.out)
      have HU : Hid (∀ n : Sub wr, Calls Try.prog 20 #[ptr k] n.w fun e w' => e = .returned (.bool (!R.down)) ∧ Below n.w.heap.size n.w w') := Lib.hid (fun n => (Up_any (H3.out.a.old n.below)).mono (by rintro e w' ⟨rfl, rfl⟩; exact ⟨by rw [HD.out], Below.refl _ _⟩))
      have HST : Hid (∀ n : Sub wr, Calls Try.prog 28 #[ptr k] n.w fun e w' => e = .returned (vi R.strokes) ∧ Below n.w.heap.size n.w w') := Lib.hid (fun n => (Strokes_any (H3.out.a.old n.below)).mono (by rintro e w' ⟨rfl, rfl⟩; exact ⟨by rw [HSK.out], Below.refl _ _⟩))
      have HRE : Hid (∀ n : Sub wr, Calls Try.prog 35 #[ptr k] n.w fun e w' => e = .returned (vi R.reads) ∧ Below n.w.heap.size n.w w') := Lib.hid (fun n => (Reads_any (H3.out.a.old n.below)).mono (by rintro e w' ⟨rfl, rfl⟩; exact ⟨by rw [HRD.out], Below.refl _ _⟩))
      have HGE : Hid (∀ n : Sub wr, Calls Try.prog 36 #[ptr k] n.w fun e w' => e = .returned (.agg #[vi R.B, vi R.P, vi R.S]) ∧ Below n.w.heap.size n.w w') := Lib.hid (fun n => (Geo_any (H3.out.a.old n.below)).mono (by rintro e w' ⟨rfl, hb⟩; exact ⟨by rw [HGB.out, HGP.out, HGS.out], hb⟩))
      have c0 := Sub.cell (show wr.cell? ⟨q, 0, none⟩ = some (vi R.B) from H3.out.b.chip.cell 0)
      have c1 := Sub.cell (show wr.cell? ⟨q, 1, none⟩ = some (vi R.P) from H3.out.b.chip.cell 1)
      have c2 := Sub.cell (show wr.cell? ⟨q, 2, none⟩ = some (vi R.S) from H3.out.b.chip.cell 2)
      have c10 := Sub.cell (show wr.cell? ⟨q, 10, none⟩ = some (.bool R.down) from H3.out.b.chip.cell 10)
      have c11 := Sub.cell (show wr.cell? ⟨q, 11, none⟩ = some (vi R.strokes) from H3.out.b.chip.cell 11)
      have c12 := Sub.cell (show wr.cell? ⟨q, 12, none⟩ = some (vi R.reads) from H3.out.b.chip.cell 12)
      clear HD HSK HRD HGB HGP HGS
      generalize R.down = dn at *
      generalize R.strokes = sk at *
      generalize R.reads = rd at *
      have e1 : ((!dn) == (!dn)) = true := by simp
      have e2 : (sk == sk) = true := by simp
      have e3 : (rd == rd) = true := by simp
      go_upto_region 9 with fail
      refine wp_region_sub (by kernel_rfl) (by kernel_rfl) ?_
      repeat (go_big_quiet_step (first | (go_at_call 20; exact ext_of (HU.out _)) | (go_at_call 28; exact ext_of (HST.out _)) | (go_at_call 35; exact ext_of (HRE.out _)) | (go_at_call 36; exact ext_of (HGE.out _))))
      refine wpQuiet_nil ?_
      rintro _ ⟨nq, rfl⟩
      have HBN := Lib.hid (HB3.out.trans (nq.below.mono HB3.out.size))
      go_wp2_with fail
      go_ret
      exact ⟨rfl, HBN.out⟩
end

end Go.Proofs.Ytpggkehfbhffbaa
