/-
  Lemmas for a law's proof, put together from several texts: each part says what it shows, and its conditions.
-/
import Derived.Test.YtpggkehfbhffbaaZC11
/-
  The document's chip: a page programmed. Conditions: a chip that is told by RefAt, and right.
-/
namespace Go.Proofs.Ytpggkehfbhffbaa
open Go.RowKit

section
variable {base : Nat} {w wr w' : World} {k : Nat} {R R' : RefM}
def putR (R : RefM) (i q : Nat) (pg : PgM) : RefM := { R with nx := R.nx.set i (q + 1), ps := R.ps.set (i * R.P + q) pg }
theorem putR_view (h : RefAt base w k R) {i q : Nat} (hi : i < R.B) (hq : q < R.P) (hn : R.nx.getD i 0 = q) (pg : PgM) : (putR R i q pg).view = NP.putP R.view i pg.l := by
  unfold NP.putP NP.setBlk
  rw [R.blk hi]
  show NP.Chp.mk _ _ _ _ _ _ _ _ _ = NP.Chp.mk _ _ _ _ _ _ _ _ _
  congr 1
  refine RefM.view_set R (putR R i q pg) _ (fun j hj => ?_) rfl
  have hat : i * R.P + q < R.ps.length := by rw [h.lp]; exact at_lt hi hq
  show (NP.Blo.mk ((List.range R.P).map fun p => ((R.ps.set (i * R.P + q) pg).getD (j * R.P + p) default).l) ((R.nx.set i (q + 1)).getD j 0) (R.br.getD j false) (R.bd.getD j false) (R.wr.getD j 0)) = _
  rw [getD_set' _ _ _ _ _ (by rw [h.ln]; exact hi)]
  by_cases e : j = i
  · subst e
    rw [if_pos rfl, if_pos rfl]
    show _ = NP.Blo.mk (((List.range R.P).map fun p => (R.ps.getD (j * R.P + p) default).l).set (R.nx.getD j 0) pg.l) (R.nx.getD j 0 + 1) (R.br.getD j false) (R.bd.getD j false) (R.wr.getD j 0)
    rw [hn]
    congr 1
    refine (range_map_set _ _ _ _ _ fun p hp => ?_).symm
    rw [getD_set' _ _ _ _ _ hat]
    by_cases e2 : p = q
    · subst e2; simp
    · rw [if_neg e2, if_neg (fun e3 => e2 ((at_inj hp hq).1 e3).2)]
  · rw [if_neg e, if_neg e]
    unfold RefM.blo
    congr 1
    refine List.map_congr_left fun p hp => ?_
    rw [getD_set' _ _ _ _ _ hat, if_neg (fun e3 => e ((at_inj (List.mem_range.1 hp) hq).1 e3).1)]
def downR (R : RefM) (d : Bool) : RefM := { R with down := d }
theorem rfault_row (h : FRow base w R.fa R.fs) (a : Int) : SRow base w (faultM R.fs a).a (faultM R.fs a).l := by
  rcases faultM_mem R.fs a with e | e
  · rw [e]; exact SRow.nil _ _ _
  · exact (h.data _ e).1
theorem putR_at (h : RefAt base w k R) {i q : Nat} (pg : PgM) (hp : pg.ok base w) : RGoes base w k R ((w.setCell ⟨R.gn, i, none⟩ (vi (q + 1 : Nat))).setCell ⟨R.gp, i * R.P + q, none⟩ pg.v) (putR R i q pg) := by
  have h1 := h.setN i (q + 1)
  exact h1.trans (h1.at_.setP (i * R.P + q) pg (hp.chg h1.chg h.mine))

set_option maxRecDepth 100000 in
set_option maxHeartbeats 4000000 in
theorem rProgram_any (h : RefAt base w k R) (hok : R.view.ok) (j p : Int) (a : Option Addr) (l : List Nat) (c : Nat) (hr : SRow base w a l) : Calls Try.prog 65 #[ptr k, vi j, vi p, .slice a l.length c] w (RActPost base w k R (NP.program R.view j p l)) := by
  have HC := Lib.hid h
  have HR := Lib.hid hr
  clear hr
  by_cases he : NP.asked R.view j p = 0
  · obtain ⟨hd, hj0, hj1, hp0, hp1⟩ := NP.asked_zero he
    change j < R.B at hj1
    change p < R.P at hp1
    obtain ⟨i, rfl⟩ : ∃ i : Nat, j = i := ⟨j.toNat, by omega⟩
    obtain ⟨q, rfl⟩ : ∃ q : Nat, p = q := ⟨p.toNat, by omega⟩
    have hi : i < R.B := by omega
    have hq : q < R.P := by omega
    have hS := (rok_S hok).1
    have hPP := (rok_S hok).2.1
    obtain ⟨hs1, hs2⟩ := at_small hok hi hq
    have hat : i * R.P + q < R.ps.length := by rw [h.lp]; exact at_lt hi hq
    have HQ : Hid (NP.program R.view i q l = if l.length = R.S + 32 then
        (if R.bd.getD i false then (13, R.view)
        else if R.br.getD i false || decide ((q : Int) ≠ (R.nx.getD i 0 : Int)) then (10, R.view)
        else if (faultM R.fs R.since).kind = 1 then (4, NP.downP (NP.stroke R.view))
        else if (faultM R.fs R.since).kind = 2 then (4, NP.downP (NP.putP (NP.stroke R.view) i (NP.torn (R.S + 32) (faultM R.fs R.since).l)))
        else if (faultM R.fs R.since).kind = 3 then (11, NP.putP (NP.stroke R.view) i (NP.torn (R.S + 32) (faultM R.fs R.since).l))
        else (0, NP.putP (NP.stroke R.view) i l)) else (1, R.view)) := Lib.hid (by
      unfold NP.program
      dsimp only
      rw [if_pos he, Int.toNat_natCast, R.blk hi]
      have : NP.faultOf R.view.fs R.view.since = (faultM R.fs R.since).view := (faultM_view R.fs R.since).symm
      rw [this]
      rfl)
    have HE := Lib.hid he
    have hib : i < R.br.length := by rw [h.lb]; exact hi
    have hid : i < R.bd.length := by rw [h.ld]; exact hi
    have hin : i < R.nx.length := by rw [h.ln]; exact hi
    have c2 : w.cell? ⟨k, 2, none⟩ = some (vi R.S) := h.chip.cell 2
    have c4 : w.cell? ⟨k, 4, none⟩ = some (.slice (some ⟨R.gn, 0, none⟩) R.nx.length R.cn) := h.chip.cell 4
    have c5 : w.cell? ⟨k, 5, none⟩ = some (.slice (some ⟨R.gb, 0, none⟩) R.br.length R.cb) := h.chip.cell 5
    have c6 : w.cell? ⟨k, 6, none⟩ = some (.slice (some ⟨R.gd, 0, none⟩) R.bd.length R.cd) := h.chip.cell 6
    have d4 := h.ncell hin
    have d5 := h.bcell hib
    have d6 := h.dcell hid
    clear hd he hok h
    by_cases hlen : l.length = R.S + 32
    · rw [if_pos hlen] at HQ
      have hlc : ((l.length : Int) != (R.S : Int) + 32) = false := by simp; omega
      cases hbad : R.bd.getD i false
      · cases hbr : R.br.getD i false
        · by_cases hn : q = R.nx.getD i 0
          · rw [hbad, hbr, ← hn] at HQ
            rw [if_neg (by simp), if_neg (by simp)] at HQ
            rw [hbad] at d6
            rw [hbr] at d5
            rw [← hn] at d4
            have HN := Lib.hid hn
            have HL := Lib.hid hlen
            clear hbad hbr hn hlen
            go_enter Try.func65, Try.ntmps65
            go_wp2_with fail
            refine (place_any HC.out _ _).mono ?_
            rintro e w' ⟨rfl, rfl⟩
            rw [HE.out]
            go_wp2_with fail
            refine (stroke_any HC.out).mono ?_
            rintro e w2 ⟨rfl, hg2⟩
            have HG := Lib.hid hg2
            have HFR := Lib.hid (rfault_row (R := R) hg2.at_.faults R.since)
            have hfl9 : (faultM R.fs R.since).l.length ≤ maxLen := by
              rcases faultM_mem R.fs R.since with e | e
              · rw [e]; simp [default]
              · have := HC.out.faults.data _ e; omega
            have HFL := Lib.hid hfl9
            clear hfl9
            have HFS := Lib.hid (NP.torn_small (n := R.S + 32) HFR.out.row.small)
            clear hg2 d4 d5 d6 c2 c4 c5 c6
            generalize faultM R.fs R.since = f at *
            obtain ⟨fat, fk, fa, fl, fc⟩ := f
            dsimp only at *
            have HA : Hid (RGoes base w' k R (w2.alloc (.cells #[vi fat, vi fk, .slice fa fl.length fc] 96)) (strokeR R)) := Lib.hid (HG.out.old ((Below.refl _ _).alloc (Nat.le_refl _) _))
            have HF2 : Hid (SRow base (w2.alloc (.cells #[vi fat, vi fk, .slice fa fl.length fc] 96)) fa fl) := Lib.hid (HFR.out.old ((Below.refl _ _).alloc (Nat.le_refl _) _))
            have HR2 : Hid (SRow base (w2.alloc (.cells #[vi fat, vi fk, .slice fa fl.length fc] 96)) a l) := Lib.hid ((HR.out.chg HA.out.chg HC.out.mine))
            have F9 := Blk.new w2 96 #[vi fat, vi fk, .slice fa fl.length fc]
            go_upto_region 11 with fail
            clear hlc
            generalize hw3 : w2.alloc (.cells #[vi fat, vi fk, .slice fa fl.length fc] 96) = w3 at *
            have hh2 : w2.heap.size < w3.heap.size := by rw [← hw3]; simp
            have k1 : w3.cell? ⟨w2.heap.size, 1, none⟩ = some (vi fk) := F9.cell 1
            have k2 : w3.cell? ⟨w2.heap.size, 2, none⟩ = some (.slice fa fl.length fc) := F9.cell 2
            have hgn : R.gn < w2.heap.size := HG.out.at_.nx.lt
            have hgp : R.gp < w2.heap.size := HG.out.at_.ps.lt
            have hkk : R.gp ≠ k := HC.out.k_ne.1
            have hkn : R.gn ≠ k := HC.out.k_ne.2.1
            have hpn : R.gp ≠ R.gn := HC.out.ps.ne HC.out.nx (by decide)
            clear HFR HG hw3
            generalize w2.heap.size = h2 at *
            have z10 := HA.out.at_.chip.frozen 10
            have c10 : w3.cell? ⟨k, 10, none⟩ = some (.bool R.down) := HA.out.at_.chip.cell 10
            have HV : Hid (∀ pg : PgM, (putR (strokeR R) i q pg).view = NP.putP (NP.stroke R.view) i pg.l) := Lib.hid (fun pg => putR_view (R := strokeR R) HA.out.at_ hi hq HN.out.symm pg)
            by_cases h1 : fk = 1
            · subst h1
              have hQ := HQ.out
              rw [if_pos rfl] at hQ
              have HQ1 := Lib.hid hQ
              clear hQ F9
              go_wp2_with fail
              go_ret
              exact .mk HQ1.out (HA.out.trans (HA.out.at_.field (R' := downR (strokeR R) true) 10 (.bool true) rfl rfl)) rfl
            have c1 : w3.cell? ⟨k, 1, none⟩ = some (vi R.P) := HA.out.at_.chip.cell 1
            have c4 : w3.cell? ⟨k, 4, none⟩ = some (.slice (some ⟨R.gn, 0, none⟩) R.nx.length R.cn) := HA.out.at_.chip.cell 4
            have d4 := HA.out.at_.ncell (i := i) hin
            have z4 : w3.frozen? ⟨R.gn, i, none⟩ = false := HA.out.at_.nx.frozen i
            have q1 : IntKind.i64.wrap ((i : Int) * (R.P : Int)) = (i : Int) * (R.P : Int) := IntWalk.i64_in _ (by omega)
            have q2 : IntKind.i64.wrap ((i : Int) * (R.P : Int) + (q : Int)) = (i : Int) * (R.P : Int) + (q : Int) := IntWalk.i64_in _ (by omega)
            have q3 : (0 : Int) ≤ (i : Int) * (R.P : Int) + (q : Int) := by omega
            have q4 : (i : Int) * (R.P : Int) + (q : Int) < (R.ps.length : Int) := by omega
            have q5 : ((i : Int) * (R.P : Int) + (q : Int)).toNat = i * R.P + q := by omega
            change w3.cell? ⟨R.gn, i, none⟩ = some (vi (R.nx.getD i 0 : Nat)) at d4
            rw [← HN.out] at d4
            go_upto_region 16 with fail
            have HA4 : Hid (RGoes base w' k R (w3.setCell ⟨R.gn, i, none⟩ (vi ((q : Int) + 1))) { strokeR R with nx := R.nx.set i (q + 1) }) := Lib.hid (HA.out.trans (HA.out.at_.setN i (q + 1)))
            have F4 := F9.far (p := ⟨R.gn, i, none⟩) (by dsimp only; omega) (vi ((q : Int) + 1))
            have hcg : Chg (R.foot k) w3 (w3.setCell ⟨R.gn, i, none⟩ (vi ((q : Int) + 1))) := Chg.set w3 (p := ⟨R.gn, i, none⟩) (.inr (.inr (.inl rfl))) _
            have HF4 := Lib.hid (HF2.out.chg hcg HA.out.at_.mine)
            have HR4 := Lib.hid (HR2.out.chg hcg HA.out.at_.mine)
            clear c1 c4 d4 z4 k1 k2 c10 z10 F9 hcg HF2 HR2
            generalize w3.setCell ⟨R.gn, i, none⟩ (vi ((q : Int) + 1)) = w4 at *
            have k1 : w4.cell? ⟨h2, 1, none⟩ = some (vi fk) := F4.cell 1
            have k2 : w4.cell? ⟨h2, 2, none⟩ = some (.slice fa fl.length fc) := F4.cell 2
            have k2d : w4.drew.cell? ⟨h2, 2, none⟩ = some (.slice fa fl.length fc) := k2
            have c3 : w4.cell? ⟨k, 3, none⟩ = some (.slice (some ⟨R.gp, 0, none⟩) R.ps.length R.cp) := HA4.out.at_.chip.cell 3
            have c3d : w4.drew.cell? ⟨k, 3, none⟩ = some (.slice (some ⟨R.gp, 0, none⟩) R.ps.length R.cp) := c3
            have d3 := HA4.out.at_.pcell (i := i * R.P + q) hat
            have z3 := HA4.out.at_.ps.frozen (i * R.P + q)
            change w4.cell? ⟨R.gp, i * R.P + q, none⟩ = some (R.ps.getD (i * R.P + q) default).v at d3
            change w4.frozen? ⟨R.gp, i * R.P + q, none⟩ = false at z3
            have HFU : ∀ (a : Option Addr) (l : List Nat) (c : Nat), SRow base w4 a l → l.length ≤ maxLen → Hid (Calls Try.prog 101 #[ptr k, .slice a l.length c] w4.drew fun e w' => ∃ pg : PgM, e = .returned pg.v ∧ pg.l = NP.torn (R.S + 32) l ∧ pg.ok base w' ∧ Below w4.heap.size w4 w') := fun a l c hr hl => Lib.hid
              ((rfull_any (HA4.out.at_.old (Below.refl _ _).drew) hS a l c (hr.row.below (Below.refl _ _).drew) hl).mono (by
                rintro e w' ⟨v', rfl, ho, hb⟩
                obtain ⟨pg, rfl, hp1, hp2⟩ := Own.page (base := base) ho (NP.torn_small hr.row.small) (by rw [NP.torn_length]; omega)
                exact ⟨pg, rfl, hp1, hp2, (Below.refl _ _).drew.trans hb⟩))
            have HFUa := HFU a l c HR4.out (by unfold maxLen; have := HL.out; omega)
            have HFUf := HFU fa fl fc HF4.out HFL.out
            have C3 := Lib.hid c3
            have K2 := Lib.hid k2
            have K1 := Lib.hid k1
            have D3 := Lib.hid d3
            have Z3 := Lib.hid z3
            have HLT := Lib.hid (cell_lt d3)
            have n1 : Hid ((⟨R.gp, i * R.P + q, none⟩ : Addr) ≠ ⟨k, 3, none⟩) := Lib.hid (fun e => hkk (by injection e))
            have n2 : Hid ((⟨R.gp, i * R.P + q, none⟩ : Addr) ≠ ⟨h2, 2, none⟩) := Lib.hid (fun e => by injection e with e; omega)
            have n3 : Hid ((⟨R.gp, i * R.P + q, none⟩ : Addr) ≠ ⟨h2, 1, none⟩) := Lib.hid (fun e => by injection e with e; omega)
            have HFIN : Hid (∀ (w5 : World) (pg : PgM), Below w4.heap.size w4 w5 → pg.ok base w5 → RGoes base w' k R (w5.setCell ⟨R.gp, i * R.P + q, none⟩ pg.v) (putR (strokeR R) i q pg)) := Lib.hid (fun w5 pg hb hp => (HA4.out.old hb).trans ((HA4.out.old hb).at_.setP (i * R.P + q) pg hp))
            clear d3 z3 HFU F4
            by_cases h2' : fk = 2
            · subst h2'
              have hQ := HQ.out
              rw [if_neg h1, if_pos rfl] at hQ
              have HQ1 := Lib.hid hQ
              clear hQ
              go_upto_region 19 with fail
              have HD : Hid (w4.drew.cell? ⟨k, 3, none⟩ = some (.slice (some ⟨R.gp, 0, none⟩) R.ps.length R.cp) ∧ w4.drew.cell? ⟨h2, 2, none⟩ = some (.slice fa fl.length fc)) := Lib.hid ⟨c3d, k2d⟩
              clear k1 k2 k2d c3 c3d
              go_region_held3 (fun w' => w'.cell? ⟨k, 3, none⟩ = some (.slice (some ⟨R.gp, 0, none⟩) R.ps.length R.cp) ∧ w'.cell? ⟨h2, 2, none⟩ = some (.slice fa fl.length fc))
                (first
                  | exact HD.out
                  | exact ⟨cell_below C3.out hb5, cell_below K2.out hb5⟩
                  | exact ⟨(World.cell?_setCell_other _ _ _ _ n1.out).trans (cell_below C3.out hb5), (World.cell?_setCell_other _ _ _ _ n2.out).trans (cell_below K2.out hb5)⟩)
                (first | (go_at_call 101; refine (HFUf.out).mono ?_; rintro e w5 ⟨pg, rfl, hq1, hq2, hb5⟩; have cn3 := cell_below D3.out hb5; have zn3 := (hb5.frozen HLT.out).trans Z3.out; have HQ5 := Lib.hid hq1; clear hq1))
              all_goals
                have HG5 := Lib.hid (HFIN.out w5 pg hb5 hq2)
                have k1 : (w5.setCell ⟨R.gp, i * R.P + q, none⟩ pg.v).cell? ⟨h2, 1, none⟩ = some (vi 2) := (World.cell?_setCell_other _ _ _ _ n3.out).trans (cell_below K1.out hb5)
                generalize w5.setCell ⟨R.gp, i * R.P + q, none⟩ pg.v = w6 at *
                have c10 : w6.cell? ⟨k, 10, none⟩ = some (.bool R.down) := HG5.out.at_.chip.cell 10
                have z10 := HG5.out.at_.chip.frozen 10
                go_wp2_with fail
                go_ret
                exact .mk HQ1.out (HG5.out.trans (HG5.out.at_.field (R' := downR (putR (strokeR R) i q pg) true) 10 (.bool true) rfl rfl)) (by
                  show NP.downP (putR (strokeR R) i q pg).view = _
                  rw [HV.out, HQ5.out])
            have g1 : ¬ fk = 2 := h2'
            by_cases h3' : fk = 3
            · subst h3'
              have hQ := HQ.out
              rw [if_neg h1, if_neg g1, if_pos rfl] at hQ
              have HQ1 := Lib.hid hQ
              clear hQ
              go_upto_region 19 with fail
              have HD : Hid (w4.drew.cell? ⟨k, 3, none⟩ = some (.slice (some ⟨R.gp, 0, none⟩) R.ps.length R.cp) ∧ w4.drew.cell? ⟨h2, 2, none⟩ = some (.slice fa fl.length fc)) := Lib.hid ⟨c3d, k2d⟩
              clear k1 k2 k2d c3 c3d
              go_region_held3 (fun w' => w'.cell? ⟨k, 3, none⟩ = some (.slice (some ⟨R.gp, 0, none⟩) R.ps.length R.cp) ∧ w'.cell? ⟨h2, 2, none⟩ = some (.slice fa fl.length fc))
                (first
                  | exact HD.out
                  | exact ⟨cell_below C3.out hb5, cell_below K2.out hb5⟩
                  | exact ⟨(World.cell?_setCell_other _ _ _ _ n1.out).trans (cell_below C3.out hb5), (World.cell?_setCell_other _ _ _ _ n2.out).trans (cell_below K2.out hb5)⟩)
                (first | (go_at_call 101; refine (HFUf.out).mono ?_; rintro e w5 ⟨pg, rfl, hq1, hq2, hb5⟩; have cn3 := cell_below D3.out hb5; have zn3 := (hb5.frozen HLT.out).trans Z3.out; have HQ5 := Lib.hid hq1; clear hq1))
              all_goals
                have HG5 := Lib.hid (HFIN.out w5 pg hb5 hq2)
                have k1 : (w5.setCell ⟨R.gp, i * R.P + q, none⟩ pg.v).cell? ⟨h2, 1, none⟩ = some (vi 3) := (World.cell?_setCell_other _ _ _ _ n3.out).trans (cell_below K1.out hb5)
                generalize w5.setCell ⟨R.gp, i * R.P + q, none⟩ pg.v = w6 at *
                have c10 : w6.cell? ⟨k, 10, none⟩ = some (.bool R.down) := HG5.out.at_.chip.cell 10
                have z10 := HG5.out.at_.chip.frozen 10
                go_wp2_with fail
                go_ret
                exact .mk HQ1.out HG5.out (by rw [HV.out, HQ5.out])
            · have g1 : ¬ fk = 2 := h2'
              have g2 : ¬ fk = 3 := h3'
              have hQ := HQ.out
              rw [if_neg h1, if_neg g1, if_neg g2] at hQ
              have HQ1 := Lib.hid hQ
              have HD := Lib.hid c3d
              have g3 : (fk != 2) = true := by simp [g1]
              have g4 : (fk != 3) = true := by simp [g2]
              go_upto_region 17 with fail
              clear hQ h2' k2 k2d c3 k1 c3d
              go_region_held3 (fun w' => w'.cell? ⟨k, 3, none⟩ = some (.slice (some ⟨R.gp, 0, none⟩) R.ps.length R.cp))
                (first
                  | exact HD.out
                  | exact cell_below C3.out hb5
                  | exact (World.cell?_setCell_other _ _ _ _ n1.out).trans (cell_below C3.out hb5))
                (first | (go_at_call 101; refine (HFUa.out).mono ?_; rintro e w5 ⟨pg, rfl, hq1, hq2, hb5⟩; have cn3 := cell_below D3.out hb5; have zn3 := (hb5.frozen HLT.out).trans Z3.out; have HQ5 := Lib.hid hq1; clear hq1))
              all_goals
                have HG5 := Lib.hid (HFIN.out w5 pg hb5 hq2)
                go_wp2_with fail
                go_ret
                exact .mk HQ1.out HG5.out (by rw [HV.out, HQ5.out, NP.torn_whole HL.out])
          · rw [hbad, hbr] at HQ
            rw [if_neg (by simp), if_pos (by simp only [Bool.false_or, decide_eq_true_eq]; omega)] at HQ
            rw [hbad] at d6
            rw [hbr] at d5
            generalize R.nx.getD i 0 = nx at *
            have hqq : ((nx : Int) != (q : Int)) = true := by simp; omega
            clear hbad hbr hlen hn
            go_enter Try.func65, Try.ntmps65
            go_wp2_with fail
            refine (place_any HC.out _ _).mono ?_
            rintro e w' ⟨rfl, rfl⟩
            rw [HE.out]
            go_wp2_with fail
            go_ret
            exact .mk HQ.out (RGoes.refl HC.out) rfl
        · rw [hbad, hbr] at HQ
          rw [if_neg (by simp), if_pos (by simp)] at HQ
          rw [hbad] at d6
          rw [hbr] at d5
          clear hbad hbr hlen
          go_enter Try.func65, Try.ntmps65
          go_wp2_with fail
          refine (place_any HC.out _ _).mono ?_
          rintro e w' ⟨rfl, rfl⟩
          rw [HE.out]
          go_wp2_with fail
          go_ret
          exact .mk HQ.out (RGoes.refl HC.out) rfl
      · rw [hbad] at HQ
        rw [if_pos rfl] at HQ
        rw [hbad] at d6
        clear hbad hlen
        go_enter Try.func65, Try.ntmps65
        go_wp2_with fail
        refine (place_any HC.out _ _).mono ?_
        rintro e w' ⟨rfl, rfl⟩
        rw [HE.out]
        go_wp2_with fail
        go_ret
        exact .mk HQ.out (RGoes.refl HC.out) rfl
    · rw [if_neg hlen] at HQ
      have hlc : ((l.length : Int) != (R.S : Int) + 32) = true := by simp; omega
      go_enter Try.func65, Try.ntmps65
      go_wp2_with fail
      refine (place_any HC.out _ _).mono ?_
      rintro e w' ⟨rfl, rfl⟩
      rw [HE.out]
      go_wp2_with fail
      go_ret
      exact .mk HQ.out (RGoes.refl HC.out) rfl
  · have HQ : Hid (NP.program R.view j p l = (NP.asked R.view j p, R.view)) := Lib.hid (by unfold NP.program; dsimp only; rw [if_neg he])
    clear hok h
    go_enter Try.func65, Try.ntmps65
    go_wp2_with fail
    refine (place_any HC.out _ _).mono ?_
    rintro e w' ⟨rfl, rfl⟩
    generalize NP.asked R.view j p = n at *
    have hn : ((n : Int) != 0) = true := by simp [he]
    go_wp2_with fail
    go_ret
    exact .mk HQ.out (RGoes.refl HC.out) rfl
end

end Go.Proofs.Ytpggkehfbhffbaa

/-
  The document's chip: an erased block in plain words. No program in sight; no conditions.
-/
namespace Go.Proofs.Ytpggkehfbhffbaa
open Go.RowKit

theorem cutTo_getD (n : Nat) (data : List Nat) (ps : List (List Nat)) (p : Nat) : ∀ k, k ≤ ps.length → (NP.cutTo n data ps k).getD p [] = if p < k then NP.cutOne n (data.getD p 0) (ps.getD p []) else ps.getD p []
  | 0, _ => by simp [NP.cutTo]
  | k + 1, hk => by
    have ih := cutTo_getD n data ps p k (by omega)
    have ihk := cutTo_getD n data ps k k (by omega)
    unfold NP.cutTo
    dsimp only
    rw [NP.getD_set _ _ _ _ _ (by rw [NP.cutTo_length]; omega), ihk, if_neg (Nat.lt_irrefl k)]
    by_cases e : k = p
    · subst e
      rw [if_pos rfl, if_pos (Nat.lt_succ_self k)]
    · rw [if_neg e, ih]
      by_cases h : p < k
      · rw [if_pos h, if_pos (by omega)]
      · rw [if_neg h, if_neg (by omega)]
/-- Pages of a block: a range told by its elements. -/
theorem range_ext {α : Type} (l : List α) (d : α) (f : Nat → α) {n : Nat} (hl : l.length = n) (h : ∀ p, p < n → l.getD p d = f p) : l = (List.range n).map f := by
  apply List.ext_getElem?
  intro p
  by_cases hp : p < n
  · have := h p hp
    rw [List.getD_eq_getElem?_getD, List.getElem?_eq_getElem (by omega)] at this
    rw [List.getElem?_map, List.getElem?_range hp, List.getElem?_eq_getElem (by omega)]
    exact congrArg some this
  · rw [List.getElem?_eq_none (by omega), List.getElem?_eq_none (by simp; omega)]
theorem cutTo_range (n : Nat) (data : List Nat) (P : Nat) (f : Nat → List Nat) : NP.cutTo n data ((List.range P).map f) P = (List.range P).map (fun p => NP.cutOne n (data.getD p 0) (f p)) := by
  refine range_ext _ [] _ (by rw [NP.cutTo_length]; simp) fun p hp => ?_
  rw [cutTo_getD n data _ p P (by simp), if_pos hp, range_map_getD _ _ _ hp]

section
variable {base : Nat} {w wr : World} {k : Nat} {R : RefM}
/-- Pages so far: those of a block are turned by f up to i. -/
structure Turned (R : RefM) (b : Nat) (f : Nat → List Nat → List Nat) (i : Nat) (qs : List PgM) : Prop where
  len : qs.length = R.ps.length
  at_ : ∀ m, (qs.getD m default).l = if b * R.P ≤ m ∧ m < b * R.P + i then f (m - b * R.P) (R.ps.getD m default).l else (R.ps.getD m default).l
variable {b i : Nat} {f : Nat → List Nat → List Nat} {qs : List PgM}
theorem Turned.nil : Turned R b f 0 R.ps := ⟨rfl, fun m => by rw [if_neg (by omega)]⟩
theorem Turned.step (h : Turned R b f i qs) (hi : b * R.P + i < R.ps.length) (q : PgM) (hq : q.l = f i (R.ps.getD (b * R.P + i) default).l) : Turned R b f (i + 1) (qs.set (b * R.P + i) q) := by
  refine ⟨by rw [List.length_set, h.len], fun m => ?_⟩
  rw [getD_set' _ _ _ _ _ (by rw [h.len]; exact hi)]
  by_cases e : m = b * R.P + i
  · subst e
    rw [if_pos rfl, if_pos (by omega), hq, Nat.add_sub_cancel_left]
  · rw [if_neg e, h.at_]
    by_cases h1 : b * R.P ≤ m ∧ m < b * R.P + i
    · rw [if_pos h1, if_pos (by omega)]
    · rw [if_neg h1, if_neg (by omega)]
theorem Turned.stay (h : Turned R b f i qs) (hq : (R.ps.getD (b * R.P + i) default).l = f i (R.ps.getD (b * R.P + i) default).l) : Turned R b f (i + 1) qs := by
  refine ⟨h.len, fun m => ?_⟩
  rw [h.at_]
  by_cases e : m = b * R.P + i
  · subst e
    rw [if_neg (by omega), if_pos (by omega), Nat.add_sub_cancel_left]
    exact hq
  · by_cases h1 : b * R.P ≤ m ∧ m < b * R.P + i
    · rw [if_pos h1, if_pos (by omega)]
    · rw [if_neg h1, if_neg (by omega)]
/-- The block behind all. -/
theorem Turned.view (h : Turned R b f R.P qs) (hb : b < R.B) (hw : RefAt base w k R) {n' : Nat} {br' : Bool} {wr' : Int} {R' : RefM}
    (hR : R' = { R with ps := qs, nx := R.nx.set b n', br := R.br.set b br', wr := R.wr.set b wr' }) :
    R'.view = NP.setBlk R.view b ⟨(List.range R.P).map (fun p => f p (R.ps.getD (b * R.P + p) default).l), n', br', R.bd.getD b false, wr'⟩ := by
  subst hR
  unfold NP.setBlk
  show NP.Chp.mk _ _ _ _ _ _ _ _ _ = NP.Chp.mk _ _ _ _ _ _ _ _ _
  congr 1
  refine RefM.view_set R _ _ (fun j hj => ?_) rfl
  show NP.Blo.mk ((List.range R.P).map fun p => (qs.getD (j * R.P + p) default).l) ((R.nx.set b n').getD j 0) ((R.br.set b br').getD j false) (R.bd.getD j false) ((R.wr.set b wr').getD j 0) = _
  rw [getD_set' _ _ _ _ _ (by rw [hw.ln]; exact hb), getD_set' _ _ _ _ _ (by rw [hw.lb]; exact hb), getD_set' _ _ _ _ _ (by rw [hw.lw]; exact hb)]
  by_cases e : j = b
  · subst e
    rw [if_pos rfl, if_pos rfl, if_pos rfl, if_pos rfl]
    congr 1
    refine List.map_congr_left fun p hp => ?_
    rw [List.mem_range] at hp
    rw [h.at_, if_pos (by omega), Nat.add_sub_cancel_left]
  · rw [if_neg e, if_neg e, if_neg e, if_neg e]
    unfold RefM.blo
    congr 1
    refine List.map_congr_left fun p hp => ?_
    rw [List.mem_range] at hp
    rw [h.at_, if_neg]
    rintro ⟨h1, h2⟩
    refine e ?_
    have h3 : j * R.P + p = b * R.P + (j * R.P + p - b * R.P) := by omega
    exact ((at_inj hp (by omega)).1 h3).1
end

end Go.Proofs.Ytpggkehfbhffbaa

/-
  Is a geometry right? The document's answer. No conditions.
-/
namespace Go.Proofs.Ytpggkehfbhffbaa
open Go.RowKit

set_option maxRecDepth 100000 in
set_option maxHeartbeats 4000000 in
theorem rRight_any (b p s : Int) (w : World) : Calls Try.prog 63 #[.agg #[vi b, vi p, vi s]] w fun e w' => e = .returned (.bool (NP.rightB b p s)) ∧ Below w.heap.size w w' := by
  have F0 := Blk.new w 23 #[vi b, vi p, vi s]
  have HB := Lib.hid ((Below.refl w.heap.size w).alloc (Nat.le_refl _) (.cells #[vi b, vi p, vi s] 23))
  have HQ : Hid (NP.rightB b p s = (decide (8 ≤ b) && decide (b ≤ 128) && decide (4 ≤ p) && decide (p ≤ 32) && (s == 64 || s == 128 || s == 256 || s == 512))) := Lib.hid rfl
  go_enter Try.func63, Try.ntmps63
  go_upto_region 1 with fail
  generalize w.alloc (.cells #[vi b, vi p, vi s] 23) = w1 at *
  have c0 : w1.cell? ⟨w.heap.size, 0, none⟩ = some (vi b) := F0.cell 0
  have c1 : w1.cell? ⟨w.heap.size, 1, none⟩ = some (vi p) := F0.cell 1
  have c2 : w1.cell? ⟨w.heap.size, 2, none⟩ = some (vi s) := F0.cell 2
  clear F0
  have fin : ∀ x : Bool, NP.rightB b p s = x → (Ending.returned (.bool x) = Ending.returned (.bool (NP.rightB b p s)) ∧ Below w.heap.size w w1) := fun x h => ⟨by rw [h], HB.out⟩
  have FIN := Lib.hid fin
  clear fin HB
  by_cases h1 : 8 ≤ b
  · by_cases h2 : b ≤ 128
    · by_cases h3 : 4 ≤ p
      · by_cases h4 : p ≤ 32
        · by_cases s1 : s = 64
          · have H := Lib.hid (show NP.rightB b p s = true by rw [HQ.out]; simp [h1, h2, h3, h4, s1])
            go_wp2_with fail
            go_ret
            exact FIN.out _ H.out
          · by_cases s2 : s = 128
            · have H := Lib.hid (show NP.rightB b p s = true by rw [HQ.out]; simp [h1, h2, h3, h4, s2])
              go_wp2_with fail
              go_ret
              exact FIN.out _ H.out
            · by_cases s3 : s = 256
              · have H := Lib.hid (show NP.rightB b p s = true by rw [HQ.out]; simp [h1, h2, h3, h4, s3])
                go_wp2_with fail
                go_ret
                exact FIN.out _ H.out
              · by_cases s4 : s = 512
                · have H := Lib.hid (show NP.rightB b p s = true by rw [HQ.out]; simp [h1, h2, h3, h4, s4])
                  go_wp2_with fail
                  go_ret
                  exact FIN.out _ H.out
                · have H := Lib.hid (show NP.rightB b p s = false by rw [HQ.out]; simp [s1, s2, s3, s4])
                  go_wp2_with fail
                  go_ret
                  exact FIN.out _ (H.out.trans (by simp [s1, s2, s3, s4]))
        · have H := Lib.hid (show NP.rightB b p s = false by rw [HQ.out]; simp [h4])
          go_wp2_with fail
          go_ret
          exact FIN.out _ H.out
      · have H := Lib.hid (show NP.rightB b p s = false by rw [HQ.out]; simp [h3])
        go_wp2_with fail
        go_ret
        exact FIN.out _ H.out
    · have H := Lib.hid (show NP.rightB b p s = false by rw [HQ.out]; simp [h2])
      go_wp2_with fail
      go_ret
      exact FIN.out _ H.out
  · have H := Lib.hid (show NP.rightB b p s = false by rw [HQ.out]; simp [h1])
    go_wp2_with fail
    go_ret
    exact FIN.out _ H.out

end Go.Proofs.Ytpggkehfbhffbaa

/-
  Is a geometry more than the statements look at? No conditions.
-/
namespace Go.Proofs.Ytpggkehfbhffbaa
open Go.RowKit

def wideB (b p s : Int) : Bool := NP.rightB b p s && decide (10000 < b * p * s)
set_option maxRecDepth 100000 in
set_option maxHeartbeats 4000000 in
theorem wide_any (b p s : Int) (w : World) : Calls Try.prog 29 #[.agg #[vi b, vi p, vi s]] w fun e w' => e = .returned (.bool (wideB b p s)) ∧ Below w.heap.size w w' := by
  have F0 := Blk.new w 23 #[vi b, vi p, vi s]
  have HB := Lib.hid ((Below.refl w.heap.size w).alloc (Nat.le_refl _) (.cells #[vi b, vi p, vi s] 23))
  go_enter Try.func29, Try.ntmps29
  go_upto_region 1 with fail
  generalize w.alloc (.cells #[vi b, vi p, vi s] 23) = w1 at *
  have c0 : w1.cell? ⟨w.heap.size, 0, none⟩ = some (vi b) := F0.cell 0
  have c1 : w1.cell? ⟨w.heap.size, 1, none⟩ = some (vi p) := F0.cell 1
  have c2 : w1.cell? ⟨w.heap.size, 2, none⟩ = some (vi s) := F0.cell 2
  have HF := Lib.hid F0
  clear F0
  go_wp2_with fail
  refine (Right_any b p s w1).mono ?_
  rintro e w2 ⟨rfl, hb2⟩
  have c0 : w2.cell? ⟨w.heap.size, 0, none⟩ = some (vi b) := (HF.out.old hb2).cell 0
  have c1 : w2.cell? ⟨w.heap.size, 1, none⟩ = some (vi p) := (HF.out.old hb2).cell 1
  have c2 : w2.cell? ⟨w.heap.size, 2, none⟩ = some (vi s) := (HF.out.old hb2).cell 2
  have HB2 := Lib.hid (HB.out.trans (hb2.mono HB.out.size))
  clear hb2
  cases hr : NP.rightB b p s
  · have H := Lib.hid (show wideB b p s = false by simp [wideB, hr])
    clear hr
    go_wp2_with fail
    go_ret
    exact ⟨by rw [H.out]; rfl, HB2.out⟩
  · have hq : 0 ≤ b * p ∧ b * p ≤ 4096 ∧ 0 ≤ b * p * s ∧ b * p * s ≤ 2097152 := by
      have h := hr
      simp only [NP.rightB, Bool.and_eq_true, decide_eq_true_eq, Bool.or_eq_true, beq_iff_eq] at h
      obtain ⟨⟨⟨⟨h1, h2⟩, h3⟩, h4⟩, h5⟩ := h
      have a1 : 0 ≤ b * p := Int.mul_nonneg (by omega) (by omega)
      have a2 : b * p ≤ 128 * 32 := Int.mul_le_mul h2 h4 (by omega) (by omega)
      have a3 : 0 ≤ b * p * s := Int.mul_nonneg a1 (by omega)
      have a4 : b * p * s ≤ (128 * 32) * 512 := Int.mul_le_mul a2 (by omega) (by omega) (by omega)
      omega
    have H := Lib.hid (show wideB b p s = decide (10000 < b * p * s) by simp [wideB, hr])
    have q1 : IntKind.i64.wrap (b * p) = b * p := IntWalk.i64_in _ (by omega)
    have q2 : IntKind.i64.wrap (b * p * s) = b * p * s := IntWalk.i64_in _ (by omega)
    clear hr hq
    go_wp2_with fail
    go_ret
    exact ⟨by rw [H.out]; rfl, HB2.out⟩

end Go.Proofs.Ytpggkehfbhffbaa

/-
  Operations that came in, and whether they are more than the statements look at. Conditions: a row that is told by OpRow.
-/
namespace Go.Proofs.Ytpggkehfbhffbaa
open Go.RowKit

/-- An operation, and where its bytes and its faults lie. -/
structure OpM where
  kind : Int
  block : Int
  page : Int
  ba : Option Addr
  b : List Nat
  bc : Nat
  fa : Option Addr
  fs : List FltM
  fc : Nat
instance : Inhabited OpM := ⟨⟨0, 0, 0, none, [], 0, none, [], 0⟩⟩
abbrev OpM.cs (o : OpM) : Array Value := #[vi o.kind, vi o.block, vi o.page, .slice o.ba o.b.length o.bc, .slice o.fa o.fs.length o.fc]
/-- An operation's data stay as they are. -/
structure OpM.ok (base : Nat) (w : World) (o : OpM) : Prop where
  bytes : SRow base w o.ba o.b
  lenb : o.b.length ≤ o.bc ∧ o.bc ≤ maxLen
  faults : FRow base w o.fa o.fs
  small : o.b.length ≤ 140737488355328 ∧ o.fs.length ≤ 140737488355328 ∧ ∀ f ∈ o.fs, f.l.length ≤ 140737488355328
structure OpRow (base : Nat) (w : World) (a : Option Addr) (l : List OpM) : Prop where
  at_ : l = [] ∨ ∃ b o, a = some ⟨b, o, none⟩ ∧ b < base ∧ ∀ i, i < l.length → ∀ j u, (l.getD i default).cs[j]? = some u → w.cell? ⟨b, o + i * 5 + j, none⟩ = some u
  data : ∀ o ∈ l, o.ok base w
  len : l.length ≤ 140737488355328
section
variable {base : Nat} {w w' : World} {a : Option Addr} {l : List OpM}
theorem OpM.ok.chg {F : Nat → Prop} {o : OpM} (h : o.ok base w) (q : Chg F w w') (hF : ∀ k, F k → Mine base w k) : o.ok base w' := ⟨h.bytes.chg q hF, h.lenb, h.faults.chg q hF, h.small⟩
theorem OpRow.chg {F : Nat → Prop} (h : OpRow base w a l) (q : Chg F w w') (hF : ∀ k, F k → Mine base w k) : OpRow base w' a l := by
  refine ⟨?_, fun o ho => (h.data o ho).chg q hF, h.len⟩
  rcases h.at_ with h0 | ⟨b, o, rfl, hb, h1⟩
  · exact .inl h0
  · exact .inr ⟨b, o, rfl, hb, fun i hi j u hu => q.cell (h1 i hi j u hu) (fun e => by have := (hF b e).1; omega)⟩
theorem OpRow.old (h : OpRow base w a l) (q : Below w.heap.size w w') : OpRow base w' a l := h.chg (F := fun _ => False) (Chg.of_below q) (fun _ e => e.elim)
theorem OpRow.lookup (h : OpRow base w a l) {i : Nat} (hi : i < l.length) : ∃ b o, a = some ⟨b, o, none⟩ ∧ (∀ j u, (l.getD i default).cs[j]? = some u → w.cell? ⟨b, o + i * 5 + j, none⟩ = some u) ∧ (l.getD i default).ok base w := by
  rcases h.at_ with rfl | ⟨b, o, rfl, _, h1⟩
  · simp at hi
  · exact ⟨b, o, rfl, h1 i hi, h.data _ (getD_mem hi)⟩

/-- How much operations are. -/
def fwt : List FltM → Nat
  | [] => 0
  | f :: l => 1 + f.l.length + fwt l
def owt : List OpM → Nat
  | [] => 0
  | o :: l => 1 + o.b.length + fwt o.fs + owt l
theorem fwt_append : ∀ (l m : List FltM), fwt (l ++ m) = fwt l + fwt m
  | [], m => by simp [fwt]
  | f :: l, m => by simp only [List.cons_append, fwt, fwt_append l m]; omega
theorem owt_append : ∀ (l m : List OpM), owt (l ++ m) = owt l + owt m
  | [], m => by simp [owt]
  | f :: l, m => by simp only [List.cons_append, owt, owt_append l m]; omega
theorem fwt_take {l : List FltM} {i : Nat} (h : i < l.length) : fwt (l.take (i + 1)) = fwt (l.take i) + (1 + (l.getD i default).l.length) := by
  rw [List.take_succ_eq_append_getElem h, fwt_append, List.getD_eq_getElem?_getD, List.getElem?_eq_getElem h]
  simp [fwt]
theorem owt_take {l : List OpM} {i : Nat} (h : i < l.length) : owt (l.take (i + 1)) = owt (l.take i) + (1 + (l.getD i default).b.length + fwt (l.getD i default).fs) := by
  rw [List.take_succ_eq_append_getElem h, owt_append, List.getD_eq_getElem?_getD, List.getElem?_eq_getElem h]
  simp [owt]
/-- What is told of many operations. -/
def LongPost (l : List OpM) (w : World) (e : Ending) (w' : World) : Prop := ∃ x, e = .returned (.bool x) ∧ w' = w ∧ (x = false → owt l ≤ 9000)
set_option maxRecDepth 100000 in
set_option maxHeartbeats 4000000 in
theorem long_any (c : Nat) (h : OpRow base w a l) : Calls Try.prog 11 #[.slice a l.length c] w (LongPost l w) := by
  have HR := Lib.hid h
  have hll := h.len
  clear h
  go_enter Try.func11, Try.ntmps11
  go_wp2_with fail
  go_loopw [3, 4, 5] (fun vn v vk wr => ∃ (n i : Nat), vn = vi n ∧ v = vi i ∧ i ≤ l.length ∧ n ≤ 2305843009213693952 ∧ wr = w ∧ Hid (n ≤ 9000 → n = owt (l.take i))) (fun _ v _ _ => l.length - (intOf v).toNat)
  case atStart => exact ⟨0, 0, rfl, rfl, Nat.zero_le _, Nat.zero_le _, rfl, Lib.hid (fun _ => rfl)⟩
  case round =>
    obtain ⟨n, i, rfl, rfl, hi, hnb, rfl, hn⟩ := hrel
    by_cases hlt : i < l.length
    · by_cases h9 : n ≤ 9000
      · obtain ⟨b, o, rfl, hcell, hok⟩ := HR.out.lookup hlt
        have HW := Lib.hid (owt_take hlt)
        have hn' := hn.out h9
        generalize l.getD i default = x at *
        have e3 : wr.cell? ⟨b, o + i * 5 + 3, none⟩ = some (.slice x.ba x.b.length x.bc) := hcell 3 _ rfl
        have e4 : wr.cell? ⟨b, o + i * 5 + 4, none⟩ = some (.slice x.fa x.fs.length x.fc) := hcell 4 _ rfl
        have hbl := hok.small.1
        have hfl := hok.small.2.1
        have HOK := Lib.hid hok
        have HN := Lib.hid hn'
        clear hcell hok hn' hn
        go_wp2_with fail
        go_loopw [3, 5] (fun vn v w2 => ∃ (m j : Nat), vn = vi m ∧ v = vi j ∧ j ≤ x.fs.length ∧ m ≤ 2305843009213693952 ∧ w2 = wr ∧ Hid (m ≤ 9000 → m = n + 1 + x.b.length + fwt (x.fs.take j))) (fun _ v _ => x.fs.length - (intOf v).toNat)
        case atStart => exact ⟨n + 1 + x.b.length, 0, by go_num, rfl, Nat.zero_le _, by omega, rfl, Lib.hid (fun _ => rfl)⟩
        case round =>
          obtain ⟨m, j, rfl, rfl, hj, hmb, rfl, hm⟩ := hrel
          by_cases hlt2 : j < x.fs.length
          · by_cases h92 : m ≤ 9000
            · obtain ⟨b2, o2, hfa, hcell, -, hlc, hcm⟩ := HOK.out.faults.lookup hlt2
              have HW2 := Lib.hid (fwt_take hlt2)
              have HM2 := Lib.hid (hm.out h92)
              have hfl2 := HOK.out.small.2.2 _ (getD_mem (d := default) hlt2)
              generalize x.fs.getD j default = f at *
              have g2 : wr.cell? ⟨b2, o2 + j * 3 + 2, none⟩ = some (.slice f.a f.l.length f.c) := hcell 2 _ rfl
              rw [hfa] at e4
              clear hcell hlc hcm hfa hm
              go_wp2_with fail
              go_roundw
              case rel => exact ⟨m + 1 + f.l.length, j + 1, by go_num, by go_num, by omega, by omega, by first | rfl | trivial, Lib.hid (fun _ => by rw [HW2.out, HM2.out]; omega)⟩
              case measure => simp [intOf]; omega
            · go_wp2_with fail
              go_roundw
              case rel => exact ⟨m, i + 1, by go_num, by go_num, by omega, by omega, by first | rfl | trivial, Lib.hid (fun h => absurd h h92)⟩
              case measure => simp [intOf]; omega
          · obtain rfl : j = x.fs.length := by omega
            have HM2 : Hid (m ≤ 9000 → m = owt (l.take (i + 1))) := Lib.hid (fun h => by
              have h1 := hm.out h
              rw [List.take_length] at h1
              rw [HW.out, ← HN.out]
              omega)
            clear hm
            go_wp2_with fail
            go_roundw
            case rel => exact ⟨m, i + 1, by go_num, by go_num, by omega, by omega, by first | rfl | trivial, HM2⟩
            case measure => simp [intOf]; omega
      · go_wp2_with fail
        go_ret
        exact ⟨_, rfl, rfl, fun e => by simp at e <;> omega⟩
    · obtain rfl : i = l.length := by omega
      go_wp2_with fail
      go_ret
      refine ⟨_, rfl, rfl, fun e => ?_⟩
      have h9 : n ≤ 9000 := by simp at e; omega
      have := hn.out h9
      rw [List.take_length] at this
      omega
end

end Go.Proofs.Ytpggkehfbhffbaa

