/-
  Lemmas for a law's proof, put together from several texts: each part says what it shows, and its conditions.
-/
import Derived.Test.YtnfhlocflpdlcaaGreatZT15
/-
  A page is read, a block is marked, a page is programmed: as the plain words say. Conditions: a chip that is told by ChipAt, and right.
-/
namespace Go.Proofs.YtnfhlocflpdlcaaGreat
open Go.RowKit

section
variable {base : Nat} {w : World} {k : Nat} {M : ChM}
theorem ok_len (hok : M.view.ok) : M.bs.length = M.B := by
  have := hok.blocks
  simpa [ChM.view] using this
theorem ok_S (hok : M.view.ok) : M.S ≤ 512 ∧ M.P ≤ 32 ∧ M.B ≤ 128 := by
  have : NP.rightB M.B M.P M.S = true := hok.right
  simp only [NP.rightB, Bool.and_eq_true, decide_eq_true_eq, Bool.or_eq_true, beq_iff_eq] at this
  omega
theorem ok_ps (hok : M.view.ok) {i : Nat} (hi : i < M.bs.length) : (M.bs.getD i default).ps.length = M.P := by
  have := hok.pages (M.bs.getD i default).view (List.mem_map_of_mem (getD_mem hi))
  have h2 : ((M.bs.getD i default).ps.map (·.l)).length = M.P := this
  rwa [List.length_map] at h2
theorem ok_next (hok : M.view.ok) {i : Nat} (hi : i < M.bs.length) : (M.bs.getD i default).next ≤ M.P := hok.next (M.bs.getD i default).view (List.mem_map_of_mem (getD_mem hi))
theorem ok_full (hok : M.view.ok) {i : Nat} (hi : i < M.bs.length) {p : PgM} (hp : p ∈ (M.bs.getD i default).ps) : p.l = [] ∨ p.l.length = M.S + 32 := hok.full (M.bs.getD i default).view (List.mem_map_of_mem (getD_mem hi)) p.l (List.mem_map_of_mem hp)
theorem view_page {i p : Nat} (hi : i < M.bs.length) (hp : p < (M.bs.getD i default).ps.length) : (M.view.blk i).page p = ((M.bs.getD i default).ps.getD p default).l := by
  rw [view_blk hi]
  exact getD_map hp

/-- What Read leaves. -/
def ReadPost (base : Nat) (w : World) (k : Nat) (M : ChM) (r : (List Nat × Int) × NP.Chp) (e : Ending) (w' : World) : Prop :=
  ∃ v' M', e = .returned (.tuple #[v', vi r.1.2]) ∧ Own w' w.heap.size v' r.1.1 ∧ Goes base w k M w' M' ∧ M'.view = r.2
def readM (M : ChM) : ChM := { M with reads := NP.w64 (M.reads + 1) }
set_option maxRecDepth 100000 in
set_option maxHeartbeats 2000000 in
theorem Read_any (h : ChipAt base w k M) (hok : M.view.ok) (j p : Int) : Calls Tryz.prog 126 #[ptr k, vi j, vi p] w (ReadPost base w k M (NP.readP M.view j p)) := by
  have hen := fun (w : World) (a : Option Addr) (n c : Nat) => Lib.run_eql_slice_nil (P := Tryz.prog) w 56 5 a n c 0 0 Tryz.underlying56
  have hB := ok_len hok
  have HC := Lib.hid h
  have HOK := Lib.hid hok
  have HBB := Lib.hid hB
  by_cases he : NP.asked M.view j p = 0
  · obtain ⟨hd, hj0, hj1, hp0, hp1⟩ := NP.asked_zero he
    change j < M.B at hj1
    change p < M.P at hp1
    obtain ⟨i, rfl⟩ : ∃ i : Nat, j = i := ⟨j.toNat, by omega⟩
    obtain ⟨q, rfl⟩ : ∃ q : Nat, p = q := ⟨p.toNat, by omega⟩
    have hi : i < M.bs.length := by omega
    have hps := ok_ps hok hi
    have hq : q < (M.bs.getD i default).ps.length := by omega
    have HQ : Hid (NP.readP M.view i q = ((if ((M.bs.getD i default).ps.getD q default).l = [] then List.replicate (M.S + 32) 255 else ((M.bs.getD i default).ps.getD q default).l, 0), (readM M).view)) := Lib.hid (by
      unfold NP.readP
      dsimp only
      rw [if_pos he, Int.toNat_natCast, Int.toNat_natCast, view_page hi hq]
      rfl)
    have HE := Lib.hid he
    have hS := (ok_S hok).1
    have hfl := ok_full hok hi (getD_mem (d := default) hq)
    have G := h.field (M' := readM M) 8 (vi (wrap64 (M.reads + 1))) (by rw [← w64_eq]; rfl) rfl rfl rfl h.faults
    have HG := Lib.hid G
    obtain ⟨c0, c1, c2, c3, c4, c5, c6, c7, c8⟩ := h.cells
    have z8 := h.chip.frozen 8
    clear c0 c1 c2 c4 c5 c6 c7 c3 hd he G hok h hB
    go_enter Tryz.func126, Tryz.ntmps126
    go_wp2_with fail
    refine (asked_any HC.out HBB.out _ _).mono ?_
    rintro e w' ⟨rfl, rfl⟩
    rw [HE.out]
    go_upto_region 5 with fail
    generalize w'.setCell ⟨k, 8, none⟩ (vi (wrap64 (M.reads + 1))) = w1 at *
    have c3 : w1.cell? ⟨k, 3, none⟩ = some (.slice (some ⟨M.kb, 0, none⟩) M.bs.length M.kc) := HG.out.at_.chip.cell 3
    have d0 : w1.cell? ⟨M.kb, i * 5, none⟩ = some (.slice (some ⟨(M.bs.getD i default).g, 0, none⟩) (M.bs.getD i default).ps.length (M.bs.getD i default).c) := HG.out.at_.bcell (i := i) (j := 0) hi (by decide)
    have d1 := HG.out.at_.pcell (i := i) (p := q) hi hq
    have hpg := HG.out.at_.rows _ (getD_mem (d := default) hi) _ (getD_mem (d := default) hq)
    change w1.cell? ⟨(M.bs.getD i default).g, q, none⟩ = some ((M.bs.getD i default).ps.getD q default).v at d1
    change (((M.bs.getD i default).ps.getD q default)).ok base w1 at hpg
    clear c8 z8
    generalize M.bs.getD i default = x at *
    obtain ⟨xg, xc, xps, xn, xb, xd, xw⟩ := x
    dsimp only at *
    generalize xps.getD q default = pg at *
    obtain ⟨pa, pl, pc⟩ := pg
    dsimp only at *
    by_cases hl : pl = []
    · have hnil := hpg.nil hl
      injection hnil with h1 h2 h3
      subst h1 h2 h3
      rw [if_pos rfl] at HQ
      clear hpg hfl
      go_wp2_with fail
      refine (full_any HG.out.at_ hS).mono ?_
      rintro e w2 ⟨rfl, rfl⟩
      go_wp2_with fail
      refine (ones_any (M.S + 32) _ (by omega)).mono ?_
      rintro e w3 ⟨v3, rfl, ho3, hb3⟩
      have HO3 := Lib.hid (ho3.more HG.out.size)
      have HG3 := Lib.hid (HG.out.old hb3)
      clear ho3 hb3
      go_wp2_with fail
      go_ret2
      exact ⟨v3, readM M, by rw [HQ.out]; rfl, by rw [HQ.out]; exact HO3.out, HG3.out, by rw [HQ.out]⟩
    · obtain ⟨b, o, hab⟩ := hpg.some hl
      dsimp only at hab
      subst hab
      rw [if_neg hl] at HQ
      have hln : pl.length ≤ 900000 := by rcases hfl with h | h; exact absurd h hl; omega
      have HR := Lib.hid hpg.row.row
      clear hpg hfl hl
      go_wp2_with fail
      refine (Clone_any (some ⟨b, o, none⟩) pl pc _ HR.out hln).mono ?_
      rintro e w3 ⟨v3, rfl, ho3, hb3⟩
      have HO3 := Lib.hid (ho3.more HG.out.size)
      have HG3 := Lib.hid (HG.out.old hb3)
      clear ho3 hb3
      go_wp2_with fail
      go_ret2
      exact ⟨v3, readM M, by rw [HQ.out]; rfl, by rw [HQ.out]; exact HO3.out, HG3.out, by rw [HQ.out]⟩
  · have HQ : Hid (NP.readP M.view j p = (([], NP.asked M.view j p), M.view)) := Lib.hid (by unfold NP.readP; dsimp only; rw [if_neg he])
    clear hok h hB
    go_enter Tryz.func126, Tryz.ntmps126
    go_wp2_with fail
    refine (asked_any HC.out HBB.out _ _).mono ?_
    rintro e w' ⟨rfl, rfl⟩
    generalize NP.asked M.view j p = n at *
    have hn : ((n : Int) != 0) = true := by simp [he]
    go_wp2_with fail
    go_ret2
    exact ⟨_, M, by rw [HQ.out]; rfl, by rw [HQ.out]; exact Own.nil _ _, Goes.refl HC.out, by rw [HQ.out]⟩

/-- What an act leaves. -/
def ActPost (base : Nat) (w : World) (k : Nat) (M : ChM) (r : Int × NP.Chp) (e : Ending) (w' : World) : Prop :=
  ∃ M', e = .returned (vi r.1) ∧ Goes base w k M w' M' ∧ M'.view = r.2
theorem ActPost.mk {r : Int × NP.Chp} {n : Int} {V : NP.Chp} {w' : World} (hr : r = (n, V)) {M' : ChM} (hg : Goes base w k M w' M') (hv : M'.view = V) : ActPost base w k M r (.returned (vi n)) w' :=
  ⟨M', by rw [hr], hg, by rw [hr]; exact hv⟩
def downM (M : ChM) (d : Bool) : ChM := { M with down := d }
/-- Bytes of the call's own are a page. -/
theorem Own.page {w' : World} {b' : Nat} {v : Value} {l : List Nat} (h : Own w' b' v l) (hs : ∀ x ∈ l, x < 256) (hl : 0 < l.length) : ∃ q : PgM, v = q.v ∧ q.l = l ∧ q.ok base w' := by
  obtain ⟨a, c, rfl, hr, h1, h2, h3⟩ := h.srow (base := base) hs
  exact ⟨⟨a, l, c⟩, rfl, rfl, hr, h1, h2, fun e => by dsimp only at e; rw [e] at hl; simp at hl⟩
theorem faults_small (h : FRow base w M.fa M.fs) : NP.small M.view.fs := by
  intro f hf
  obtain ⟨g, hg, rfl⟩ := List.mem_map.1 hf
  exact (h.data g hg).1.row.small
theorem fault_row (h : FRow base w M.fa M.fs) (a : Int) : SRow base w (faultM M.fs a).a (faultM M.fs a).l := by
  rcases faultM_mem M.fs a with e | e
  · rw [e]; exact SRow.nil _ _ _
  · exact (h.data _ e).1

set_option maxRecDepth 100000 in
set_option maxHeartbeats 4000000 in
theorem Program_any (h : ChipAt base w k M) (hok : M.view.ok) (j p : Int) (a : Option Addr) (l : List Nat) (c : Nat) (hr : SRow base w a l) : Calls Tryz.prog 228 #[ptr k, vi j, vi p, .slice a l.length c] w (ActPost base w k M (NP.program M.view j p l)) := by
  have hB := ok_len hok
  have HC := Lib.hid h
  have HOK := Lib.hid hok
  have HBB := Lib.hid hB
  have HR := Lib.hid hr
  obtain ⟨c0, c1, c2, c3, c4, c5, c6, c7, c8⟩ := h.cells
  clear c0 c1 c2 c4 c5 c6 c7 c8 hr
  by_cases he : NP.asked M.view j p = 0
  · obtain ⟨hd, hj0, hj1, hp0, hp1⟩ := NP.asked_zero he
    change j < M.B at hj1
    change p < M.P at hp1
    obtain ⟨i, rfl⟩ : ∃ i : Nat, j = i := ⟨j.toNat, by omega⟩
    obtain ⟨q, rfl⟩ : ∃ q : Nat, p = q := ⟨p.toNat, by omega⟩
    have hi : i < M.bs.length := by omega
    have hps := ok_ps hok hi
    have hPP := (ok_S hok).2.1
    have hS := (ok_S hok).1
    have HQ : Hid (NP.program M.view i q l = if l.length = M.S + 32 then
        (if (M.bs.getD i default).bad then (13, M.view)
        else if (M.bs.getD i default).broken || decide ((q : Int) ≠ ((M.bs.getD i default).next : Int)) then (10, M.view)
        else if (faultM M.fs M.since).kind = 1 then (4, NP.downP (NP.stroke M.view))
        else if (faultM M.fs M.since).kind = 2 then (4, NP.downP (NP.putP (NP.stroke M.view) i (NP.torn (M.S + 32) (faultM M.fs M.since).l)))
        else if (faultM M.fs M.since).kind = 3 then (11, NP.putP (NP.stroke M.view) i (NP.torn (M.S + 32) (faultM M.fs M.since).l))
        else (0, NP.putP (NP.stroke M.view) i l)) else (1, M.view)) := Lib.hid (by
      unfold NP.program
      dsimp only
      rw [if_pos he, Int.toNat_natCast, view_blk hi]
      have : NP.faultOf M.view.fs M.view.since = (faultM M.fs M.since).view := (faultM_view M.fs M.since).symm
      rw [this]
      rfl)
    have HE := Lib.hid he
    have d1 : w.cell? ⟨M.kb, i * 5 + 1, none⟩ = some (vi (M.bs.getD i default).next) := h.bcell hi (j := 1) (by decide)
    have d2 : w.cell? ⟨M.kb, i * 5 + 2, none⟩ = some (.bool (M.bs.getD i default).broken) := h.bcell hi (j := 2) (by decide)
    have d3 : w.cell? ⟨M.kb, i * 5 + 3, none⟩ = some (.bool (M.bs.getD i default).bad) := h.bcell hi (j := 3) (by decide)
    clear hd he hok h
    by_cases hlen : l.length = M.S + 32
    · rw [if_pos hlen] at HQ
      have hlc : ((l.length : Int) != (M.S : Int) + 32) = false := by simp; omega
      cases hbad : (M.bs.getD i default).bad
      · cases hbr : (M.bs.getD i default).broken
        · by_cases hn : q = (M.bs.getD i default).next
          · rw [hbad, hbr, ← hn] at HQ
            rw [if_neg (by simp), if_neg (by simp)] at HQ
            rw [hbad] at d3
            rw [hbr] at d2
            rw [← hn] at d1
            have HN := Lib.hid hn
            have hqq : ((q : Int) != (q : Int)) = false := by simp
            have HL := Lib.hid hlen
            clear hbad hbr hn hlen
            go_enter Tryz.func228, Tryz.ntmps228
            go_wp2_with fail
            refine (asked_any HC.out HBB.out _ _).mono ?_
            rintro e w' ⟨rfl, rfl⟩
            rw [HE.out]
            go_wp2_with fail
            refine (full_any HC.out hS).mono ?_
            rintro e w' ⟨rfl, rfl⟩
            have hlc2 : ((l.length : Int) != ((M.S + 32 : Nat) : Int)) = false := by have := HL.out; simp; omega
            go_wp2_with fail
            refine (fault_any HC.out).mono ?_
            rintro e w2 ⟨rfl, hg2⟩
            have HG := Lib.hid hg2
            have HFR := Lib.hid (fault_row hg2.at_.faults M.since)
            change Hid (SRow base w2 (faultM M.fs M.since).a (faultM M.fs M.since).l) at HFR
            have HFS := Lib.hid (NP.torn_small (n := M.S + 32) HFR.out.row.small)
            clear hg2 d1 d2 d3 c3 hqq
            generalize faultM M.fs M.since = f at *
            obtain ⟨fat, fk, fa, fl, fc⟩ := f
            dsimp only at *
            have HA : Hid (Goes base w' k M (w2.alloc (.cells #[vi fat, vi fk, .slice fa fl.length fc] 229)) (strokeM M)) := Lib.hid (HG.out.old ((Below.refl _ _).alloc (Nat.le_refl _) _))
            have HF2 : Hid (SRow base (w2.alloc (.cells #[vi fat, vi fk, .slice fa fl.length fc] 229)) fa fl) := Lib.hid (HFR.out.old ((Below.refl _ _).alloc (Nat.le_refl _) _))
            have HR2 : Hid (BRow (w2.alloc (.cells #[vi fat, vi fk, .slice fa fl.length fc] 229)) a l) := Lib.hid ((HR.out.chg HA.out.chg HC.out.mine).row)
            have F9 := Blk.new w2 229 #[vi fat, vi fk, .slice fa fl.length fc]
            go_upto_region 12 with fail
            clear hlc hlc2
            generalize w2.alloc (.cells #[vi fat, vi fk, .slice fa fl.length fc] 229) = w3 at *
            have k1 : w3.cell? ⟨w2.heap.size, 1, none⟩ = some (vi fk) := F9.cell 1
            have k2 : w3.cell? ⟨w2.heap.size, 2, none⟩ = some (.slice fa fl.length fc) := F9.cell 2
            clear F9 HFR HG
            generalize w2.heap.size = h2 at *
            have c6 : w3.cell? ⟨k, 6, none⟩ = some (.bool M.down) := HA.out.at_.chip.cell 6
            have z6 := HA.out.at_.chip.frozen 6
            have hnx : (M.bs.getD i default).next < (M.bs.getD i default).ps.length := by rw [← HN.out]; omega
            have HI := Lib.hid hi
            have HNX := Lib.hid hnx
            have HPS := Lib.hid (show (M.bs.getD i default).ps.length ≤ 32 by omega)
            clear hnx hps hi hPP hB hj0 hj1 hp0 hp1
            by_cases h1 : fk = 1
            · subst h1
              have hQ := HQ.out
              rw [if_pos rfl] at hQ
              have HQ1 := Lib.hid hQ
              clear hQ
              go_wp2_with fail
              go_ret
              exact ActPost.mk HQ1.out (HA.out.trans (HA.out.at_.field (M' := downM (strokeM M) true) 6 (.bool true) rfl rfl rfl rfl HA.out.at_.faults)) rfl
            by_cases h2' : fk = 2
            · subst h2'
              have hQ := HQ.out
              rw [if_neg (by decide), if_pos rfl] at hQ
              have HQ1 := Lib.hid hQ
              clear hQ h1
              go_wp2_with fail
              refine (torn_any HA.out.at_ hS fa fl fc HF2.out.row).mono ?_
              rintro e w4 ⟨v4, rfl, ho4, hb4⟩
              obtain ⟨pq, rfl, hql, hqk⟩ := Own.page (base := base) ho4 HFS.out (by rw [NP.torn_length]; omega)
              have HA4 := Lib.hid (HA.out.old hb4)
              have HQL := Lib.hid hql
              have HQK := Lib.hid hqk
              clear ho4 hql hqk hb4 c6 z6
              go_wp2_with fail
              refine (put_any HA4.out.at_ i HI.out HNX.out HPS.out pq HQK.out).mono ?_
              rintro e w5 ⟨rfl, hg5⟩
              have HA5 := Lib.hid (HA4.out.trans hg5)
              clear hg5
              have c6 : w5.cell? ⟨k, 6, none⟩ = some (.bool M.down) := HA5.out.at_.chip.cell 6
              have z6 := HA5.out.at_.chip.frozen 6
              go_wp2_with fail
              go_ret
              exact ActPost.mk HQ1.out (HA5.out.trans (HA5.out.at_.field (M' := downM (putM (strokeM M) i pq) true) 6 (.bool true) rfl rfl rfl rfl HA5.out.at_.faults)) (by
                show NP.downP (putM (strokeM M) i pq).view = _
                rw [putM_view (M := strokeM M) HI.out, HQL.out]
                rfl)
            by_cases h3 : fk = 3
            · subst h3
              have hQ := HQ.out
              rw [if_neg (by decide), if_neg (by decide), if_pos rfl] at hQ
              have HQ1 := Lib.hid hQ
              clear hQ h1 h2'
              go_wp2_with fail
              refine (torn_any HA.out.at_ hS fa fl fc HF2.out.row).mono ?_
              rintro e w4 ⟨v4, rfl, ho4, hb4⟩
              obtain ⟨pq, rfl, hql, hqk⟩ := Own.page (base := base) ho4 HFS.out (by rw [NP.torn_length]; omega)
              have HA4 := Lib.hid (HA.out.old hb4)
              have HQL := Lib.hid hql
              have HQK := Lib.hid hqk
              clear ho4 hql hqk hb4 c6 z6
              go_wp2_with fail
              refine (put_any HA4.out.at_ i HI.out HNX.out HPS.out pq HQK.out).mono ?_
              rintro e w5 ⟨rfl, hg5⟩
              have HA5 := Lib.hid (HA4.out.trans hg5)
              clear hg5
              go_wp2_with fail
              go_ret
              exact ActPost.mk HQ1.out HA5.out (by
                rw [putM_view (M := strokeM M) HI.out, HQL.out]
                rfl)
            · have hQ := HQ.out
              rw [if_neg h1, if_neg h2', if_neg h3] at hQ
              have HQ1 := Lib.hid hQ
              clear hQ
              go_wp2_with fail
              refine (Clone_any a l c _ HR2.out (by have := HL.out; omega)).mono ?_
              rintro e w4 ⟨v4, rfl, ho4, hb4⟩
              obtain ⟨pq, rfl, hql, hqk⟩ := Own.page (base := base) ho4 HR.out.row.small (by have := HL.out; omega)
              have HA4 := Lib.hid (HA.out.old hb4)
              have HQL := Lib.hid hql
              have HQK := Lib.hid hqk
              clear ho4 hql hqk hb4 c6 z6
              go_wp2_with fail
              refine (put_any HA4.out.at_ i HI.out HNX.out HPS.out pq HQK.out).mono ?_
              rintro e w5 ⟨rfl, hg5⟩
              have HA5 := Lib.hid (HA4.out.trans hg5)
              clear hg5
              go_wp2_with fail
              go_ret
              exact ActPost.mk HQ1.out HA5.out (by
                rw [putM_view (M := strokeM M) HI.out, HQL.out]
                rfl)
          · rw [hbad, hbr] at HQ
            rw [if_neg (by simp), if_pos (by simp only [Bool.false_or, decide_eq_true_eq]; omega)] at HQ
            rw [hbad] at d3
            rw [hbr] at d2
            generalize (M.bs.getD i default).next = nx at *
            have hqq : ((q : Int) != (nx : Int)) = true := by simp; omega
            clear hbad hbr hlen hn
            go_enter Tryz.func228, Tryz.ntmps228
            go_wp2_with fail
            refine (asked_any HC.out HBB.out _ _).mono ?_
            rintro e w' ⟨rfl, rfl⟩
            rw [HE.out]
            go_wp2_with fail
            refine (full_any HC.out hS).mono ?_
            rintro e w' ⟨rfl, rfl⟩
            have hlc2 : ((l.length : Int) != ((M.S + 32 : Nat) : Int)) = false := by simpa using hlc
            go_wp2_with fail
            go_ret
            exact ActPost.mk HQ.out (Goes.refl HC.out) rfl
        · rw [hbad, hbr] at HQ
          rw [if_neg (by simp), if_pos (by simp)] at HQ
          rw [hbad] at d3
          rw [hbr] at d2
          clear hbad hbr hlen
          go_enter Tryz.func228, Tryz.ntmps228
          go_wp2_with fail
          refine (asked_any HC.out HBB.out _ _).mono ?_
          rintro e w' ⟨rfl, rfl⟩
          rw [HE.out]
          go_wp2_with fail
          refine (full_any HC.out hS).mono ?_
          rintro e w' ⟨rfl, rfl⟩
          have hlc2 : ((l.length : Int) != ((M.S + 32 : Nat) : Int)) = false := by simpa using hlc
          go_wp2_with fail
          go_ret
          exact ActPost.mk HQ.out (Goes.refl HC.out) rfl
      · rw [hbad] at HQ
        rw [if_pos rfl] at HQ
        rw [hbad] at d3
        clear hbad hlen
        go_enter Tryz.func228, Tryz.ntmps228
        go_wp2_with fail
        refine (asked_any HC.out HBB.out _ _).mono ?_
        rintro e w' ⟨rfl, rfl⟩
        rw [HE.out]
        go_wp2_with fail
        refine (full_any HC.out hS).mono ?_
        rintro e w' ⟨rfl, rfl⟩
        have hlc2 : ((l.length : Int) != ((M.S + 32 : Nat) : Int)) = false := by simpa using hlc
        go_wp2_with fail
        go_ret
        exact ActPost.mk HQ.out (Goes.refl HC.out) rfl
    · rw [if_neg hlen] at HQ
      have hlc : ((l.length : Int) != ((M.S + 32 : Nat) : Int)) = true := by simp; omega
      go_enter Tryz.func228, Tryz.ntmps228
      go_wp2_with fail
      refine (asked_any HC.out HBB.out _ _).mono ?_
      rintro e w' ⟨rfl, rfl⟩
      rw [HE.out]
      go_wp2_with fail
      refine (full_any HC.out hS).mono ?_
      rintro e w' ⟨rfl, rfl⟩
      go_wp2_with fail
      go_ret
      exact ActPost.mk HQ.out (Goes.refl HC.out) rfl
  · have HQ : Hid (NP.program M.view j p l = (NP.asked M.view j p, M.view)) := Lib.hid (by unfold NP.program; dsimp only; rw [if_neg he])
    clear hok h hB
    go_enter Tryz.func228, Tryz.ntmps228
    go_wp2_with fail
    refine (asked_any HC.out HBB.out _ _).mono ?_
    rintro e w' ⟨rfl, rfl⟩
    generalize NP.asked M.view j p = n at *
    have hn : ((n : Int) != 0) = true := by simp [he]
    go_wp2_with fail
    go_ret
    exact ActPost.mk HQ.out (Goes.refl HC.out) rfl

def markM (M : ChM) (i : Nat) : ChM := { M with bs := M.bs.set i { M.bs.getD i default with bad := true } }
theorem markM_view {i : Nat} (h : i < M.bs.length) : (markM M i).view = NP.markB M.view i := by
  unfold markM NP.markB NP.setBlk
  rw [view_blk h]
  simp [ChM.view, BloM.view, List.map_set]
set_option maxRecDepth 100000 in
set_option maxHeartbeats 1000000 in
theorem Mark_any (h : ChipAt base w k M) (hok : M.view.ok) (j : Int) : Calls Tryz.prog 115 #[ptr k, vi j] w (ActPost base w k M (NP.mark M.view j)) := by
  have hB := ok_len hok
  have HC := Lib.hid h
  have HBB := Lib.hid hB
  obtain ⟨c0, c1, c2, c3, c4, c5, c6, c7, c8⟩ := h.cells
  clear c0 c1 c2 c4 c5 c6 c7 c8
  by_cases he : NP.asked M.view j 0 = 0
  · obtain ⟨hd, hj0, hj1, hp0, hp1⟩ := NP.asked_zero he
    change j < M.B at hj1
    obtain ⟨i, rfl⟩ : ∃ i : Nat, j = i := ⟨j.toNat, by omega⟩
    have hi : i < M.bs.length := by omega
    have HQ : Hid (NP.mark M.view i = (0, (markM M i).view)) := Lib.hid (by unfold NP.mark; dsimp only; rw [if_pos he, Int.toNat_natCast, markM_view hi])
    have HE := Lib.hid he
    have d3 : w.cell? ⟨M.kb, i * 5 + 3, none⟩ = some (.bool (M.bs.getD i default).bad) := h.bcell hi (j := 3) (by decide)
    have z3 := h.blocks.frozen (i * 5 + 3)
    have HG := Lib.hid (h.bfield hi (j := 3) (by decide) (.bool true) { M.bs.getD i default with bad := true } rfl rfl rfl rfl)
    clear hd he hok h hp0 hp1
    go_enter Tryz.func115, Tryz.ntmps115
    go_wp2_with fail
    refine (asked_any HC.out HBB.out _ _).mono ?_
    rintro e w' ⟨rfl, rfl⟩
    rw [HE.out]
    go_wp2_with fail
    go_ret
    exact ActPost.mk HQ.out HG.out rfl
  · have HQ : Hid (NP.mark M.view j = (NP.asked M.view j 0, M.view)) := Lib.hid (by unfold NP.mark; dsimp only; rw [if_neg he])
    clear hok h hB
    go_enter Tryz.func115, Tryz.ntmps115
    go_wp2_with fail
    refine (asked_any HC.out HBB.out _ _).mono ?_
    rintro e w' ⟨rfl, rfl⟩
    generalize NP.asked M.view j 0 = n at *
    have hn : ((n : Int) != 0) = true := by simp [he]
    go_wp2_with fail
    go_ret
    exact ActPost.mk HQ.out (Goes.refl HC.out) rfl
end

end Go.Proofs.YtnfhlocflpdlcaaGreat

