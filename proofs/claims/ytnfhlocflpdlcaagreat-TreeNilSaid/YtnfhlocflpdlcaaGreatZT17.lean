/-
  Lemmas for a law's proof, put together from several texts: each part says what it shows, and its conditions.
-/
import Derived.Test.YtnfhlocflpdlcaaGreatZT16
import Derived.Deep.RegionHeld3
/-
  A block is broken off, a block is erased: as the plain words say. Conditions: a chip that is told by ChipAt, and right.
-/
namespace Go.Proofs.YtnfhlocflpdlcaaGreat
open Go.RowKit

section
variable {base : Nat} {w wr : World} {k : Nat} {M : ChM}
/-- A chip whose block is broken off, its pages as they are told. -/
def brkM (M : ChM) (i : Nat) (qs : List PgM) : ChM := { M with bs := M.bs.set i { M.bs.getD i default with ps := qs, broken := true, wear := NP.w64 ((M.bs.getD i default).wear + 1) } }
theorem brkM_get {i : Nat} (hi : i < M.bs.length) (qs : List PgM) : (brkM M i qs).bs.getD i default = { M.bs.getD i default with ps := qs, broken := true, wear := NP.w64 ((M.bs.getD i default).wear + 1) } := by
  unfold brkM
  dsimp only
  rw [NP.getD_set _ _ _ _ _ hi, if_pos rfl]
theorem brkM_len (i : Nat) (qs : List PgM) : (brkM M i qs).bs.length = M.bs.length := List.length_set ..
theorem brkM_page {i n : Nat} (hi : i < M.bs.length) {qs : List PgM} (g : Goes base w k M wr (brkM M i qs)) (q : PgM) (hq : q.ok base wr) :
    Goes base w k M (wr.setCell ⟨(M.bs.getD i default).g, n, none⟩ q.v) (brkM M i (qs.set n q)) := by
  have h := g.at_.page (i := i) (p := n) (by rw [brkM_len]; exact hi) q hq
  rw [brkM_get hi] at h
  have e : ({ brkM M i qs with bs := (brkM M i qs).bs.set i { M.bs.getD i default with ps := qs.set n q, broken := true, wear := NP.w64 ((M.bs.getD i default).wear + 1) } } : ChM) = brkM M i (qs.set n q) := by
    unfold brkM
    dsimp only
    rw [List.set_set]
  rw [e] at h
  exact g.trans h
theorem brkM_view {i : Nat} (hi : i < M.bs.length) {qs : List PgM} {l : List Nat} (h : qs.map (·.l) = NP.cutTo (M.S + 32) l ((M.bs.getD i default).ps.map (·.l)) (M.bs.getD i default).ps.length) : (brkM M i qs).view = NP.breakOff M.view i l := by
  unfold brkM NP.breakOff NP.setBlk
  dsimp only
  rw [view_blk hi]
  simp only [ChM.view, BloM.view, List.map_set, h, List.length_map]
theorem set_getD_self {α : Type} (l : List α) (n : Nat) (d : α) : l.set n (l.getD n d) = l := by
  apply List.ext_getElem?
  intro j
  rw [List.getElem?_set]
  split
  · rename_i h
    subst h
    split
    · rename_i h2
      rw [List.getD_eq_getElem?_getD, List.getElem?_eq_getElem h2]
      rfl
    · rename_i h2
      rw [List.getElem?_eq_none (by omega)]
  · rfl
theorem cut_stay {N : Nat} {data : List Nat} {ps : List (List Nat)} {n : Nat} (h : data.getD n 0 = 0) : NP.cutTo N data ps (n + 1) = NP.cutTo N data ps n := by
  rw [NP.cutTo]
  rw [h, NP.cutOne, if_pos rfl, set_getD_self]
theorem cut_gone {N : Nat} {data : List Nat} {ps : List (List Nat)} {n : Nat} (h : data.getD n 0 = 1) : NP.cutTo N data ps (n + 1) = (NP.cutTo N data ps n).set n [] := by
  rw [NP.cutTo]
  rw [h, NP.cutOne, if_neg (by decide), if_neg (by decide)]
theorem cut_full {N : Nat} {data : List Nat} {ps : List (List Nat)} {n : Nat} (h : 1 < data.getD n 0) : NP.cutTo N data ps (n + 1) = (NP.cutTo N data ps n).set n (List.replicate N (data.getD n 0)) := by
  rw [NP.cutTo]
  rw [NP.cutOne, if_neg (by omega), if_pos h]
theorem SRow.lookup {a : Option Addr} {l : List Nat} (h : SRow base w a l) {n : Nat} (hn : n < l.length) : ∃ b o, a = some ⟨b, o, none⟩ ∧ w.cell? ⟨b, o + n, none⟩ = some (vb (l.getD n 0)) ∧ l.getD n 0 < 256 ∧ Safe 5 base w b := by
  obtain ⟨b, o, rfl, h1, h2⟩ := h.row.lookup hn
  refine ⟨b, o, rfl, h1, h2, ?_⟩
  rcases h.safe with rfl | ⟨b', o', he, hs⟩
  · simp at hn
  · injection he with he
    injection he with hb ho
    subst hb
    exact hs
/-- The state behind so many pages. -/
structure BrkSt (base : Nat) (w : World) (k : Nat) (M : ChM) (i : Nat) (l : List Nat) (n : Nat) (qs : List PgM) (wr : World) : Prop where
  goes : Goes base w k M wr (brkM M i qs)
  len : qs.length = (M.bs.getD i default).ps.length
  say : qs.map (·.l) = NP.cutTo (M.S + 32) l ((M.bs.getD i default).ps.map (·.l)) n

set_option maxRecDepth 100000 in
set_option maxHeartbeats 4000000 in
theorem breakOff_any (h : ChipAt base w k M) (hok : M.view.ok) (i : Nat) (hi : i < M.bs.length) (a : Option Addr) (l : List Nat) (c : Nat) (hr : SRow base w a l) (hl : l.length ≤ c) (hc : c ≤ maxLen) :
    Calls Tryz.prog 154 #[ptr k, .pointer (some ⟨M.kb, i * 5, none⟩), .slice a l.length c] w fun e w' => e = .returned (.tuple #[]) ∧ ∃ M', Goes base w k M w' M' ∧ M'.view = NP.breakOff M.view i l := by
  have hps := ok_ps hok hi
  have hPP := (ok_S hok).2.1
  have hS := (ok_S hok).1
  have HC := Lib.hid h
  have HR := Lib.hid hr
  have hD := getD_mem (d := default) hi
  have d4 : w.cell? ⟨M.kb, i * 5 + 4, none⟩ = some (vi (M.bs.getD i default).wear) := h.bcell hi (j := 4) (by decide)
  have d2 : w.cell? ⟨M.kb, i * 5 + 2, none⟩ = some (.bool (M.bs.getD i default).broken) := h.bcell hi (j := 2) (by decide)
  have z4 := h.blocks.frozen (i * 5 + 4)
  have z2 := h.blocks.frozen (i * 5 + 2)
  have G1 := h.bfield hi (j := 4) (by decide) (vi (wrap64 ((M.bs.getD i default).wear + 1))) { M.bs.getD i default with wear := NP.w64 ((M.bs.getD i default).wear + 1) } (by rw [← w64_eq]; rfl) rfl rfl rfl
  have hg1 : (M.bs.set i { M.bs.getD i default with wear := NP.w64 ((M.bs.getD i default).wear + 1) }).getD i default = { M.bs.getD i default with wear := NP.w64 ((M.bs.getD i default).wear + 1) } := by
    rw [NP.getD_set _ _ _ _ _ hi, if_pos rfl]
  have G2 := G1.at_.bfield (i := i) (j := 2) (by simpa using hi) (by decide) (.bool true) { M.bs.getD i default with broken := true, wear := NP.w64 ((M.bs.getD i default).wear + 1) } (by dsimp only; rw [hg1]; rfl) (by dsimp only; rw [hg1]) (by dsimp only; rw [hg1]) (by dsimp only; rw [hg1])
  have ST : Hid (BrkSt base w k M i l 0 (M.bs.getD i default).ps ((w.setCell ⟨M.kb, i * 5 + 4, none⟩ (vi (wrap64 ((M.bs.getD i default).wear + 1)))).setCell ⟨M.kb, i * 5 + 2, none⟩ (.bool true))) := Lib.hid ⟨by
    have := G1.trans G2
    dsimp only at this
    rw [List.set_set] at this
    exact this, rfl, rfl⟩
  have HI := Lib.hid hi
  have HD := Lib.hid hD
  have HPS := Lib.hid hps
  have hlc : l.length ≤ 9223372036854775807 := by unfold maxLen at hc; omega
  clear G1 G2 hg1 h hok hr hD
  generalize hx : M.bs.getD i default = x at *
  have HX := Lib.hid hx
  clear hx
  go_enter Tryz.func154, Tryz.ntmps154
  go_upto_region 2 with fail
  generalize (w.setCell ⟨M.kb, i * 5 + 4, none⟩ (vi (wrap64 (x.wear + 1)))).setCell ⟨M.kb, i * 5 + 2, none⟩ (.bool true) = w2 at *
  have c0 : w2.cell? ⟨M.kb, i * 5, none⟩ = some (.slice (some ⟨x.g, 0, none⟩) x.ps.length x.c) := by
    have := ST.out.goes.at_.bcell (i := i) (j := 0) (by rw [brkM_len]; exact hi) (by decide)
    rw [brkM_get hi, HX.out] at this
    exact this
  rw [hps] at c0
  clear d4 d2 z4 z2
  go_wp2_with fail
  clear c0
  go_loopw [22] (fun v wr => ∃ (n : Nat) (qs : List PgM), n ≤ M.P ∧ v = vi n ∧ Hid (BrkSt base w k M i l n qs wr)) (fun v _ => M.P - (intOf v).toNat)
  case atStart => exact ⟨0, _, Nat.zero_le _, rfl, ST⟩
  case round =>
    obtain ⟨n, qs, hn, rfl, st⟩ := hrel
    by_cases hlt : n < M.P
    · have c0 : wr.cell? ⟨M.kb, i * 5, none⟩ = some (.slice (some ⟨x.g, 0, none⟩) M.P x.c) := by
        have := st.out.goes.at_.bcell (i := i) (j := 0) (by rw [brkM_len]; exact hi) (by decide)
        rw [brkM_get hi, HX.out] at this
        have h2 := st.out.len
        rw [HX.out, HPS.out] at h2
        rw [← h2]
        exact this
      have hmem : (brkM M i qs).bs.getD i default ∈ (brkM M i qs).bs := getD_mem (by rw [brkM_len]; exact hi)
      have cn : wr.cell? ⟨x.g, n, none⟩ = some (qs.getD n default).v := by
        have := st.out.goes.at_.pcell (i := i) (p := n) (by rw [brkM_len]; exact hi) (by rw [brkM_get hi]; have := st.out.len; rw [HX.out, HPS.out] at this; dsimp only; omega)
        rw [brkM_get hi, HX.out] at this
        exact this
      have zn : wr.frozen? ⟨x.g, n, none⟩ = false := by
        have := (st.out.goes.at_.pages _ hmem).frozen n
        rw [brkM_get hi, HX.out] at this
        exact this
      by_cases hnl : n < l.length
      · obtain ⟨b, o, rfl, hby, hsm, hsf⟩ := (HR.out.chg st.out.goes.chg HC.out.mine).lookup hnl
        have hne : ¬ x.g = b := by
          rintro rfl
          have hm := st.out.goes.at_.mine x.g (.inr (.inr (by
            have := List.mem_map_of_mem (f := fun y : BloM => y.g) hmem
            rw [brkM_get hi, HX.out] at this
            exact this)))
          exact hsf.no hm
        have hne' : ¬ b = x.g := fun e => hne e.symm
        clear hsf hmem
        by_cases hy0 : l.getD n 0 = 0
        · have HS1 : Hid (BrkSt base w k M i l (n + 1) qs wr) := Lib.hid ⟨st.out.goes, st.out.len, by rw [cut_stay hy0]; exact st.out.say⟩
          rw [hy0] at hby
          clear hy0 hsm cn zn
          go_wp2_with fail
          go_roundw
          case rel => exact ⟨n + 1, qs, by omega, by go_num, HS1⟩
          case measure => simp [intOf]; omega
        · by_cases hy1 : l.getD n 0 = 1
          · have HS1 : Hid (BrkSt base w k M i l (n + 1) (qs.set n ⟨none, [], 0⟩) (wr.setCell ⟨x.g, n, none⟩ (.slice none 0 0))) := Lib.hid ⟨by
              have := brkM_page (n := n) hi st.out.goes ⟨none, [], 0⟩ (PgM.ok.none _ _)
              rw [HX.out] at this
              exact this, by rw [List.length_set]; exact st.out.len, by rw [cut_gone hy1, List.map_set, st.out.say]⟩
            rw [hy1] at hby
            clear hy1 hsm hy0
            generalize qs.getD n default = pg at cn
            go_wp2_with fail
            go_roundw
            case rel => exact ⟨n + 1, _, by omega, by go_num, HS1⟩
            case measure => simp [intOf]; omega
          · have hy2 : 1 < l.getD n 0 := by omega
            have G1 : Goes base w k M (wr.setCell ⟨x.g, n, none⟩ (.slice none 0 0)) (brkM M i (qs.set n ⟨none, [], 0⟩)) := by
              have := brkM_page (n := n) hi st.out.goes ⟨none, [], 0⟩ (PgM.ok.none _ _)
              rw [HX.out] at this
              exact this
            have HG1 := Lib.hid G1
            have HLE := Lib.hid st.out.len
            have HSAY := Lib.hid st.out.say
            clear hy0 hy1 hsm G1 st
            generalize hyy : l.getD n 0 = y at *
            have HYY := Lib.hid hyy
            clear hyy
            generalize qs.getD n default = pg at cn
            have hyb : ((y : Int) == 0) = false := by simp; omega
            go_upto_region 8 with fail
            clear c0 cn zn hby
            generalize wr.setCell ⟨x.g, n, none⟩ (.slice none 0 0) = w1 at *
            have hmem : (brkM M i (qs.set n ⟨none, [], 0⟩)).bs.getD i default ∈ (brkM M i (qs.set n ⟨none, [], 0⟩)).bs := getD_mem (by rw [brkM_len]; exact hi)
            have hql : n < (qs.set n ⟨none, [], 0⟩).length := by have := HLE.out; rw [HX.out, HPS.out] at this; rw [List.length_set]; omega
            have c0 : w1.cell? ⟨M.kb, i * 5, none⟩ = some (.slice (some ⟨x.g, 0, none⟩) M.P x.c) := by
              have := HG1.out.at_.bcell (i := i) (j := 0) (by rw [brkM_len]; exact hi) (by decide)
              rw [brkM_get hi, HX.out] at this
              have h2 := HLE.out
              rw [HX.out, HPS.out] at h2
              have h4 : w1.cell? ⟨M.kb, i * 5, none⟩ = some (.slice (some ⟨x.g, 0, none⟩) (qs.set n ⟨none, [], 0⟩).length x.c) := this
              rw [List.length_set, h2] at h4
              exact h4
            have cn : w1.cell? ⟨x.g, n, none⟩ = some (.slice none 0 0) := by
              have := HG1.out.at_.pcell (i := i) (p := n) (by rw [brkM_len]; exact hi) (by rw [brkM_get hi]; exact hql)
              rw [brkM_get hi, HX.out] at this
              dsimp only at this
              rw [NP.getD_set _ _ _ _ _ (by rw [List.length_set] at hql; exact hql), if_pos rfl] at this
              exact this
            have zn : w1.frozen? ⟨x.g, n, none⟩ = false := by
              have := (HG1.out.at_.pages _ hmem).frozen n
              rw [brkM_get hi, HX.out] at this
              exact this
            have HRD : Hid (BRow w1.drew (some ⟨b, o + n, none⟩) [y]) := Lib.hid (by
              have := (((HR.out.chg HG1.out.chg HC.out.mine).row.drew.drop n).take 1)
              rw [List.drop_eq_getElem_cons hnl, List.take_succ_cons, List.take_zero, show l[n] = l.getD n 0 by rw [List.getD_eq_getElem?_getD, List.getElem?_eq_getElem hnl]; rfl, HYY.out] at this
              exact this)
            have hby : y < 256 := by have := HRD.out.small y (by simp); exact this
            have HFU : Hid (Calls Tryz.prog 165 #[ptr k] w1.drew fun e w' => e = .returned (vi (M.S + 32 : Nat)) ∧ w' = w1.drew) := Lib.hid (full_any (M := brkM M i (qs.set n ⟨none, [], 0⟩)) (HG1.out.old (Below.refl _ _).drew).at_ hS)
            have HRP : Hid (Calls Tryz.prog 183 #[.slice (some ⟨b, o + n, none⟩) 1 (c - n), vi (M.S + 32 : Nat)] w1.drew fun e w' => ∃ q : PgM, e = .returned q.v ∧ q.l = List.replicate (M.S + 32) y ∧ q.ok base w' ∧ Below w1.heap.size w1 w') := Lib.hid ((Repeat_any (some ⟨b, o + n, none⟩) y (M.S + 32) (c - n) w1.drew HRD.out (by omega) (by omega)).mono (by
              rintro e w' ⟨v', rfl, ho, hb⟩
              obtain ⟨q, rfl, hq1, hq2⟩ := Own.page (base := base) ho (by intro z hz; rw [(List.mem_replicate.1 hz).2]; exact hby) (by simp)
              exact ⟨q, rfl, hq1, hq2, (Below.refl _ _).drew.trans hb⟩))
            have q0 : (0 : Int) ≤ (n : Int) := by omega
            have q1 : (n : Int) ≤ (n : Int) + 1 := by omega
            have q2 : (n : Int) + 1 ≤ (c : Int) := by omega
            have q3 : ((n : Int) + 1).toNat = n + 1 := by omega
            have q4 : ¬ c = n := by omega
            have q5 : (0 : Int) ≤ (n : Int) + 1 := by omega
            have q6 : IntKind.i64.wrap ((n : Int) + 1) = (n : Int) + 1 := IntWalk.i64_in _ (by omega)
            have q7 : (n : Int) < (M.P : Int) := by omega
            have c0d : w1.drew.cell? ⟨M.kb, i * 5, none⟩ = some (.slice (some ⟨x.g, 0, none⟩) M.P x.c) := c0
            have C0 := Lib.hid c0
            have CN := Lib.hid cn
            have ZN := Lib.hid zn
            have HLT := Lib.hid (cell_lt cn)
            have hadr : Hid ((⟨x.g, n, none⟩ : Addr) ≠ ⟨M.kb, i * 5, none⟩) := Lib.hid (fun e => (HC.out.g_ne HD.out).2 (by injection e))
            clear hmem hql c0 cn zn
            go_region_held3 (fun w' => w'.cell? ⟨M.kb, i * 5, none⟩ = some (.slice (some ⟨x.g, 0, none⟩) M.P x.c))
              (first
                | exact c0d
                | exact cell_below C0.out hb3
                | exact (World.cell?_setCell_other _ _ _ _ hadr.out).trans (cell_below C0.out hb3))
              (first
                | (go_at_call 165; refine (HFU.out).mono ?_; rintro e w' ⟨rfl, rfl⟩)
                | (go_at_call 183; refine (HRP.out).mono ?_; rintro e w3 ⟨pq, rfl, hq1, hq2, hb3⟩; have cn3 := cell_below CN.out hb3; have zn3 := (hb3.frozen HLT.out).trans ZN.out; have HQ1 := Lib.hid hq1; clear hq1))
            all_goals
              have HS1 : Hid (BrkSt base w k M i l (n + 1) (qs.set n pq) (w3.setCell ⟨x.g, n, none⟩ pq.v)) := Lib.hid ⟨by
                have := brkM_page (n := n) hi (HG1.out.old hb3) pq hq2
                rw [HX.out, List.set_set] at this
                exact this, by rw [List.length_set]; exact HLE.out, by rw [cut_full (by rw [HYY.out]; exact hy2), List.map_set, HSAY.out, HQ1.out, HYY.out]⟩
              go_wp2_with fail
              go_roundw
              case rel => exact ⟨n + 1, _, by omega, by go_num, HS1⟩
              case measure => simp [intOf]; omega
      · have HS1 : Hid (BrkSt base w k M i l (n + 1) qs wr) := Lib.hid ⟨st.out.goes, st.out.len, by rw [cut_stay (by rw [List.getD_eq_getElem?_getD, List.getElem?_eq_none (by omega)]; rfl)]; exact st.out.say⟩
        clear cn zn
        go_wp2_with fail
        go_roundw
        case rel => exact ⟨n + 1, qs, by omega, by go_num, HS1⟩
        case measure => simp [intOf]; omega
    · obtain rfl : n = M.P := by omega
      go_wp2_with fail
      go_end0
      exact ⟨rfl, _, st.out.goes, brkM_view HI.out (by rw [HX.out, HPS.out, ← HX.out]; exact st.out.say)⟩
end

end Go.Proofs.YtnfhlocflpdlcaaGreat

