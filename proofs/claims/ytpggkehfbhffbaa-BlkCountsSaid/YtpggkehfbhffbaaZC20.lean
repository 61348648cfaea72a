/-
  Lemmas for a law's proof, put together from several texts: each part says what it shows, and its conditions.
-/
import Derived.Test.YtpggkehfbhffbaaZC14
import Derived.Test.YtpggkehfbhffbaaZC18
import Derived.Test.YtpggkehfbhffbaaZC19
import Derived.StillTailTactics
import Derived.Test.YtpggkehfbhffbaaZC15
import Derived.Test.YtpggkehfbhffbaaZC17
/-
  The document's manager: its chip's steps beside it. Conditions: a manager told by R6At; bytes that can be read.
-/
namespace Go.Proofs.Ytpggkehfbhffbaa.mgr
open Go.RowKit

section
variable {base : Nat} {w w' : World} {r : Nat} {G : R6} {R : RefM}
theorem r_small (h : R6At base w r G R) : NP.small R.view.fs := by
  intro f hf
  obtain ⟨g, hg, rfl⟩ := List.mem_map.1 hf
  exact (h.chip.faults.data g hg).1.row.small
/-- The chip's programming, beside the manager. -/
theorem r6_program (h : R6At base w r G R) (j p : Int) (a : Option Addr) (l : List Nat) (c : Nat) (hr : SRow base w a l) :
    Calls Try.prog 65 #[ptr G.q, vi j, vi p, .slice a l.length c] w fun e w' => ∃ n R', e = .returned (vi n) ∧ R6Goes base w r G R w' G R' := by
  refine (Go.Proofs.Ytpggkehfbhffbaa.rProgram_any h.chip h.ok j p a l c hr).mono ?_
  rintro e w' ⟨R', rfl, hg, hv⟩
  refine ⟨_, R', rfl, h.chipGoes hg ?_ ?_⟩
  · rw [hv]; exact (NP.act_ok h.ok (r_small h) (.program j p l) hr.row.small).1
  · have := congrArg NP.Chp.B hv
    rw [(program_BP _ _ _ _).1] at this
    exact this
theorem r6_erase (h : R6At base w r G R) (j : Int) : Calls Try.prog 66 #[ptr G.q, vi j] w fun e w' => ∃ n R', e = .returned (vi n) ∧ R6Goes base w r G R w' G R' := by
  refine (Go.Proofs.Ytpggkehfbhffbaa.rErase_any h.chip h.ok j).mono ?_
  rintro e w' ⟨R', rfl, hg, hv⟩
  refine ⟨_, R', rfl, h.chipGoes hg ?_ ?_⟩
  · rw [hv]; exact (NP.act_ok h.ok (r_small h) (.erase j) trivial).1
  · have := congrArg NP.Chp.B hv
    have h2 : (NP.erase R.view j).2.B = R.view.B := by
      unfold NP.erase NP.breakOff NP.stroke NP.downP NP.setBlk
      dsimp only
      split
      · split
        · rfl
        · split
          · rfl
          · split
            · rfl
            · split <;> rfl
      · rfl
    rw [h2] at this
    exact this
/-- What a programming leaves. -/
def P6 (base : Nat) (w : World) (r : Nat) (G : R6) (R : RefM) (e : Ending) (w' : World) : Prop := ∃ x y z G' R', e = .returned (.tuple #[vi x, vi y, vi z]) ∧ R6Goes base w r G R w' G' R'
def E6 (base : Nat) (w : World) (r : Nat) (G : R6) (R : RefM) (e : Ending) (w' : World) : Prop := ∃ n G' R', e = .returned (vi n) ∧ R6Goes base w r G R w' G' R'
theorem len6 {G' : R6} {R' : RefM} (h0 : R6At base w r G R) (h : R6Goes base w r G R w' G' R') : G'.st.length = G.st.length := by
  rw [h.at_.ls, h.B, h0.ls]
end

end Go.Proofs.Ytpggkehfbhffbaa.mgr

/-
  The document's manager: a page dropped, a block erased, a block retired. Conditions: a manager told by R6At.
-/
namespace Go.Proofs.Ytpggkehfbhffbaa.mgr
open Go.RowKit

section
variable {base : Nat} {w w' : World} {r : Nat} {G : R6} {R : RefM}
set_option maxRecDepth 100000 in
set_option maxHeartbeats 2000000 in
theorem rDrop6_any (h : R6At base w r G R) (k : Int) : Calls Try.prog 53 #[ptr r, vi k] w (E6 base w r G R) := by
  have HT := Lib.hid (rthere_any h k)
  have H := Lib.hid h
  clear h
  go_enter Try.func53, Try.ntmps53
  go_wp2_with fail
  refine HT.out.mono ?_
  rintro e w' ⟨b, rfl, hb, rfl⟩
  clear HT
  cases b
  · clear hb
    go_wp2_with fail
    go_ret
    exact ⟨_, _, _, rfl, R6Goes.refl H.out⟩
  · obtain ⟨i, rfl, hi⟩ := hb rfl
    have HI := Lib.hid hi
    have c2 := H.out.rows.1
    have dl := H.out.lcell hi
    have i0 : (0 : Int) ≤ (i : Int) := by omega
    have i1 : (i : Int) < (G.st.length : Int) := by omega
    have zl := H.out.lv.frozen i
    have n1' : ¬ G.gl = r := H.out.ne.2.1
    have hv := H.out.setL i (wrap64 (G.lv.getD i 0 - 1))
    have S2 := Lib.hid (hv.old (Below.refl _ _).drew)
    clear hv hb hi
    generalize G.lv.getD i 0 = y at *
    cases hy : (y == 0)
    · go_upto_region 3 with fail
      go_still_tail 14, (by kernel_rfl)
      change wpList _ _ _ _ _ w'.drew
      rw [IntWalk.i64_left]
      go_upto_region 4 with fail
      generalize (w'.setCell ⟨G.gl, i, none⟩ (vi (wrap64 (y - 1)))).drew = w6 at *
      clear c2 dl zl n1' hy
      have c1 := S2.out.at_.cell.2.1
      have c2 := S2.out.at_.rows.1
      have dl := S2.out.at_.lcell (i := i) HI.out
      have ds := S2.out.at_.scell (i := i) HI.out
      have S3 := Lib.hid (S2.out.trans (S2.out.at_.setS i 3))
      have zs := S2.out.at_.st.frozen i
      dsimp only at c1 c2 dl ds zs
      generalize (G.lv.set i (wrap64 (y - 1))).getD i 0 = y1 at *
      generalize G.st.getD i 0 = s at *
      cases hy : (y1 == 0)
      · go_wp2_with fail
        go_ret
        exact ⟨_, _, _, rfl, S2.out⟩
      · cases hs : (s == 2)
        · go_wp2_with fail
          go_ret
          exact ⟨_, _, _, rfl, S2.out⟩
        · go_wp2_with fail
          go_ret
          exact ⟨_, _, _, rfl, S3.out⟩
    · go_wp2_with fail
      go_ret
      exact ⟨_, _, _, rfl, R6Goes.refl H.out⟩
set_option maxRecDepth 100000 in
set_option maxHeartbeats 2000000 in
theorem rRetire6_any (h : R6At base w r G R) (k : Int) : Calls Try.prog 97 #[ptr r, vi k] w (E6 base w r G R) := by
  have HT := Lib.hid (rthere_any h k)
  have c0 := h.cell.1
  have k10 : w.cell? ⟨G.q, 10, none⟩ = some (.bool R.down) := h.chip.chip.cell 10
  have H := Lib.hid h
  clear h
  generalize R.down = dn at *
  cases dn
  · go_enter Try.func97, Try.ntmps97
    go_wp2_with fail
    refine HT.out.mono ?_
    rintro e w' ⟨b, rfl, hb, rfl⟩
    clear HT c0 k10
    cases b
    · clear hb
      go_wp2_with fail
      go_ret
      exact ⟨_, _, _, rfl, R6Goes.refl H.out⟩
    · obtain ⟨i, rfl, hi⟩ := hb rfl
      have HI := Lib.hid hi
      have c2 := H.out.rows.1
      have dl := H.out.lcell hi
      have i0 : (0 : Int) ≤ (i : Int) := by omega
      have i1 : (i : Int) < (G.st.length : Int) := by omega
      clear hb hi
      generalize G.lv.getD i 0 = y at *
      cases hy : decide (0 < y)
      · go_wp2_with fail
        refine (rgone_any H.out i HI.out).mono ?_
        rintro e wx ⟨rfl, G', R', hg⟩
        have HG := Lib.hid hg
        clear hg
        go_wp2_with fail
        go_ret
        exact ⟨_, _, _, rfl, HG.out⟩
      · go_wp2_with fail
        go_ret
        exact ⟨_, _, _, rfl, R6Goes.refl H.out⟩
  · go_enter Try.func97, Try.ntmps97
    go_wp2_with fail
    go_ret
    exact ⟨_, _, _, rfl, R6Goes.refl H.out⟩
set_option maxRecDepth 100000 in
set_option maxHeartbeats 4000000 in
theorem rErase6_any (h : R6At base w r G R) (k : Int) : Calls Try.prog 96 #[ptr r, vi k] w (E6 base w r G R) := by
  have HT := Lib.hid (rthere_any h k)
  have c0 := h.cell.1
  have k10 : w.cell? ⟨G.q, 10, none⟩ = some (.bool R.down) := h.chip.chip.cell 10
  have H := Lib.hid h
  clear h
  generalize R.down = dn at *
  cases dn
  · go_enter Try.func96, Try.ntmps96
    go_wp2_with fail
    refine HT.out.mono ?_
    rintro e w' ⟨b, rfl, hb, rfl⟩
    clear HT k10
    cases b
    · clear hb
      go_wp2_with fail
      go_ret
      exact ⟨_, _, _, rfl, R6Goes.refl H.out⟩
    · obtain ⟨i, rfl, hi⟩ := hb rfl
      have HI := Lib.hid hi
      have c1 := H.out.cell.2.1
      have c2 := H.out.rows.1
      have c3 := H.out.rows.2.1
      have dl := H.out.lcell hi
      have ds := H.out.scell hi
      have dx := H.out.xcell hi
      have i0 : (0 : Int) ≤ (i : Int) := by omega
      have i1 : (i : Int) < (G.st.length : Int) := by omega
      clear hb hi
      generalize G.lv.getD i 0 = y at *
      generalize G.st.getD i 0 = s at *
      generalize G.nx.getD i 0 = x at *
      have hb : (¬ 0 < y ∧ ((s == 1) = false ∨ (s == 1) = true ∧ ¬ 0 < x)) ∨ (0 < y ∨ ¬ 0 < y ∧ (s == 1) = true ∧ 0 < x) := by
        by_cases hy : 0 < y
        · exact .inr (.inl hy)
        · cases hs : (s == 1)
          · exact .inl ⟨hy, .inl rfl⟩
          · by_cases hx : 0 < x
            · exact .inr (.inr ⟨hy, rfl, hx⟩)
            · exact .inl ⟨hy, .inr ⟨rfl, hx⟩⟩
      rcases hb with hb | hb
      · rcases hb with ⟨hy, hs | ⟨hs, hx⟩⟩
        all_goals
          go_wp2_with fail
          refine (r6_erase H.out i).mono ?_
          rintro e wd ⟨z, R3, rfl, hg3⟩
          have HG3 := Lib.hid hg3
          clear hg3 c0 c1 c2 c3 dl ds dx
          by_cases z11 : z = 11
          · subst z11
            go_wp2_with fail
            refine (rgone_any HG3.out.at_ i HI.out).mono ?_
            rintro e we ⟨rfl, G4, R4, hg4⟩
            have HG4 := Lib.hid (HG3.out.trans hg4)
            clear hg4
            go_wp2_with fail
            go_ret
            exact ⟨_, _, _, rfl, HG4.out⟩
          · have q11 : (z == 11) = false := beq_eq_false_iff_ne.2 z11
            by_cases z0 : z = 0
            · subst z0
              have c1 := HG3.out.at_.cell.2.1
              have c3 := HG3.out.at_.rows.2.1
              have ds := HG3.out.at_.scell HI.out
              have dx := HG3.out.at_.xcell HI.out
              have zs := HG3.out.at_.st.frozen i
              have zx := HG3.out.at_.nx.frozen i
              have n1 : ¬ G.gs = r := HG3.out.at_.ne.1
              have n1'' : ¬ G.gx = r := HG3.out.at_.ne.2.2
              have n2 : ¬ G.gs = G.gx := HG3.out.at_.ne2
              have S1 := Lib.hid (HG3.out.trans (HG3.out.at_.setS i 0))
              have S2 := Lib.hid (S1.out.trans (S1.out.at_.setN i 0))
              go_wp2_with fail
              go_ret
              exact ⟨_, _, _, rfl, S2.out⟩
            · have q0 : (z == 0) = false := beq_eq_false_iff_ne.2 z0
              go_wp2_with fail
              go_ret
              exact ⟨_, _, _, rfl, HG3.out⟩
      · rcases hb with hy | ⟨hy, hs, hx⟩
        all_goals
          go_wp2_with fail
          go_ret
          exact ⟨_, _, _, rfl, R6Goes.refl H.out⟩
  · go_enter Try.func96, Try.ntmps96
    go_wp2_with fail
    go_ret
    exact ⟨_, _, _, rfl, R6Goes.refl H.out⟩
end

end Go.Proofs.Ytpggkehfbhffbaa.mgr

/-
  The document's manager: a page programmed. Conditions: a manager told by R6At; bytes that can be read.
-/
namespace Go.Proofs.Ytpggkehfbhffbaa.mgr
open Go.RowKit

section
variable {base : Nat} {w w' : World} {r : Nat} {G : R6} {R : RefM}
set_option maxRecDepth 100000 in
set_option maxHeartbeats 4000000 in
theorem rProgram6_any (h : R6At base w r G R) (a : Option Addr) (l : List Nat) (c : Nat) (hr : SRow base w a l) : Calls Try.prog 50 #[ptr r, .slice a l.length c] w (P6 base w r G R) := by
  obtain ⟨c0, c1, c2, c3, c4, c5, c6⟩ := h.cell
  have k2 : w.cell? ⟨G.q, 2, none⟩ = some (vi R.S) := h.chip.chip.cell 2
  have k10 : w.cell? ⟨G.q, 10, none⟩ = some (.bool R.down) := h.chip.chip.cell 10
  have hlen := h.small
  have hS : R.S ≤ 512 := by
    have : NP.rightB R.view.B R.view.P R.view.S = true := h.ok.right
    unfold NP.rightB at this
    simp only [Bool.and_eq_true, decide_eq_true_eq, Bool.or_eq_true, beq_iff_eq] at this
    have h2 : R.view.S = R.S := rfl
    omega
  have H := Lib.hid h
  have HR := Lib.hid hr
  clear c1 c2 c3 c4 c5 c6 h hr
  generalize R.down = dn at *
  cases dn
  · have q1 : IntKind.i64.wrap ((R.S : Int) + 32) = (R.S : Int) + 32 := IntWalk.i64_in _ (by omega)
    cases hq : ((l.length : Int) != (R.S : Int) + 32)
    · go_enter Try.func50, Try.ntmps50
      go_wp2_with fail
      clear c0 k2 k10 q1 hq
      go_loopw [7] (fun i wr => ∃ (n : Nat) (G' : R6) (R' : RefM), n ≤ G.st.length + 1 ∧ i = vi n ∧ Hid (R6Goes base w r G R wr G' R')) (fun i _ => G.st.length + 1 - (intOf i).toNat)
      case atStart => exact ⟨0, G, R, Nat.zero_le _, rfl, Lib.hid (R6Goes.refl H.out)⟩
      case round =>
        obtain ⟨n, G', R', hn, rfl, HG⟩ := hrel
        have c1 := HG.out.at_.cell.2.1
        have hl' := len6 H.out HG.out
        rw [hl'] at c1
        have HL := Lib.hid hl'
        clear hl'
        by_cases hlt : n ≤ G.st.length
        · have h1 : (n : Int) ≤ (G.st.length : Int) := by omega
          have HF : Hid (∀ (wx : World) (G'' : R6) (R'' : RefM), R6Goes base w r G R wx G'' R'' → ∃ (n' : Nat) (G1 : R6) (R1 : RefM), n' ≤ G.st.length + 1 ∧ vi ((n : Int) + 1) = vi n' ∧ Hid (R6Goes base w r G R wx G1 R1)) := Lib.hid (fun wx G'' R'' hx => ⟨n + 1, G'', R'', by omega, by simp, Lib.hid hx⟩)
          go_wp2_with fail
          refine (rOpened_any HG.out.at_).mono ?_
          rintro e wx ⟨k, rfl, hk, rfl⟩
          rw [HL.out] at hk
          have HK := Lib.hid hk
          clear c1 hk
          go_upto_if 42 with fail
          generalize decide (k < 0) = b
          go_cut [8] from 43 to 120 (fun v wx => ∃ k' G2 R2, v = vi k' ∧ one6 k' G.st.length ∧ Hid (R6Goes base w r G R wx G2 R2))
          case first =>
            cases b
            · go_wp2_with fail
              go_meet
              exact ⟨k, G', R', rfl, HK.out, Lib.hid HG.out⟩
            · go_wp2_with fail
              refine (rbegin_any HG.out.at_).mono ?_
              rintro e wx ⟨k', G2, R2, rfl, hk', hg⟩
              have HK' := Lib.hid hk'
              have HG2 := Lib.hid (HG.out.trans hg)
              clear hk' hg
              go_wp2_with fail
              go_meet
              exact ⟨k', G2, R2, rfl, by rw [← HL.out]; exact HK'.out, Lib.hid HG2.out⟩
          case rest =>
          clear HG HL HK
          obtain ⟨k', G2, R2, rfl, hk', HG⟩ := hcut
          have HL := Lib.hid (len6 H.out HG.out)
          rcases hk' with rfl | ⟨i, rfl, hi⟩
          · go_wp2_with fail
            go_ret3
            exact ⟨_, _, _, _, _, rfl, HG.out⟩
          · have hi' : i < G2.st.length := by rw [HL.out]; exact hi
            have HI := Lib.hid hi'
            have c0 := HG.out.at_.cell.1
            have c3 := HG.out.at_.rows.2.1
            rw [HL.out] at c3
            have dx := HG.out.at_.xcell hi'
            have i0 : ¬ (i : Int) < 0 := by omega
            have i0' : (0 : Int) ≤ (i : Int) := by omega
            have i1 : (i : Int) < (G.st.length : Int) := by omega
            generalize G2.nx.getD i 0 = p at *
            have HQ := Lib.hid HG.out.q
            clear hi hi'
            go_wp2_with fail
            refine (r6_program HG.out.at_ i p a l c (HR.out.chg HG.out.chg H.out.mine)).mono ?_
            rintro e wd ⟨z, R3, rfl, hg3⟩
            have HG3 := Lib.hid (HG.out.trans hg3)
            clear hg3 c0 c3 dx
            by_cases z10 : z = 10
            · subst z10
              go_wp2_with fail
              refine (rclose_any HG3.out.at_ i HI.out).mono ?_
              rintro e we ⟨rfl, G4, R4, hg4⟩
              have HG4 := Lib.hid (HG3.out.trans hg4)
              clear hg4
              go_wp2_with fail
              go_roundw
              case rel => exact HF.out _ _ _ HG4.out
              case measure => simp [intOf]; omega
            · have q10 : (z == 10) = false := beq_eq_false_iff_ne.2 z10
              by_cases z11 : z = 11
              · subst z11
                go_wp2_with fail
                refine (rclose_any HG3.out.at_ i HI.out).mono ?_
                rintro e we ⟨rfl, G4, R4, hg4⟩
                have HG4 := Lib.hid (HG3.out.trans hg4)
                clear hg4
                go_wp2_with fail
                go_ret3
                exact ⟨_, _, _, _, _, rfl, HG4.out⟩
              · have q11 : (z == 11) = false := beq_eq_false_iff_ne.2 z11
                by_cases z0 : z = 0
                · subst z0
                  clear q10 q11 z10 z11
                  have c0 := HG3.out.at_.cell.1
                  have c2 := HG3.out.at_.rows.1
                  have c3 := HG3.out.at_.rows.2.1
                  rw [HL.out] at c2 c3
                  have dx := HG3.out.at_.xcell HI.out
                  have dl := HG3.out.at_.lcell HI.out
                  have zl := HG3.out.at_.lv.frozen i
                  have zx := HG3.out.at_.nx.frozen i
                  have n1' : ¬ G2.gl = r := HG3.out.at_.ne.2.1
                  have n1'' : ¬ G2.gx = r := HG3.out.at_.ne.2.2
                  have n4 : ¬ G2.gl = G2.gx := HG3.out.at_.ne3
                  have n4' : ¬ G2.gx = G2.gl := fun e => HG3.out.at_.ne3 e.symm
                  have hv := HG3.out.at_.setN i (wrap64 (p + 1))
                  have S1 := Lib.hid (HG3.out.trans hv)
                  clear hv zl dl c2 n1' n4 n4'
                  generalize G2.nx.getD i 0 = x at *
                  go_upto_region 23 with fail
                  generalize wd.setCell ⟨G2.gx, i, none⟩ (vi (wrap64 (p + 1))) = w5 at *
                  clear c0 c3 dx zx n1''
                  have c2 := S1.out.at_.rows.1
                  have dl := S1.out.at_.lcell (i := i) HI.out
                  have zl := S1.out.at_.lv.frozen i
                  dsimp only at c2 dl zl
                  rw [HL.out] at c2
                  have n1' : ¬ G2.gl = r := S1.out.at_.ne.2.1
                  have hv := S1.out.at_.setL i (wrap64 (G2.lv.getD i 0 + 1))
                  have S2 := Lib.hid ((S1.out.trans hv).old (Below.refl _ _).drew)
                  clear hv
                  generalize G2.lv.getD i 0 = y at *
                  go_still_tail 14, (by kernel_rfl)
                  change wpList _ _ _ _ _ w5.drew
                  rw [IntWalk.i64_left]
                  go_upto_region 24 with fail
                  generalize (w5.setCell ⟨G2.gl, i, none⟩ (vi (wrap64 (y + 1)))).drew = w6 at *
                  clear c2 dl zl n1'
                  have c0 := S2.out.at_.cell.1
                  have c3 := S2.out.at_.rows.2.1
                  dsimp only at c0 c3
                  rw [HL.out] at c3
                  have dx := S2.out.at_.xcell (i := i) HI.out
                  have k1 : w6.cell? ⟨G2.q, 1, none⟩ = some (vi R3.P) := S2.out.at_.chip.chip.cell 1
                  dsimp only at dx
                  generalize (G2.nx.set i (wrap64 (p + 1))).getD i 0 = x1 at *
                  generalize hG6 : ({ G2 with nx := G2.nx.set i (wrap64 (p + 1)), lv := G2.lv.set i (wrap64 (y + 1)) } : R6) = G6 at *
                  have H6 : Hid (i < G6.st.length) := Lib.hid (by rw [← hG6]; exact HI.out)
                  clear hG6
                  cases hq : (x1 == (R3.P : Int))
                  · go_quiet (fail)
                    go_wp2_with fail
                    go_ret3
                    exact ⟨_, _, _, _, _, rfl, S2.out.old (below_drewN (Below.refl _ _) _)⟩
                  · go_quiet (fail)
                    go_wp2_with fail
                    refine (rclose_any (S2.out.old (below_drewN (Below.refl _ _) _)).at_ i H6.out).mono ?_
                    rintro e we ⟨rfl, G4, R4, hg4⟩
                    have HG4 := Lib.hid ((S2.out.old (below_drewN (Below.refl _ _) _)).trans hg4)
                    clear hg4
                    go_wp2_with fail
                    go_ret3
                    exact ⟨_, _, _, _, _, rfl, HG4.out⟩
                · have q0 : (z != 0) = true := by simp [z0]
                  go_wp2_with fail
                  go_ret3
                  exact ⟨_, _, _, _, _, rfl, HG3.out⟩
        · have h1 : ¬ (n : Int) ≤ (G.st.length : Int) := by omega
          go_wp2_with fail
          go_ret3
          exact ⟨_, _, _, _, _, rfl, HG.out⟩
    · go_enter Try.func50, Try.ntmps50
      go_wp2_with fail
      go_ret3
      exact ⟨_, _, _, _, _, rfl, R6Goes.refl H.out⟩
  · go_enter Try.func50, Try.ntmps50
    go_wp2_with fail
    go_ret3
    exact ⟨_, _, _, _, _, rfl, R6Goes.refl H.out⟩
end

end Go.Proofs.Ytpggkehfbhffbaa.mgr

/-
  A manager of a chip's blocks: a block erased. Conditions: a manager and its chip told by Held.
-/
namespace Go.Proofs.Ytpggkehfbhffbaa.mgr
open Go.RowKit

section
variable {base : Nat} {w w' : World} {m : Nat} {G : MgM} {M : ChM}
/-- What is left of an erasing, by what the chip told. -/
def Mg.wiped (c : NP.Chp) (g1 : Mg) (i : Nat) (e : Int) : Int × NP.Chp × Mg :=
  if e = 0 then (0, c, (g1.put i ⟨0, 0, NP.wearAt c i, 0⟩).shut i)
  else if e = 11 then (11, (Mg.gone c g1 i).2)
  else (e, c, g1)
theorem idle_zero {c : NP.Chp} {g : Mg} {k : Int} (hz : g.idle c k = 0) : ∃ i : Nat, k = i ∧ i < g.l.length := by
  unfold Mg.idle at hz
  split at hz
  · simp at hz
  · split at hz
    · simp at hz
    · rename_i h1 h2
      obtain ⟨i, h3, h4, _⟩ := there_yes (k := k) (g := g) (by
        cases ht : g.there k
        · exact absurd (.inl ht) h2
        · rfl)
      exact ⟨i, h3, h4⟩
theorem chip_Erase {k : Nat} (h : ChipAt base w k M) (hok : M.view.ok) (j : Int) : Calls Try.prog 22 #[ptr k, vi j] w (ActPost base w k M (NP.erase M.view j)) := Go.Proofs.Ytpggkehfbhffbaa.Erase_any h hok j
theorem wearM_of {V : NP.Chp} {M' : ChM} (hv : M'.view = V) (hok : V.ok) (j : Int) : wearM M' j = NP.wearAt V j := by rw [wearM_view M' (by rw [hv]; exact hok), hv]
set_option maxRecDepth 100000 in
set_option maxHeartbeats 4000000 in
theorem Erase_any (h : Held base w m G M) (hok : M.view.ok) (k : Int) : Calls Try.prog 41 #[ptr m, vi k] w (HPost base w m G M (G.view.erase M.view k)) := by
  have HI := Lib.hid (idle_any h k)
  have H := Lib.hid h
  have HOK := Lib.hid hok
  by_cases hz : G.view.idle M.view k = 0
  · obtain ⟨i, rfl, hi⟩ := idle_zero hz
    have hi0 : (0 : Int) ≤ (i : Int) := by omega
    have hi1 : (i : Int) < (G.l.length : Int) := by
      have : i < G.l.length := hi
      omega
    have HII : Hid (i < G.l.length) := Lib.hid hi
    obtain ⟨c0, c1, c2, c3, c4, c5⟩ := h.cells
    obtain ⟨d0, d1, d2, d3⟩ := h.bcells hi
    have HDEF : Hid (G.view.erase M.view i = if (G.l.getD i default).s = 1 ∧ 0 < (G.l.getD i default).n then (1, M.view, G.view) else
        Mg.wiped (NP.erase M.view i).2 (G.view.put i { G.l.getD i default with r := NP.wearAt (NP.erase M.view i).2 i }) i (NP.erase M.view i).1) := Lib.hid (by
      unfold Mg.erase Mg.wiped
      dsimp only
      rw [hz, if_neg (by simp), Int.toNat_natCast])
    rw [hz] at HI
    by_cases ho : (G.l.getD i default).s = 1 ∧ 0 < (G.l.getD i default).n
    · rw [if_pos ho] at HDEF
      have hs : ((G.l.getD i default).s == 1) = true := beq_iff_eq.2 ho.1
      have hn := ho.2
      generalize (G.l.getD i default).s = xs at *
      generalize (G.l.getD i default).n = xn at *
      clear h hok hz hi d1 d2 c0 c2 c3 c4 c5 ho
      go_enter Try.func41, Try.ntmps41
      go_wp2_with fail
      refine HI.out.mono ?_
      rintro e w' ⟨rfl, rfl⟩
      go_wp2_with fail
      go_ret
      exact HPost.mk HDEF.out (HGoes.refl H.out) rfl
    · rw [if_neg ho] at HDEF
      have hact := (NP.act_ok hok (faults_small h.chip.faults) (.erase i) trivial).1
      change (NP.erase M.view i).2.ok at hact
      have HE := Lib.hid (chip_Erase h.chip hok i)
      have HGET : Hid (∀ z, (G.l.set i z).getD i default = z) := Lib.hid (fun z => by rw [blk_set _ _ _ _ hi, if_pos rfl])
      generalize hr1 : (NP.erase M.view i).1 = r1 at *
      generalize hr2 : (NP.erase M.view i).2 = V2 at *
      have HOK2 := Lib.hid hact
      have HE2 : Hid (Calls Try.prog 22 #[ptr G.k, vi i] w fun e w' => ∃ M', e = .returned (vi r1) ∧ Goes base w G.k M w' M' ∧ M'.view = V2) := Lib.hid (HE.out.mono (by
        rintro e w' ⟨M', he, hg, hv⟩
        exact ⟨M', by rw [he, hr1], hg, by rw [hv, hr2]⟩))
      clear hr1 hr2 hact HE h hok hz hi c2 c3 c4 c5 d1 d2
      have hdec : ((G.l.getD i default).s == 1) = false ∨ (((G.l.getD i default).s == 1) = true ∧ ¬ 0 < (G.l.getD i default).n) := by
        by_cases hs : (G.l.getD i default).s = 1
        · exact .inr ⟨beq_iff_eq.2 hs, fun hn => ho ⟨hs, hn⟩⟩
        · exact .inl (beq_eq_false_iff_ne.2 hs)
      clear ho
      generalize (G.l.getD i default).s = xs at d0 hdec
      generalize (G.l.getD i default).n = xn at d3 hdec
      have HDC := Lib.hid hdec
      clear hdec
      go_enter Try.func41, Try.ntmps41
      go_wp2_with fail
      refine HI.out.mono ?_
      rintro e w' ⟨rfl, rfl⟩
      go_upto_region 4 with fail
      go_cut [32] from 13 to 32 (fun v wx => v = .bool false ∧ wx = w')
      case first =>
        rcases HDC.out with hs | ⟨hs, hn⟩
        · go_wp2_with fail
          go_meet
          exact ⟨rfl, rfl⟩
        · have hn' : decide (0 < xn) = false := decide_eq_false (by omega)
          go_wp2_with fail
          go_meet
          exact ⟨rfl, rfl⟩
      case rest =>
      obtain ⟨rfl, rfl⟩ := hcut
      clear HDC d0 d3
      go_wp2_with fail
      refine HE2.out.mono ?_
      rintro e w1 ⟨M', rfl, hg, hv⟩
      have HG1 := Lib.hid (H.out.chipGoes hg)
      have HV := Lib.hid hv
      have HW := Lib.hid (fun w' (hc : ChipAt base w' G.k M') => Wear_any hc i)
      rw [wearM_of hv HOK2.out] at HW
      have HWV : Hid (NP.wearAt V2 i = NP.wearAt V2 i) := Lib.hid rfl
      clear hg hv c0 c1
      have k0 : w1.cell? ⟨m, 0, none⟩ = some (ptr G.k) := HG1.out.at_.cells.1
      have k1 : w1.cell? ⟨m, 1, none⟩ = some (.slice (some ⟨G.gl, 0, none⟩) G.l.length G.cl) := HG1.out.at_.cells.2.1
      have d2 := (HG1.out.at_.bcells HII.out).2.2.1
      have z2 := HG1.out.at_.mgr.row.frozen (i * 4 + 2)
      have hne : Hid (G.gl ≠ m) := Lib.hid (fun e => H.out.ne e.symm)
      have hne1 : ¬ G.gl = m := hne.out
      have HS : Hid (w1.drew.cell? ⟨m, 0, none⟩ = some (ptr G.k) ∧ w1.drew.cell? ⟨m, 1, none⟩ = some (.slice (some ⟨G.gl, 0, none⟩) G.l.length G.cl)) := Lib.hid ⟨k0, k1⟩
      have hadr : Hid (∀ o j, (⟨G.gl, o, none⟩ : Addr) ≠ ⟨m, j, none⟩) := Lib.hid (fun o j e => hne.out (by injection e))
      have HWD := Lib.hid (HW.out _ (HG1.out.at_.chip.old (Below.refl _ _).drew))
      have HG2 : Hid (HGoes base wc m G M (w1.setCell ⟨G.gl, i * 4 + 2, none⟩ (vi (NP.wearAt V2 i))).drew (G.view.put i { G.l.getD i default with r := NP.wearAt V2 i }) M') := Lib.hid
        ((HG1.out.trans (HG1.out.at_.cell (i := i) (j := 2) HII.out (by decide) (vi (NP.wearAt V2 i)) { G.l.getD i default with r := NP.wearAt V2 i } rfl)).old (Below.refl _ _).drew)
      have HLL : Hid ((G.view.put i { G.l.getD i default with r := NP.wearAt V2 i }).l.length = G.l.length) := Lib.hid (by simp [Mg.put])
      generalize G.view.put i { G.l.getD i default with r := NP.wearAt V2 i } = g1 at *
      generalize (G.l.getD i default).r = xr at *
      go_upto_region 7 with fail
      go_region_held3 (fun w' => w'.cell? ⟨m, 0, none⟩ = some (ptr G.k) ∧ w'.cell? ⟨m, 1, none⟩ = some (.slice (some ⟨G.gl, 0, none⟩) G.l.length G.cl))
        (first
          | exact HS.out
          | exact ⟨(World.cell?_setCell_other _ _ _ _ (hadr.out _ _)).trans HS.out.1, (World.cell?_setCell_other _ _ _ _ (hadr.out _ _)).trans HS.out.2⟩)
        (first | (go_at_call 34; refine HWD.out.mono ?_; rintro e w' ⟨rfl, rfl⟩))
      change Exit.then _ _ _ _ (w1.setCell ⟨G.gl, i * 4 + 2, none⟩ (vi (NP.wearAt V2 i))).drew
      clear k0 k1 d2 z2 HS HWD HG1
      generalize (w1.setCell ⟨G.gl, i * 4 + 2, none⟩ (vi (NP.wearAt V2 i))).drew = w2 at *
      have HOKM : Hid (M'.view.ok) := Lib.hid (by rw [HV.out]; exact HOK2.out)
      by_cases h0 : r1 = 0
      · subst h0
        have HDEF2 : Hid (G.view.erase M.view i = (0, V2, (g1.put i ⟨0, 0, NP.wearAt V2 i, 0⟩).shut i)) := Lib.hid (by rw [HDEF.out]; rfl)
        have k0 : w2.cell? ⟨m, 0, none⟩ = some (ptr G.k) := HG2.out.at_.cells.1
        have k1 : w2.cell? ⟨m, 1, none⟩ = some (.slice (some ⟨G.gl, 0, none⟩) G.l.length G.cl) := by
          rw [← HLL.out]; exact HG2.out.at_.cells.2.1
        have hi3 : i < g1.l.length := by rw [HLL.out]; exact HII.out
        obtain ⟨d0, d1, d2, d3⟩ := HG2.out.at_.bcells hi3
        have z := fun j => HG2.out.at_.mgr.row.frozen j
        have zz0 := z (i * 4)
        have zz1 := z (i * 4 + 1)
        have zz2 := z (i * 4 + 2)
        have zz3 := z (i * 4 + 3)
        have HS : Hid (w2.drew.cell? ⟨m, 0, none⟩ = some (ptr G.k) ∧ w2.drew.cell? ⟨m, 1, none⟩ = some (.slice (some ⟨G.gl, 0, none⟩) G.l.length G.cl)) := Lib.hid ⟨k0, k1⟩
        have HWD := Lib.hid (HW.out _ (HG2.out.at_.chip.old (Below.refl _ _).drew))
        have HFIN : Hid (HGoes base wc m G M ((((w2.setCell ⟨G.gl, i * 4, none⟩ (vi 0)).setCell ⟨G.gl, i * 4 + 1, none⟩ (vi 0)).setCell ⟨G.gl, i * 4 + 2, none⟩ (vi (NP.wearAt V2 i))).setCell ⟨G.gl, i * 4 + 3, none⟩ (vi 0)).drew (g1.put i ⟨0, 0, NP.wearAt V2 i, 0⟩) M') := Lib.hid
          ((HG2.out.trans (HG2.out.at_.block (i := i) hi3 ⟨0, 0, NP.wearAt V2 i, 0⟩)).old (Below.refl _ _).drew)
        have HAT : Hid ((g1.put i ⟨0, 0, NP.wearAt V2 i, 0⟩).at_ = g1.at_) := Lib.hid rfl
        dsimp only [MgM.lay] at d0 d1 d2 d3
        generalize (g1.l.getD i default).s = y0 at *
        generalize (g1.l.getD i default).l = y1 at *
        generalize (g1.l.getD i default).r = y2 at *
        generalize (g1.l.getD i default).n = y3 at *
        clear z HW hi3 HDEF
        go_upto_region 11 with fail
        go_region_held3 (fun w' => w'.cell? ⟨m, 0, none⟩ = some (ptr G.k) ∧ w'.cell? ⟨m, 1, none⟩ = some (.slice (some ⟨G.gl, 0, none⟩) G.l.length G.cl))
          (first
            | exact HS.out
            | exact ⟨(other4 hne.out).trans HS.out.1, (other4 hne.out).trans HS.out.2⟩)
          (first | (go_at_call 34; refine HWD.out.mono ?_; rintro e w' ⟨rfl, rfl⟩))
        change Exit.then _ _ _ _ ((((w2.setCell ⟨G.gl, i * 4, none⟩ (vi 0)).setCell ⟨G.gl, i * 4 + 1, none⟩ (vi 0)).setCell ⟨G.gl, i * 4 + 2, none⟩ (vi (NP.wearAt V2 i))).setCell ⟨G.gl, i * 4 + 3, none⟩ (vi 0)).drew
        clear k0 k1 d0 d1 d2 d3 zz0 zz1 zz2 zz3 HS HWD HG2
        generalize ((((w2.setCell ⟨G.gl, i * 4, none⟩ (vi 0)).setCell ⟨G.gl, i * 4 + 1, none⟩ (vi 0)).setCell ⟨G.gl, i * 4 + 2, none⟩ (vi (NP.wearAt V2 i))).setCell ⟨G.gl, i * 4 + 3, none⟩ (vi 0)).drew = w3 at *
        have k2 : w3.cell? ⟨m, 2, none⟩ = some (vi g1.at_) := HFIN.out.at_.cells.2.2.1
        have z2 := HFIN.out.at_.mgr.mgr.frozen 2
        by_cases ha : (i : Int) = g1.at_
        · have hq : ((i : Int) == g1.at_) = true := beq_iff_eq.2 ha
          have HE := Lib.hid (HFIN.out.shut (i := i) ha)
          clear ha
          go_wp2_with fail
          go_ret
          exact HPost.mk HDEF2.out HE.out HV.out
        · have hq : ((i : Int) == g1.at_) = false := beq_eq_false_iff_ne.2 ha
          have HE := Lib.hid (HFIN.out.shutNo (i := i) ha)
          clear ha
          go_wp2_with fail
          go_ret
          exact HPost.mk HDEF2.out HE.out HV.out
      · have hq0 : (r1 == 0) = false := beq_eq_false_iff_ne.2 h0
        by_cases h11 : r1 = 11
        · subst h11
          have HDEF2 : Hid (G.view.erase M.view i = (11, (Mg.gone V2 g1 i).2)) := Lib.hid (by rw [HDEF.out]; rfl)
          clear hq0 h0 HDEF
          go_wp2_with fail
          refine (gone_any HG2.out.at_ HOKM.out i (by dsimp only [MgM.lay]; rw [HLL.out]; exact HII.out)).mono ?_
          rintro e w3 ⟨M3, rfl, hg3, hv3⟩
          rw [HV.out] at hg3 hv3
          have HG3 := Lib.hid (HG2.out.trans hg3)
          have HV3 := Lib.hid hv3
          clear hg3 hv3
          rw [HV.out]
          change Hid (HGoes base wc m G M w3 (Mg.gone V2 g1 i).2.2 M3) at HG3
          change Hid (M3.view = (Mg.gone V2 g1 i).2.1) at HV3
          generalize Mg.gone V2 (MgM.lay G g1).view i = X at *
          go_wp2_with fail
          go_ret
          exact ⟨M3, ret_int (by rw [HDEF2.out]), by rw [HDEF2.out]; exact HG3.out, by rw [HDEF2.out]; exact HV3.out⟩
        · have hq1 : (r1 == 11) = false := beq_eq_false_iff_ne.2 h11
          have HDEF2 : Hid (G.view.erase M.view i = (r1, V2, g1)) := Lib.hid (by rw [HDEF.out]; unfold Mg.wiped; rw [if_neg h0, if_neg h11])
          clear h0 h11 HDEF
          go_wp2_with fail
          go_ret
          exact HPost.mk HDEF2.out HG2.out HV.out
  · have HDEF : Hid (G.view.erase M.view k = (G.view.idle M.view k, M.view, G.view)) := Lib.hid (by unfold Mg.erase; dsimp only; rw [if_pos hz])
    generalize G.view.idle M.view k = n at *
    have hzq : (n != 0) = true := by simp [hz]
    clear h hok hz
    go_enter Try.func41, Try.ntmps41
    go_wp2_with fail
    refine HI.out.mono ?_
    rintro e w' ⟨rfl, rfl⟩
    go_wp2_with fail
    go_ret
    exact HPost.mk HDEF.out (HGoes.refl H.out) rfl
end

end Go.Proofs.Ytpggkehfbhffbaa.mgr

/-
  A manager and the document's side by side. Conditions: both in memory, with nothing in common.
-/
namespace Go.Proofs.Ytpggkehfbhffbaa.mgr
open Go.RowKit

/-- What holds of a chip behind operations. -/
structure Good6 (c : NP.Chp) : Prop where
  ok : c.ok
  small : NP.small c.fs
  order : c.order
theorem Good6.act {c : NP.Chp} (h : Good6 c) (a : NP.Act) (ha : a.fine) : Good6 (NP.act c a) := by
  obtain ⟨h1, h2⟩ := NP.act_ok h.ok h.small a ha
  exact ⟨h1, h2, NP.order_act h.ok h.order a⟩
theorem new_good6 {b p s : Int} {bad : List Int} {d : NP.Chp} (e : NP.new b p s bad = some d) : Good6 d := by
  obtain ⟨h1, h2, h3, _⟩ := NP.new_ok e
  exact ⟨h1, (by rw [h3]; exact fun f hf => by cases hf), h2⟩
/-- All that both may write to. -/
def foot2 (m : Nat) (G : MgM) (M : ChM) (r : Nat) (H : R6) (R : RefM) (n : Nat) : Prop := foot1 m G M n ∨ foot6 r H R n
structure B6 (base : Nat) (w : World) (m : Nat) (G : MgM) (M : ChM) (r : Nat) (H : R6) (R : RefM) : Prop where
  held : Held base w m G M
  ref : R6At base w r H R
  apart : ∀ n, foot1 m G M n → ¬ foot6 r H R n
  good : Good6 M.view
  gok : G.view.ok M.view
structure B6Goes (base : Nat) (w : World) (m : Nat) (G : MgM) (M : ChM) (r : Nat) (H : R6) (R : RefM) (w' : World) (G' : MgM) (M' : ChM) (H' : R6) (R' : RefM) : Prop where
  at_ : B6 base w' m G' M' r H' R'
  k : G'.k = G.k
  chg : Chg (foot2 m G M r H R) w w'
  foot : ∀ n, foot2 m G' M' r H' R' n → foot2 m G M r H R n ∨ w.heap.size ≤ n
section
variable {base : Nat} {w w' w'' : World} {m r : Nat} {G G' G'' : MgM} {M M' M'' : ChM} {H H' H'' : R6} {R R' R'' : RefM}
theorem B6.mine (h : B6 base w m G M r H R) : ∀ n, foot2 m G M r H R n → Mine base w n := fun n e => e.elim (h.held.mine n) (h.ref.mine n)
theorem B6.lt (h : B6 base w m G M r H R) : ∀ n, foot2 m G M r H R n → n < w.heap.size := fun n e => e.elim (h.held.lt n) (h.ref.lt n)
theorem B6.low (h : B6 base w m G M r H R) : ∀ n, foot2 m G M r H R n → base ≤ n := fun n e => (h.mine n e).1
theorem B6.chg {F : Nat → Prop} (h : B6 base w m G M r H R) (q : Chg F w w') (hF : ∀ n, F n → Mine base w n) (hn : ∀ n, foot2 m G M r H R n → ¬ F n) : B6 base w' m G M r H R :=
  ⟨h.held.chg q hF (fun n e => hn n (.inl e)), h.ref.chg q hF (fun n e => hn n (.inr e)), h.apart, h.good, h.gok⟩
theorem B6.old (h : B6 base w m G M r H R) (q : Below w.heap.size w w') : B6 base w' m G M r H R := ⟨h.held.old q, h.ref.old q, h.apart, h.good, h.gok⟩
theorem B6Goes.refl (h : B6 base w m G M r H R) : B6Goes base w m G M r H R w G M H R := ⟨h, rfl, Chg.refl _ _, fun _ e => .inl e⟩
theorem B6Goes.trans (h : B6Goes base w m G M r H R w' G' M' H' R') (q : B6Goes base w' m G' M' r H' R' w'' G'' M'' H'' R'') : B6Goes base w m G M r H R w'' G'' M'' H'' R'' := by
  refine ⟨q.at_, q.k.trans h.k, h.chg.trans q.chg fun n hn e => ?_, fun n hn => ?_⟩
  · rcases h.foot n e with h1 | h1
    · exact h1
    · omega
  · rcases q.foot n hn with h1 | h1
    · exact h.foot n h1
    · exact .inr (Nat.le_trans h.chg.size h1)
theorem B6Goes.old (h : B6Goes base w m G M r H R w' G' M' H' R') (q : Below w'.heap.size w' w'') : B6Goes base w m G M r H R w'' G' M' H' R' := ⟨h.at_.old q, h.k, h.chg.below q, h.foot⟩
theorem B6Goes.of_old (h : B6 base w m G M r H R) (q : Below w.heap.size w w') : B6Goes base w m G M r H R w' G M H R := (B6Goes.refl h).old q
/-- The manager goes. -/
theorem B6.left (h : B6 base w m G M r H R) {g' : Mg} (q : HGoes base w m G M w' g' M') (hg : Good6 M'.view) (hk : g'.ok M'.view) : B6Goes base w m G M r H R w' (G.lay g') M' H R := by
  have ha : ∀ n, foot6 r H R n → ¬ foot1 m G M n := fun n e e2 => h.apart n e2 e
  have hf : ∀ n, foot1 m (G.lay g') M' n → foot1 m G M n ∨ w.heap.size ≤ n := by
    intro n e
    rcases e with e | e
    · exact .inl (.inl e)
    · rcases q.foot n e with e | e
      · exact .inl (.inr e)
      · exact .inr e
  refine ⟨⟨q.at_, h.ref.chg q.chg h.held.mine ha, ?_, hg, hk⟩, rfl, q.chg.mono (fun n _ e => .inl e), ?_⟩
  · intro n e e2
    rcases hf n e with e | e
    · exact h.apart n e e2
    · have := h.ref.lt n e2
      omega
  · intro n e
    rcases e with e | e
    · rcases hf n e with e | e
      · exact .inl (.inl e)
      · exact .inr e
    · exact .inl (.inr e)
/-- The document's goes. -/
theorem B6.right (h : B6 base w m G M r H R) (q : R6Goes base w r H R w' H' R') : B6Goes base w m G M r H R w' G M H' R' := by
  refine ⟨⟨h.held.chg q.chg h.ref.mine (fun n e => h.apart n e), q.at_, ?_, h.good, h.gok⟩, rfl, q.chg.mono (fun n _ e => .inr e), ?_⟩
  · intro n e e2
    rcases q.foot n e2 with e2 | e2
    · exact h.apart n e e2
    · have := h.held.lt n e
      omega
  · intro n e
    rcases e with e | e
    · exact .inl (.inl e)
    · rcases q.foot n e with e | e
      · exact .inl (.inr e)
      · exact .inr e
theorem B6Goes.left (h : B6Goes base w m G M r H R w' G' M' H' R') {g' : Mg} (q : HGoes base w' m G' M' w'' g' M'') (hg : Good6 M''.view) (hk : g'.ok M''.view) : B6Goes base w m G M r H R w'' (G'.lay g') M'' H' R' := h.trans (h.at_.left q hg hk)
theorem B6Goes.right (h : B6Goes base w m G M r H R w' G' M' H' R') (q : R6Goes base w' r H' R' w'' H'' R'') : B6Goes base w m G M r H R w'' G' M' H'' R'' := h.trans (h.at_.right q)
/-- Memory beside both stays. -/
theorem B6Goes.below (h : B6Goes base w m G M r H R w' G' M' H' R') (hl : ∀ n, foot2 m G M r H R n → base ≤ n) (hb : base ≤ w.heap.size) : Below base w w' := h.chg.to_below (fun n _ e => hl n e) hb
end

end Go.Proofs.Ytpggkehfbhffbaa.mgr

