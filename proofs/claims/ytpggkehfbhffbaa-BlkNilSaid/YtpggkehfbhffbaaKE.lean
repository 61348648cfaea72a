/-
  A manager of a chip's blocks: a page dropped, a block asked whether it is idle, a block gone. Conditions: a manager and its chip told by Held.
-/
import Derived.Test.YtpggkehfbhffbaaKD
import Derived.Test.YtpggkehfbhffbaaNP
namespace Go.Proofs.Ytpggkehfbhffbaa.mgr
open Go.RowKit

section
variable {base : Nat} {w w' : World} {m : Nat} {G : MgM} {M : ChM}
theorem there_yes {g : Mg} {k : Int} (h : g.there k = true) : ∃ i : Nat, k = i ∧ i < g.l.length ∧ (g.blk i).s ≠ 4 := by
  unfold Mg.there at h
  simp only [Bool.and_eq_true, decide_eq_true_eq, bne_iff_ne, ne_eq] at h
  exact ⟨k.toNat, by omega, by omega, h.2⟩
def HPost (base : Nat) (w : World) (m : Nat) (G : MgM) (M : ChM) (r : Int × NP.Chp × Mg) (e : Ending) (w' : World) : Prop :=
  ∃ M', e = .returned (vi r.1) ∧ HGoes base w m G M w' r.2.2 M' ∧ M'.view = r.2.1
theorem HPost.mk {r : Int × NP.Chp × Mg} {n : Int} {V : NP.Chp} {g' : Mg} (hr : r = (n, V, g')) {M' : ChM} (hg : HGoes base w m G M w' g' M') (hv : M'.view = V) : HPost base w m G M r (.returned (vi n)) w' :=
  ⟨M', by rw [hr], by rw [hr]; exact hg, by rw [hr]; exact hv⟩
set_option maxRecDepth 100000 in
set_option maxHeartbeats 2000000 in
theorem Drop_any (h : Held base w m G M) (hok : G.view.ok M.view) (hP32 : M.P ≤ 32) (k : Int) : Calls Try.prog 40 #[ptr m, vi k] w fun e w' => e = .returned (vi (G.view.drop k).1) ∧ HGoes base w m G M w' (G.view.drop k).2 M := by
  have HT := Lib.hid (there_any h k)
  cases ht : G.view.there k
  · have HQ : Hid (G.view.drop k = (1, G.view)) := Lib.hid (by unfold Mg.drop; rw [if_pos (.inl ht)])
    have H := Lib.hid h
    rw [ht] at HT
    clear ht h hok
    go_enter Try.func40, Try.ntmps40
    go_wp2_with fail
    refine HT.out.mono ?_
    rintro e w' ⟨rfl, rfl⟩
    go_wp2_with fail
    go_ret
    exact ⟨ret_int (by rw [HQ.out]), by rw [HQ.out]; exact HGoes.refl H.out⟩
  · obtain ⟨i, rfl, hi, hs4⟩ := there_yes ht
    obtain ⟨c0, c1, c2, c3, c4, c5⟩ := h.cells
    obtain ⟨d0, d1, d2, d3⟩ := h.bcells hi
    have hi0 : (0 : Int) ≤ (i : Int) := by omega
    have hi1 : (i : Int) < (G.l.length : Int) := by
      have : i < G.l.length := hi
      omega
    have hr := hok.rng _ (blk_mem hi)
    have hP : M.view.P = M.P := rfl
    have HDEF : Hid (G.view.drop i = if G.view.there i = false ∨ (G.l.getD i default).l = 0 then (1, G.view) else (0, G.view.put i { G.l.getD i default with l := (G.l.getD i default).l - 1, s := if (G.l.getD i default).s = 2 ∧ (G.l.getD i default).l - 1 = 0 then 3 else (G.l.getD i default).s })) := Lib.hid (by
      unfold Mg.drop; simp only [Int.toNat_natCast])
    rw [ht] at HT HDEF
    have H := Lib.hid h
    have HI := Lib.hid hi
    by_cases hl : (G.l.getD i default).l = 0
    · have HQ : Hid (G.view.drop i = (1, G.view)) := Lib.hid (by rw [HDEF.out, if_pos (.inr hl)])
      rw [hl] at d1
      clear ht h hok hr hl d0 d2 d3 hs4 c0 c2 c3 c4 c5 hi HDEF
      go_enter Try.func40, Try.ntmps40
      go_wp2_with fail
      refine HT.out.mono ?_
      rintro e w' ⟨rfl, rfl⟩
      go_wp2_with fail
      go_ret
      exact ⟨ret_int (by rw [HQ.out]), by rw [HQ.out]; exact HGoes.refl H.out⟩
    · have HQ : Hid (G.view.drop i = (0, G.view.put i { G.l.getD i default with l := (G.l.getD i default).l - 1, s := if (G.l.getD i default).s = 2 ∧ (G.l.getD i default).l - 1 = 0 then 3 else (G.l.getD i default).s })) := Lib.hid (by
        rw [HDEF.out, if_neg (by simpa using hl)])
      have hb := hP32
      have hlb : 0 ≤ (G.l.getD i default).l ∧ (G.l.getD i default).l ≤ 32 := ⟨hr.2.2.1, by have h1 : (G.l.getD i default).l ≤ M.view.P := hr.2.2.2.1; omega⟩
      have h1 := h.cell hi (j := 1) (by decide) (vi ((G.l.getD i default).l - 1)) { G.l.getD i default with l := (G.l.getD i default).l - 1 } rfl
      have h2 := h1.trans (h1.at_.cell (i := i) (j := 0) (by simpa [Mg.put] using hi) (by decide) (vi 3) { G.l.getD i default with l := (G.l.getD i default).l - 1, s := 3 } (by dsimp only [MgM.lay, Mg.put, MgM.view]; rw [blk_set _ _ _ _ hi, if_pos rfl]; rfl))
      simp only [Mg.put, List.set_set, Nat.add_zero] at h1 h2
      have H1 := Lib.hid h1
      have H2 := Lib.hid h2
      have z0 := h.mgr.row.frozen (i * 4)
      have z1 := h.mgr.row.frozen (i * 4 + 1)
      clear h1 h2 HDEF ht h hok hr hs4 c0 c2 c3 c4 c5 hi d2 d3 hb HI
      generalize hxl : (G.l.getD i default).l = xl at *
      generalize hxs : (G.l.getD i default).s = xs at *
      have q1 : IntKind.i64.wrap (xl - 1) = xl - 1 := IntWalk.i64_in _ (by omega)
      have hl' : (xl == 0) = false := beq_eq_false_iff_ne.2 hl
      have hne : ¬ m = G.gl := H.out.ne
      clear hxl hxs
      by_cases h2s : xs = 2
      · have hs' : (xs == 2) = true := beq_iff_eq.2 h2s
        by_cases h1l : xl - 1 = 0
        · have hl'' : (xl - 1 == 0) = true := beq_iff_eq.2 h1l
          rw [if_pos ⟨h2s, h1l⟩] at HQ
          clear h2s h1l hl
          go_enter Try.func40, Try.ntmps40
          go_wp2_with fail
          refine HT.out.mono ?_
          rintro e w' ⟨rfl, rfl⟩
          go_wp2_with fail
          go_ret
          exact ⟨ret_int (by rw [HQ.out]), by rw [HQ.out]; exact H2.out⟩
        · have hl'' : (xl - 1 == 0) = false := beq_eq_false_iff_ne.2 h1l
          rw [if_neg (by simp [h1l])] at HQ
          clear h2s h1l hl
          go_enter Try.func40, Try.ntmps40
          go_wp2_with fail
          refine HT.out.mono ?_
          rintro e w' ⟨rfl, rfl⟩
          go_wp2_with fail
          go_ret
          exact ⟨ret_int (by rw [HQ.out]), by rw [HQ.out]; exact H1.out⟩
      · have hs' : (xs == 2) = false := beq_eq_false_iff_ne.2 h2s
        rw [if_neg (by simp [h2s])] at HQ
        clear h2s hl
        go_enter Try.func40, Try.ntmps40
        go_wp2_with fail
        refine HT.out.mono ?_
        rintro e w' ⟨rfl, rfl⟩
        go_wp2_with fail
        go_ret
        exact ⟨ret_int (by rw [HQ.out]), by rw [HQ.out]; exact H1.out⟩
def idleV (M : ChM) (g : Mg) (k : Int) : Int := g.idle M.view k
set_option maxRecDepth 100000 in
set_option maxHeartbeats 1000000 in
theorem idle_any (h : Held base w m G M) (k : Int) : Calls Try.prog 88 #[ptr m, vi k] w fun e w' => e = .returned (vi (G.view.idle M.view k)) ∧ w' = w := by
  have HT := Lib.hid (there_any h k)
  have HR := Lib.hid (ready_any h)
  have HDEF : Hid (G.view.idle M.view k = if M.down then 4 else if G.view.there k = false ∨ 0 < (G.l.getD k.toNat default).l then 1 else 0) := Lib.hid rfl
  cases hd : M.down
  · rw [hd] at HR HDEF
    rw [if_neg (by decide)] at HDEF HR
    cases ht : G.view.there k
    · rw [ht] at HT
      rw [if_pos (.inl ht)] at HDEF
      clear h ht hd
      go_enter Try.func88, Try.ntmps88
      go_wp2_with fail
      refine HR.out.mono ?_
      rintro e w' ⟨rfl, rfl⟩
      go_wp2_with fail
      refine HT.out.mono ?_
      rintro e w' ⟨rfl, rfl⟩
      go_wp2_with fail
      go_ret
      exact ⟨ret_int HDEF.out.symm, rfl⟩
    · obtain ⟨i, rfl, hi, hs4⟩ := there_yes ht
      obtain ⟨c0, c1, c2, c3, c4, c5⟩ := h.cells
      obtain ⟨d0, d1, d2, d3⟩ := h.bcells hi
      have hi0 : (0 : Int) ≤ (i : Int) := by omega
      have hi1 : (i : Int) < (G.l.length : Int) := by
        have : i < G.l.length := hi
        omega
      rw [ht] at HT HDEF
      rw [Int.toNat_natCast] at HDEF
      clear h ht hd c0 c2 c3 c4 c5 hs4 hi d0 d2 d3
      generalize (G.l.getD i default).l = xl at *
      by_cases hl : 0 < xl
      · rw [if_pos (.inr hl)] at HDEF
        go_enter Try.func88, Try.ntmps88
        go_wp2_with fail
        refine HR.out.mono ?_
        rintro e w' ⟨rfl, rfl⟩
        go_wp2_with fail
        refine HT.out.mono ?_
        rintro e w' ⟨rfl, rfl⟩
        go_wp2_with fail
        go_ret
        exact ⟨ret_int HDEF.out.symm, rfl⟩
      · rw [if_neg (by simp [hl])] at HDEF
        go_enter Try.func88, Try.ntmps88
        go_wp2_with fail
        refine HR.out.mono ?_
        rintro e w' ⟨rfl, rfl⟩
        go_wp2_with fail
        refine HT.out.mono ?_
        rintro e w' ⟨rfl, rfl⟩
        go_wp2_with fail
        go_ret
        exact ⟨ret_int HDEF.out.symm, rfl⟩
  · rw [hd] at HR HDEF
    rw [if_pos rfl] at HDEF HR
    clear h hd HT
    go_enter Try.func88, Try.ntmps88
    go_wp2_with fail
    refine HR.out.mono ?_
    rintro e w' ⟨rfl, rfl⟩
    go_wp2_with fail
    go_ret
    exact ⟨ret_int HDEF.out.symm, rfl⟩
end

end Go.Proofs.Ytpggkehfbhffbaa.mgr
