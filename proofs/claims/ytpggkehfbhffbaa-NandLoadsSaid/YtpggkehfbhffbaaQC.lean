/-
  An operation done on both, whatever it is. Conditions: both are told by Two, and hold the same.
-/
import Derived.Test.YtpggkehfbhffbaaQB
namespace Go.Proofs.Ytpggkehfbhffbaa
open Go.RowKit

theorem NP.read_small {c : NP.Chp} (h : c.ok) (k p : Int) : ∀ x ∈ (NP.readP c k p).1.1, x < 256 := by
  unfold NP.readP
  dsimp only
  split
  · rename_i he
    obtain ⟨_, h0, h1, h2, h3⟩ := NP.asked_zero he
    dsimp only
    split
    · intro x hx
      rw [(List.mem_replicate.1 hx).2]
      decide
    · rename_i hne
      have hm := h.mem (k := k.toNat) (by omega)
      have hpl : p.toNat < (c.blk k.toNat).ps.length := by rw [h.pages _ hm]; omega
      exact h.small _ hm _ (NP.getD_mem hpl)
  · intro x hx
    cases hx

section
variable {base : Nat} {w w' w'' wa wb : World} {k q : Nat} {M M' M'' : ChM} {R R' R'' : RefM}
set_option maxRecDepth 100000 in
set_option maxHeartbeats 4000000 in
theorem plays4 (h : Two base w k M q R) (hs : M.view = R.view) (hok : M.view.ok) (o : OpM) (hk : o.kind = 4) : Calls Try.prog 17 #[ptr k, ptr q, .agg o.cs] w (PlaysPost base w k M q R (NP.readP M.view o.block o.page).2) := by
  obtain ⟨kind, block, page, ba, b, bc, fa, fs, fc⟩ := o
  dsimp only at hk ⊢
  subst hk
  have H0 := Lib.hid h
  have F0 := Blk.new w 43 #[vi 4, vi block, vi page, .slice ba b.length bc, .slice fa fs.length fc]
  have HB := Lib.hid (alloc_box w #[vi 4, vi block, vi page, .slice ba b.length bc, .slice fa fs.length fc] 43)
  have HLT := Lib.hid h.lt
  have HS := Lib.hid hs
  have HOK := Lib.hid hok
  have HSM := Lib.hid (NP.read_small hok block page)
  clear h hs hok
  go_enter Try.func17, Try.ntmps17
  go_upto_region 9 with fail
  generalize w.alloc (.cells #[vi 4, vi block, vi page, .slice ba b.length bc, .slice fa fs.length fc] 43) = w1 at *
  have H1 := Lib.hid (H0.out.old HB.out)
  have HK : Hid (∀ w', Chg (foot2 k M q R) w1 w' → w'.cell? ⟨w.heap.size, 1, none⟩ = some (vi block) ∧ w'.cell? ⟨w.heap.size, 2, none⟩ = some (vi page)) := Lib.hid (fun w' c => by
    have := F0.chg c (fun e => by have := HLT.out _ e; omega)
    exact ⟨this.cell 1, this.cell 2⟩)
  obtain ⟨c1, c2⟩ := HK.out w1 (Chg.refl _ _)
  clear F0
  go_wp2_with fail
  refine (Read_any H1.out.a HOK.out block page).mono ?_
  rintro e wa ⟨v, Ma, rfl, hov, hga, hva⟩
  obtain ⟨a1, n1, rfl, hr1, -⟩ := hov.srow (base := base) HSM.out
  have HGA := Lib.hid hga
  have HVA := Lib.hid hva
  have HR1 := Lib.hid hr1
  have cA := Lib.hid (hga.chg.mono (F' := foot2 k M q R) (fun n _ e => .inl e))
  have HTW := Lib.hid (H1.out.left hga)
  obtain ⟨d1, d2⟩ := HK.out wa cA.out
  clear c1 c2 hga hva hr1 hov
  go_wp2_with fail
  refine (rRead_any HTW.out.at_.b (by rw [← HS.out]; exact HOK.out) block page).mono ?_
  rw [← HS.out]
  rintro e wb ⟨v2, Ra, rfl, hov2, hgb, hvb⟩
  obtain ⟨a2, n2, rfl, hr2, -⟩ := hov2.row HSM.out
  have HGB := Lib.hid hgb
  have HVB := Lib.hid hvb
  have HR2 := Lib.hid hr2
  have HR3 : Hid (BRow wb a1 (NP.readP M.view block page).1.1) := Lib.hid (HR1.out.chg hgb.chg HTW.out.at_.b.mine).row
  clear d1 d2 hgb hvb hr2 hov2
  generalize hx : (NP.readP M.view block page).1.2 = x at *
  clear hx
  have e1 : (x == x) = true := by simp
  go_wp2_with fail
  refine (SameBytes_any n1 n2 HR3.out HR2.out).mono ?_
  rw [decide_eq_true rfl]
  rintro e w' ⟨rfl, rfl⟩
  go_wp2_with fail
  go_ret
  exact .mk (H0.out.ab HB.out HGA.out HGB.out) HVA.out HVB.out

set_option maxRecDepth 100000 in
set_option maxHeartbeats 4000000 in
theorem plays5 (h : Two base w k M q R) (hs : M.view = R.view) (o : OpM) (hk : o.kind = 5) : Calls Try.prog 17 #[ptr k, ptr q, .agg o.cs] w (PlaysPost base w k M q R (NP.downP M.view)) := by
  obtain ⟨kind, block, page, ba, b, bc, fa, fs, fc⟩ := o
  dsimp only at hk ⊢
  subst hk
  have H0 := Lib.hid h
  have HB := Lib.hid (alloc_box w #[vi 5, vi block, vi page, .slice ba b.length bc, .slice fa fs.length fc] 43)
  have HS := Lib.hid hs
  clear h hs
  go_enter Try.func17, Try.ntmps17
  go_upto_region 13 with fail
  generalize w.alloc (.cells #[vi 5, vi block, vi page, .slice ba b.length bc, .slice fa fs.length fc] 43) = w1 at *
  have H1 := Lib.hid (H0.out.old HB.out)
  go_wp2_with fail
  refine (Lose_any H1.out.a).mono ?_
  rintro e wa ⟨rfl, hga⟩
  have HGA := Lib.hid hga
  have HTW := Lib.hid (H1.out.left hga).at_.b
  have c10 : wa.cell? ⟨q, 10, none⟩ = some (.bool R.down) := HTW.out.chip.cell 10
  have z10 := HTW.out.chip.frozen 10
  clear hga
  have HGB : Hid (RGoes base wa q R (wa.setCell ⟨q, 10, none⟩ (.bool true)) (downR R true)) := Lib.hid (HTW.out.field (R' := downR R true) 10 (.bool true) rfl rfl)
  go_wp2_with fail
  go_ret
  exact .mk (H0.out.ab HB.out HGA.out HGB.out) rfl (by rw [HS.out]; rfl)

set_option maxRecDepth 100000 in
set_option maxHeartbeats 4000000 in
theorem plays6 (h : Two base w k M q R) (hs : M.view = R.view) (o : OpM) (hk : o.kind = 6) : Calls Try.prog 17 #[ptr k, ptr q, .agg o.cs] w (PlaysPost base w k M q R (NP.upP M.view)) := by
  obtain ⟨kind, block, page, ba, b, bc, fa, fs, fc⟩ := o
  dsimp only at hk ⊢
  subst hk
  have H0 := Lib.hid h
  have HB := Lib.hid (alloc_box w #[vi 6, vi block, vi page, .slice ba b.length bc, .slice fa fs.length fc] 43)
  have HS := Lib.hid hs
  clear h hs
  go_enter Try.func17, Try.ntmps17
  go_upto_region 16 with fail
  generalize w.alloc (.cells #[vi 6, vi block, vi page, .slice ba b.length bc, .slice fa fs.length fc] 43) = w1 at *
  have H1 := Lib.hid (H0.out.old HB.out)
  go_wp2_with fail
  refine (Start_any H1.out.a).mono ?_
  rintro e wa ⟨rfl, hga⟩
  have HGA := Lib.hid hga
  have HTW := Lib.hid (H1.out.left hga).at_.b
  have c10 : wa.cell? ⟨q, 10, none⟩ = some (.bool R.down) := HTW.out.chip.cell 10
  have z10 := HTW.out.chip.frozen 10
  clear hga
  have HGB : Hid (RGoes base wa q R (wa.setCell ⟨q, 10, none⟩ (.bool false)) (downR R false)) := Lib.hid (HTW.out.field (R' := downR R false) 10 (.bool false) rfl rfl)
  go_wp2_with fail
  go_ret
  exact .mk (H0.out.ab HB.out HGA.out HGB.out) rfl (by rw [HS.out]; rfl)

set_option maxRecDepth 100000 in
set_option maxHeartbeats 4000000 in
theorem plays0 (h : Two base w k M q R) (hs : M.view = R.view) (o : OpM) (h1 : ¬ o.kind = 1) (h2 : ¬ o.kind = 2) (h3 : ¬ o.kind = 3) (h4 : ¬ o.kind = 4) (h5 : ¬ o.kind = 5) (h6 : ¬ o.kind = 6) (h7 : ¬ o.kind = 7) :
    Calls Try.prog 17 #[ptr k, ptr q, .agg o.cs] w (PlaysPost base w k M q R M.view) := by
  obtain ⟨kind, block, page, ba, b, bc, fa, fs, fc⟩ := o
  dsimp only at h1 h2 h3 h4 h5 h6 h7 ⊢
  have H0 := Lib.hid h
  have HB := Lib.hid (alloc_box w #[vi kind, vi block, vi page, .slice ba b.length bc, .slice fa fs.length fc] 43)
  have HS := Lib.hid hs
  clear h hs
  go_enter Try.func17, Try.ntmps17
  go_wp2_with fail
  go_ret
  exact .mk (TwoGoes.of_old H0.out HB.out) rfl HS.out.symm

theorem plays_any (h : Two base w k M q R) (hs : M.view = R.view) (hok : M.view.ok) (o : OpM) (ho : o.ok base w) (hw : o.b.length ≤ 9000 ∧ o.fs.length ≤ 9000 ∧ ∀ f ∈ o.fs, f.l.length ≤ 9000) (hbase : base ≤ w.heap.size) :
    Calls Try.prog 17 #[ptr k, ptr q, .agg o.cs] w (PlaysPost base w k M q R (NP.act M.view (actOf o))) := by
  unfold actOf
  by_cases h1 : o.kind = 1
  · rw [if_pos h1]; exact plays1 h hs hok o ho h1
  rw [if_neg h1]
  by_cases h2 : o.kind = 2
  · rw [if_pos h2]; exact plays2 h hs hok o ho h2
  rw [if_neg h2]
  by_cases h3 : o.kind = 3
  · rw [if_pos h3]; exact plays3 h hs hok o ho h3
  rw [if_neg h3]
  by_cases h4 : o.kind = 4
  · rw [if_pos h4]; exact plays4 h hs hok o h4
  rw [if_neg h4]
  by_cases h5 : o.kind = 5
  · rw [if_pos h5]; exact plays5 h hs o h5
  rw [if_neg h5]
  by_cases h6 : o.kind = 6
  · rw [if_pos h6]; exact plays6 h hs o h6
  rw [if_neg h6]
  by_cases h7 : o.kind = 7
  · rw [if_pos h7]; exact plays7 h hs hok o ho hw hbase h7
  rw [if_neg h7]
  exact plays0 h hs o h1 h2 h3 h4 h5 h6 h7
end

end Go.Proofs.Ytpggkehfbhffbaa
