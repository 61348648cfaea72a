/-
  An operation done on both: they answer alike, and stay alike. Conditions: both are told by Two, and hold the same.
-/
import Derived.Test.YtpggkehfbhffbaaQA
import Derived.Test.YtpggkehfbhffbaaRO
import Derived.Deep.RegionHeld3
namespace Go.Proofs.Ytpggkehfbhffbaa
open Go.RowKit

section
variable {base : Nat} {w w' w'' wa wb : World} {k q : Nat} {M M' M'' : ChM} {R R' R'' : RefM}
theorem alloc_box (w : World) (cs : Array Value) (t : TypeId) : Below w.heap.size w (w.alloc (.cells cs t)) := (Below.refl _ _).alloc (Nat.le_refl _) _

set_option maxRecDepth 100000 in
set_option maxHeartbeats 4000000 in
theorem plays1 (h : Two base w k M q R) (hs : M.view = R.view) (hok : M.view.ok) (o : OpM) (ho : o.ok base w) (hk : o.kind = 1) : Calls Try.prog 17 #[ptr k, ptr q, .agg o.cs] w (PlaysPost base w k M q R (NP.program M.view o.block o.page o.b).2) := by
  obtain ⟨kind, block, page, ba, b, bc, fa, fs, fc⟩ := o
  dsimp only at hk ⊢
  subst hk
  have H0 := Lib.hid h
  have F0 := Blk.new w 43 #[vi 1, vi block, vi page, .slice ba b.length bc, .slice fa fs.length fc]
  have HB := Lib.hid (alloc_box w #[vi 1, vi block, vi page, .slice ba b.length bc, .slice fa fs.length fc] 43)
  have HO := Lib.hid ho
  have HLT := Lib.hid h.lt
  have HS := Lib.hid hs
  have HOK := Lib.hid hok
  clear h hs hok ho
  go_enter Try.func17, Try.ntmps17
  go_upto_region 3 with fail
  generalize w.alloc (.cells #[vi 1, vi block, vi page, .slice ba b.length bc, .slice fa fs.length fc] 43) = w1 at *
  have H1 := Lib.hid (H0.out.old HB.out)
  have HO1 := Lib.hid (HO.out.chg (F := fun _ => False) (Chg.of_below HB.out) (fun _ e => e.elim))
  have HK : Hid (∀ w', Chg (foot2 k M q R) w1 w' → w'.cell? ⟨w.heap.size, 1, none⟩ = some (vi block) ∧ w'.cell? ⟨w.heap.size, 2, none⟩ = some (vi page) ∧ w'.cell? ⟨w.heap.size, 3, none⟩ = some (.slice ba b.length bc)) := Lib.hid (fun w' c => by
    have := F0.chg c (fun e => by have := HLT.out _ e; omega)
    exact ⟨this.cell 1, this.cell 2, this.cell 3⟩)
  have HA : Hid (∀ w', Chg (R.foot q) w1 w' → Calls Try.prog 21 #[ptr k, vi block, vi page, .slice ba b.length bc] w' fun e w2 => ∃ M', e = .returned (vi (NP.program M.view block page b).1) ∧ Goes base w' k M w2 M' ∧ M'.view = (NP.program M.view block page b).2) := Lib.hid (fun w' c => Program_any (H1.out.leftAt c) HOK.out block page ba b bc (HO1.out.bytes.chg c H1.out.b.mine))
  have HR : Hid (∀ w', Chg (M.foot k) w1 w' → Calls Try.prog 65 #[ptr q, vi block, vi page, .slice ba b.length bc] w' fun e w2 => ∃ R', e = .returned (vi (NP.program M.view block page b).1) ∧ RGoes base w' q R w2 R' ∧ R'.view = (NP.program M.view block page b).2) := Lib.hid (fun w' c => by
    rw [HS.out]
    exact rProgram_any (H1.out.rightAt c) (by rw [← HS.out]; exact HOK.out) block page ba b bc (HO1.out.bytes.chg c H1.out.a.mine))
  have cD := Lib.hid (Chg.drew (Chg.refl (foot2 k M q R) w1))
  have cR := Lib.hid (Chg.drew (Chg.refl (R.foot q) w1))
  have cM := Lib.hid (Chg.drew (Chg.refl (M.foot k) w1))
  have HBD : Hid (Below w.heap.size w w1.drew) := Lib.hid HB.out.drew
  clear F0 HO HO1
  generalize (NP.program M.view block page b).1 = x at *
  generalize (NP.program M.view block page b).2 = V at *
  go_region_held3 (fun w' => w'.cell? ⟨w.heap.size, 1, none⟩ = some (vi block) ∧ w'.cell? ⟨w.heap.size, 2, none⟩ = some (vi page) ∧ w'.cell? ⟨w.heap.size, 3, none⟩ = some (.slice ba b.length bc))
    (first | exact HK.out _ cD3.out | exact HK.out _ cD2.out | exact HK.out _ cD.out)
    (first
      | (go_at_call 21; refine (HA.out _ cR.out).mono ?_; rintro e wa ⟨Ma, rfl, hga, hva⟩; have HGA := Lib.hid hga; have HVA := Lib.hid hva; have cD2 := Lib.hid (cD.out.trans hga.chg (fun n _ e => Or.inl e)); have cM2 := Lib.hid (cM.out.trans hga.chg (fun n _ e => e)); clear hga hva cR cM)
      | (go_at_call 65; refine (HR.out _ cM2.out).mono ?_; rintro e wb ⟨Ra, rfl, hgb, hvb⟩; have HGB := Lib.hid hgb; have HVB := Lib.hid hvb; have cD3 := Lib.hid (cD2.out.trans hgb.chg (fun n _ e => Or.inr e)); clear hgb hvb))
  go_wp2_with fail
  go_ret
  exact .mk (H0.out.ab HBD.out HGA.out HGB.out) HVA.out HVB.out

set_option maxRecDepth 100000 in
set_option maxHeartbeats 4000000 in
theorem plays2 (h : Two base w k M q R) (hs : M.view = R.view) (hok : M.view.ok) (o : OpM) (ho : o.ok base w) (hk : o.kind = 2) : Calls Try.prog 17 #[ptr k, ptr q, .agg o.cs] w (PlaysPost base w k M q R (NP.erase M.view o.block).2) := by
  obtain ⟨kind, block, page, ba, b, bc, fa, fs, fc⟩ := o
  dsimp only at hk ⊢
  subst hk
  have H0 := Lib.hid h
  have F0 := Blk.new w 43 #[vi 2, vi block, vi page, .slice ba b.length bc, .slice fa fs.length fc]
  have HB := Lib.hid (alloc_box w #[vi 2, vi block, vi page, .slice ba b.length bc, .slice fa fs.length fc] 43)
  have HO := Lib.hid ho
  have HLT := Lib.hid h.lt
  have HS := Lib.hid hs
  have HOK := Lib.hid hok
  clear h hs hok ho
  go_enter Try.func17, Try.ntmps17
  go_upto_region 5 with fail
  generalize w.alloc (.cells #[vi 2, vi block, vi page, .slice ba b.length bc, .slice fa fs.length fc] 43) = w1 at *
  have H1 := Lib.hid (H0.out.old HB.out)
  have HO1 := Lib.hid (HO.out.chg (F := fun _ => False) (Chg.of_below HB.out) (fun _ e => e.elim))
  have HK : Hid (∀ w', Chg (foot2 k M q R) w1 w' → w'.cell? ⟨w.heap.size, 1, none⟩ = some (vi block)) := Lib.hid (fun w' c => by
    have := F0.chg c (fun e => by have := HLT.out _ e; omega)
    exact this.cell 1)
  have HA : Hid (∀ w', Chg (R.foot q) w1 w' → Calls Try.prog 22 #[ptr k, vi block] w' fun e w2 => ∃ M', e = .returned (vi (NP.erase M.view block).1) ∧ Goes base w' k M w2 M' ∧ M'.view = (NP.erase M.view block).2) := Lib.hid (fun w' c => Erase_any (H1.out.leftAt c) HOK.out block)
  have HR : Hid (∀ w', Chg (M.foot k) w1 w' → Calls Try.prog 66 #[ptr q, vi block] w' fun e w2 => ∃ R', e = .returned (vi (NP.erase M.view block).1) ∧ RGoes base w' q R w2 R' ∧ R'.view = (NP.erase M.view block).2) := Lib.hid (fun w' c => by
    rw [HS.out]
    exact rErase_any (H1.out.rightAt c) (by rw [← HS.out]; exact HOK.out) block)
  have cD := Lib.hid (Chg.drew (Chg.refl (foot2 k M q R) w1))
  have cR := Lib.hid (Chg.drew (Chg.refl (R.foot q) w1))
  have cM := Lib.hid (Chg.drew (Chg.refl (M.foot k) w1))
  have HBD : Hid (Below w.heap.size w w1.drew) := Lib.hid HB.out.drew
  clear F0 HO HO1
  generalize (NP.erase M.view block).1 = x at *
  generalize (NP.erase M.view block).2 = V at *
  go_region_held3 (fun w' => w'.cell? ⟨w.heap.size, 1, none⟩ = some (vi block))
    (first | exact HK.out _ cD3.out | exact HK.out _ cD2.out | exact HK.out _ cD.out)
    (first
      | (go_at_call 22; refine (HA.out _ cR.out).mono ?_; rintro e wa ⟨Ma, rfl, hga, hva⟩; have HGA := Lib.hid hga; have HVA := Lib.hid hva; have cD2 := Lib.hid (cD.out.trans hga.chg (fun n _ e => Or.inl e)); have cM2 := Lib.hid (cM.out.trans hga.chg (fun n _ e => e)); clear hga hva cR cM)
      | (go_at_call 66; refine (HR.out _ cM2.out).mono ?_; rintro e wb ⟨Ra, rfl, hgb, hvb⟩; have HGB := Lib.hid hgb; have HVB := Lib.hid hvb; have cD3 := Lib.hid (cD2.out.trans hgb.chg (fun n _ e => Or.inr e)); clear hgb hvb))
  go_wp2_with fail
  go_ret
  exact .mk (H0.out.ab HBD.out HGA.out HGB.out) HVA.out HVB.out

set_option maxRecDepth 100000 in
set_option maxHeartbeats 4000000 in
theorem plays3 (h : Two base w k M q R) (hs : M.view = R.view) (hok : M.view.ok) (o : OpM) (ho : o.ok base w) (hk : o.kind = 3) : Calls Try.prog 17 #[ptr k, ptr q, .agg o.cs] w (PlaysPost base w k M q R (NP.mark M.view o.block).2) := by
  obtain ⟨kind, block, page, ba, b, bc, fa, fs, fc⟩ := o
  dsimp only at hk ⊢
  subst hk
  have H0 := Lib.hid h
  have F0 := Blk.new w 43 #[vi 3, vi block, vi page, .slice ba b.length bc, .slice fa fs.length fc]
  have HB := Lib.hid (alloc_box w #[vi 3, vi block, vi page, .slice ba b.length bc, .slice fa fs.length fc] 43)
  have HO := Lib.hid ho
  have HLT := Lib.hid h.lt
  have HS := Lib.hid hs
  have HOK := Lib.hid hok
  clear h hs hok ho
  go_enter Try.func17, Try.ntmps17
  go_upto_region 7 with fail
  generalize w.alloc (.cells #[vi 3, vi block, vi page, .slice ba b.length bc, .slice fa fs.length fc] 43) = w1 at *
  have H1 := Lib.hid (H0.out.old HB.out)
  have HO1 := Lib.hid (HO.out.chg (F := fun _ => False) (Chg.of_below HB.out) (fun _ e => e.elim))
  have HK : Hid (∀ w', Chg (foot2 k M q R) w1 w' → w'.cell? ⟨w.heap.size, 1, none⟩ = some (vi block)) := Lib.hid (fun w' c => by
    have := F0.chg c (fun e => by have := HLT.out _ e; omega)
    exact this.cell 1)
  have HA : Hid (∀ w', Chg (R.foot q) w1 w' → Calls Try.prog 23 #[ptr k, vi block] w' fun e w2 => ∃ M', e = .returned (vi (NP.mark M.view block).1) ∧ Goes base w' k M w2 M' ∧ M'.view = (NP.mark M.view block).2) := Lib.hid (fun w' c => Mark_any (H1.out.leftAt c) HOK.out block)
  have HR : Hid (∀ w', Chg (M.foot k) w1 w' → Calls Try.prog 67 #[ptr q, vi block] w' fun e w2 => ∃ R', e = .returned (vi (NP.mark M.view block).1) ∧ RGoes base w' q R w2 R' ∧ R'.view = (NP.mark M.view block).2) := Lib.hid (fun w' c => by
    rw [HS.out]
    exact rMark_any (H1.out.rightAt c) block)
  have cD := Lib.hid (Chg.drew (Chg.refl (foot2 k M q R) w1))
  have cR := Lib.hid (Chg.drew (Chg.refl (R.foot q) w1))
  have cM := Lib.hid (Chg.drew (Chg.refl (M.foot k) w1))
  have HBD : Hid (Below w.heap.size w w1.drew) := Lib.hid HB.out.drew
  clear F0 HO HO1
  generalize (NP.mark M.view block).1 = x at *
  generalize (NP.mark M.view block).2 = V at *
  go_region_held3 (fun w' => w'.cell? ⟨w.heap.size, 1, none⟩ = some (vi block))
    (first | exact HK.out _ cD3.out | exact HK.out _ cD2.out | exact HK.out _ cD.out)
    (first
      | (go_at_call 23; refine (HA.out _ cR.out).mono ?_; rintro e wa ⟨Ma, rfl, hga, hva⟩; have HGA := Lib.hid hga; have HVA := Lib.hid hva; have cD2 := Lib.hid (cD.out.trans hga.chg (fun n _ e => Or.inl e)); have cM2 := Lib.hid (cM.out.trans hga.chg (fun n _ e => e)); clear hga hva cR cM)
      | (go_at_call 67; refine (HR.out _ cM2.out).mono ?_; rintro e wb ⟨Ra, rfl, hgb, hvb⟩; have HGB := Lib.hid hgb; have HVB := Lib.hid hvb; have cD3 := Lib.hid (cD2.out.trans hgb.chg (fun n _ e => Or.inr e)); clear hgb hvb))
  go_wp2_with fail
  go_ret
  exact .mk (H0.out.ab HBD.out HGA.out HGB.out) HVA.out HVB.out

set_option maxRecDepth 100000 in
set_option maxHeartbeats 4000000 in
theorem plays7 (h : Two base w k M q R) (hs : M.view = R.view) (hok : M.view.ok) (o : OpM) (ho : o.ok base w) (hw : o.b.length ≤ 9000 ∧ o.fs.length ≤ 9000 ∧ ∀ f ∈ o.fs, f.l.length ≤ 9000) (hbase : base ≤ w.heap.size) (hk : o.kind = 7) : Calls Try.prog 17 #[ptr k, ptr q, .agg o.cs] w (PlaysPost base w k M q R (NP.script M.view (o.fs.map (·.view))).2) := by
  obtain ⟨kind, block, page, ba, b, bc, fa, fs, fc⟩ := o
  dsimp only at hk ⊢
  subst hk
  have H0 := Lib.hid h
  have F0 := Blk.new w 43 #[vi 7, vi block, vi page, .slice ba b.length bc, .slice fa fs.length fc]
  have HB := Lib.hid (alloc_box w #[vi 7, vi block, vi page, .slice ba b.length bc, .slice fa fs.length fc] 43)
  have HO := Lib.hid ho
  have HLT := Lib.hid h.lt
  have HS := Lib.hid hs
  have HOK := Lib.hid hok
  clear h hs hok ho
  go_enter Try.func17, Try.ntmps17
  go_upto_region 19 with fail
  generalize w.alloc (.cells #[vi 7, vi block, vi page, .slice ba b.length bc, .slice fa fs.length fc] 43) = w1 at *
  have H1 := Lib.hid (H0.out.old HB.out)
  have HO1 := Lib.hid (HO.out.chg (F := fun _ => False) (Chg.of_below HB.out) (fun _ e => e.elim))
  have HK : Hid (∀ w', Chg (foot2 k M q R) w1 w' → w'.cell? ⟨w.heap.size, 4, none⟩ = some (.slice fa fs.length fc)) := Lib.hid (fun w' c => by
    have := F0.chg c (fun e => by have := HLT.out _ e; omega)
    exact this.cell 4)
  have HA : Hid (∀ w', Chg (R.foot q) w1 w' → Calls Try.prog 24 #[ptr k, .slice fa fs.length fc] w' fun e w2 => ∃ M', e = .returned (vi (NP.script M.view (fs.map (·.view))).1) ∧ Goes base w' k M w2 M' ∧ M'.view = (NP.script M.view (fs.map (·.view))).2) := Lib.hid (fun w' c => Script_any (H1.out.leftAt c) (Nat.le_trans hbase (Nat.le_trans HB.out.size c.size)) fa fs fc (HO1.out.faults.chg c H1.out.b.mine) (fun f hf => by have := hw.2.2 f hf; omega) (by have := hw.2.1; dsimp only at this; omega))
  have HR : Hid (∀ w', Chg (M.foot k) w1 w' → Calls Try.prog 69 #[ptr q, .slice fa fs.length fc] w' fun e w2 => ∃ R', e = .returned (vi (NP.script M.view (fs.map (·.view))).1) ∧ RGoes base w' q R w2 R' ∧ R'.view = (NP.script M.view (fs.map (·.view))).2) := Lib.hid (fun w' c => by
    rw [HS.out]
    exact rScript_any (H1.out.rightAt c) fa fs fc (HO1.out.faults.chg c H1.out.a.mine))
  have cD := Lib.hid (Chg.drew (Chg.refl (foot2 k M q R) w1))
  have cR := Lib.hid (Chg.drew (Chg.refl (R.foot q) w1))
  have cM := Lib.hid (Chg.drew (Chg.refl (M.foot k) w1))
  have HBD : Hid (Below w.heap.size w w1.drew) := Lib.hid HB.out.drew
  clear F0 HO HO1
  generalize (NP.script M.view (fs.map (·.view))).1 = x at *
  go_region_held3 (fun w' => w'.cell? ⟨w.heap.size, 4, none⟩ = some (.slice fa fs.length fc))
    (first | exact HK.out _ cD3.out | exact HK.out _ cD2.out | exact HK.out _ cD.out)
    (first
      | (go_at_call 24; refine (HA.out _ cR.out).mono ?_; rintro e wa ⟨Ma, rfl, hga, hva⟩; have HGA := Lib.hid hga; have HVA := Lib.hid hva; have cD2 := Lib.hid (cD.out.trans hga.chg (fun n _ e => Or.inl e)); have cM2 := Lib.hid (cM.out.trans hga.chg (fun n _ e => e)); clear hga hva cR cM)
      | (go_at_call 69; refine (HR.out _ cM2.out).mono ?_; rintro e wb ⟨Ra, rfl, hgb, hvb⟩; have HGB := Lib.hid hgb; have HVB := Lib.hid hvb; have cD3 := Lib.hid (cD2.out.trans hgb.chg (fun n _ e => Or.inr e)); clear hgb hvb))
  go_wp2_with fail
  go_ret
  exact .mk (H0.out.ab HBD.out HGA.out HGB.out) HVA.out HVB.out

end

end Go.Proofs.Ytpggkehfbhffbaa
