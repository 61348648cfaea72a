/-
  An operation done on both, whatever they hold. Conditions: both are told by Two, and right.
-/
import Derived.Test.YtpggkehfbhffbaaQD
import Derived.Deep.RegionHeld3
namespace Go.Proofs.Ytpggkehfbhffbaa
open Go.RowKit

section
variable {base : Nat} {w w' w'' wa wb : World} {k q : Nat} {M M' M'' : ChM} {R R' R'' : RefM}
/-- What plays leaves, whatever both hold. -/
def GPlays (base : Nat) (w : World) (k : Nat) (M : ChM) (q : Nat) (R : RefM) (a : NP.Act) (e : Ending) (w' : World) : Prop :=
  ∃ M' R' z, e = .returned (.bool z) ∧ TwoGoes base w k M q R w' M' R' ∧ M'.view = NP.act M.view a ∧ R'.view = NP.act R.view a ∧ (M.view = R.view → z = true)
theorem GPlays.mk {a : NP.Act} {z : Bool} (hg : TwoGoes base w k M q R w' M' R') (h1 : M'.view = NP.act M.view a) (h2 : R'.view = NP.act R.view a) (hz : M.view = R.view → z = true) : GPlays base w k M q R a (.returned (.bool z)) w' := ⟨M', R', z, rfl, hg, h1, h2, hz⟩
set_option maxRecDepth 100000 in
set_option maxHeartbeats 4000000 in
theorem gplays1 (h : Two base w k M q R) (hok : M.view.ok) (hokr : R.view.ok) (o : OpM) (ho : o.ok base w) (hk : o.kind = 1) : Calls Try.prog 17 #[ptr k, ptr q, .agg o.cs] w (GPlays base w k M q R (.program o.block o.page o.b)) := by
  obtain ⟨kind, block, page, ba, b, bc, fa, fs, fc⟩ := o
  dsimp only at hk ⊢
  subst hk
  have H0 := Lib.hid h
  have F0 := Blk.new w 43 #[vi 1, vi block, vi page, .slice ba b.length bc, .slice fa fs.length fc]
  have HB := Lib.hid (alloc_box w #[vi 1, vi block, vi page, .slice ba b.length bc, .slice fa fs.length fc] 43)
  have HO := Lib.hid ho
  have HLT := Lib.hid h.lt
  have HOK := Lib.hid hok
  have HOKR := Lib.hid hokr
  clear h hok hokr ho
  go_enter Try.func17, Try.ntmps17
  go_upto_region 3 with fail
  generalize w.alloc (.cells #[vi 1, vi block, vi page, .slice ba b.length bc, .slice fa fs.length fc] 43) = w1 at *
  have H1 := Lib.hid (H0.out.old HB.out)
  have HO1 := Lib.hid (HO.out.chg (F := fun _ => False) (Chg.of_below HB.out) (fun _ e => e.elim))
  have HK : Hid (∀ w', Chg (foot2 k M q R) w1 w' → w'.cell? ⟨w.heap.size, 1, none⟩ = some (vi block) ∧ w'.cell? ⟨w.heap.size, 2, none⟩ = some (vi page) ∧ w'.cell? ⟨w.heap.size, 3, none⟩ = some (.slice ba b.length bc)) := Lib.hid (fun w' c => by
    have := F0.chg c (fun e => by have := HLT.out _ e; omega)
    exact ⟨this.cell 1, this.cell 2, this.cell 3⟩)
  have HA : Hid (∀ w', Chg (R.foot q) w1 w' → Calls Try.prog 21 #[ptr k, vi block, vi page, .slice ba b.length bc] w' fun e w2 => ∃ M', e = .returned (vi (NP.program M.view block page b).1) ∧ Goes base w' k M w2 M' ∧ M'.view = NP.act M.view (.program block page b)) := Lib.hid (fun w' c => Program_any (H1.out.leftAt c) HOK.out block page ba b bc (HO1.out.bytes.chg c H1.out.b.mine))
  have HR : Hid (∀ w', Chg (M.foot k) w1 w' → Calls Try.prog 65 #[ptr q, vi block, vi page, .slice ba b.length bc] w' fun e w2 => ∃ R', e = .returned (vi (NP.program R.view block page b).1) ∧ RGoes base w' q R w2 R' ∧ R'.view = NP.act R.view (.program block page b)) := Lib.hid (fun w' c => rProgram_any (H1.out.rightAt c) HOKR.out block page ba b bc (HO1.out.bytes.chg c H1.out.a.mine))
  have HZ : Hid (M.view = R.view → (NP.program M.view block page b).1 = (NP.program R.view block page b).1) := Lib.hid (fun e => by rw [e])
  have cD := Lib.hid (Chg.drew (Chg.refl (foot2 k M q R) w1))
  have cR := Lib.hid (Chg.drew (Chg.refl (R.foot q) w1))
  have cM := Lib.hid (Chg.drew (Chg.refl (M.foot k) w1))
  have HBD : Hid (Below w.heap.size w w1.drew) := Lib.hid HB.out.drew
  clear F0 HO HO1
  generalize (NP.program M.view block page b).1 = x at *
  generalize (NP.program R.view block page b).1 = y at *
  go_region_held3 (fun w' => w'.cell? ⟨w.heap.size, 1, none⟩ = some (vi block) ∧ w'.cell? ⟨w.heap.size, 2, none⟩ = some (vi page) ∧ w'.cell? ⟨w.heap.size, 3, none⟩ = some (.slice ba b.length bc))
    (first | exact HK.out _ cD3.out | exact HK.out _ cD2.out | exact HK.out _ cD.out)
    (first
      | (go_at_call 21; refine (HA.out _ cR.out).mono ?_; rintro e wa ⟨Ma, rfl, hga, hva⟩; have HGA := Lib.hid hga; have HVA := Lib.hid hva; have cD2 := Lib.hid (cD.out.trans hga.chg (fun n _ e => Or.inl e)); have cM2 := Lib.hid (cM.out.trans hga.chg (fun n _ e => e)); clear hga hva cR cM)
      | (go_at_call 65; refine (HR.out _ cM2.out).mono ?_; rintro e wb ⟨Ra, rfl, hgb, hvb⟩; have HGB := Lib.hid hgb; have HVB := Lib.hid hvb; have cD3 := Lib.hid (cD2.out.trans hgb.chg (fun n _ e => Or.inr e)); clear hgb hvb))
  go_wp2_with fail
  go_ret
  exact .mk (H0.out.ab HBD.out HGA.out HGB.out) HVA.out HVB.out (fun e => by rw [HZ.out e]; simp)

set_option maxRecDepth 100000 in
set_option maxHeartbeats 4000000 in
theorem gplays2 (h : Two base w k M q R) (hok : M.view.ok) (hokr : R.view.ok) (o : OpM) (ho : o.ok base w) (hk : o.kind = 2) : Calls Try.prog 17 #[ptr k, ptr q, .agg o.cs] w (GPlays base w k M q R (.erase o.block)) := by
  obtain ⟨kind, block, page, ba, b, bc, fa, fs, fc⟩ := o
  dsimp only at hk ⊢
  subst hk
  have H0 := Lib.hid h
  have F0 := Blk.new w 43 #[vi 2, vi block, vi page, .slice ba b.length bc, .slice fa fs.length fc]
  have HB := Lib.hid (alloc_box w #[vi 2, vi block, vi page, .slice ba b.length bc, .slice fa fs.length fc] 43)
  have HO := Lib.hid ho
  have HLT := Lib.hid h.lt
  have HOK := Lib.hid hok
  have HOKR := Lib.hid hokr
  clear h hok hokr ho
  go_enter Try.func17, Try.ntmps17
  go_upto_region 5 with fail
  generalize w.alloc (.cells #[vi 2, vi block, vi page, .slice ba b.length bc, .slice fa fs.length fc] 43) = w1 at *
  have H1 := Lib.hid (H0.out.old HB.out)
  have HO1 := Lib.hid (HO.out.chg (F := fun _ => False) (Chg.of_below HB.out) (fun _ e => e.elim))
  have HK : Hid (∀ w', Chg (foot2 k M q R) w1 w' → w'.cell? ⟨w.heap.size, 1, none⟩ = some (vi block)) := Lib.hid (fun w' c => by
    have := F0.chg c (fun e => by have := HLT.out _ e; omega)
    exact this.cell 1)
  have HA : Hid (∀ w', Chg (R.foot q) w1 w' → Calls Try.prog 22 #[ptr k, vi block] w' fun e w2 => ∃ M', e = .returned (vi (NP.erase M.view block).1) ∧ Goes base w' k M w2 M' ∧ M'.view = NP.act M.view (.erase block)) := Lib.hid (fun w' c => Erase_any (H1.out.leftAt c) HOK.out block)
  have HR : Hid (∀ w', Chg (M.foot k) w1 w' → Calls Try.prog 66 #[ptr q, vi block] w' fun e w2 => ∃ R', e = .returned (vi (NP.erase R.view block).1) ∧ RGoes base w' q R w2 R' ∧ R'.view = NP.act R.view (.erase block)) := Lib.hid (fun w' c => rErase_any (H1.out.rightAt c) HOKR.out block)
  have HZ : Hid (M.view = R.view → (NP.erase M.view block).1 = (NP.erase R.view block).1) := Lib.hid (fun e => by rw [e])
  have cD := Lib.hid (Chg.drew (Chg.refl (foot2 k M q R) w1))
  have cR := Lib.hid (Chg.drew (Chg.refl (R.foot q) w1))
  have cM := Lib.hid (Chg.drew (Chg.refl (M.foot k) w1))
  have HBD : Hid (Below w.heap.size w w1.drew) := Lib.hid HB.out.drew
  clear F0 HO HO1
  generalize (NP.erase M.view block).1 = x at *
  generalize (NP.erase R.view block).1 = y at *
  go_region_held3 (fun w' => w'.cell? ⟨w.heap.size, 1, none⟩ = some (vi block))
    (first | exact HK.out _ cD3.out | exact HK.out _ cD2.out | exact HK.out _ cD.out)
    (first
      | (go_at_call 22; refine (HA.out _ cR.out).mono ?_; rintro e wa ⟨Ma, rfl, hga, hva⟩; have HGA := Lib.hid hga; have HVA := Lib.hid hva; have cD2 := Lib.hid (cD.out.trans hga.chg (fun n _ e => Or.inl e)); have cM2 := Lib.hid (cM.out.trans hga.chg (fun n _ e => e)); clear hga hva cR cM)
      | (go_at_call 66; refine (HR.out _ cM2.out).mono ?_; rintro e wb ⟨Ra, rfl, hgb, hvb⟩; have HGB := Lib.hid hgb; have HVB := Lib.hid hvb; have cD3 := Lib.hid (cD2.out.trans hgb.chg (fun n _ e => Or.inr e)); clear hgb hvb))
  go_wp2_with fail
  go_ret
  exact .mk (H0.out.ab HBD.out HGA.out HGB.out) HVA.out HVB.out (fun e => by rw [HZ.out e]; simp)

set_option maxRecDepth 100000 in
set_option maxHeartbeats 4000000 in
theorem gplays3 (h : Two base w k M q R) (hok : M.view.ok) (hokr : R.view.ok) (o : OpM) (ho : o.ok base w) (hk : o.kind = 3) : Calls Try.prog 17 #[ptr k, ptr q, .agg o.cs] w (GPlays base w k M q R (.mark o.block)) := by
  obtain ⟨kind, block, page, ba, b, bc, fa, fs, fc⟩ := o
  dsimp only at hk ⊢
  subst hk
  have H0 := Lib.hid h
  have F0 := Blk.new w 43 #[vi 3, vi block, vi page, .slice ba b.length bc, .slice fa fs.length fc]
  have HB := Lib.hid (alloc_box w #[vi 3, vi block, vi page, .slice ba b.length bc, .slice fa fs.length fc] 43)
  have HO := Lib.hid ho
  have HLT := Lib.hid h.lt
  have HOK := Lib.hid hok
  have HOKR := Lib.hid hokr
  clear h hok hokr ho
  go_enter Try.func17, Try.ntmps17
  go_upto_region 7 with fail
  generalize w.alloc (.cells #[vi 3, vi block, vi page, .slice ba b.length bc, .slice fa fs.length fc] 43) = w1 at *
  have H1 := Lib.hid (H0.out.old HB.out)
  have HO1 := Lib.hid (HO.out.chg (F := fun _ => False) (Chg.of_below HB.out) (fun _ e => e.elim))
  have HK : Hid (∀ w', Chg (foot2 k M q R) w1 w' → w'.cell? ⟨w.heap.size, 1, none⟩ = some (vi block)) := Lib.hid (fun w' c => by
    have := F0.chg c (fun e => by have := HLT.out _ e; omega)
    exact this.cell 1)
  have HA : Hid (∀ w', Chg (R.foot q) w1 w' → Calls Try.prog 23 #[ptr k, vi block] w' fun e w2 => ∃ M', e = .returned (vi (NP.mark M.view block).1) ∧ Goes base w' k M w2 M' ∧ M'.view = NP.act M.view (.mark block)) := Lib.hid (fun w' c => Mark_any (H1.out.leftAt c) HOK.out block)
  have HR : Hid (∀ w', Chg (M.foot k) w1 w' → Calls Try.prog 67 #[ptr q, vi block] w' fun e w2 => ∃ R', e = .returned (vi (NP.mark R.view block).1) ∧ RGoes base w' q R w2 R' ∧ R'.view = NP.act R.view (.mark block)) := Lib.hid (fun w' c => rMark_any (H1.out.rightAt c) block)
  have HZ : Hid (M.view = R.view → (NP.mark M.view block).1 = (NP.mark R.view block).1) := Lib.hid (fun e => by rw [e])
  have cD := Lib.hid (Chg.drew (Chg.refl (foot2 k M q R) w1))
  have cR := Lib.hid (Chg.drew (Chg.refl (R.foot q) w1))
  have cM := Lib.hid (Chg.drew (Chg.refl (M.foot k) w1))
  have HBD : Hid (Below w.heap.size w w1.drew) := Lib.hid HB.out.drew
  clear F0 HO HO1
  generalize (NP.mark M.view block).1 = x at *
  generalize (NP.mark R.view block).1 = y at *
  go_region_held3 (fun w' => w'.cell? ⟨w.heap.size, 1, none⟩ = some (vi block))
    (first | exact HK.out _ cD3.out | exact HK.out _ cD2.out | exact HK.out _ cD.out)
    (first
      | (go_at_call 23; refine (HA.out _ cR.out).mono ?_; rintro e wa ⟨Ma, rfl, hga, hva⟩; have HGA := Lib.hid hga; have HVA := Lib.hid hva; have cD2 := Lib.hid (cD.out.trans hga.chg (fun n _ e => Or.inl e)); have cM2 := Lib.hid (cM.out.trans hga.chg (fun n _ e => e)); clear hga hva cR cM)
      | (go_at_call 67; refine (HR.out _ cM2.out).mono ?_; rintro e wb ⟨Ra, rfl, hgb, hvb⟩; have HGB := Lib.hid hgb; have HVB := Lib.hid hvb; have cD3 := Lib.hid (cD2.out.trans hgb.chg (fun n _ e => Or.inr e)); clear hgb hvb))
  go_wp2_with fail
  go_ret
  exact .mk (H0.out.ab HBD.out HGA.out HGB.out) HVA.out HVB.out (fun e => by rw [HZ.out e]; simp)

set_option maxRecDepth 100000 in
set_option maxHeartbeats 4000000 in
theorem gplays7 (h : Two base w k M q R) (hok : M.view.ok) (hokr : R.view.ok) (o : OpM) (ho : o.ok base w) (hw : o.b.length ≤ 9000 ∧ o.fs.length ≤ 9000 ∧ ∀ f ∈ o.fs, f.l.length ≤ 9000) (hbase : base ≤ w.heap.size) (hk : o.kind = 7) : Calls Try.prog 17 #[ptr k, ptr q, .agg o.cs] w (GPlays base w k M q R (.script (o.fs.map (·.view)))) := by
  obtain ⟨kind, block, page, ba, b, bc, fa, fs, fc⟩ := o
  dsimp only at hk ⊢
  subst hk
  have H0 := Lib.hid h
  have F0 := Blk.new w 43 #[vi 7, vi block, vi page, .slice ba b.length bc, .slice fa fs.length fc]
  have HB := Lib.hid (alloc_box w #[vi 7, vi block, vi page, .slice ba b.length bc, .slice fa fs.length fc] 43)
  have HO := Lib.hid ho
  have HLT := Lib.hid h.lt
  have HOK := Lib.hid hok
  have HOKR := Lib.hid hokr
  clear h hok hokr ho
  go_enter Try.func17, Try.ntmps17
  go_upto_region 19 with fail
  generalize w.alloc (.cells #[vi 7, vi block, vi page, .slice ba b.length bc, .slice fa fs.length fc] 43) = w1 at *
  have H1 := Lib.hid (H0.out.old HB.out)
  have HO1 := Lib.hid (HO.out.chg (F := fun _ => False) (Chg.of_below HB.out) (fun _ e => e.elim))
  have HK : Hid (∀ w', Chg (foot2 k M q R) w1 w' → w'.cell? ⟨w.heap.size, 4, none⟩ = some (.slice fa fs.length fc)) := Lib.hid (fun w' c => by
    have := F0.chg c (fun e => by have := HLT.out _ e; omega)
    exact this.cell 4)
  have HA : Hid (∀ w', Chg (R.foot q) w1 w' → Calls Try.prog 24 #[ptr k, .slice fa fs.length fc] w' fun e w2 => ∃ M', e = .returned (vi (NP.script M.view (fs.map (·.view))).1) ∧ Goes base w' k M w2 M' ∧ M'.view = NP.act M.view (.script (fs.map (·.view)))) := Lib.hid (fun w' c => Script_any (H1.out.leftAt c) (Nat.le_trans hbase (Nat.le_trans HB.out.size c.size)) fa fs fc (HO1.out.faults.chg c H1.out.b.mine) (fun f hf => by have := hw.2.2 f hf; omega) (by have := hw.2.1; dsimp only at this; omega))
  have HR : Hid (∀ w', Chg (M.foot k) w1 w' → Calls Try.prog 69 #[ptr q, .slice fa fs.length fc] w' fun e w2 => ∃ R', e = .returned (vi (NP.script R.view (fs.map (·.view))).1) ∧ RGoes base w' q R w2 R' ∧ R'.view = NP.act R.view (.script (fs.map (·.view)))) := Lib.hid (fun w' c => rScript_any (H1.out.rightAt c) fa fs fc (HO1.out.faults.chg c H1.out.a.mine))
  have HZ : Hid (M.view = R.view → (NP.script M.view (fs.map (·.view))).1 = (NP.script R.view (fs.map (·.view))).1) := Lib.hid (fun e => by rw [e])
  have cD := Lib.hid (Chg.drew (Chg.refl (foot2 k M q R) w1))
  have cR := Lib.hid (Chg.drew (Chg.refl (R.foot q) w1))
  have cM := Lib.hid (Chg.drew (Chg.refl (M.foot k) w1))
  have HBD : Hid (Below w.heap.size w w1.drew) := Lib.hid HB.out.drew
  clear F0 HO HO1
  generalize (NP.script M.view (fs.map (·.view))).1 = x at *
  generalize (NP.script R.view (fs.map (·.view))).1 = y at *
  go_region_held3 (fun w' => w'.cell? ⟨w.heap.size, 4, none⟩ = some (.slice fa fs.length fc))
    (first | exact HK.out _ cD3.out | exact HK.out _ cD2.out | exact HK.out _ cD.out)
    (first
      | (go_at_call 24; refine (HA.out _ cR.out).mono ?_; rintro e wa ⟨Ma, rfl, hga, hva⟩; have HGA := Lib.hid hga; have HVA := Lib.hid hva; have cD2 := Lib.hid (cD.out.trans hga.chg (fun n _ e => Or.inl e)); have cM2 := Lib.hid (cM.out.trans hga.chg (fun n _ e => e)); clear hga hva cR cM)
      | (go_at_call 69; refine (HR.out _ cM2.out).mono ?_; rintro e wb ⟨Ra, rfl, hgb, hvb⟩; have HGB := Lib.hid hgb; have HVB := Lib.hid hvb; have cD3 := Lib.hid (cD2.out.trans hgb.chg (fun n _ e => Or.inr e)); clear hgb hvb))
  go_wp2_with fail
  go_ret
  exact .mk (H0.out.ab HBD.out HGA.out HGB.out) HVA.out HVB.out (fun e => by rw [HZ.out e]; simp)

set_option maxRecDepth 100000 in
set_option maxHeartbeats 4000000 in
theorem gplays4 (h : Two base w k M q R) (hok : M.view.ok) (hokr : R.view.ok) (o : OpM) (hk : o.kind = 4) : Calls Try.prog 17 #[ptr k, ptr q, .agg o.cs] w (GPlays base w k M q R (.read o.block o.page)) := by
  obtain ⟨kind, block, page, ba, b, bc, fa, fs, fc⟩ := o
  dsimp only at hk ⊢
  subst hk
  have H0 := Lib.hid h
  have F0 := Blk.new w 43 #[vi 4, vi block, vi page, .slice ba b.length bc, .slice fa fs.length fc]
  have HB := Lib.hid (alloc_box w #[vi 4, vi block, vi page, .slice ba b.length bc, .slice fa fs.length fc] 43)
  have HLT := Lib.hid h.lt
  have HOK := Lib.hid hok
  have HSM := Lib.hid (NP.read_small hok block page)
  have HOKR := Lib.hid hokr
  have HSMR := Lib.hid (NP.read_small hokr block page)
  clear hokr
  clear h hok
  go_enter Try.func17, Try.ntmps17
  go_upto_region 9 with fail
  generalize w.alloc (.cells #[vi 4, vi block, vi page, .slice ba b.length bc, .slice fa fs.length fc] 43) = w1 at *
  have H1 := Lib.hid (H0.out.old HB.out)
  have HK : Hid (∀ w', Chg (foot2 k M q R) w1 w' → w'.cell? ⟨w.heap.size, 1, none⟩ = some (vi block) ∧ w'.cell? ⟨w.heap.size, 2, none⟩ = some (vi page)) := Lib.hid (fun w' c => by
    have := F0.chg c (fun e => by have := HLT.out _ e; omega)
    exact ⟨this.cell 1, this.cell 2⟩)
  obtain ⟨c1, c2⟩ := HK.out w1 (Chg.refl _ _)
  clear F0
  go_wp2_with fail
  refine (Read_any H1.out.a HOK.out block page).mono ?_
  rintro e wa ⟨v, Ma, rfl, hov, hga, hva⟩
  obtain ⟨a1, n1, rfl, hr1, -⟩ := hov.srow (base := base) HSM.out
  have HGA := Lib.hid hga
  have HVA := Lib.hid hva
  have HR1 := Lib.hid hr1
  have cA := Lib.hid (hga.chg.mono (F' := foot2 k M q R) (fun n _ e => .inl e))
  have HTW := Lib.hid (H1.out.left hga)
  obtain ⟨d1, d2⟩ := HK.out wa cA.out
  clear c1 c2 hga hva hr1 hov
  go_wp2_with fail
  refine (rRead_any HTW.out.at_.b HOKR.out block page).mono ?_
  rintro e wb ⟨v2, Ra, rfl, hov2, hgb, hvb⟩
  obtain ⟨a2, n2, rfl, hr2, -⟩ := hov2.row HSMR.out
  have HGB := Lib.hid hgb
  have HVB := Lib.hid hvb
  have HR2 := Lib.hid hr2
  have HR3 : Hid (BRow wb a1 (NP.readP M.view block page).1.1) := Lib.hid (HR1.out.chg hgb.chg HTW.out.at_.b.mine).row
  clear d1 d2 hgb hvb hr2 hov2
  have HZ : Hid (M.view = R.view → (NP.readP M.view block page).1 = (NP.readP R.view block page).1) := Lib.hid (fun e => by rw [e])
  have HVA' : Hid (Ma.view = NP.act M.view (.read block page)) := HVA
  have HVB' : Hid (Ra.view = NP.act R.view (.read block page)) := HVB
  clear HVA HVB HSM HSMR
  generalize (NP.readP M.view block page).1 = r1 at *
  generalize (NP.readP R.view block page).1 = r2 at *
  obtain ⟨l1, x⟩ := r1
  obtain ⟨l2, y⟩ := r2
  dsimp only at *
  go_wp2_with fail
  refine (SameBytes_any n1 n2 HR3.out HR2.out).mono ?_
  rintro e w' ⟨rfl, rfl⟩
  by_cases he : l1 = l2
  · have hd : decide (l1 = l2) = true := by simp [he]
    rw [hd]
    clear he hd
    go_wp2_with fail
    go_ret
    exact .mk (H0.out.ab HB.out HGA.out HGB.out) HVA'.out HVB'.out (fun e => by have := HZ.out e; injection this with _ e2; rw [e2]; simp)
  · have HNE := Lib.hid he
    have hd : decide (l1 = l2) = false := by simp [he]
    rw [hd]
    clear he hd
    go_wp2_with fail
    go_ret
    exact .mk (H0.out.ab HB.out HGA.out HGB.out) HVA'.out HVB'.out (fun e => by have := HZ.out e; injection this with e1 _; exact absurd e1 HNE.out)

set_option maxRecDepth 100000 in
set_option maxHeartbeats 4000000 in
theorem gplays5 (h : Two base w k M q R) (o : OpM) (hk : o.kind = 5) : Calls Try.prog 17 #[ptr k, ptr q, .agg o.cs] w (GPlays base w k M q R .lose) := by
  obtain ⟨kind, block, page, ba, b, bc, fa, fs, fc⟩ := o
  dsimp only at hk ⊢
  subst hk
  have H0 := Lib.hid h
  have HB := Lib.hid (alloc_box w #[vi 5, vi block, vi page, .slice ba b.length bc, .slice fa fs.length fc] 43)
  clear h
  go_enter Try.func17, Try.ntmps17
  go_upto_region 13 with fail
  generalize w.alloc (.cells #[vi 5, vi block, vi page, .slice ba b.length bc, .slice fa fs.length fc] 43) = w1 at *
  have H1 := Lib.hid (H0.out.old HB.out)
  go_wp2_with fail
  refine (Lose_any H1.out.a).mono ?_
  rintro e wa ⟨rfl, hga⟩
  have HGA := Lib.hid hga
  have HTW := Lib.hid (H1.out.left hga).at_.b
  have c10 : wa.cell? ⟨q, 10, none⟩ = some (.bool R.down) := HTW.out.chip.cell 10
  have z10 := HTW.out.chip.frozen 10
  clear hga
  have HGB : Hid (RGoes base wa q R (wa.setCell ⟨q, 10, none⟩ (.bool true)) (downR R true)) := Lib.hid (HTW.out.field (R' := downR R true) 10 (.bool true) rfl rfl)
  go_wp2_with fail
  go_ret
  exact .mk (H0.out.ab HB.out HGA.out HGB.out) rfl rfl (fun _ => rfl)

set_option maxRecDepth 100000 in
set_option maxHeartbeats 4000000 in
theorem gplays6 (h : Two base w k M q R) (o : OpM) (hk : o.kind = 6) : Calls Try.prog 17 #[ptr k, ptr q, .agg o.cs] w (GPlays base w k M q R .start) := by
  obtain ⟨kind, block, page, ba, b, bc, fa, fs, fc⟩ := o
  dsimp only at hk ⊢
  subst hk
  have H0 := Lib.hid h
  have HB := Lib.hid (alloc_box w #[vi 6, vi block, vi page, .slice ba b.length bc, .slice fa fs.length fc] 43)
  clear h
  go_enter Try.func17, Try.ntmps17
  go_upto_region 16 with fail
  generalize w.alloc (.cells #[vi 6, vi block, vi page, .slice ba b.length bc, .slice fa fs.length fc] 43) = w1 at *
  have H1 := Lib.hid (H0.out.old HB.out)
  go_wp2_with fail
  refine (Start_any H1.out.a).mono ?_
  rintro e wa ⟨rfl, hga⟩
  have HGA := Lib.hid hga
  have HTW := Lib.hid (H1.out.left hga).at_.b
  have c10 : wa.cell? ⟨q, 10, none⟩ = some (.bool R.down) := HTW.out.chip.cell 10
  have z10 := HTW.out.chip.frozen 10
  clear hga
  have HGB : Hid (RGoes base wa q R (wa.setCell ⟨q, 10, none⟩ (.bool false)) (downR R false)) := Lib.hid (HTW.out.field (R' := downR R false) 10 (.bool false) rfl rfl)
  go_wp2_with fail
  go_ret
  exact .mk (H0.out.ab HB.out HGA.out HGB.out) rfl rfl (fun _ => rfl)

set_option maxRecDepth 100000 in
set_option maxHeartbeats 4000000 in
theorem gplays0 (h : Two base w k M q R) (o : OpM) (h1 : ¬ o.kind = 1) (h2 : ¬ o.kind = 2) (h3 : ¬ o.kind = 3) (h4 : ¬ o.kind = 4) (h5 : ¬ o.kind = 5) (h6 : ¬ o.kind = 6) (h7 : ¬ o.kind = 7) :
    Calls Try.prog 17 #[ptr k, ptr q, .agg o.cs] w (GPlays base w k M q R .none) := by
  obtain ⟨kind, block, page, ba, b, bc, fa, fs, fc⟩ := o
  dsimp only at h1 h2 h3 h4 h5 h6 h7 ⊢
  have H0 := Lib.hid h
  have HB := Lib.hid (alloc_box w #[vi kind, vi block, vi page, .slice ba b.length bc, .slice fa fs.length fc] 43)
  clear h
  go_enter Try.func17, Try.ntmps17
  go_wp2_with fail
  go_ret
  exact .mk (TwoGoes.of_old H0.out HB.out) rfl rfl (fun _ => rfl)

theorem gplays_any (h : Two base w k M q R) (hok : M.view.ok) (hokr : R.view.ok) (o : OpM) (ho : o.ok base w) (hw : o.b.length ≤ 9000 ∧ o.fs.length ≤ 9000 ∧ ∀ f ∈ o.fs, f.l.length ≤ 9000) (hbase : base ≤ w.heap.size) :
    Calls Try.prog 17 #[ptr k, ptr q, .agg o.cs] w (GPlays base w k M q R (actOf o)) := by
  unfold actOf
  by_cases h1 : o.kind = 1
  · rw [if_pos h1]; exact gplays1 h hok hokr o ho h1
  rw [if_neg h1]
  by_cases h2 : o.kind = 2
  · rw [if_pos h2]; exact gplays2 h hok hokr o ho h2
  rw [if_neg h2]
  by_cases h3 : o.kind = 3
  · rw [if_pos h3]; exact gplays3 h hok hokr o ho h3
  rw [if_neg h3]
  by_cases h4 : o.kind = 4
  · rw [if_pos h4]; exact gplays4 h hok hokr o h4
  rw [if_neg h4]
  by_cases h5 : o.kind = 5
  · rw [if_pos h5]; exact gplays5 h o h5
  rw [if_neg h5]
  by_cases h6 : o.kind = 6
  · rw [if_pos h6]; exact gplays6 h o h6
  rw [if_neg h6]
  by_cases h7 : o.kind = 7
  · rw [if_pos h7]; exact gplays7 h hok hokr o ho hw hbase h7
  rw [if_neg h7]
  exact gplays0 h o h1 h2 h3 h4 h5 h6 h7
end

end Go.Proofs.Ytpggkehfbhffbaa
