/-
  HistWrites: a list of operations is written as the reference writes it. No conditions.
-/
import Derived.Test.YtneoeekhinlhgaaGreatHL
import Derived.Test.YtneoeekhinlhgaaGreatHOpen
import Derived.Test.YtneoeekhinlhgaaGreatRows
namespace Go.Proofs.YtneoeekhinlhgaaGreat.histWrites
open Go.ChangeShapes Go.WideShapes Go.ChangeAt Go.RowKit Go.Deep

set_option maxHeartbeats 4000000 in
theorem walk (a : Option Addr) (es : List OpE) (c : Nat) (w : World) (h : ORow w a es) (hl : es.length ≤ 9223372036854775807) :
    Calls Tryz.prog 3 #[.slice a es.length c] w fun e w' => e = .returned (.bool true) ∧ Below w.heap.size w w' := by
  have HR := Lib.hid h
  clear h
  go_enter Tryz.func3, Tryz.ntmps3
  go_wp2_with fail
  refine (Size_any a es c _ HR.out hl).mono ?_
  rintro e w1 ⟨k, hk, hz, rfl, hb⟩
  have HB := Lib.hid hb
  clear hb
  by_cases h2 : 20000 < sizeTo es k
  · go_wp2_with fail
    refine (known_any _).mono ?_
    rintro e w2 ⟨rfl, hb2⟩
    go_wp2_with fail
    go_ret
    exact ⟨rfl, HB.out.trans (hb2.mono HB.out.size)⟩
  obtain rfl : k = es.length := by omega
  obtain ⟨hs, hbl⟩ := size_small (by omega : sizeTo es es.length ≤ 20000)
  go_wp2_with fail
  refine (owns_any a es c _ (HR.out.below HB.out) (by omega)).mono ?_
  rintro e w2 ⟨v2, rfl, ho2, hb2⟩
  have HR2 := Lib.hid ((HR.out.below HB.out).below hb2)
  obtain ⟨a2, c2, rfl, hr2⟩ := ho2.row HR2.out.bytes HR2.out.fits HR2.out.lens
  have HB2 := Lib.hid (HB.out.trans (hb2.mono HB.out.size))
  have HO := Lib.hid hr2
  clear hb2 hr2 ho2 HB
  go_wp2_with fail
  refine (Write_any a2 es c2 _ HO.out (by omega) (by omega)).mono ?_
  rintro e w3 ⟨v3, rfl, ho3, hb3⟩
  have HB3 := Lib.hid (HB2.out.trans (hb3.mono HB2.out.size))
  have HR3 := Lib.hid (HR2.out.below hb3)
  obtain ⟨a3, c3, rfl, hr3, -⟩ := ho3.row (write_small _ (ops_fits HR2.out.fits))
  have HW3 := Lib.hid hr3
  clear hb3 ho3 hr3 HB2 HR2
  go_wp2_with fail
  refine (RWrite_any a es c _ HR3.out (by omega) (by omega)).mono ?_
  rintro e w4 ⟨v4, rfl, ho4, hb4⟩
  have HB4 := Lib.hid (HB3.out.trans (hb4.mono HB3.out.size))
  obtain ⟨a4, c4, rfl, hr4, -⟩ := ho4.row (write_small _ (ops_fits HR3.out.fits))
  have HW4 := Lib.hid (HW3.out.below hb4)
  have HX4 := Lib.hid hr4
  clear hb4 ho4 hr4 HB3 HR3 HW3
  generalize (HP.writeL (opsOf es)).2 = x at *
  generalize (HP.writeL (opsOf es)).1 = l at *
  have e1 : (x == x) = true := by simp
  go_wp2_with fail
  refine (SameBytes_any a3 a4 l c3 c4 _ HW4.out HX4.out).mono ?_
  rintro e w5 ⟨rfl, rfl⟩
  go_wp2_with fail
  refine (known_any _).mono ?_
  rintro e w6 ⟨rfl, hb6⟩
  go_wp2_with fail
  go_ret
  exact ⟨rfl, HB4.out.trans (hb6.mono HB4.out.size)⟩

set_option maxRecDepth 100000 in
theorem lifted (os : Os) (started : os.Started) (H : Type) (enc : TypeId × Value → H) :
    ReturnsInHanded {} Tryz.checked os 3 .any (Rows.histWritesSpec.pre6 enc Tryz.prog Tryz.f3 Rows.histWritesRow.domain false) (Rows.histWritesSpec.post enc Tryz.prog Tryz.f3 false true false false) := by
  refine returnsInHanded_of_change_sized (C := Tryz.checked) own started (by kernel_rfl) Tryz.func3
    (ChangeSpec.witness6 (enc := enc) (C := Tryz.checked) false ⟨#[], #[.slice none 0 0], []⟩ 8 (by kernel_rfl) (by kernel_rfl) (by kernel_rfl) (by kernel_rfl)) ?_
  intro W base args ds gs before hval0 hW hcnd hwt _
  have hval : ∀ (j : Nat) t v, Tryz.f3.params[j]? = some t → args[j]? = some v → Value.okWide Tryz.prog W .any base t v := hval0
  have hW' := hW
  obtain ⟨p, q, hA0, hV, rfl, hfz, hnd⟩ := hW
  have hA : DataW.TrodAll enc Tryz.prog W 0 (fun _ => true) true Tryz.f3.params.toList args.toList ds p := hA0
  rw [Tryz.params3] at hA hval hwt
  obtain ⟨v0, vs0, d0, ds0, p0, q0, hargs, rfl, rfl, h0, r0⟩ := trodAll_cons hA
  obtain ⟨rfl, rfl, rfl⟩ := trodAll_nil r0
  obtain rfl : args = #[v0] := by cases args; simp_all
  obtain ⟨rfl, rfl⟩ := trodVars_none hV
  obtain ⟨s0, es0, c0, rfl, hrow0, hl0⟩ := open_ops h0 (hval 0 22 v0 rfl rfl) (weights_at hwt (j := 0) rfl rfl)
  refine (walk s0 es0 c0 W hrow0 hl0).mono fun e W' ⟨he, bel⟩ => ?_
  subst he
  exact ⟨_, rfl, law_close laidOut (by kernel_rfl) hW' rfl bel rfl Tryz.underlying4 rfl⟩

set_option maxRecDepth 100000 in
set_option maxHeartbeats 20000000 in
theorem facts : joinedFacts Tryz.pinned.checked.prog 3 Tryz.f3 Rows.histWritesSpec Rows.histWritesRow = true := by
  unfold joinedFacts
  simp only [Bool.and_eq_true]
  and_intros
  all_goals as_aux_lemma => kernel_rfl

theorem over : Rows.histWritesRow.holds Tryz.pinned (OpenSpec.ofChange Rows.histWritesSpec) :=
  OpenClaim.holds_of_wide 3 Tryz.f3 rfl rfl rfl rfl rfl rfl rfl ⟨rfl, rfl, rfl, rfl, rfl⟩ rfl rfl rfl rfl rfl (by kernel_rfl) Tryz.func3 facts
    (of_decide_eq_true (by kernel_rfl)) (by unfold Func.isWrapper; first | (rw [if_pos (by decide +kernel)]; kernel_rfl) | (rw [if_neg (by decide +kernel)]; exact ⟨rfl, rfl⟩))
    (fun os started H enc _ => lifted os started H enc)

theorem proved : Rows.HistWritesSaid := over
#print axioms proved
end Go.Proofs.YtneoeekhinlhgaaGreat.histWrites
