/-
  HistBack: what was written is read back, and what was read is written back. No conditions.
-/
import Derived.Test.YtneoeekhinlhgaaGreatHN
import Derived.Test.YtneoeekhinlhgaaGreatHOpen
import Derived.Test.YtneoeekhinlhgaaGreatRows
namespace Go.Proofs.YtneoeekhinlhgaaGreat.histBack
open Go.ChangeShapes Go.WideShapes Go.ChangeAt Go.RowKit Go.Deep

set_option maxRecDepth 100000 in
set_option maxHeartbeats 4000000 in
theorem walk (a : Option Addr) (es : List OpE) (c : Nat) (s : Option Addr) (x : List Nat) (d : Nat) (w : World) (h : ORow w a es) (hl : es.length ≤ 9223372036854775807)
    (hx : BRow w s x) (hd : x.length ≤ d) (hm : d ≤ maxLen) :
    Calls Tryz.prog 5 #[.slice a es.length c, .slice s x.length d] w fun e w' => e = .returned (.bool true) ∧ Below w.heap.size w w' := by
  have HR := Lib.hid h
  have HX := Lib.hid hx
  have HD := Lib.hid hd
  have HM := Lib.hid hm
  clear h hx hd hm
  go_enter Tryz.func5, Tryz.ntmps5
  go_wp2_with fail
  refine (Size_any a es c _ HR.out hl).mono ?_
  rintro e w1 ⟨m, hk, hz, rfl, hb⟩
  have HB := Lib.hid hb
  clear hb
  by_cases h2 : 20000 < sizeTo es m
  · go_wp2_with fail
    refine (known_any _).mono ?_
    rintro e w2 ⟨rfl, hb2⟩
    go_wp2_with fail
    go_ret
    exact ⟨rfl, HB.out.trans (hb2.mono HB.out.size)⟩
  by_cases h4 : 9000 < x.length
  · go_wp2_with fail
    refine (known_any _).mono ?_
    rintro e w2 ⟨rfl, hb2⟩
    go_wp2_with fail
    go_ret
    exact ⟨rfl, HB.out.trans (hb2.mono HB.out.size)⟩
  obtain rfl : m = es.length := by omega
  obtain ⟨hs, hbl⟩ := size_small (by omega : sizeTo es es.length ≤ 20000)
  go_wp2_with fail
  refine (owns_any a es c _ (HR.out.below HB.out) (by omega)).mono ?_
  rintro e w2 ⟨v2, rfl, ho2, hb2⟩
  have HR2 := Lib.hid ((HR.out.below HB.out).below hb2)
  obtain ⟨a2, c2, rfl, hr2⟩ := ho2.row HR2.out.bytes HR2.out.fits HR2.out.lens
  have HB2 := Lib.hid (HB.out.trans (hb2.mono HB.out.size))
  have HO := Lib.hid hr2
  clear hb2 hr2 ho2 HB
  go_wp2_with fail
  refine (Write_any a2 es c2 _ HO.out (by omega) (by omega)).mono ?_
  rintro e w3 ⟨v3, rfl, ho3, hb3⟩
  have HB3 := Lib.hid (HB2.out.trans (hb3.mono HB2.out.size))
  have HR3 := Lib.hid (HR2.out.below hb3)
  have hf := ops_fits HR2.out.fits
  have hwl := write_len (opsOf es)
  obtain ⟨a3, c3, rfl, hr3, hc3, hm3⟩ := own_cap ho3 (write_small _ hf)
  have HRW := Lib.hid (fun h => HP.read_write (l := opsOf es) (b := (HP.writeL (opsOf es)).1) hf (by omega) (Prod.ext rfl h))
  have HW3 := Lib.hid hr3
  clear hb3 ho3 hr3 HB2 HR2 hf
  generalize (HP.writeL (opsOf es)).1 = l at *
  generalize (HP.writeL (opsOf es)).2 = f at *
  go_wp2_with fail
  refine (Read_all a3 l c3 _ HW3.out (by omega) hc3 hm3).mono ?_
  rintro e w4 ⟨fs, s4, c4, rfl, hr4, he4, hb4⟩
  have HB4 := Lib.hid (HB3.out.trans (hb4.mono HB3.out.size))
  have HR4 := Lib.hid (HR3.out.below hb4)
  have HF4 := Lib.hid hr4
  have HE4 := Lib.hid he4
  clear hb4 hr4 he4 HB3 HR3 HW3 hc3 hm3 hwl
  by_cases hf0 : f = 0
  · subst hf0
    have hRd := HRW.out rfl
    have HE5 := Lib.hid (HE4.out.trans (congrArg Prod.fst hRd))
    have hg : (HP.readL l).2 = 0 := congrArg Prod.snd hRd
    rw [hg]
    clear hg hRd HE4 HRW
    go_wp2_with fail
    refine (same_any s4 a fs es c4 c _ HF4.out HR4.out HE5.out ?_).mono ?_
    · have := congrArg List.length HE5.out
      rw [opsOf_length, opsOf_length] at this
      omega
    rintro e w5 ⟨rfl, hb5⟩
    have HB5 := Lib.hid (HB4.out.trans (hb5.mono HB4.out.size))
    clear hb5 HB4 HR4 HF4 HE5
    go_wp2_with fail
    refine (Read_all s x d _ (HX.out.below HB5.out) (by omega) HD.out HM.out).mono ?_
    rintro e w6 ⟨gs, s6, c6, rfl, hr6, he6, hb6⟩
    have HB6 := Lib.hid (HB5.out.trans (hb6.mono HB5.out.size))
    have hsm := read_small HX.out.small (by omega)
    rw [← he6, opsOf_length] at hsm
    have HF6 := Lib.hid hr6
    have HE6 := Lib.hid he6
    clear hb6 HB5 hr6 he6
    obtain ⟨hs1, hs2⟩ := hsm
    go_wp2_with fail
    refine (Write_any s6 gs c6 _ HF6.out hs1 hs2).mono ?_
    rintro e w7 ⟨v7, rfl, ho7, hb7⟩
    have HB7 := Lib.hid (HB6.out.trans (hb7.mono HB6.out.size))
    obtain ⟨a7, c7, rfl, hr7, -⟩ := ho7.row (write_small _ (ops_fits HF6.out.fits))
    have HW7 := Lib.hid hr7
    clear hb7 HB6 ho7 hr7 hs1 hs2
    by_cases hr0 : (HP.readL x).2 = 0
    · have hw := (HP.write_read HX.out.small (l := opsOf gs) (b := x) (Prod.ext HE6.out.symm hr0)).1
      have HW8 := HW7
      rw [hw] at HW8
      rw [hr0, hw]
      clear HW7 hr0 HE6 HF6 hw
      go_wp2_with fail
      refine (SameBytes_any s a7 x d c7 _ (HX.out.below HB7.out) HW8.out).mono ?_
      rintro e w8 ⟨rfl, rfl⟩
      go_wp2_with fail
      refine (known_any _).mono ?_
      rintro e w9 ⟨rfl, hb9⟩
      go_wp2_with fail
      go_ret
      exact ⟨rfl, HB7.out.trans (hb9.mono HB7.out.size)⟩
    · generalize (HP.readL x).2 = y at hr0
      go_wp2_with fail
      refine (known_any _).mono ?_
      rintro e w9 ⟨rfl, hb9⟩
      go_wp2_with fail
      go_ret
      exact ⟨by simp, HB7.out.trans (hb9.mono HB7.out.size)⟩
  · clear HRW HE4 HF4 HR4
    have HB5 := HB4
    clear HB4
    generalize (HP.readL l).2 = g
    go_wp2_with fail
    refine (Read_all s x d _ (HX.out.below HB5.out) (by omega) HD.out HM.out).mono ?_
    rintro e w6 ⟨gs, s6, c6, rfl, hr6, he6, hb6⟩
    have HB6 := Lib.hid (HB5.out.trans (hb6.mono HB5.out.size))
    have hsm := read_small HX.out.small (by omega)
    rw [← he6, opsOf_length] at hsm
    have HF6 := Lib.hid hr6
    have HE6 := Lib.hid he6
    clear hb6 HB5 hr6 he6
    obtain ⟨hs1, hs2⟩ := hsm
    go_wp2_with fail
    refine (Write_any s6 gs c6 _ HF6.out hs1 hs2).mono ?_
    rintro e w7 ⟨v7, rfl, ho7, hb7⟩
    have HB7 := Lib.hid (HB6.out.trans (hb7.mono HB6.out.size))
    obtain ⟨a7, c7, rfl, hr7, -⟩ := ho7.row (write_small _ (ops_fits HF6.out.fits))
    have HW7 := Lib.hid hr7
    clear hb7 HB6 ho7 hr7 hs1 hs2
    by_cases hr0 : (HP.readL x).2 = 0
    · have hw := (HP.write_read HX.out.small (l := opsOf gs) (b := x) (Prod.ext HE6.out.symm hr0)).1
      have HW8 := HW7
      rw [hw] at HW8
      rw [hr0, hw]
      clear HW7 hr0 HE6 HF6 hw
      go_wp2_with fail
      refine (SameBytes_any s a7 x d c7 _ (HX.out.below HB7.out) HW8.out).mono ?_
      rintro e w8 ⟨rfl, rfl⟩
      go_wp2_with fail
      refine (known_any _).mono ?_
      rintro e w9 ⟨rfl, hb9⟩
      go_wp2_with fail
      go_ret
      exact ⟨rfl, HB7.out.trans (hb9.mono HB7.out.size)⟩
    · generalize (HP.readL x).2 = y at hr0
      go_wp2_with fail
      refine (known_any _).mono ?_
      rintro e w9 ⟨rfl, hb9⟩
      go_wp2_with fail
      go_ret
      exact ⟨by simp, HB7.out.trans (hb9.mono HB7.out.size)⟩

set_option maxRecDepth 100000 in
theorem lifted (os : Os) (started : os.Started) (H : Type) (enc : TypeId × Value → H) :
    ReturnsInHanded {} Tryz.checked os 5 .any (Rows.histBackSpec.pre6 enc Tryz.prog Tryz.f5 Rows.histBackRow.domain false) (Rows.histBackSpec.post enc Tryz.prog Tryz.f5 false true false false) := by
  refine returnsInHanded_of_change_sized (C := Tryz.checked) own started (by kernel_rfl) Tryz.func5
    (ChangeSpec.witness6 (enc := enc) (C := Tryz.checked) false ⟨#[], #[.slice none 0 0, .slice none 0 0], []⟩ 8 (by kernel_rfl) (by kernel_rfl) (by kernel_rfl) (by kernel_rfl)) ?_
  intro W base args ds gs before hval0 hW hcnd hwt _
  have hval : ∀ (j : Nat) t v, Tryz.f5.params[j]? = some t → args[j]? = some v → Value.okWide Tryz.prog W .any base t v := hval0
  have hW' := hW
  obtain ⟨p, q, hA0, hV, rfl, hfz, hnd⟩ := hW
  have hA : DataW.TrodAll enc Tryz.prog W 0 (fun _ => true) true Tryz.f5.params.toList args.toList ds p := hA0
  rw [Tryz.params5] at hA hval hwt
  obtain ⟨v0, vs0, d0, ds0, p0, q0, hargs, rfl, rfl, h0, r0⟩ := trodAll_cons hA
  obtain ⟨v1, vs1, d1, ds1, p1, q1, rfl, rfl, rfl, h1, r1⟩ := trodAll_cons r0
  obtain ⟨rfl, rfl, rfl⟩ := trodAll_nil r1
  obtain rfl : args = #[v0, v1] := by cases args; simp_all
  obtain ⟨rfl, rfl⟩ := trodVars_none hV
  obtain ⟨s0, es0, c0, rfl, hrow0, hl0⟩ := open_ops h0 (hval 0 22 v0 rfl rfl) (weights_at hwt (j := 0) rfl rfl)
  obtain ⟨s1, l1, c1, rfl, hrow1, hc1, hm1⟩ := open_bytes h1 (hval 1 25 v1 rfl rfl)
  refine (walk s0 es0 c0 s1 l1 c1 W hrow0 hl0 hrow1 hc1 hm1).mono fun e W' ⟨he, bel⟩ => ?_
  subst he
  exact ⟨_, rfl, law_close laidOut (by kernel_rfl) hW' rfl bel rfl Tryz.underlying4 rfl⟩

set_option maxRecDepth 100000 in
set_option maxHeartbeats 20000000 in
theorem facts : joinedFacts Tryz.pinned.checked.prog 5 Tryz.f5 Rows.histBackSpec Rows.histBackRow = true := by
  unfold joinedFacts
  simp only [Bool.and_eq_true]
  and_intros
  all_goals as_aux_lemma => kernel_rfl

theorem over : Rows.histBackRow.holds Tryz.pinned (OpenSpec.ofChange Rows.histBackSpec) :=
  OpenClaim.holds_of_wide 5 Tryz.f5 rfl rfl rfl rfl rfl rfl rfl ⟨rfl, rfl, rfl, rfl, rfl⟩ rfl rfl rfl rfl rfl (by kernel_rfl) Tryz.func5 facts
    (of_decide_eq_true (by kernel_rfl)) (by unfold Func.isWrapper; first | (rw [if_pos (by decide +kernel)]; kernel_rfl) | (rw [if_neg (by decide +kernel)]; exact ⟨rfl, rfl⟩))
    (fun os started H enc _ => lifted os started H enc)

theorem proved : Rows.HistBackSaid := over
#print axioms proved
end Go.Proofs.YtneoeekhinlhgaaGreat.histBack
