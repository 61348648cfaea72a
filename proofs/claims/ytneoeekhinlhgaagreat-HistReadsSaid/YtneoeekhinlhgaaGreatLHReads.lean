/-
  HistReads: any bytes, with the right sum behind them or not, are read alike. No conditions.
-/
import Derived.Test.YtneoeekhinlhgaaGreatHR
import Derived.Test.YtneoeekhinlhgaaGreatHOpen
import Derived.Test.YtneoeekhinlhgaaGreatRows
namespace Go.Proofs.YtneoeekhinlhgaaGreat.histReads
open Go.ChangeShapes Go.WideShapes Go.ChangeAt Go.RowKit Go.Deep

set_option maxRecDepth 100000 in
set_option maxHeartbeats 4000000 in
theorem walk (s : Option Addr) (x : List Nat) (d : Nat) (t : Bool) (w : World) 
    (hx : BRow w s x) (hd : x.length ≤ d) (hm : d ≤ maxLen) :
    Calls Tryz.prog 4 #[.slice s x.length d, .bool t] w fun e w' => e = .returned (.bool true) ∧ Below w.heap.size w w' := by
  have HX := Lib.hid hx
  have HD := Lib.hid hd
  have HM := Lib.hid hm
  clear hx hd hm
  by_cases h4 : 9000 < x.length
  · go_enter Tryz.func4, Tryz.ntmps4
    go_wp2_with fail
    refine (known_any _).mono ?_
    rintro e w2 ⟨rfl, hb2⟩
    go_wp2_with fail
    go_ret
    exact ⟨rfl, hb2⟩
  cases t
  · go_enter Tryz.func4, Tryz.ntmps4
    go_wp2_with fail
    refine (Read_all s x d _ HX.out (by omega) HD.out HM.out).mono ?_
    rintro e w1 ⟨es, s1, c1, rfl, hr1, he1, hb1⟩
    have HB1 := Lib.hid hb1
    have HR1 := Lib.hid hr1
    have hsm := read_small HX.out.small (by omega)
    rw [← he1, opsOf_length] at hsm
    have HE1 := Lib.hid he1
    clear hb1 hr1 he1
    go_wp2_with fail
    refine (RRead_all s x d _ (HX.out.below HB1.out) (by omega) HD.out HM.out).mono ?_
    rintro e w2 ⟨fs, s2, c2, rfl, hr2, he2, hb2⟩
    have HB2 := Lib.hid (HB1.out.trans (hb2.mono HB1.out.size))
    have HR2 := Lib.hid hr2
    have HR3 := Lib.hid (HR1.out.below hb2)
    have HE := Lib.hid (HE1.out.trans he2.symm)
    clear hb2 hr2 he2
    obtain ⟨hsm, -⟩ := hsm
    generalize (HP.readL x).2 = q
    go_wp2_with fail
    refine (same_any s1 s2 es fs c1 c2 _ HR3.out HR2.out HE.out (by omega)).mono ?_
    rintro e w3 ⟨rfl, hb3⟩
    have HB3 := Lib.hid (HB2.out.trans (hb3.mono HB2.out.size))
    clear hb3
    go_wp2_with fail
    refine (known_any _).mono ?_
    rintro e w4 ⟨rfl, hb4⟩
    go_wp2_with fail
    go_ret
    exact ⟨rfl, HB3.out.trans (hb4.mono HB3.out.size)⟩
  · obtain ⟨v1, w1, hrun1, ho1, hs1⟩ := append_bytes (c := d) (Own.nil w w.heap.size) HX.out (by simp; omega) (Nat.le_refl _)
    rw [List.nil_append] at ho1
    have R1 : AppRun 25 25 25 (.slice none 0 0) (.slice s x.length d) w v1 w1 := ⟨hrun1⟩
    have HB1 := Lib.hid hs1.below
    have HX1 := Lib.hid (HX.out.below hs1.below)
    obtain ⟨a1, c1, rfl, hr1, -⟩ := ho1.row HX.out.small
    have HO1 := Lib.hid ho1
    have hsl := HP.sum_lt x
    have hsm := HX.out.small
    have HSM := Lib.hid hsm
    clear hrun1 ho1 hs1 hr1 hsm
    go_enter Tryz.func4, Tryz.ntmps4
    go_wp2_with (at_builtin; refine wpList_append_run rfl (.tmp 15) (.tmp 16) rfl rfl rfl R1.run ?_)
    refine (RSum_any s x d _ HX1.out (by omega)).mono ?_
    rintro e w2 ⟨rfl, rfl⟩
    have HSL := Lib.hid hsl
    go_wp2_with fail
    refine (Big_any (HP.sum x) 4 _ (by omega) (by omega)).mono ?_
    rintro e w3 ⟨v3, rfl, ho3, hb3⟩
    obtain ⟨a3, c3, rfl, hr3, -⟩ := ho3.row (HP.le_small _ _)
    rw [HP.le_length]
    obtain ⟨v4, w4, hrun4, ho4, hs4⟩ := append_bytes (c := c3) (HO1.out.old hb3) hr3 (by simp [HP.le_length]; omega) (Nat.le_trans HB1.out.size hb3.size)
    rw [HP.le_length] at hrun4
    have R4 : AppRun 25 25 25 (.slice a1 x.length c1) (.slice a3 4 c3) w3 v4 w4 := ⟨hrun4⟩
    have HB4 := Lib.hid ((HB1.out.trans (hb3.mono HB1.out.size)).trans hs4.below)
    have hy : ∀ z ∈ x ++ HP.le 4 (HP.sum x), z < 256 := fun z hz => by
      rcases List.mem_append.1 hz with hz | hz
      · exact HSM.out z hz
      · exact HP.le_small _ _ z hz
    have hyl : (x ++ HP.le 4 (HP.sum x)).length = x.length + 4 := by simp [HP.le_length]
    obtain ⟨a4, c4, rfl, hr4, hc4, hm4⟩ := own_cap ho4 hy
    generalize x ++ HP.le 4 (HP.sum x) = y at *
    have HY4 := Lib.hid hr4
    have HC4 := Lib.hid hc4
    have HM4 := Lib.hid hm4
    have HYS := Lib.hid hy
    have hyl' : y.length ≤ 9004 := by omega
    clear hrun4 ho4 hs4 hr3 ho3 hb3 HO1 HX1 hy hyl hr4 hc4 hm4 hsl
    go_wp2_with (at_builtin; refine wpList_append_run rfl (.tmp 18) (.tmp 22) rfl rfl rfl R4.run ?_)
    refine (Read_all a4 y c4 _ HY4.out (by omega) HC4.out HM4.out).mono ?_
    rintro e w5 ⟨es, s1, c1, rfl, hr5, he5, hb5⟩
    have HB5 := Lib.hid (HB4.out.trans (hb5.mono HB4.out.size))
    have HR5 := Lib.hid hr5
    have HY5 := Lib.hid (HY4.out.below hb5)
    have hsm := read_small HYS.out (by omega)
    rw [← he5, opsOf_length] at hsm
    have HE5 := Lib.hid he5
    clear hb5 hr5 he5 R4 R1
    go_wp2_with fail
    refine (RRead_all a4 y c4 _ HY5.out (by omega) HC4.out HM4.out).mono ?_
    rintro e w6 ⟨fs, s2, c2, rfl, hr6, he6, hb6⟩
    have HB6 := Lib.hid (HB5.out.trans (hb6.mono HB5.out.size))
    have HR6 := Lib.hid hr6
    have HR7 := Lib.hid (HR5.out.below hb6)
    have HE := Lib.hid (HE5.out.trans he6.symm)
    clear hb6 hr6 he6
    obtain ⟨hsm, -⟩ := hsm
    generalize (HP.readL y).2 = q
    go_wp2_with fail
    refine (same_any s1 s2 es fs _ c2 _ HR7.out HR6.out HE.out (by omega)).mono ?_
    rintro e w7 ⟨rfl, hb7⟩
    have HB7 := Lib.hid (HB6.out.trans (hb7.mono HB6.out.size))
    clear hb7
    go_wp2_with fail
    refine (known_any _).mono ?_
    rintro e w8 ⟨rfl, hb8⟩
    go_wp2_with fail
    go_ret
    exact ⟨rfl, HB7.out.trans (hb8.mono HB7.out.size)⟩

set_option maxRecDepth 100000 in
theorem lifted (os : Os) (started : os.Started) (H : Type) (enc : TypeId × Value → H) :
    ReturnsInHanded {} Tryz.checked os 4 .any (Rows.histReadsSpec.pre6 enc Tryz.prog Tryz.f4 Rows.histReadsRow.domain false) (Rows.histReadsSpec.post enc Tryz.prog Tryz.f4 false true false false) := by
  refine returnsInHanded_of_change (C := Tryz.checked) own started (by kernel_rfl) Tryz.func4
    (ChangeSpec.witness6 (enc := enc) (C := Tryz.checked) false ⟨#[], #[.slice none 0 0, .bool false], []⟩ 8 (by kernel_rfl) (by kernel_rfl) (by kernel_rfl) (by kernel_rfl)) ?_
  intro W base args ds gs before hval0 hW hcnd _
  have hval : ∀ (j : Nat) t v, Tryz.f4.params[j]? = some t → args[j]? = some v → Value.okWide Tryz.prog W .any base t v := hval0
  have hW' := hW
  obtain ⟨p, q, hA0, hV, rfl, hfz, hnd⟩ := hW
  have hA : DataW.TrodAll enc Tryz.prog W 0 (fun _ => true) true Tryz.f4.params.toList args.toList ds p := hA0
  rw [Tryz.params4] at hA hval
  obtain ⟨v0, vs0, d0, ds0, p0, q0, hargs, rfl, rfl, h0, r0⟩ := trodAll_cons hA
  obtain ⟨v1, vs1, d1, ds1, p1, q1, rfl, rfl, rfl, h1, r1⟩ := trodAll_cons r0
  obtain ⟨rfl, rfl, rfl⟩ := trodAll_nil r1
  obtain rfl : args = #[v0, v1] := by cases args; simp_all
  obtain ⟨rfl, rfl⟩ := trodVars_none hV
  obtain ⟨s0, l0, c0, rfl, hrow0, hc0, hm0⟩ := open_bytes h0 (hval 0 25 v0 rfl rfl)
  obtain ⟨a1, rfl, rfl, rfl⟩ := open_bool Tryz.underlying4 (hval 1 4 v1 rfl rfl) h1
  refine (walk s0 l0 c0 a1 W hrow0 hc0 hm0).mono fun e W' ⟨he, bel⟩ => ?_
  subst he
  exact ⟨_, rfl, law_close laidOut (by kernel_rfl) hW' rfl bel rfl Tryz.underlying4 rfl⟩

set_option maxRecDepth 100000 in
set_option maxHeartbeats 20000000 in
theorem facts : joinedFacts Tryz.pinned.checked.prog 4 Tryz.f4 Rows.histReadsSpec Rows.histReadsRow = true := by
  unfold joinedFacts
  simp only [Bool.and_eq_true]
  and_intros
  all_goals as_aux_lemma => kernel_rfl

theorem over : Rows.histReadsRow.holds Tryz.pinned (OpenSpec.ofChange Rows.histReadsSpec) :=
  OpenClaim.holds_of_wide 4 Tryz.f4 rfl rfl rfl rfl rfl rfl rfl ⟨rfl, rfl, rfl, rfl, rfl⟩ rfl rfl rfl rfl rfl (by kernel_rfl) Tryz.func4 facts
    (of_decide_eq_true (by kernel_rfl)) (by unfold Func.isWrapper; first | (rw [if_pos (by decide +kernel)]; kernel_rfl) | (rw [if_neg (by decide +kernel)]; exact ⟨rfl, rfl⟩))
    (fun os started H enc _ => lifted os started H enc)

theorem proved : Rows.HistReadsSaid := over
#print axioms proved
end Go.Proofs.YtneoeekhinlhgaaGreat.histReads
