/-
  GcSpreads: who follows Erase, Move and Burn as they come next keeps a gap that is not above Spread, and never makes a gap that is above it greater. No conditions.
-/
import Derived.Test.YthehkhondbphoaaGcP
namespace Go.Proofs.Ythehkhondbphoaa.gcSpreads
open Go.ChangeShapes Go.WideShapes Go.ChangeAt Go.RowKit Go.Deep

set_option maxHeartbeats 4000000 in
theorem walk (v : Value) (bs : List Blk) (p : Int) (vr : Value) (rs : List Bool) (w : World) (hrow : Row w v bs) (hrs : Bools w vr rs) :
    Calls Try.prog 8 #[v, vi p, vr] w fun e w' => e = .returned (.bool true) ∧ Below w.heap.size w w' := by
  have HR := Lib.hid hrow
  have HB0 := Lib.hid hrs
  obtain ⟨hlen, a, cap, rfl, -⟩ := hrow
  obtain ⟨hrlen, ar, capr, rfl, -⟩ := hrs
  go_enter Try.func8, Try.ntmps8
  go_wp2_with fail
  refine (long_any _ bs _ HR.out).mono ?_
  rintro e w1 ⟨rfl, hb1⟩
  have HB := Lib.hid hb1
  clear hb1
  by_cases hl : 150 < bs.length
  · go_wp2_with fail
    refine (known_any _).mono ?_
    rintro e w2 ⟨rfl, hb2⟩
    go_wp2_with fail
    go_ret
    exact ⟨rfl, HB.out.trans (hb2.mono HB.out.size)⟩
  have hl' : decide (150 < bs.length) = false := by simpa using hl
  rw [hl']
  clear hl'
  by_cases hl2 : 200 < rs.length
  · go_wp2_with fail
    refine (known_any _).mono ?_
    rintro e w2 ⟨rfl, hb2⟩
    go_wp2_with fail
    go_ret
    exact ⟨rfl, HB.out.trans (hb2.mono HB.out.size)⟩
  go_wp2_with fail
  refine (Right_any _ bs p _ (HR.out.below HB.out)).mono ?_
  rintro e w2 ⟨rfl, hb2⟩
  have HB2 := Lib.hid (HB.out.trans (hb2.mono HB.out.size))
  clear hb2 HB
  cases hr : RightL p bs
  · have Hr := Lib.hid hr
    clear hr
    go_wp2_with fail
    refine (known_any _).mono ?_
    rintro e w3 ⟨rfl, hb3⟩
    go_wp2_with fail
    go_ret
    exact ⟨rfl, HB2.out.trans (hb3.mono HB2.out.size)⟩
  have Hr := Lib.hid hr
  clear hr
  have hlb : bs.length ≤ 150 := by omega
  have hlr : rs.length ≤ 200 := by omega
  go_wp2_with fail
  go_loopw [0, 7] (fun l i wr => ∃ (k : Nat) (cs : List Blk), k ≤ rs.length ∧ i = vi k ∧ Row wr l cs ∧ RightL p cs = true ∧ cs.length ≤ 150 ∧ Below w.heap.size w wr) (fun _ i _ => rs.length - (intOf i).toNat)
  case atStart => exact ⟨0, bs, Nat.zero_le _, rfl, HR.out.below HB2.out, Hr.out, hlb, HB2.out⟩
  case round =>
    obtain ⟨k, cs, hk, rfl, hrow, hr, hcl, hb⟩ := hrel
    have HR2 := Lib.hid hrow
    have Hr2 := Lib.hid hr
    have HB3 := Lib.hid hb
    clear hrow hr hb
    by_cases hlt : k < rs.length
    · obtain ⟨br, orr, rfl, hx⟩ := (HB0.out.below HB3.out).lookup hlt
      generalize rs.getD k false = room at hx
      go_wp2_with fail
      refine (Next_any _ cs p room _ HR2.out).mono ?_
      rintro e w3 ⟨rfl, hb3⟩
      have HB4 := Lib.hid (HB3.out.trans (hb3.mono HB3.out.size))
      have HR3 := Lib.hid (HR2.out.below hb3)
      clear hb3 hx
      have hnb := @NextL_block cs p room Hr2.out
      generalize NextL cs p room = act at hnb ⊢
      obtain ⟨kind, blk⟩ := act
      dsimp only at hnb ⊢
      have Hnb := Lib.hid hnb
      clear hnb
      have HBn := Lib.hid ((Below.refl w3.heap.size w3).alloc (Nat.le_refl _) (.cells #[vi kind, vi blk] 28))
      by_cases h0 : (kind == 0) = true
      · go_wp2_with fail
        refine (known_any _).mono ?_
        rintro e w4 ⟨rfl, hb4⟩
        go_wp2_with fail
        go_ret
        exact ⟨rfl, (HB4.out.trans (HBn.out.mono HB4.out.size)).trans (hb4.mono (by have := HB4.out.size; simp; omega))⟩
      have h0' : (kind == 0) = false := by simpa using h0
      by_cases h4 : (kind == 4) = true
      · clear h0
        go_wp2_with fail
        refine (known_any _).mono ?_
        rintro e w4 ⟨rfl, hb4⟩
        go_wp2_with fail
        go_ret
        exact ⟨rfl, (HB4.out.trans (HBn.out.mono HB4.out.size)).trans (hb4.mono (by have := HB4.out.size; simp; omega))⟩
      have h4' : (kind == 4) = false := by simpa using h4
      obtain ⟨hk1, hk4, j, rfl, hjl, hg, hw⟩ := Hnb.out (by simpa using h0') (by simpa using h4')
      clear h0 h4 Hnb
      have hf : refusesB cs p kind j = false := by
        unfold refusesB
        rw [Hr2.out, Int.toNat_natCast, hg]
        simp
        omega
      have Hgap := Lib.hid (gap_stays hjl hg hw)
      have HF := Lib.hid hf
      clear hf hg hw
      go_wp2_with fail
      refine (Follow_yes _ cs p kind j _ (HR3.out.below HBn.out) HF.out (by omega)).mono ?_
      rintro e w4 ⟨v4, rfl, hr4, hb4⟩
      have HB5 := Lib.hid ((HB4.out.trans (HBn.out.mono HB4.out.size)).trans (hb4.mono (by have := HB4.out.size; simp; omega)))
      have HR4 := Lib.hid hr4
      have HR5 := Lib.hid ((HR3.out.below HBn.out).below hb4)
      have hfl : (followL cs j).length ≤ 150 := by unfold followL; rw [List.length_set]; exact hcl
      clear hr4 hb4 HF HBn
      generalize followL cs j = ds at HR4 Hgap hfl
      go_wp2_with fail
      refine (Right_any _ ds p _ HR4.out).mono ?_
      rintro e w5 ⟨rfl, hb5⟩
      have HB6 := Lib.hid (HB5.out.trans (hb5.mono HB5.out.size))
      have HR6 := Lib.hid (HR4.out.below hb5)
      have HR7 := Lib.hid (HR5.out.below hb5)
      clear hb5 HB5 HR4 HR5
      cases hr2 : RightL p ds
      · have Hr3 := Lib.hid hr2
        clear hr2
        go_wp2_with fail
        refine (known_any _).mono ?_
        rintro e w6 ⟨rfl, hb6⟩
        go_wp2_with fail
        go_ret
        exact ⟨rfl, HB6.out.trans (hb6.mono HB6.out.size)⟩
      have Hr3 := Lib.hid hr2
      have l1 := leastL_bd Hr2.out
      have l2 := greatestL_bd Hr2.out
      have l3 := leastL_bd hr2
      have l4 := greatestL_bd hr2
      clear hr2
      go_wp2_with fail
      refine (gap_any _ ds p _ HR6.out Hr3.out).mono ?_
      rintro e w6 ⟨rfl, hb6⟩
      have HB7 := Lib.hid (HB6.out.trans (hb6.mono HB6.out.size))
      have HR8 := Lib.hid (HR6.out.below hb6)
      have HR9 := Lib.hid (HR7.out.below hb6)
      clear hb6 HB6 HR6 HR7
      by_cases hg4 : 4 < greatestL ds - leastL ds
      · go_wp2_with fail
        refine (gap_any _ ds p _ HR8.out Hr3.out).mono ?_
        rintro e w7 ⟨rfl, hb7⟩
        have HB8 := Lib.hid (HB7.out.trans (hb7.mono HB7.out.size))
        have HR10 := Lib.hid (HR8.out.below hb7)
        have HR11 := Lib.hid (HR9.out.below hb7)
        clear hb7 HB7 HR8 HR9
        go_wp2_with fail
        refine (gap_any _ cs p _ HR11.out Hr2.out).mono ?_
        rintro e w8 ⟨rfl, hb8⟩
        have HB9 := Lib.hid (HB8.out.trans (hb8.mono HB8.out.size))
        have HR12 := Lib.hid (HR10.out.below hb8)
        have hno : ¬ greatestL cs - leastL cs < greatestL ds - leastL ds := by
          rcases Hgap.out with h | h <;> omega
        clear hb8 HB8 HR10 HR11
        go_wp2_with fail
        go_roundw
        case rel => exact ⟨k + 1, ds, by omega, by go_num, HR12.out, Hr3.out, hfl, HB9.out⟩
        case measure => simp [intOf]; omega
      · go_wp2_with fail
        go_roundw
        case rel => exact ⟨k + 1, ds, by omega, by go_num, HR8.out, Hr3.out, hfl, HB7.out⟩
        case measure => simp [intOf]; omega
    · go_wp2_with fail
      refine (known_any _).mono ?_
      rintro e w5 ⟨rfl, hb5⟩
      go_wp2_with fail
      go_ret
      exact ⟨rfl, HB3.out.trans (hb5.mono HB3.out.size)⟩

set_option maxRecDepth 100000 in
theorem lifted (os : Os) (started : os.Started) (H : Type) (enc : TypeId × Value → H) :
    ReturnsInHanded {} Try.checked os 8 .any (Rows.gcSpreadsSpec.pre6 enc Try.prog Try.f8 Rows.gcSpreadsRow.domain false) (Rows.gcSpreadsSpec.post enc Try.prog Try.f8 false true false false) := by
  refine returnsInHanded_of_change (C := Try.checked) own started (by kernel_rfl) Try.func8
    (ChangeSpec.witness6 (enc := enc) (C := Try.checked) false ⟨#[], #[.slice none 0 0, .int .i64 0, .slice none 0 0], []⟩ 8 (by kernel_rfl) (by kernel_rfl) (by kernel_rfl) (by kernel_rfl)) ?_
  intro W base args ds gs before hval0 hW hcnd _
  have hval : ∀ (j : Nat) t v, Try.f8.params[j]? = some t → args[j]? = some v → Value.okWide Try.prog W .any base t v := hval0
  have hW' := hW
  obtain ⟨p, q, hA0, hV, rfl, hfz, hnd⟩ := hW
  have hA : DataW.TrodAll enc Try.prog W 0 (fun _ => true) true Try.f8.params.toList args.toList ds p := hA0
  rw [Try.params8] at hA hval
  obtain ⟨v0, vs0, d0, ds0, p0, q0, hargs, rfl, rfl, h0, r0⟩ := trodAll_cons hA
  obtain ⟨v1, vs1, d1, ds1, p1, q1, rfl, rfl, rfl, h1, r1⟩ := trodAll_cons r0
  obtain ⟨v2, vs2, d2, ds2, p2, q2, rfl, rfl, rfl, h2, r2⟩ := trodAll_cons r1
  obtain ⟨rfl, rfl, rfl⟩ := trodAll_nil r2
  obtain rfl : args = #[v0, v1, v2] := by cases args; simp_all
  obtain ⟨rfl, rfl⟩ := trodVars_none hV
  obtain ⟨bs0, hrow0⟩ := open_row h0 (hval 0 22 v0 rfl rfl)
  obtain ⟨a1, rfl, rfl, rfl, w1⟩ := open_int Try.underlying3 (hval 1 3 v1 rfl rfl) h1
  obtain ⟨rs2, hrs2⟩ := open_bools h2 (hval 2 44 v2 rfl rfl)
  refine (walk v0 bs0 a1 v2 rs2 W hrow0 hrs2).mono fun e W' ⟨he, bel⟩ => ?_
  subst he
  exact ⟨_, rfl, law_close laidOut (by kernel_rfl) hW' rfl bel rfl Try.underlying4 rfl⟩

theorem over : Rows.gcSpreadsRow.holds Try.pinned (OpenSpec.ofChange Rows.gcSpreadsSpec) :=
  OpenClaim.holds_of_wide 8 Try.f8 rfl rfl rfl rfl rfl rfl rfl ⟨rfl, rfl, rfl, rfl, rfl⟩ rfl rfl rfl rfl rfl (by kernel_rfl) Try.func8 (by kernel_rfl)
    (of_decide_eq_true (by kernel_rfl)) (by unfold Func.isWrapper; first | (rw [if_pos (by decide +kernel)]; kernel_rfl) | (rw [if_neg (by decide +kernel)]; exact ⟨rfl, rfl⟩))
    (fun os started H enc _ => lifted os started H enc)

theorem proved : Rows.GcSpreadsSaid := over
#print axioms proved
end Go.Proofs.Ythehkhondbphoaa.gcSpreads
