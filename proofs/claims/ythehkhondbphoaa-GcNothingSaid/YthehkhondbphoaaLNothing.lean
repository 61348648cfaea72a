/-
  GcNothing: for every row of blocks, pages and room: Next is Nothing only where no block is stale, none that is free has the least Wear, and, with room, none that is full has a page that is not needed, or the least Wear. No conditions.
-/
import Derived.Test.YthehkhondbphoaaGcG
import Derived.Test.YthehkhondbphoaaGcPlain
import Derived.Test.YthehkhondbphoaaGcOpen
namespace Go.Proofs.Ythehkhondbphoaa.gcNothing
open Go.ChangeShapes Go.WideShapes Go.ChangeAt Go.RowKit Go.Deep

attribute [local go_sem] field_a0 field_a1

set_option maxHeartbeats 2000000 in
theorem walk (v : Value) (bs : List Blk) (p : Int) (room : Bool) (w : World) (hrow : Row w v bs) :
    Calls Try.prog 4 #[v, vi p, .bool room] w fun e w' => e = .returned (.bool true) ∧ Below w.heap.size w w' := by
  have HR := Lib.hid hrow
  obtain ⟨hlen, a, cap, rfl, -⟩ := hrow
  go_enter Try.func4, Try.ntmps4
  go_wp2_with fail
  refine (long_any _ bs _ HR.out).mono ?_
  rintro e w1 ⟨rfl, hb1⟩
  by_cases hl : 150 < bs.length
  · have HB := Lib.hid hb1
    clear hb1
    go_wp2_with fail
    refine (known_any _).mono ?_
    rintro e w2 ⟨rfl, hb2⟩
    go_wp2_with fail
    go_ret
    exact ⟨rfl, HB.out.trans (hb2.mono HB.out.size)⟩
  have hl' : decide (150 < bs.length) = false := by simpa using hl
  have HB := Lib.hid hb1
  clear hb1
  rw [hl']
  go_wp2_with fail
  refine (Right_any _ bs p _ (HR.out.below HB.out)).mono ?_
  rintro e w2 ⟨rfl, hb2⟩
  have HB2 := Lib.hid (HB.out.trans (hb2.mono HB.out.size))
  clear hb2 HB
  cases hr : RightL p bs
  · have Hr := Lib.hid hr
    clear hr
    go_wp2_with fail
    refine (known_any _).mono ?_
    rintro e w3 ⟨rfl, hb3⟩
    go_wp2_with fail
    go_ret
    exact ⟨rfl, HB2.out.trans (hb3.mono HB2.out.size)⟩
  have Hr := Lib.hid hr
  clear hr
  go_wp2_with fail
  refine (Next_any _ bs p room _ (HR.out.below HB2.out)).mono ?_
  rintro e w3 ⟨rfl, hb3⟩
  have HB3 := Lib.hid (HB2.out.trans (hb3.mono HB2.out.size))
  clear hb3 HB2
  have hno := @NextL_nothing bs p room Hr.out
  generalize NextL bs p room = act at hno ⊢
  obtain ⟨kind, blk⟩ := act
  dsimp only at hno ⊢
  have Hno := Lib.hid hno
  clear hno
  by_cases hk : (kind != 0) = true
  · go_wp2_with fail
    refine (known_any _).mono ?_
    rintro e w4 ⟨rfl, hb4⟩
    go_wp2_with fail
    go_ret
    exact ⟨rfl, HB3.out.trans (hb4.mono HB3.out.size)⟩
  have hk' : (kind != 0) = false := by simpa using hk
  have Hno2 := Lib.hid (Hno.out (by simpa using hk'))
  clear hk Hno
  go_wp2_with fail
  have hlen' : bs.length ≤ 150 := by omega
  go_loopw [7] (fun i wr => ∃ k : Nat, k ≤ bs.length ∧ i = vi k ∧ Below w.heap.size w wr) (fun i _ => bs.length - (intOf i).toNat)
  case atStart => exact ⟨0, Nat.zero_le _, rfl, HB3.out⟩
  case round =>
    obtain ⟨k, hk1, rfl, hb⟩ := hrel
    have HB4 := Lib.hid hb
    clear hb
    by_cases hlt : k < bs.length
    · obtain ⟨b, o, rfl, hx⟩ := (HR.out.below HB4.out).lookup hlt
      obtain ⟨e1, e2, e3⟩ := Hno2.out _ (getD_mem hlt)
      have hq : ∀ n : Sub wr, Calls Try.prog 16 #[.slice (some ⟨b, o, none⟩) bs.length cap] n.w fun e w' => e = .returned (vi (leastL bs)) ∧ Below n.w.heap.size n.w w' :=
        fun n => RLeast_any _ bs n.w ((HR.out.below HB4.out).below n.below)
      have HQ := Lib.hid hq
      clear hq
      generalize bs.getD k default = x at hx e1 e2 e3
      generalize leastL bs = least at *
      obtain ⟨g0, g1, g2, g3⟩ := hx
      have f2 := Sub.cell g2
      have hk0 : (0 : Int) ≤ (k : Int) := by omega
      have hk1' : (k : Int) < (bs.length : Int) := by omega
      go_wp2_with fail
      refine wp_region_sub (by kernel_rfl) (by kernel_rfl) ?_
      repeat (go_big_quiet_step (exact ext_of (HQ.out _)))
      refine wpQuiet_nil ?_
      rintro _ ⟨nq, rfl⟩
      have hb5 := HB4.out.trans (nq.below.mono HB4.out.size)
      have c0 := cell_below g0 nq.below
      have c1 := cell_below g1 nq.below
      have HB5 := Lib.hid hb5
      clear f2 g0 g1 g2 g3 hb5
      by_cases hc2 : (x.s == 2) = true
      · have hc0 : (x.s == 0) = false := by simp at hc2 ⊢; omega
        cases room
        · go_wp2_with fail
          go_roundw
          case rel => exact ⟨k + 1, by omega, by go_num, HB5.out⟩
          case measure => simp [intOf]; omega
        · simp only [hc2, Bool.true_and, Bool.or_eq_false_iff, decide_eq_false_iff_not] at e3
          obtain ⟨hc1, hlp⟩ := e3
          clear e2
          go_wp2_with fail
          go_roundw
          case rel => exact ⟨k + 1, by omega, by go_num, HB5.out⟩
          case measure => simp [intOf]; omega
      · have hc2' : (x.s == 2) = false := by simpa using hc2
        clear hc2 e3
        by_cases hc0 : (x.s == 0) = true
        · simp only [hc0, Bool.true_and] at e2
          go_wp2_with fail
          go_roundw
          case rel => exact ⟨k + 1, by omega, by go_num, HB5.out⟩
          case measure => simp [intOf]; omega
        · have hc0' : (x.s == 0) = false := by simpa using hc0
          clear e2 hc0
          go_wp2_with fail
          go_roundw
          case rel => exact ⟨k + 1, by omega, by go_num, HB5.out⟩
          case measure => simp [intOf]; omega
    · go_wp2_with fail
      refine (known_any _).mono ?_
      rintro e w5 ⟨rfl, hb5⟩
      go_wp2_with fail
      go_ret
      exact ⟨rfl, HB4.out.trans (hb5.mono HB4.out.size)⟩

set_option maxRecDepth 100000 in
theorem lifted (os : Os) (started : os.Started) (H : Type) (enc : TypeId × Value → H) :
    ReturnsInHanded {} Try.checked os 4 .any (Rows.gcNothingSpec.pre6 enc Try.prog Try.f4 Rows.gcNothingRow.domain false) (Rows.gcNothingSpec.post enc Try.prog Try.f4 false true false false) := by
  refine returnsInHanded_of_change (C := Try.checked) own started (by kernel_rfl) Try.func4
    (ChangeSpec.witness6 (enc := enc) (C := Try.checked) false ⟨#[], #[.slice none 0 0, .int .i64 0, .bool false], []⟩ 8 (by kernel_rfl) (by kernel_rfl) (by kernel_rfl) (by kernel_rfl)) ?_
  intro W base args ds gs before hval0 hW hcnd _
  have hval : ∀ (j : Nat) t v, Try.f4.params[j]? = some t → args[j]? = some v → Value.okWide Try.prog W .any base t v := hval0
  have hW' := hW
  obtain ⟨p, q, hA0, hV, rfl, hfz, hnd⟩ := hW
  have hA : DataW.TrodAll enc Try.prog W 0 (fun _ => true) true Try.f4.params.toList args.toList ds p := hA0
  rw [Try.params4] at hA hval
  obtain ⟨v0, vs0, d0, ds0, p0, q0, hargs, rfl, rfl, h0, r0⟩ := trodAll_cons hA
  obtain ⟨v1, vs1, d1, ds1, p1, q1, rfl, rfl, rfl, h1, r1⟩ := trodAll_cons r0
  obtain ⟨v2, vs2, d2, ds2, p2, q2, rfl, rfl, rfl, h2, r2⟩ := trodAll_cons r1
  obtain ⟨rfl, rfl, rfl⟩ := trodAll_nil r2
  obtain rfl : args = #[v0, v1, v2] := by cases args; simp_all
  obtain ⟨rfl, rfl⟩ := trodVars_none hV
  obtain ⟨bs, hrow⟩ := open_row h0 (hval 0 22 v0 rfl rfl)
  obtain ⟨a1, rfl, rfl, rfl, w1⟩ := open_int Try.underlying3 (hval 1 3 v1 rfl rfl) h1
  obtain ⟨a2, rfl, rfl, rfl⟩ := open_bool Try.underlying4 (hval 2 4 v2 rfl rfl) h2
  refine (walk v0 bs a1 a2 W hrow).mono fun e W' ⟨he, bel⟩ => ?_
  subst he
  exact ⟨_, rfl, law_close laidOut (by kernel_rfl) hW' rfl bel rfl Try.underlying4 rfl⟩

theorem over : Rows.gcNothingRow.holds Try.pinned (OpenSpec.ofChange Rows.gcNothingSpec) :=
  OpenClaim.holds_of_wide 4 Try.f4 rfl rfl rfl rfl rfl rfl rfl ⟨rfl, rfl, rfl, rfl, rfl⟩ rfl rfl rfl rfl rfl (by kernel_rfl) Try.func4 (by kernel_rfl)
    (of_decide_eq_true (by kernel_rfl)) (by unfold Func.isWrapper; first | (rw [if_pos (by decide +kernel)]; kernel_rfl) | (rw [if_neg (by decide +kernel)]; exact ⟨rfl, rfl⟩))
    (fun os started H enc _ => lifted os started H enc)

theorem proved : Rows.GcNothingSaid := over
#print axioms proved
end Go.Proofs.Ythehkhondbphoaa.gcNothing
