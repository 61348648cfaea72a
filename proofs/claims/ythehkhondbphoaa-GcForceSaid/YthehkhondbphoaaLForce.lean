/-
  GcForce: for every row of blocks, pages and room: Force comes only where no stale block may be erased, nor, with room, a full one that has a page that is not needed. No conditions.
-/
import Derived.Test.YthehkhondbphoaaGcH
import Derived.Test.YthehkhondbphoaaGcOpen
namespace Go.Proofs.Ythehkhondbphoaa.gcForce
open Go.ChangeShapes Go.WideShapes Go.ChangeAt Go.RowKit Go.Deep

theorem pick4_four {k kind : Int} {r : Int × Int} (h0 : kind ≠ 4) (h : (pick4 k kind r).1 = 4) : k < 0 ∧ r.1 = 4 ∧ pick4 k kind r = r := by
  unfold pick4 at h ⊢
  split at h
  · exact absurd h h0
  · rename_i hk
    exact ⟨by omega, h, if_neg hk⟩

/-- P5.6, of what Next answers. -/
theorem NextL_force {bs : List Blk} {p : Int} {room : Bool} (h : (NextL bs p room).1 = 4) :
    (∀ i : Nat, i < bs.length → MayL bs p i = true → ((bs.getD i default).s == 3) = false ∧ ((room && (bs.getD i default).s == 2) && decide ((bs.getD i default).l < p)) = false) ∧
    0 ≤ (NextL bs p room).2 ∧ (NextL bs p room).2 < bs.length ∧ (((bs.getD (NextL bs p room).2.toNat default).s == 3) = true ∨ ((bs.getD (NextL bs p room).2.toNat default).s == 2) = true) := by
  unfold NextL at h ⊢
  by_cases hr : RightL p bs = true
  · rw [if_pos hr] at h ⊢
    obtain ⟨h1, h, e1⟩ := pick4_four (by decide) h
    obtain ⟨h2, h, e2⟩ := pick4_four (by decide) h
    obtain ⟨h3, h, e3⟩ := pick4_four (by decide) h
    obtain ⟨h4, h, e4⟩ := pick4_four (by decide) h
    rw [e1, e2, e3, e4]
    refine ⟨fun i hi hm => ?_, ?_⟩
    · have n1 := best_neg h1 _ (getD_mem hi)
      have n2 := best_neg h2 _ (getD_mem hi)
      have hm' : mayB (leastL bs) (bs.getD i default) = true := by
        simp only [MayL, Bool.and_eq_true] at hm
        simpa using hm.2
      simp only [hm', Bool.and_true, staleB, fullB] at n1 n2
      exact ⟨n1, n2⟩
    · unfold forcedL at h ⊢
      by_cases h5 : 0 ≤ best staleB wornB bs
      · rw [pick4_yes h5]
        exact ⟨h5, (best_bd _ _ _).2, .inl (best_pos h5)⟩
      · rw [pick4_no (by omega)] at h ⊢
        by_cases h6 : 0 ≤ best (movedB room p) emptierB bs
        · rw [pick4_yes h6]
          have hp := best_pos h6
          simp only [movedB, fullB, Bool.and_eq_true] at hp
          exact ⟨h6, (best_bd _ _ _).2, .inr hp.1.2⟩
        · rw [pick4_no (by omega)] at h
          exact absurd h (by decide)
  · rw [if_neg hr] at h
    exact absurd h (by decide)

set_option maxHeartbeats 4000000 in
theorem walk (v : Value) (bs : List Blk) (p : Int) (room : Bool) (w : World) (hrow : Row w v bs) :
    Calls Try.prog 6 #[v, vi p, .bool room] w fun e w' => e = .returned (.bool true) ∧ Below w.heap.size w w' := by
  have HR := Lib.hid hrow
  obtain ⟨hlen, a, cap, rfl, -⟩ := hrow
  go_enter Try.func6, Try.ntmps6
  go_wp2_with fail
  refine (long_any _ bs _ HR.out).mono ?_
  rintro e w1 ⟨rfl, hb1⟩
  have HB := Lib.hid hb1
  clear hb1
  by_cases hl : 150 < bs.length
  · go_wp2_with fail
    refine (known_any _).mono ?_
    rintro e w2 ⟨rfl, hb2⟩
    go_wp2_with fail
    go_ret
    exact ⟨rfl, HB.out.trans (hb2.mono HB.out.size)⟩
  have hl' : decide (150 < bs.length) = false := by simpa using hl
  rw [hl']
  clear hl'
  go_wp2_with fail
  refine (Next_any _ bs p room _ (HR.out.below HB.out)).mono ?_
  rintro e w2 ⟨rfl, hb2⟩
  have HB2 := Lib.hid (HB.out.trans (hb2.mono HB.out.size))
  clear hb2 HB
  have hno := @NextL_force bs p room
  generalize NextL bs p room = act at hno ⊢
  obtain ⟨kind, blk⟩ := act
  dsimp only at hno ⊢
  have Hno := Lib.hid hno
  clear hno
  by_cases hk : (kind != 4) = true
  · go_wp2_with fail
    refine (known_any _).mono ?_
    rintro e w4 ⟨rfl, hb4⟩
    go_wp2_with fail
    go_ret
    exact ⟨rfl, (HB2.out.alloc HB2.out.size _).trans (hb4.mono (by have := HB2.out.size; simp; omega))⟩
  have hk' : (kind != 4) = false := by simpa using hk
  obtain ⟨hmay, hk0, hk1, hkind⟩ := Hno.out (by simpa using hk')
  clear hk Hno
  have Hmay := Lib.hid hmay
  have Hkind := Lib.hid hkind
  clear hmay hkind
  have hlen' : bs.length ≤ 150 := by omega
  go_wp2_with fail
  go_loopw [8] (fun i wr => ∃ k : Nat, k ≤ bs.length ∧ i = vi k ∧ wr.cell? ⟨w2.heap.size, 0, none⟩ = some (vi kind) ∧ wr.cell? ⟨w2.heap.size, 1, none⟩ = some (vi blk) ∧ Below w.heap.size w wr) (fun i _ => bs.length - (intOf i).toNat)
  case atStart => exact ⟨0, Nat.zero_le _, rfl, by simp, by simp, HB2.out.alloc HB2.out.size _⟩
  case round =>
    obtain ⟨k, hkl, rfl, c0, c1, hb⟩ := hrel
    have HB4 := Lib.hid hb
    clear hb
    by_cases hlt : k < bs.length
    · obtain ⟨b, o, rfl, hx⟩ := (HR.out.below HB4.out).lookup hlt
      have hm := Hmay.out k hlt
      generalize bs.getD k default = x at hx hm
      have Hm := Lib.hid hm
      clear hm
      go_wp2_with fail
      refine (May_any _ bs p k _ (HR.out.below HB4.out)).mono ?_
      rintro e w5 ⟨rfl, hb5⟩
      have d0 := cell_below c0 hb5
      have d1 := cell_below c1 hb5
      obtain ⟨g0, g1, g2, g3⟩ := hx.below hb5
      have HB5 := Lib.hid (HB4.out.trans (hb5.mono HB4.out.size))
      clear hb5 hx c0 c1 g2 g3
      cases hM : MayL bs p k
      · have HM := Lib.hid hM
        clear hM
        go_wp2_with fail
        go_roundw
        case rel => exact ⟨k + 1, by omega, by go_num, d0, d1, HB5.out⟩
        case measure => simp [intOf]; omega
      · obtain ⟨e1, e2⟩ := Hm.out hM
        have HM := Lib.hid hM
        clear hM
        cases room
        · clear e2
          go_wp2_with fail
          go_roundw
          case rel => exact ⟨k + 1, by omega, by go_num, d0, d1, HB5.out⟩
          case measure => simp [intOf]; omega
        · by_cases hs : (x.s == 2) = true
          · have hlp : ¬ x.l < p := by simpa [hs] using e2
            clear e2
            go_wp2_with fail
            go_roundw
            case rel => exact ⟨k + 1, by omega, by go_num, d0, d1, HB5.out⟩
            case measure => simp [intOf]; omega
          · have hs' : (x.s == 2) = false := by simpa using hs
            clear e2 hs
            go_wp2_with fail
            go_roundw
            case rel => exact ⟨k + 1, by omega, by go_num, d0, d1, HB5.out⟩
            case measure => simp [intOf]; omega
    · obtain ⟨j, rfl⟩ : ∃ j : Nat, blk = j := ⟨blk.toNat, by omega⟩
      obtain ⟨b, o, rfl, hx⟩ := (HR.out.below HB4.out).lookup (k := j) (by omega)
      have hkd := Hkind.out
      simp only [Int.toNat_natCast] at hkd
      generalize bs.getD j default = x at hx hkd
      obtain ⟨g0, g1, g2, g3⟩ := hx
      clear g1 g2 g3
      have hj1 : (j : Int) < (bs.length : Int) := by omega
      by_cases h3 : (x.s == 3) = true
      · go_wp2_with fail
        refine (known_any _).mono ?_
        rintro e w5 ⟨rfl, hb5⟩
        go_wp2_with fail
        go_ret
        exact ⟨rfl, HB4.out.trans (hb5.mono HB4.out.size)⟩
      · have h3' : (x.s == 3) = false := by simpa using h3
        have h2 : (x.s == 2) = true := hkd.resolve_left h3
        clear hkd h3
        go_wp2_with fail
        refine (known_any _).mono ?_
        rintro e w5 ⟨rfl, hb5⟩
        go_wp2_with fail
        go_ret
        exact ⟨rfl, HB4.out.trans (hb5.mono HB4.out.size)⟩

set_option maxRecDepth 100000 in
theorem lifted (os : Os) (started : os.Started) (H : Type) (enc : TypeId × Value → H) :
    ReturnsInHanded {} Try.checked os 6 .any (Rows.gcForceSpec.pre6 enc Try.prog Try.f6 Rows.gcForceRow.domain false) (Rows.gcForceSpec.post enc Try.prog Try.f6 false true false false) := by
  refine returnsInHanded_of_change (C := Try.checked) own started (by kernel_rfl) Try.func6
    (ChangeSpec.witness6 (enc := enc) (C := Try.checked) false ⟨#[], #[.slice none 0 0, .int .i64 0, .bool false], []⟩ 8 (by kernel_rfl) (by kernel_rfl) (by kernel_rfl) (by kernel_rfl)) ?_
  intro W base args ds gs before hval0 hW hcnd _
  have hval : ∀ (j : Nat) t v, Try.f6.params[j]? = some t → args[j]? = some v → Value.okWide Try.prog W .any base t v := hval0
  have hW' := hW
  obtain ⟨p, q, hA0, hV, rfl, hfz, hnd⟩ := hW
  have hA : DataW.TrodAll enc Try.prog W 0 (fun _ => true) true Try.f6.params.toList args.toList ds p := hA0
  rw [Try.params6] at hA hval
  obtain ⟨v0, vs0, d0, ds0, p0, q0, hargs, rfl, rfl, h0, r0⟩ := trodAll_cons hA
  obtain ⟨v1, vs1, d1, ds1, p1, q1, rfl, rfl, rfl, h1, r1⟩ := trodAll_cons r0
  obtain ⟨v2, vs2, d2, ds2, p2, q2, rfl, rfl, rfl, h2, r2⟩ := trodAll_cons r1
  obtain ⟨rfl, rfl, rfl⟩ := trodAll_nil r2
  obtain rfl : args = #[v0, v1, v2] := by cases args; simp_all
  obtain ⟨rfl, rfl⟩ := trodVars_none hV
  obtain ⟨bs0, hrow0⟩ := open_row h0 (hval 0 22 v0 rfl rfl)
  obtain ⟨a1, rfl, rfl, rfl, w1⟩ := open_int Try.underlying3 (hval 1 3 v1 rfl rfl) h1
  obtain ⟨a2, rfl, rfl, rfl⟩ := open_bool Try.underlying4 (hval 2 4 v2 rfl rfl) h2
  refine (walk v0 bs0 a1 a2 W hrow0).mono fun e W' ⟨he, bel⟩ => ?_
  subst he
  exact ⟨_, rfl, law_close laidOut (by kernel_rfl) hW' rfl bel rfl Try.underlying4 rfl⟩

theorem over : Rows.gcForceRow.holds Try.pinned (OpenSpec.ofChange Rows.gcForceSpec) :=
  OpenClaim.holds_of_wide 6 Try.f6 rfl rfl rfl rfl rfl rfl rfl ⟨rfl, rfl, rfl, rfl, rfl⟩ rfl rfl rfl rfl rfl (by kernel_rfl) Try.func6 (by kernel_rfl)
    (of_decide_eq_true (by kernel_rfl)) (by unfold Func.isWrapper; first | (rw [if_pos (by decide +kernel)]; kernel_rfl) | (rw [if_neg (by decide +kernel)]; exact ⟨rfl, rfl⟩))
    (fun os started H enc _ => lifted os started H enc)

theorem proved : Rows.GcForceSaid := over
#print axioms proved
end Go.Proofs.Ythehkhondbphoaa.gcForce
