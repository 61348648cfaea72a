/-
  GcTurns: the order of blocks plays no part but for which of those that are alike it is. No conditions.
-/
import Derived.Test.YthehkhondbphoaaGcQ
import Derived.Deep.RegionHeld3
import Derived.Deep.DrawnRows
namespace Go.Proofs.Ythehkhondbphoaa.gcTurns
open Go.ChangeShapes Go.WideShapes Go.ChangeAt Go.RowKit Go.Deep

theorem row_one (w : World) (x : Blk) : Row (w.alloc (.cells #[vi x.s, vi x.l, vi x.r, vi x.n] 34)) (.slice (some ⟨w.heap.size, 0, none⟩) 1 1) [x] := by
  refine ⟨by simp, some ⟨w.heap.size, 0, none⟩, 1, rfl, .inr ⟨_, _, rfl, fun i hi => ?_⟩⟩
  have : i = 0 := by simp at hi; omega
  subst this
  exact ⟨by simp, by simp, by simp, by simp⟩
theorem reverse_take (bs : List Blk) (k j : Nat) (h : j + k + 1 = bs.length) : bs.reverse.take (k + 1) = bs.reverse.take k ++ [bs.getD j default] := by
  rw [List.take_succ_eq_append_getElem (by rw [List.length_reverse]; omega), List.getElem_reverse, List.getD_eq_getElem?_getD, List.getElem?_eq_getElem (by omega)]
  congr 2
  simp only [Option.getD_some]
  congr 1
  omega

theorem below_two (w : World) (o o' : Obj) : Below w.heap.size w ((w.alloc o).alloc o') := ((Below.refl w.heap.size w).alloc (Nat.le_refl _) o).alloc (by simp) o'

/-- The loop that turns the row round, one step of what is held. -/
theorem turn_step {w wr : World} {base k j : Nat} {vm : Value} {bs : List Blk} (hbs : bs.length ≤ 150) (h : j + k + 1 = bs.length) (hown : wr.ownsRow base 34 4 vm k (cellsOf (bs.reverse.take k))) (hbase : base ≤ wr.heap.size) (hwb : w.heap.size ≤ base) (hb : Below w.heap.size w wr) :
    ∃ v' w', (Builtin.append_ #[22, 22] 22 #[vm, .slice (some ⟨wr.heap.size, 0, none⟩) 1 1]).run Try.prog (wr.alloc (.cells #[vi (bs.getD j default).s, vi (bs.getD j default).l, vi (bs.getD j default).r, vi (bs.getD j default).n] 34)) = .ok v' w' ∧
      w'.ownsRow base 34 4 v' (k + 1) (cellsOf (bs.reverse.take (k + 1))) ∧ base ≤ w'.heap.size ∧ Below w.heap.size w w' := by
  obtain ⟨v', w', hrun, ho, hg⟩ := append_blocks (hown.alloc _) (row_one wr (bs.getD j default)) (by simp; omega) (by simp; omega)
  have hbb := grown_below (hown.alloc _) hg (by simp; omega)
  refine ⟨v', w', hrun, ?_, ?_, ?_⟩
  · rw [reverse_take bs k j h, cellsOf_append]
    exact ho
  · have := hbb.size
    simp at this
    omega
  · exact (hb.alloc hb.size _).trans (hbb.mono hwb)

set_option maxHeartbeats 4000000 in
theorem walk (v : Value) (bs : List Blk) (p : Int) (room : Bool) (w : World) (hrow : Row w v bs) :
    Calls Try.prog 5 #[v, vi p, .bool room] w fun e w' => e = .returned (.bool true) ∧ Below w.heap.size w w' := by
  have HR := Lib.hid hrow
  obtain ⟨hlen, a, cap, rfl, -⟩ := hrow
  go_enter Try.func5, Try.ntmps5
  go_wp2_with fail
  refine (long_any _ bs _ HR.out).mono ?_
  rintro e w1 ⟨rfl, hb1⟩
  have HB := Lib.hid hb1
  clear hb1
  by_cases hl : 150 < bs.length
  · go_wp2_with fail
    refine (known_any _).mono ?_
    rintro e w2 ⟨rfl, hb2⟩
    go_wp2_with fail
    go_ret
    exact ⟨rfl, HB.out.trans (hb2.mono HB.out.size)⟩
  have hl' : decide (150 < bs.length) = false := by simpa using hl
  rw [hl']
  clear hl'
  have hlb : bs.length ≤ 150 := by omega
  go_wp2_with fail
  go_loopw [7, 8] (fun m i wr => ∃ (k : Nat) (i' : Int), k ≤ bs.length ∧ i = vi i' ∧ Hid (i' = bs.length - 1 - k) ∧ wr.ownsRow w1.heap.size 34 4 m k (cellsOf (bs.reverse.take k)) ∧ w1.heap.size ≤ wr.heap.size ∧ Below w.heap.size w wr) (fun _ i _ => (intOf i + 1).toNat)
  case atStart => exact ⟨0, (bs.length : Int) - 1, Nat.zero_le _, rfl, Lib.hid (by simp), World.ownsRow_nil _ _ _ _, Nat.le_refl _, HB.out⟩
  case round =>
    obtain ⟨k, i', hk, rfl, hi, hown, hbase, hb⟩ := hrel
    have HO := Lib.hid hown
    have HB2 := Lib.hid hb
    clear hown hb
    by_cases hlt : k < bs.length
    · obtain ⟨j, rfl⟩ : ∃ j : Nat, i' = j := ⟨i'.toNat, by have := hi.out; omega⟩
      have hj : j + k + 1 = bs.length := by have := hi.out; omega
      obtain ⟨v', w', hrun, ho, hbase', hb'⟩ := turn_step hlb hj HO.out hbase HB.out.size HB2.out
      obtain ⟨b, o, rfl, hx⟩ := (HR.out.below HB2.out).lookup (k := j) (by omega)
      have hjl : (j : Int) < (bs.length : Int) := by omega
      have Hj := Lib.hid hj
      clear hj
      generalize bs.getD j default = x at hx hrun
      obtain ⟨g0, g1, g2, g3⟩ := hx
      have HRun := Lib.hid hrun
      have HO2 := Lib.hid ho
      have HB3 := Lib.hid hb'
      clear hrun ho hb'
      go_wp2_with (at_builtin; refine wpList_append_run rfl (.tmp 23) (.tmp 28) rfl rfl rfl HRun.out ?_)
      go_roundw
      case rel => exact ⟨k + 1, (j : Int) - 1, by omega, rfl, Lib.hid (by have := Hj.out; omega), HO2.out, hbase', HB3.out⟩
      case measure => simp [intOf]
    · obtain rfl : k = bs.length := by omega
      have hi' : i' < 0 := by have := hi.out; omega
      have hrm : Row wr u7 bs.reverse := by
        have := HO.out
        rw [show bs.length = bs.reverse.length from (List.length_reverse).symm, List.take_length] at this
        exact row_of_own this
      have HM := Lib.hid hrm
      have hrm2 := hrm
      obtain ⟨-, am, capm, hvm, -⟩ := hrm2
      rw [List.length_reverse] at hvm
      subst hvm
      clear hrm HO
      go_wp2_with fail
      refine (Next_any _ bs p room _ (HR.out.below HB2.out)).mono ?_
      rintro e w2 ⟨rfl, hb2⟩
      have HB3 := Lib.hid (HB2.out.trans (hb2.mono HB2.out.size))
      have HM2 := Lib.hid (HM.out.below hb2)
      clear hb2 HB2 HM
      go_wp2_with fail
      refine (Next_any _ bs.reverse p room _ HM2.out).mono ?_
      rintro e w3 ⟨rfl, hb3⟩
      have HB4 := Lib.hid (HB3.out.trans (hb3.mono HB3.out.size))
      have HM3 := Lib.hid (HM2.out.below hb3)
      clear hb3 HB3 HM2
      have hm := NextL_turns bs p room
      generalize NextL bs p room = x at hm ⊢
      generalize NextL bs.reverse p room = y at hm ⊢
      obtain ⟨xk, xb⟩ := x
      obtain ⟨yk, yb⟩ := y
      obtain ⟨hm1, hm2, hm3⟩ := hm
      dsimp only at hm1 hm2 hm3 ⊢
      subst hm1
      have Hm2 := Lib.hid hm2
      have Hm3 := Lib.hid hm3
      clear hm2 hm3
      by_cases h0 : (xk == 0) = true
      · obtain rfl : xk = 0 := by simpa using h0
        obtain ⟨hxb, hyb⟩ := Hm2.out rfl
        subst hxb hyb
        clear Hm2 Hm3 h0
        go_wp2_with fail
        refine (known_any _).mono ?_
        rintro e w4 ⟨rfl, hb4⟩
        go_wp2_with fail
        go_ret
        exact ⟨rfl, (HB4.out.trans ((below_two _ _ _).mono HB4.out.size)).trans (hb4.mono (Nat.le_trans HB4.out.size (below_two _ _ _).size))⟩
      have h0' : (xk == 0) = false := by simpa using h0
      by_cases h3 : (xk == 3) = true
      · obtain rfl : xk = 3 := by simpa using h3
        clear h0 h3 Hm2 Hm3
        go_wp2_with fail
        refine (known_any _).mono ?_
        rintro e w4 ⟨rfl, hb4⟩
        go_wp2_with fail
        go_ret
        exact ⟨rfl, (HB4.out.trans ((below_two _ _ _).mono HB4.out.size)).trans (hb4.mono (Nat.le_trans HB4.out.size (below_two _ _ _).size))⟩
      have h3' : (xk == 3) = false := by simpa using h3
      obtain ⟨⟨hx0, hx1⟩, ⟨hy0, hy1⟩, es, el, er⟩ := Hm3.out (by simpa using h0') (by simpa using h3')
      clear h0 h3 Hm2 Hm3
      obtain ⟨j1, rfl⟩ : ∃ j : Nat, xb = j := ⟨xb.toNat, by omega⟩
      obtain ⟨j2, rfl⟩ : ∃ j : Nat, yb = j := ⟨yb.toNat, by omega⟩
      obtain ⟨b1, o1, rfl, hx⟩ := (HR.out.below HB4.out).lookup (k := j1) (by omega)
      obtain ⟨b2, o2, rfl, hy⟩ := HM3.out.lookup' (k := j2) (by simp; omega)
      have hjn1 : (j1 : Int) < (bs.length : Int) := by omega
      have hjn2 : (j2 : Int) < (bs.length : Int) := by omega
      simp only [Int.toNat_natCast] at es el er
      generalize bs.getD j1 default = x at hx es el er
      generalize bs.reverse.getD j2 default = y at hy es el er
      obtain ⟨xs, xl, xr, xn⟩ := x
      obtain ⟨ys, yl, yr, yn⟩ := y
      dsimp only at es el er
      subst es el er
      obtain ⟨g0, g1, g2, g3⟩ := hx
      obtain ⟨g4, g5, g6, g7⟩ := hy
      have hn4 : (bs.length : Int) ≤ 4096 := by omega
      go_wp2_with fail
      have hBW := below_two w3 (.cells #[.int .i64 xk, .int .i64 j1] 28) (.cells #[.int .i64 xk, .int .i64 j2] 28)
      have c0 : ((w3.alloc (.cells #[.int .i64 xk, .int .i64 j1] 28)).alloc (.cells #[.int .i64 xk, .int .i64 j2] 28)).cell? ⟨w3.heap.size, 1, none⟩ = some (vi j1) := by simp
      have c1 : ((w3.alloc (.cells #[.int .i64 xk, .int .i64 j1] 28)).alloc (.cells #[.int .i64 xk, .int .i64 j2] 28)).cell? ⟨w3.heap.size + 1, 1, none⟩ = some (vi j2) := by simp
      replace g0 := cell_below g0 hBW
      replace g1 := cell_below g1 hBW
      replace g2 := cell_below g2 hBW
      replace g3 := cell_below g3 hBW
      replace g4 := cell_below g4 hBW
      replace g5 := cell_below g5 hBW
      replace g6 := cell_below g6 hBW
      replace g7 := cell_below g7 hBW
      have HBn := Lib.hid (HB4.out.trans (hBW.mono HB4.out.size))
      clear hBW
      rename_i q1 k2 k1 hh q0 a1 k0 hK14
      clear HR HM3 HB4 hlen hl hlb hk hbase hlt hi hi' h0' h3' hx1 hy1 HB hh a1
      generalize (w3.alloc (.cells #[.int .i64 xk, .int .i64 j1] 28)).alloc (.cells #[.int .i64 xk, .int .i64 j2] 28) = W at *
      have n0 := World.new_ne _ _ c0
      have n1 := World.new_ne _ _ c1
      have n2 := World.new_ne _ _ g0
      have n3 := World.new_ne _ _ g4
      have l0 := cell_lt c0
      have l1 := cell_lt c1
      have l2 := cell_lt g0
      have l3 := cell_lt g4
      dsimp only at n0 n1 n2 n3 l0 l1 l2 l3
      have m0 : W.heap.size + 1 ≠ w3.heap.size := by omega
      have m1 : W.heap.size + 1 ≠ w3.heap.size + 1 := by omega
      have m2 : W.heap.size + 1 ≠ b1 := by omega
      have m3 : W.heap.size + 1 ≠ b2 := by omega
      go_region_held3 (fun w' => w'.cell? ⟨w3.heap.size, 1, none⟩ = some (vi j1) ∧ w'.cell? ⟨w3.heap.size + 1, 1, none⟩ = some (vi j2) ∧
          w'.cell? ⟨b1, o1 + j1 * 4, none⟩ = some (vi xs) ∧ w'.cell? ⟨b1, o1 + j1 * 4 + 1, none⟩ = some (vi xl) ∧ w'.cell? ⟨b1, o1 + j1 * 4 + 2, none⟩ = some (vi xr) ∧ w'.cell? ⟨b1, o1 + j1 * 4 + 3, none⟩ = some (vi xn) ∧
          w'.cell? ⟨b2, o2 + j2 * 4, none⟩ = some (vi xs) ∧ w'.cell? ⟨b2, o2 + j2 * 4 + 1, none⟩ = some (vi xl) ∧ w'.cell? ⟨b2, o2 + j2 * 4 + 2, none⟩ = some (vi xr) ∧ w'.cell? ⟨b2, o2 + j2 * 4 + 3, none⟩ = some (vi yn))
        (go_keep)
        ((go_at_call 17; refine (Among_any _ _ _ (by assumption) (by assumption) (by assumption)).mono ?_; rintro e w4 ⟨rfl, rfl⟩))
      all_goals
        go_wp2_with fail
        refine (known_any _).mono ?_
        rintro e w4 ⟨rfl, hb4⟩
        go_wp2_with fail
        go_ret
        exact ⟨rfl, (HBn.out.trans ((below_two W _ _).mono HBn.out.size)).drew.trans (hb4.mono (Nat.le_trans HBn.out.size (below_two W _ _).size))⟩

set_option maxRecDepth 100000 in
theorem lifted (os : Os) (started : os.Started) (H : Type) (enc : TypeId × Value → H) :
    ReturnsInHanded {} Try.checked os 5 .any (Rows.gcTurnsSpec.pre6 enc Try.prog Try.f5 Rows.gcTurnsRow.domain false) (Rows.gcTurnsSpec.post enc Try.prog Try.f5 false true false false) := by
  refine returnsInHanded_of_change (C := Try.checked) own started (by kernel_rfl) Try.func5
    (ChangeSpec.witness6 (enc := enc) (C := Try.checked) false ⟨#[], #[.slice none 0 0, .int .i64 0, .bool false], []⟩ 8 (by kernel_rfl) (by kernel_rfl) (by kernel_rfl) (by kernel_rfl)) ?_
  intro W base args ds gs before hval0 hW hcnd _
  have hval : ∀ (j : Nat) t v, Try.f5.params[j]? = some t → args[j]? = some v → Value.okWide Try.prog W .any base t v := hval0
  have hW' := hW
  obtain ⟨p, q, hA0, hV, rfl, hfz, hnd⟩ := hW
  have hA : DataW.TrodAll enc Try.prog W 0 (fun _ => true) true Try.f5.params.toList args.toList ds p := hA0
  rw [Try.params5] at hA hval
  obtain ⟨v0, vs0, d0, ds0, p0, q0, hargs, rfl, rfl, h0, r0⟩ := trodAll_cons hA
  obtain ⟨v1, vs1, d1, ds1, p1, q1, rfl, rfl, rfl, h1, r1⟩ := trodAll_cons r0
  obtain ⟨v2, vs2, d2, ds2, p2, q2, rfl, rfl, rfl, h2, r2⟩ := trodAll_cons r1
  obtain ⟨rfl, rfl, rfl⟩ := trodAll_nil r2
  obtain rfl : args = #[v0, v1, v2] := by cases args; simp_all
  obtain ⟨rfl, rfl⟩ := trodVars_none hV
  obtain ⟨bs0, hrow0⟩ := open_row h0 (hval 0 22 v0 rfl rfl)
  obtain ⟨a1, rfl, rfl, rfl, w1⟩ := open_int Try.underlying3 (hval 1 3 v1 rfl rfl) h1
  obtain ⟨a2, rfl, rfl, rfl⟩ := open_bool Try.underlying4 (hval 2 4 v2 rfl rfl) h2
  refine (walk v0 bs0 a1 a2 W hrow0).mono fun e W' ⟨he, bel⟩ => ?_
  subst he
  exact ⟨_, rfl, law_close laidOut (by kernel_rfl) hW' rfl bel rfl Try.underlying4 rfl⟩

theorem over : Rows.gcTurnsRow.holds Try.pinned (OpenSpec.ofChange Rows.gcTurnsSpec) :=
  OpenClaim.holds_of_wide 5 Try.f5 rfl rfl rfl rfl rfl rfl rfl ⟨rfl, rfl, rfl, rfl, rfl⟩ rfl rfl rfl rfl rfl (by kernel_rfl) Try.func5 (by kernel_rfl)
    (of_decide_eq_true (by kernel_rfl)) (by unfold Func.isWrapper; first | (rw [if_pos (by decide +kernel)]; kernel_rfl) | (rw [if_neg (by decide +kernel)]; exact ⟨rfl, rfl⟩))
    (fun os started H enc _ => lifted os started H enc)

theorem proved : Rows.GcTurnsSaid := over
#print axioms proved
end Go.Proofs.Ythehkhondbphoaa.gcTurns
