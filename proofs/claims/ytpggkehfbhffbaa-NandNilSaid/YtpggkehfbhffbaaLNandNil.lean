/-
  NandNil: a chip that is not there, and a block that is not there, answers so. No conditions.
-/
import Derived.Test.YtpggkehfbhffbaaNO
import Derived.Test.YtpggkehfbhffbaaNP
import Derived.Test.YtpggkehfbhffbaaFrame
namespace Go.Proofs.Ytpggkehfbhffbaa.nandNil
open Go.ChangeShapes Go.WideShapes Go.ChangeAt Go.RowKit Go.Deep
attribute [local go_sem] Oper.semAt_some

set_option maxRecDepth 100000 in
set_option maxHeartbeats 4000000 in
theorem walk (j p : Int) (v : Value) (w : World) : Calls Try.prog 6 #[vi j, vi p, v] w fun e w' => e = .returned (.bool true) ∧ Below w.heap.size w w' := by
  refine callsIn_wide.1 (callsIn_of_wp_marks (F := Fence.wide) (n := 6) Try.func6 rfl trivial (wpIn_wide.2 ?_) rfl)
  simp only [Try.ntmps6, List.size_toArray, List.length_cons, List.length_nil, Nat.reduceAdd, Nat.reduceSub, Array.replicate_succ, Array.replicate_zero, List.push_toArray, List.append_toArray, List.nil_append, List.cons_append]
  go_wp2_with fail
  refine (Read_nil j p).mono ?_
  rintro e w' ⟨rfl, rfl⟩
  go_wp2_with fail
  refine (Pages_any none j).mono ?_
  rintro e w' ⟨rfl, rfl⟩
  have heq := eql_seq_nil
  have HB1 : Hid (Below w'.heap.size w' (((w'.alloc (.cells #[vi 0] 3)).alloc (.cells #[.pointer none] 26)).alloc (.cells #[vi j] 3))) := Lib.hid ((((Below.refl _ _).alloc (Nat.le_refl _) _).alloc (by simp) _).alloc (by simp; omega) _)
  go_wp2_with fail
  clear heq
  have F0 : Blk (((w'.alloc (.cells #[vi 0] 3)).alloc (.cells #[.pointer none] 26)).alloc (.cells #[vi j] 3)) w'.heap.size 3 #[vi 0] := ((Blk.new _ _ _).alloc _).alloc _
  have F1 : Blk (((w'.alloc (.cells #[vi 0] 3)).alloc (.cells #[.pointer none] 26)).alloc (.cells #[vi j] 3)) (w'.heap.size + 1) 26 #[.pointer none] := by
    have := (Blk.new (w'.alloc (.cells #[vi 0] 3)) 26 #[.pointer none]).alloc (.cells #[vi j] 3)
    rwa [size_alloc] at this
  have F2 : Blk (((w'.alloc (.cells #[vi 0] 3)).alloc (.cells #[.pointer none] 26)).alloc (.cells #[vi j] 3)) (w'.heap.size + 1 + 1) 3 #[vi j] := by
    have := Blk.new ((w'.alloc (.cells #[vi 0] 3)).alloc (.cells #[.pointer none] 26)) 3 #[vi j]
    rwa [size_alloc, size_alloc] at this
  generalize ((w'.alloc (.cells #[vi 0] 3)).alloc (.cells #[.pointer none] 26)).alloc (.cells #[vi j] 3) = w1 at *
  refine wp_rangeFunc_none (gf := 61) (lb := #[.pointer (some ⟨w'.heap.size + 1, 0, none⟩), .pointer (some ⟨w'.heap.size + 1 + 1, 0, none⟩)]) rfl (enter_of Try.func61 (by kernel_rfl) rfl)
    (Pages1_nil 5 _ _ j (F1.cell 0) (F2.cell 0) (fun _ _ => True)) (fun _ => rfl) ?_
  · rintro D W hD hB hK
    have HB := Lib.hid (HB1.out.trans (hB.mono HB1.out.size))
    have HK := Lib.hid hK
    have hD' : W.heap[D]? ≠ none := by rw [hK]; simp
    have HD := Lib.hid hD
    have c0 : W.cell? ⟨w'.heap.size, 0, none⟩ = some (vi 0) := cell_below (F0.cell 0) hB
    clear hK hB hD hD' F0 F1 F2
    go_wp2_with fail
    refine Dump_nil.mono ?_
    rintro e w' ⟨rfl, rfl⟩
    go_wp2_with fail
    refine (Lose_nil).mono ?_
    rintro e w' ⟨rfl, rfl⟩
    go_wp2_with fail
    refine (Start_nil).mono ?_
    rintro e w' ⟨rfl, rfl⟩
    go_wp2_with fail
    refine (Program_nil j p v).mono ?_
    rintro e w' ⟨rfl, rfl⟩
    go_wp2_with fail
    refine (Erase_nil j).mono ?_
    rintro e w' ⟨rfl, rfl⟩
    go_wp2_with fail
    refine (Mark_nil j).mono ?_
    rintro e w' ⟨rfl, rfl⟩
    go_wp2_with fail
    refine (Script_nil _).mono ?_
    rintro e w' ⟨rfl, rfl⟩
    go_wp2_with fail
    refine (Bad_nil j).mono ?_
    rintro e w' ⟨rfl, rfl⟩
    go_wp2_with fail
    refine (Wear_nil j).mono ?_
    rintro e w' ⟨rfl, rfl⟩
    go_wp2_with fail
    refine (Up_nil).mono ?_
    rintro e w' ⟨rfl, rfl⟩
    go_wp2_with fail
    refine (Strokes_nil).mono ?_
    rintro e w' ⟨rfl, rfl⟩
    go_wp2_with fail
    refine (Reads_nil).mono ?_
    rintro e w' ⟨rfl, rfl⟩
    go_wp2_with fail
    refine (Copy_nil).mono ?_
    rintro e w' ⟨rfl, rfl⟩
    go_wp2_with fail
    refine Geo_nil.mono ?_
    rintro e w2 ⟨rfl, hb2⟩
    have HK2 := Lib.hid ((hb2.block D (Array.getElem?_eq_some_iff.1 HK.out).1).trans HK.out)
    have HB2 := Lib.hid (HB.out.trans (hb2.mono HB.out.size))
    clear hb2 HK HB c0
    go_wp2_with fail
    refine (known02_any _).mono ?_
    rintro e w3 ⟨rfl, hb3⟩
    have HK3 := Lib.hid ((hb3.block D (Array.getElem?_eq_some_iff.1 HK2.out).1).trans HK2.out)
    have HB3 := Lib.hid (HB2.out.trans (hb3.mono HB2.out.size))
    clear hb3 HK2 HB2
    go_wp2_with fail
    exact marks_ret (v := .bool true) HK3.out (fun w => by simp [results, Try.results6, go_sem]) ⟨rfl, below_taken HB3.out (Nat.le_trans HB1.out.size HD.out)⟩

set_option maxRecDepth 100000 in
theorem lifted (os : Os) (started : os.Started) (H : Type) (enc : TypeId × Value → H) :
    ReturnsInHanded {} Try.checked os 6 .any (Rows.nandNilSpec.pre6 enc Try.prog Try.f6 Rows.nandNilRow.domain false) (Rows.nandNilSpec.post enc Try.prog Try.f6 false true false false) := by
  refine returnsInHanded_of_change (C := Try.checked) own started (by kernel_rfl) Try.func6
    (ChangeSpec.witness6 (enc := enc) (C := Try.checked) false ⟨#[], #[.int .i64 0, .int .i64 0, .slice none 0 0], []⟩ 8 (by kernel_rfl) (by kernel_rfl) (by kernel_rfl) (by kernel_rfl)) ?_
  intro W base args ds gs before hval0 hW hcnd _
  have hval : ∀ (j : Nat) t v, Try.f6.params[j]? = some t → args[j]? = some v → Value.okWide Try.prog W .any base t v := hval0
  have hW' := hW
  obtain ⟨p, q, hA0, hV, rfl, hfz, hnd⟩ := hW
  have hA : DataW.TrodAll enc Try.prog W 0 (fun _ => true) true Try.f6.params.toList args.toList ds p := hA0
  rw [Try.params6] at hA hval
  obtain ⟨v0, vs0, d0, ds0, p0, q0, hargs, rfl, rfl, h0, r0⟩ := trodAll_cons hA
  obtain ⟨v1, vs1, d1, ds1, p1, q1, rfl, rfl, rfl, h1, r1⟩ := trodAll_cons r0
  obtain ⟨v2, vs2, d2, ds2, p2, q2, rfl, rfl, rfl, h2, r2⟩ := trodAll_cons r1
  obtain ⟨rfl, rfl, rfl⟩ := trodAll_nil r2
  obtain rfl : args = #[v0, v1, v2] := by cases args; simp_all
  obtain ⟨rfl, rfl⟩ := trodVars_none hV
  obtain ⟨a0, rfl, rfl, rfl, w0⟩ := open_int Try.underlying3 (hval 0 3 v0 rfl rfl) h0
  obtain ⟨a1, rfl, rfl, rfl, w1⟩ := open_int Try.underlying3 (hval 1 3 v1 rfl rfl) h1
  skip
  refine (walk a0 a1 v2 W ).mono fun e W' ⟨he, bel⟩ => ?_
  subst he
  exact ⟨_, rfl, law_close laidOut (by kernel_rfl) hW' rfl bel rfl Try.underlying4 rfl⟩

theorem over : Rows.nandNilRow.holds Try.pinned (OpenSpec.ofChange Rows.nandNilSpec) :=
  OpenClaim.holds_of_wide 6 Try.f6 rfl rfl rfl rfl rfl rfl rfl ⟨rfl, rfl, rfl, rfl, rfl⟩ rfl rfl rfl rfl rfl (by kernel_rfl) Try.func6 (by kernel_rfl)
    (of_decide_eq_true (by kernel_rfl)) (by unfold Func.isWrapper; first | (rw [if_pos (by decide +kernel)]; kernel_rfl) | (rw [if_neg (by decide +kernel)]; exact ⟨rfl, rfl⟩))
    (fun os started H enc _ => lifted os started H enc)

theorem proved : Rows.NandNilSaid := over
#print axioms proved

end Go.Proofs.Ytpggkehfbhffbaa.nandNil
