/-
  PoolNil: a pool that is not there, and one of no translation, answers so. No conditions.
-/
import Derived.Test.YtjkaioonppmkjaaGreatZP40
import Derived.Test.YtjkaioonppmkjaaGreatZP41
namespace Go.Proofs.YtjkaioonppmkjaaGreat.poolNil
open Go.ChangeShapes Go.WideShapes Go.ChangeAt Go.RowKit Go.Deep
open Go.Proofs.YtjkaioonppmkjaaGreat.mgr Go.Proofs.YtjkaioonppmkjaaGreat.ft Go.Proofs.YtjkaioonppmkjaaGreat.pl
attribute [local go_sem] Oper.semAt_some

set_option maxRecDepth 100000 in
set_option maxHeartbeats 8000000 in
theorem walk (n : Int) (b : Value) (w : World) : Calls Tryz.prog 4 #[vi n, b] w fun e w' => e = .returned (.bool true) ∧ Below w.heap.size w w' := by
  refine callsIn_wide.1 (callsIn_of_wp_marks (F := Fence.wide) (n := 6) Tryz.func4 rfl trivial (wpIn_wide.2 ?_) rfl)
  simp only [Tryz.ntmps4, List.size_toArray, List.length_cons, List.length_nil, Nat.reduceAdd, Nat.reduceSub, Array.replicate_succ, Array.replicate_zero, List.push_toArray, List.append_toArray, List.nil_append, List.cons_append]
  go_wp2_with fail
  refine (pl.Get_nil (vi n)).mono ?_
  rintro e w' ⟨rfl, rfl⟩
  go_wp2_with fail
  refine (pl.Alloc_nil).mono ?_
  rintro e w' ⟨rfl, rfl⟩
  go_wp2_with fail
  refine (pl.Open_nil 0 0 0 0 _).mono ?_
  rintro e w0 ⟨rfl, hb0⟩
  have HB0 := Lib.hid hb0
  clear hb0
  go_wp2_with fail
  refine (pl.Used_any none).mono ?_
  rintro e w1 ⟨rfl, rfl⟩
  have heq := eql_seqI
  go_wp2_with fail
  clear heq
  have HB1 : Hid (Below w0.heap.size w0 ((w0.alloc (.cells #[vi 0] 3)).alloc (.cells #[.pointer none] 46))) := Lib.hid (((Below.refl _ _).alloc (Nat.le_refl _) _).alloc (by simp) _)
  have F0 : Blk ((w0.alloc (.cells #[vi 0] 3)).alloc (.cells #[.pointer none] 46)) w0.heap.size 3 #[vi 0] := (Blk.new _ _ _).alloc _
  have F1 : Blk ((w0.alloc (.cells #[vi 0] 3)).alloc (.cells #[.pointer none] 46)) (w0.heap.size + 1) 46 #[.pointer none] := by
    have := Blk.new (w0.alloc (.cells #[vi 0] 3)) 46 #[.pointer none]
    rwa [size_alloc] at this
  generalize (w0.alloc (.cells #[vi 0] 3)).alloc (.cells #[.pointer none] 46) = w2 at *
  refine ft.wp_rangeFunc_empty (gf := 78) (lb := #[.pointer (some ⟨w0.heap.size + 1, 0, none⟩)]) rfl (enter_of Tryz.func78 (by kernel_rfl) rfl)
    (pl.Used1_nil 5 _ (F1.cell 0) (fun _ _ => True)) ?_
  rintro D W hD hB hK
  have HB := Lib.hid ((HB0.out.trans (HB1.out.mono HB0.out.size)).trans (hB.mono (Nat.le_trans HB0.out.size HB1.out.size)))
  have HDL : Hid (D < W.heap.size) := Lib.hid (Array.getElem?_eq_some_iff.1 hK).1
  have HK := Lib.hid hK
  have HD := Lib.hid (Nat.le_trans (Nat.le_trans HB0.out.size HB1.out.size) hD)
  have HC0 : Hid (W.cell? ⟨w0.heap.size, 0, none⟩ = some (vi 0)) := Lib.hid (cell_below (F0.cell 0) hB)
  clear hK hB hD F0 F1 HB1 HB0
  generalize w0.heap.size = b0 at HC0 ⊢
  go_wp2_with fail
  refine (pl.Put_nil (vi n) b).mono ?_
  rintro e w3 ⟨rfl, rfl⟩
  go_wp2_with fail
  refine (pl.Free_nil (vi n)).mono ?_
  rintro e w4 ⟨rfl, rfl⟩
  go_wp2_with fail
  refine (pl.Commit_nil b).mono ?_
  rintro e w5 ⟨rfl, rfl⟩
  go_wp2_with fail
  refine (pl.Dirty_nil).mono ?_
  rintro e w6 ⟨rfl, rfl⟩
  go_wp2_with fail
  refine (pl.Room_nil).mono ?_
  rintro e w7 ⟨rfl, rfl⟩
  go_wp2_with fail
  refine (pl.Size_nil).mono ?_
  rintro e w8 ⟨rfl, rfl⟩
  go_wp2_with fail
  refine (pl.Layout_nil).mono ?_
  rintro e w9 ⟨rfl, hb9⟩
  have HB9 := Lib.hid hb9
  have hel := pl.eql_lay
  clear hb9
  have c0 : w9.cell? ⟨b0, 0, none⟩ = some (vi 0) := cell_below HC0.out HB9.out
  go_wp2_with fail
  refine (pl.ReadOnly_nil).mono ?_
  rintro e w10 ⟨rfl, rfl⟩
  go_wp2_with fail
  refine (known11_any _).mono ?_
  rintro e w11 ⟨rfl, hb11⟩
  have HBW : Hid (Below w8.heap.size w8 w11) := Lib.hid (HB9.out.trans (hb11.mono HB9.out.size))
  have HKN : Hid (w11.heap[D]? = some (.deferred (some []))) := Lib.hid ((HBW.out.block D HDL.out).trans HK.out)
  clear hb11 hel c0
  go_wp2_with fail
  exact marksB_ret (v := .bool true) HKN.out (fun w => by simp [results, Tryz.results4, go_sem]) ⟨rfl, ft.below_taken (HB.out.trans (HBW.out.mono HB.out.size)) HD.out⟩

set_option maxRecDepth 100000 in
theorem lifted (os : Os) (started : os.Started) (H : Type) (enc : TypeId × Value → H) :
    ReturnsInHanded {} Tryz.checked os 4 .any (Rows.poolNilSpec.pre6 enc Tryz.prog Tryz.f4 Rows.poolNilRow.domain false) (Rows.poolNilSpec.post enc Tryz.prog Tryz.f4 false true false false) := by
  refine returnsInHanded_of_change (C := Tryz.checked) own started (by kernel_rfl) Tryz.func4
    (ChangeSpec.witness6 (enc := enc) (C := Tryz.checked) false ⟨#[], #[.int .i64 0, .slice none 0 0], []⟩ 8 (by kernel_rfl) (by kernel_rfl) (by kernel_rfl) (by kernel_rfl)) ?_
  intro W base args ds gs before hval0 hW hcnd _
  have hval : ∀ (j : Nat) t v, Tryz.f4.params[j]? = some t → args[j]? = some v → Value.okWide Tryz.prog W .any base t v := hval0
  have hW' := hW
  obtain ⟨p, q, hA0, hV, rfl, hfz, hnd⟩ := hW
  have hA : DataW.TrodAll enc Tryz.prog W 0 (fun _ => true) true Tryz.f4.params.toList args.toList ds p := hA0
  rw [Tryz.params4] at hA hval
  obtain ⟨v0, vs0, d0, ds0, p0, q0, hargs, rfl, rfl, h0, r0⟩ := trodAll_cons hA
  obtain ⟨v1, vs1, d1, ds1, p1, q1, rfl, rfl, rfl, h1, r1⟩ := trodAll_cons r0
  obtain ⟨rfl, rfl, rfl⟩ := trodAll_nil r1
  obtain rfl : args = #[v0, v1] := by cases args; simp_all
  obtain ⟨rfl, rfl⟩ := trodVars_none hV
  obtain ⟨a0, rfl, rfl, rfl, w0⟩ := open_int Tryz.underlying3 (hval 0 3 v0 rfl rfl) h0
  skip
  refine (walk a0 v1 W ).mono fun e W' ⟨he, bel⟩ => ?_
  subst he
  exact ⟨_, rfl, law_close laidOut (by kernel_rfl) hW' rfl bel rfl Tryz.underlying4 rfl⟩

theorem over : Rows.poolNilRow.holds Tryz.pinned (OpenSpec.ofChange Rows.poolNilSpec) :=
  OpenClaim.holds_of_wide 4 Tryz.f4 rfl rfl rfl rfl rfl rfl rfl ⟨rfl, rfl, rfl, rfl, rfl⟩ rfl rfl rfl rfl rfl (by kernel_rfl) Tryz.func4 (by kernel_rfl)
    (of_decide_eq_true (by kernel_rfl)) (by unfold Func.isWrapper; first | (rw [if_pos (by decide +kernel)]; kernel_rfl) | (rw [if_neg (by decide +kernel)]; exact ⟨rfl, rfl⟩))
    (fun os started H enc _ => lifted os started H enc)

theorem proved : Rows.PoolNilSaid := over
#print axioms proved

end Go.Proofs.YtjkaioonppmkjaaGreat.poolNil

