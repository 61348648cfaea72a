/-
  TreeNil: a tree that is not there, and one of no pool, answers so. No conditions.
-/
import Derived.Test.YtnfhlocflpdlcaaGreatZT43
import Derived.Test.YtnfhlocflpdlcaaGreatZT44
namespace Go.Proofs.YtnfhlocflpdlcaaGreat.treeNil
open Go.ChangeShapes Go.WideShapes Go.ChangeAt Go.RowKit Go.Deep
open Go.Proofs.YtnfhlocflpdlcaaGreat.mgr Go.Proofs.YtnfhlocflpdlcaaGreat.ft Go.Proofs.YtnfhlocflpdlcaaGreat.pl
attribute [local go_sem] Oper.semAt_some

set_option maxRecDepth 100000 in
set_option maxHeartbeats 8000000 in
theorem walk (n : Int) (s : Value) (w : World) : Calls Tryz.prog 4 #[vi n, s] w fun e w' => e = .returned (.bool true) ∧ Below w.heap.size w w' := by
  refine callsIn_wide.1 (callsIn_of_wp_marks (F := Fence.wide) (n := 6) Tryz.func4 rfl trivial (wpIn_wide.2 ?_) rfl)
  simp only [Tryz.ntmps4, List.size_toArray, List.length_cons, List.length_nil, Nat.reduceAdd, Nat.reduceSub, Array.replicate_succ, Array.replicate_zero, List.push_toArray, List.append_toArray, List.nil_append, List.cons_append]
  go_wp2_with fail
  refine (tr.Inode_nil (vi n)).mono ?_
  rintro e w1 ⟨rfl, hb1⟩
  have HB1 := Lib.hid hb1
  clear hb1
  go_upto_region 3 with fail
  change Code.wp _ _ _ _ (w1.alloc tr.zC)
  have HB2 : Hid (Below w.heap.size w (w1.alloc tr.zC)) := Lib.hid (HB1.out.alloc HB1.out.size _)
  generalize w1.alloc tr.zC = w2 at *
  clear HB1
  go_wp2_with fail
  refine (tr.Make_nil _).mono ?_
  rintro e w' ⟨rfl, rfl⟩
  go_wp2_with fail
  refine (tr.Bytes_nil (vi n)).mono ?_
  rintro e w3 ⟨rfl, hb3⟩
  have HB3 := Lib.hid (HB2.out.trans (hb3.mono HB2.out.size))
  clear hb3 HB2
  go_wp2_with fail
  refine (tr.Find_nil (vi n) s).mono ?_
  rintro e w4 ⟨rfl, hb4⟩
  have HB4 := Lib.hid (HB3.out.trans (hb4.mono HB3.out.size))
  clear hb4 HB3
  go_wp2_with fail
  refine (tr.Walk_nil _).mono ?_
  rintro e w' ⟨rfl, rfl⟩
  go_wp2_with fail
  refine (tr.Open_nil).mono ?_
  rintro e w' ⟨rfl, rfl⟩
  go_upto_region 9 with fail
  have HB5 : Hid (Below w.heap.size w (w'.alloc (.cells #[vi 0] 3))) := Lib.hid (HB4.out.alloc HB4.out.size _)
  have F5 : Hid (Blk (w'.alloc (.cells #[vi 0] 3)) w'.heap.size 3 #[vi 0]) := Lib.hid (Blk.new _ _ _)
  change Code.wp _ _ _ _ (w'.alloc (.cells #[vi 0] 3))
  generalize w'.alloc (.cells #[vi 0] 3) = w5 at *
  generalize w'.heap.size = b0 at F5 ⊢
  clear HB4
  go_wp2_with fail
  refine (tr.Entries_nil (vi n)).mono ?_
  rintro e w6 ⟨w0, rfl, hb6, rfl⟩
  have F6 := Lib.hid (F5.out.old hb6)
  have HB6 := Lib.hid (HB5.out.trans (hb6.mono HB5.out.size))
  have heq := di.eql_seqE
  clear hb6 F5 HB5
  go_wp2_with fail
  clear heq
  have F7 := Lib.hid (F6.out.alloc (.cells #[.slice none 0 0] 56))
  have F8 : Blk (w0.alloc (.cells #[.slice none 0 0] 56)) w0.heap.size 56 #[.slice none 0 0] := Blk.new _ _ _
  have HB7 : Hid (Below w.heap.size w (w0.alloc (.cells #[.slice none 0 0] 56))) := Lib.hid (HB6.out.alloc HB6.out.size _)
  have HSZ : Hid (w.heap.size ≤ w0.heap.size) := Lib.hid HB6.out.size
  generalize w0.alloc (.cells #[.slice none 0 0] 56) = w7 at *
  generalize w0.heap.size = b1 at *
  clear F6 HB6
  refine ft.wp_rangeFunc_empty (gf := 68) (lb := #[.pointer (some ⟨b1, 0, none⟩)]) rfl (enter_of Tryz.func68 (by kernel_rfl) rfl)
    (di.All1_none 5 _ (F8.cell 0) (fun _ _ => True)) ?_
  rintro D W hD hB hK
  have HB := Lib.hid (HB7.out.trans (hB.mono HB7.out.size))
  have HDL : Hid (D < W.heap.size) := Lib.hid (Array.getElem?_eq_some_iff.1 hK).1
  have HK := Lib.hid hK
  have HD := Lib.hid (Nat.le_trans HB7.out.size hD)
  have HC0 : Hid (W.cell? ⟨b0, 0, none⟩ = some (vi 0)) := Lib.hid (cell_below (F7.out.cell 0) hB)
  clear hK hB hD F7 F8 HB7 HSZ
  have c0 : W.cell? ⟨b0, 0, none⟩ = some (vi 0) := HC0.out
  go_wp2_with fail
  clear c0
  refine (tr.Set_nil (vi n) 0 0 0 0 0 0 0 0 0 0 0).mono ?_
  rintro e w8 ⟨rfl, hb8⟩
  have HB8 := Lib.hid hb8
  clear hb8
  go_wp2_with fail
  refine (tr.Drop_nil (vi n)).mono ?_
  rintro e w9 ⟨rfl, hb9⟩
  have HB9 := Lib.hid (HB8.out.trans (hb9.mono HB8.out.size))
  clear hb9 HB8
  go_wp2_with fail
  refine (tr.Add_nil (vi n) s (vi n)).mono ?_
  rintro e w10 ⟨rfl, hb10⟩
  have HB10 := Lib.hid (HB9.out.trans (hb10.mono HB9.out.size))
  clear hb10 HB9
  go_wp2_with fail
  refine (tr.Remove_nil (vi n) s).mono ?_
  rintro e w11 ⟨rfl, hb11⟩
  have HB11 := Lib.hid (HB10.out.trans (hb11.mono HB10.out.size))
  clear hb11 HB10
  go_wp2_with fail
  refine (tr.Turn_nil (vi n) s (vi n)).mono ?_
  rintro e w12 ⟨rfl, hb12⟩
  have HB12 := Lib.hid (HB11.out.trans (hb12.mono HB11.out.size))
  clear hb12 HB11
  go_wp2_with fail
  refine (tr.Used_nil).mono ?_
  rintro e w' ⟨rfl, rfl⟩
  go_wp2_with fail
  refine (tr.Pool_nil).mono ?_
  rintro e w' ⟨rfl, rfl⟩
  go_wp2_with fail
  refine (tr.known13_any _).mono ?_
  rintro e w13 ⟨rfl, hb13⟩
  have HBW := Lib.hid (HB12.out.trans (hb13.mono HB12.out.size))
  have HKN : Hid (w13.heap[D]? = some (.deferred (some []))) := Lib.hid ((HBW.out.block D HDL.out).trans HK.out)
  clear hb13 HB12
  go_wp2_with fail
  exact marksP_ret (v := .bool true) HKN.out (fun w => by simp [results, Tryz.results4, go_sem]) ⟨rfl, ft.below_taken (HB.out.trans (HBW.out.mono HB.out.size)) HD.out⟩

set_option maxRecDepth 100000 in
theorem lifted (os : Os) (started : os.Started) (H : Type) (enc : TypeId × Value → H) :
    ReturnsInHanded {} Tryz.checked os 4 .any (Rows.treeNilSpec.pre6 enc Tryz.prog Tryz.f4 Rows.treeNilRow.domain false) (Rows.treeNilSpec.post enc Tryz.prog Tryz.f4 false true false false) := by
  refine returnsInHanded_of_change (C := Tryz.checked) own started (by kernel_rfl) Tryz.func4
    (ChangeSpec.witness6 (enc := enc) (C := Tryz.checked) false ⟨#[], #[.int .i64 0, .string ⟨#[]⟩], []⟩ 8 (by kernel_rfl) (by kernel_rfl) (by kernel_rfl) (by kernel_rfl)) ?_
  intro W base args ds gs before hval0 hW hcnd _
  have hval : ∀ (j : Nat) t v, Tryz.f4.params[j]? = some t → args[j]? = some v → Value.okWide Tryz.prog W .any base t v := hval0
  have hW' := hW
  obtain ⟨p, q, hA0, hV, rfl, hfz, hnd⟩ := hW
  have hA : DataW.TrodAll enc Tryz.prog W 0 (fun _ => true) true Tryz.f4.params.toList args.toList ds p := hA0
  rw [Tryz.params4] at hA hval
  obtain ⟨v0, vs0, d0, ds0, p0, q0, hargs, rfl, rfl, h0, r0⟩ := trodAll_cons hA
  obtain ⟨v1, vs1, d1, ds1, p1, q1, rfl, rfl, rfl, h1, r1⟩ := trodAll_cons r0
  obtain ⟨rfl, rfl, rfl⟩ := trodAll_nil r1
  obtain rfl : args = #[v0, v1] := by cases args; simp_all
  obtain ⟨rfl, rfl⟩ := trodVars_none hV
  obtain ⟨a0, rfl, rfl, rfl, w0⟩ := open_int Tryz.underlying3 (hval 0 3 v0 rfl rfl) h0
  skip
  refine (walk a0 v1 W ).mono fun e W' ⟨he, bel⟩ => ?_
  subst he
  exact ⟨_, rfl, law_close laidOut (by kernel_rfl) hW' rfl bel rfl Tryz.underlying4 rfl⟩

theorem over : Rows.treeNilRow.holds Tryz.pinned (OpenSpec.ofChange Rows.treeNilSpec) :=
  OpenClaim.holds_of_wide 4 Tryz.f4 rfl rfl rfl rfl rfl rfl rfl ⟨rfl, rfl, rfl, rfl, rfl⟩ rfl rfl rfl rfl rfl (by kernel_rfl) Tryz.func4 (by kernel_rfl)
    (of_decide_eq_true (by kernel_rfl)) (by unfold Func.isWrapper; first | (rw [if_pos (by decide +kernel)]; kernel_rfl) | (rw [if_neg (by decide +kernel)]; exact ⟨rfl, rfl⟩))
    (fun os started H enc _ => lifted os started H enc)

theorem proved : Rows.TreeNilSaid := over
#print axioms proved

end Go.Proofs.YtnfhlocflpdlcaaGreat.treeNil

