/-
  FtlNil: a translation that is not there, one of no chip, and one of a chip that is down, answers so. No conditions.
-/
import Derived.Test.YtjkaioonppmkjaaGreatZF39
namespace Go.Proofs.YtjkaioonppmkjaaGreat.ftlNil
open Go.ChangeShapes Go.WideShapes Go.ChangeAt Go.RowKit Go.Deep
open Go.Proofs.YtjkaioonppmkjaaGreat.mgr Go.Proofs.YtjkaioonppmkjaaGreat.ft
attribute [local go_sem] Oper.semAt_some

set_option maxRecDepth 100000 in
set_option maxHeartbeats 8000000 in
theorem walk (p b : Value) (w : World) : Calls Tryz.prog 3 #[p, b] w fun e w' => e = .returned (.bool true) ∧ Below w.heap.size w w' := by
  have hm56 : ∀ w : World, (Instr.makeSlice 23 (.int .i64 56) (.int .i64 56)).run Tryz.prog w = .ok (.slice (some ⟨w.heap.size, 0, none⟩) 56 56) (w.alloc (.cells (madeCells #[vb 0] 56) 5)) := fun w => make_bytes 56 (by omega) w
  have hm64 : ∀ w : World, (Instr.makeSlice 23 (.int .i64 64) (.int .i64 64)).run Tryz.prog w = .ok (.slice (some ⟨w.heap.size, 0, none⟩) 64 64) (w.alloc (.cells (madeCells #[vb 0] 64) 5)) := fun w => make_bytes 64 (by omega) w
  refine callsIn_wide.1 (callsIn_of_wp_marks (F := Fence.wide) (n := 6) Tryz.func3 rfl trivial (wpIn_wide.2 ?_) rfl)
  simp only [Tryz.ntmps3, List.size_toArray, List.length_cons, List.length_nil, Nat.reduceAdd, Nat.reduceSub, Array.replicate_succ, Array.replicate_zero, List.push_toArray, List.append_toArray, List.nil_append, List.cons_append]
  go_wp2_with fail
  refine (Read_nil p).mono ?_
  rintro e w' ⟨rfl, rfl⟩
  go_wp2_with fail
  refine (Format_nil _ b).mono ?_
  rintro e w' ⟨rfl, rfl⟩
  go_wp2_with fail
  refine (ft.Open_nil).mono ?_
  rintro e w' ⟨rfl, rfl⟩
  go_wp2_with fail
  refine (ft.Pages_any none).mono ?_
  rintro e w' ⟨rfl, rfl⟩
  have heq := eql_seqF
  go_wp2_with fail
  clear heq
  have HB1 : Hid (Below w'.heap.size w' ((w'.alloc (.cells #[vi 0] 3)).alloc (.cells #[.pointer none] 24))) := Lib.hid (((Below.refl _ _).alloc (Nat.le_refl _) _).alloc (by simp) _)
  have F0 : Blk ((w'.alloc (.cells #[vi 0] 3)).alloc (.cells #[.pointer none] 24)) w'.heap.size 3 #[vi 0] := (Blk.new _ _ _).alloc _
  have F1 : Blk ((w'.alloc (.cells #[vi 0] 3)).alloc (.cells #[.pointer none] 24)) (w'.heap.size + 1) 24 #[.pointer none] := by
    have := Blk.new (w'.alloc (.cells #[vi 0] 3)) 24 #[.pointer none]
    rwa [size_alloc] at this
  generalize (w'.alloc (.cells #[vi 0] 3)).alloc (.cells #[.pointer none] 24) = w1 at *
  refine ft.wp_rangeFunc_empty (gf := 62) (lb := #[.pointer (some ⟨w'.heap.size + 1, 0, none⟩)]) rfl (enter_of Tryz.func62 (by kernel_rfl) rfl)
    (ft.Pages1_nil 5 _ (F1.cell 0) (fun _ _ => True)) ?_
  rintro D W hD hB hK
  have HB := Lib.hid (HB1.out.trans (hB.mono HB1.out.size))
  have HDL : Hid (D < W.heap.size) := Lib.hid (Array.getElem?_eq_some_iff.1 hK).1
  have HK := Lib.hid hK
  have HD := Lib.hid (Nat.le_trans HB1.out.size hD)
  have HC0 : Hid (W.cell? ⟨w'.heap.size, 0, none⟩ = some (vi 0)) := Lib.hid (cell_below (F0.cell 0) hB)
  clear hK hB hD F0 F1 HB1
  generalize w'.heap.size = b0 at HC0 ⊢
  go_wp2_with fail
  refine (New_any W.heap.size 8 4 64 none [] 0 _ (.inl rfl) (Nat.zero_le _) (Nat.le_refl _)).mono ?_
  rintro e w1 hn
  rw [show NP.new 8 4 64 [] = some FP.kC0 from rfl] at hn
  obtain ⟨k, M, rfl, hm, hv⟩ := hn
  have HM := Lib.hid hm
  have HV := Lib.hid hv
  clear hm hv
  go_wp2_with fail
  have HB2 : Hid (Below w1.heap.size w1 (w1.alloc (.cells (madeCells #[vb 0] 56) 5))) := Lib.hid ((Below.refl _ _).alloc (Nat.le_refl _) _)
  have HF := Lib.hid (format56 (HM.out.at_.old HB2.out) HV.out (Nat.le_trans HM.out.below.size HB2.out.size) _ (zero_row w1 56))
  have HW2 := Lib.hid (HM.out.below.trans (HB2.out.mono HM.out.below.size))
  have HMO := Lib.hid HM.out.own
  clear HM HB2
  generalize w1.alloc (.cells (madeCells #[vb 0] 56) 5) = w2 at *
  refine HF.out.mono ?_
  rintro e w3 ⟨f, X, rfl, hnew, hxv, hxf⟩
  have HN := Lib.hid hnew
  have HXV := Lib.hid hxv
  have HB3 : Hid (Below W.heap.size W w3) := Lib.hid (HW2.out.trans (hnew.chg.to_below (fun n _ e => HMO.out n e) HW2.out.size))
  clear hnew hxv hxf HF
  have HL3 : Hid (∀ n, X.foot f n → W.heap.size ≤ n) := Lib.hid HN.out.at_.low'
  have HKY : Hid (X.G.k = k) := Lib.hid HN.out.key
  have H3 : Hid (FGoes W.heap.size w3 f X w3 X) := Lib.hid (FGoes.refl HN.out.at_)
  clear HN HMO HW2 HV
  go_wp2_with fail
  refine (Lose_any (by rw [← HKY.out]; exact H3.out.at_.held.chip)).mono ?_
  rintro e w4 ⟨rfl, hg4⟩
  have H4 : Hid (FGoes W.heap.size w3 f X w4 { X with M := { X.M with down := true } }) := Lib.hid (H3.out.trans (H3.out.at_.chipGoes (by rw [HKY.out]; exact hg4)))
  have HXV : Hid (({ X with M := { X.M with down := true } } : FtM).view = FP.kD) := Lib.hid (by
    show _ = ({ FP.kF0 with c := { FP.kF0.c with down := true } } : FP.Ft)
    rw [← HXV.out]
    rfl)
  have HKD : Hid (({ X with M := { X.M with down := true } } : FtM).G.k = k ∧ ({ X with M := { X.M with down := true } } : FtM).M.down = true) := Lib.hid ⟨HKY.out, rfl⟩
  clear hg4 H3 HKY
  generalize ({ X with M := { X.M with down := true } } : FtM) = X1 at *
  have HXF : Hid X1.Fit := Lib.hid (by unfold FtM.Fit; rw [HXV.out]; exact kD_fit)
  go_wp2_with fail
  have HR : Hid (Calls Tryz.prog 9 #[ptr f, .int .u32 1] w4 (FReadPost W.heap.size w4 f X1 (([], 4), FP.kD))) := Lib.hid (by
    have h := ft.Read_any H4.out.at_ HXF.out 1 (by decide)
    rw [HXV.out, FP.k_dread] at h
    exact h)
  refine HR.out.mono ?_
  rintro e w5 ⟨va, X2, rfl, _, hrd, hv2⟩
  have H5 := Lib.hid (H4.out.trans hrd.goes)
  have HX2 : Hid (X2.view = FP.kD) := Lib.hid hv2
  have HK2 : Hid (X2.G.k = k ∧ X2.M.down = true) := Lib.hid ⟨hrd.goes.key.1.trans HKD.out.1, congrArg (fun F : FP.Ft => F.c.down) hv2⟩
  have HF2 : Hid X2.Fit := Lib.hid (by unfold FtM.Fit; rw [HX2.out]; exact kD_fit)
  clear hrd hv2 HR H4 HXV HXF HKD
  go_wp2_with fail
  refine (ft.Open_down (by rw [← HK2.out.1]; exact H5.out.at_.held.chip) HK2.out.2).mono ?_
  rintro e w6 ⟨rfl, rfl⟩
  go_wp2_with fail
  have HB6 : Hid (Below w6.heap.size w6 (w6.alloc (.cells (madeCells #[vb 0] 56) 5))) := Lib.hid ((Below.refl _ _).alloc (Nat.le_refl _) _)
  have H6 := Lib.hid (H5.out.old HB6.out)
  generalize w6.alloc (.cells (madeCells #[vb 0] 56) 5) = w7 at *
  clear H5 HB6
  refine (ft.Format_down (by rw [← HK2.out.1]; exact H6.out.at_.held.chip) HK2.out.2 _ _).mono ?_
  rintro e w8 ⟨rfl, rfl⟩
  go_wp2_with fail
  refine (Write_nil p b).mono ?_
  rintro e w9 ⟨rfl, rfl⟩
  go_wp2_with fail
  refine (Drop_nil p).mono ?_
  rintro e w10 ⟨rfl, rfl⟩
  go_wp2_with fail
  refine (Seal_nil b).mono ?_
  rintro e w11 ⟨rfl, rfl⟩
  go_wp2_with fail
  refine (Text_nil).mono ?_
  rintro e w12 ⟨rfl, rfl⟩
  have c0 : w12.cell? ⟨b0, 0, none⟩ = some (vi 0) := cell_below HC0.out (HB3.out.trans (H6.out.below HL3.out HB3.out.size))
  go_wp2_with fail
  refine (Used_nil).mono ?_
  rintro e w13 ⟨rfl, rfl⟩
  go_wp2_with fail
  refine (Capacity_nil).mono ?_
  rintro e w14 ⟨rfl, rfl⟩
  go_wp2_with fail
  refine (ReadOnly_nil).mono ?_
  rintro e w15 ⟨rfl, rfl⟩
  go_wp2_with fail
  have HB16 : Hid (Below w15.heap.size w15 (w15.alloc (.cells (madeCells #[vb 0] 64) 5))) := Lib.hid ((Below.refl _ _).alloc (Nat.le_refl _) _)
  have HW : Hid (Calls Tryz.prog 15 #[ptr f, .int .u32 1, .slice (some ⟨w15.heap.size, 0, none⟩) 64 64] (w15.alloc (.cells (madeCells #[vb 0] 64) 5)) (FIPost W.heap.size (w15.alloc (.cells (madeCells #[vb 0] 64) 5)) f X2 (4, FP.kD))) :=
    Lib.hid (Write_quiet (H6.out.at_.old HB16.out) HF2.out (Nat.le_trans (Nat.le_trans HB3.out.size H6.out.size) HB16.out.size) 1 (by decide) _ FP.z64 64 (zero_row w15 64) (by decide) (4, FP.kD) (by rw [HX2.out]; exact FP.k_dwrite))
  have H16 := Lib.hid (H6.out.old HB16.out)
  clear H6 HB16 hm64 c0
  generalize w15.alloc (.cells (madeCells #[vb 0] 64) 5) = w16 at *
  refine HW.out.mono ?_
  rintro e w17 ⟨X3, rfl, hg17, hv17⟩
  have H17 := Lib.hid (H16.out.trans hg17)
  have HX3 : Hid (X3.view = FP.kD) := Lib.hid hv17
  have HF3 : Hid X3.Fit := Lib.hid (by unfold FtM.Fit; rw [HX3.out]; exact kD_fit)
  clear hg17 hv17 HW H16 HX2 HF2
  go_wp2_with fail
  have HR : Hid (Calls Tryz.prog 16 #[ptr f, .int .u32 1] w17 (FIPost W.heap.size w17 f X3 (4, FP.kD))) := Lib.hid (by
    have h := ft.Drop_any H17.out.at_ HF3.out 1 (by decide)
    rw [HX3.out, FP.k_ddrop] at h
    exact h)
  refine HR.out.mono ?_
  rintro e w18 ⟨X4, rfl, hg18, hv18⟩
  have H18 := Lib.hid (H17.out.trans hg18)
  have HX4 : Hid (X4.view = FP.kD) := Lib.hid hv18
  have HF4 : Hid X4.Fit := Lib.hid (by unfold FtM.Fit; rw [HX4.out]; exact kD_fit)
  clear hg18 hv18 HR H17 HX3 HF3
  go_wp2_with fail
  have HB19 : Hid (Below w18.heap.size w18 (w18.alloc (.cells (madeCells #[vb 0] 56) 5))) := Lib.hid ((Below.refl _ _).alloc (Nat.le_refl _) _)
  have HW : Hid (Calls Tryz.prog 17 #[ptr f, .slice (some ⟨w18.heap.size, 0, none⟩) 56 56] (w18.alloc (.cells (madeCells #[vb 0] 56) 5)) (FIPost W.heap.size (w18.alloc (.cells (madeCells #[vb 0] 56) 5)) f X4 (4, FP.kD))) :=
    Lib.hid (Seal_quiet (H18.out.at_.old HB19.out) HF4.out (Nat.le_trans (Nat.le_trans HB3.out.size H18.out.size) HB19.out.size) _ FP.z56 56 (zero_row w18 56) (by decide) (4, FP.kD) (by rw [HX4.out]; exact FP.k_dseal))
  have H19 := Lib.hid (H18.out.old HB19.out)
  clear H18 HB19 hm56
  generalize w18.alloc (.cells (madeCells #[vb 0] 56) 5) = w19 at *
  refine HW.out.mono ?_
  rintro e w20 ⟨X5, rfl, hg20, hv20⟩
  have HB20 : Hid (Below W.heap.size W w20) := Lib.hid (HB3.out.trans ((H19.out.trans hg20).below HL3.out HB3.out.size))
  clear hg20 hv20 HW H19 HX4 HF4
  go_wp2_with fail
  refine (known07_any w20).mono ?_
  rintro e w21 ⟨rfl, hb21⟩
  have HB21 : Hid (Below W.heap.size W w21) := Lib.hid (HB20.out.trans (hb21.mono HB20.out.size))
  clear hb21 HB20
  have HKN : Hid (w21.heap[D]? = some (.deferred (some []))) := Lib.hid ((HB21.out.block D HDL.out).trans HK.out)
  go_wp2_with fail
  exact marksB_ret (v := .bool true) HKN.out (fun w => by simp [results, Tryz.results3, go_sem]) ⟨rfl, ft.below_taken (HB.out.trans (HB21.out.mono HB.out.size)) HD.out⟩

set_option maxRecDepth 100000 in
theorem lifted (os : Os) (started : os.Started) (H : Type) (enc : TypeId × Value → H) :
    ReturnsInHanded {} Tryz.checked os 3 .any (Rows.ftlNilSpec.pre6 enc Tryz.prog Tryz.f3 Rows.ftlNilRow.domain false) (Rows.ftlNilSpec.post enc Tryz.prog Tryz.f3 false true false false) := by
  refine returnsInHanded_of_change (C := Tryz.checked) own started (by kernel_rfl) Tryz.func3
    (ChangeSpec.witness6 (enc := enc) (C := Tryz.checked) false ⟨#[], #[.int .u32 0, .slice none 0 0], []⟩ 8 (by kernel_rfl) (by kernel_rfl) (by kernel_rfl) (by kernel_rfl)) ?_
  intro W base args ds gs before hval0 hW hcnd _
  have hval : ∀ (j : Nat) t v, Tryz.f3.params[j]? = some t → args[j]? = some v → Value.okWide Tryz.prog W .any base t v := hval0
  have hW' := hW
  obtain ⟨p, q, hA0, hV, rfl, hfz, hnd⟩ := hW
  have hA : DataW.TrodAll enc Tryz.prog W 0 (fun _ => true) true Tryz.f3.params.toList args.toList ds p := hA0
  rw [Tryz.params3] at hA hval
  obtain ⟨v0, vs0, d0, ds0, p0, q0, hargs, rfl, rfl, h0, r0⟩ := trodAll_cons hA
  obtain ⟨v1, vs1, d1, ds1, p1, q1, rfl, rfl, rfl, h1, r1⟩ := trodAll_cons r0
  obtain ⟨rfl, rfl, rfl⟩ := trodAll_nil r1
  obtain rfl : args = #[v0, v1] := by cases args; simp_all
  obtain ⟨rfl, rfl⟩ := trodVars_none hV
  skip
  skip
  refine (walk v0 v1 W ).mono fun e W' ⟨he, bel⟩ => ?_
  subst he
  exact ⟨_, rfl, law_close laidOut (by kernel_rfl) hW' rfl bel rfl Tryz.underlying4 rfl⟩

theorem over : Rows.ftlNilRow.holds Tryz.pinned (OpenSpec.ofChange Rows.ftlNilSpec) :=
  OpenClaim.holds_of_wide 3 Tryz.f3 rfl rfl rfl rfl rfl rfl rfl ⟨rfl, rfl, rfl, rfl, rfl⟩ rfl rfl rfl rfl rfl (by kernel_rfl) Tryz.func3 (by kernel_rfl)
    (of_decide_eq_true (by kernel_rfl)) (by unfold Func.isWrapper; first | (rw [if_pos (by decide +kernel)]; kernel_rfl) | (rw [if_neg (by decide +kernel)]; exact ⟨rfl, rfl⟩))
    (fun os started H enc _ => lifted os started H enc)

theorem proved : Rows.FtlNilSaid := over
#print axioms proved

end Go.Proofs.YtjkaioonppmkjaaGreat.ftlNil

