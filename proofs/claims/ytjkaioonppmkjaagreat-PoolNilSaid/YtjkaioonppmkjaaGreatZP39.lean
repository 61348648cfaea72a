/-
  Lemmas for a law's proof, put together from several texts: each part says what it shows, and its conditions.
-/
import Derived.Test.YtjkaioonppmkjaaGreatZP38
import Derived.Test.YtjkaioonppmkjaaGreatZP27
import Derived.Test.YtjkaioonppmkjaaGreatZP15
import Derived.Test.YtjkaioonppmkjaaGreatZP31
import Derived.WalkMore
import Derived.RangeFuncNested
import Derived.RangeFuncBound
import Derived.RangeFuncCalls
import Derived.RangeFuncLeaves
import Derived.OwnWalkIn
import Derived.TacticsInMore
import Derived.LoopNIn
import Derived.LoopIn
import Derived.Test.YtjkaioonppmkjaaGreatZP37
/-
  What must come of fixed calls of a translation. No conditions.
-/
namespace Go.Proofs.YtjkaioonppmkjaaGreat.FP
open Go.Proofs.YtjkaioonppmkjaaGreat.mgr
def z56 : List Nat := List.replicate 56 0
def z64 : List Nat := List.replicate 64 0
def dummy : Ft := ⟨NP.blank 8 4 64, ⟨[], 0, 0, 0, false⟩, 0, 0, [], [], [], [], 0, 0, [], false⟩
def kC0 : NP.Chp := NP.blank 8 4 64
def kF0 : Ft := (formatN kC0 1 z56).getD dummy
theorem k_format : formatN kC0 1 z56 = some kF0 := by kernel_rfl
theorem k_cap : kF0.cap = 22 := by kernel_rfl
theorem k_used : kF0.used = 1 := by kernel_rfl
def kF1 : Ft := ((kF0.write 3 z64).getD (0, dummy)).2
theorem k_write : kF0.write 3 z64 = some (0, kF1) := by kernel_rfl
theorem k_used1 : kF1.used = 2 := by kernel_rfl
theorem k_shut1 : kF1.shut = false := by kernel_rfl
def opened (c : NP.Chp) : Ft × NP.Chp := match openF c with
  | some (0, some F, c') => (F, c')
  | _ => (dummy, c)
theorem k_open1 : openF kF1.c = some (0, some (opened kF1.c).1, (opened kF1.c).2) := by kernel_rfl
theorem k_ok1 : openOk kF1.c = true := by kernel_rfl
def kC2 : NP.Chp := (opened kF1.c).1.c
theorem k_open2 : openF kC2 = some (0, some (opened kC2).1, (opened kC2).2) := by kernel_rfl
theorem k_ok2 : openOk kC2 = true := by kernel_rfl
def kC3 : NP.Chp := (opened kC2).1.c
theorem k_read2 (ov : Bool) : ({ (opened kC2).1 with over := ov } : Ft).read 3 = (([], 60), { (opened kC2).1 with over := ov }) := by kernel_rfl
theorem k_read1 : ({ kF1 with c := kC3 } : Ft).read 3 = ((z64, 0), ({ kF1 with c := kC3 } : Ft).read 3 |>.2) := by kernel_rfl
theorem k_used3 : (({ kF1 with c := kC3 } : Ft).read 3).2.used = 2 := by kernel_rfl
theorem k_shut3 : (({ kF1 with c := kC3 } : Ft).read 3).2.shut = false := by kernel_rfl
end Go.Proofs.YtjkaioonppmkjaaGreat.FP
namespace Go.Proofs.YtjkaioonppmkjaaGreat.ft
open Go.RowKit Go.Proofs.YtjkaioonppmkjaaGreat.mgr
theorem zero_row {base : Nat} (w : World) (n : Nat) : SRow base (w.alloc (.cells (madeCells #[vb 0] n) 5)) (some ⟨w.heap.size, 0, none⟩) (List.replicate n 0) := by
  refine ⟨⟨fun x hx => by rw [List.eq_of_mem_replicate hx]; decide, .inr ⟨w.heap.size, 0, rfl, fun i hi => ?_⟩⟩, .inr ⟨w.heap.size, 0, rfl, Safe.byte (Blk.new w _ _)⟩⟩
  rw [List.length_replicate] at hi
  rw [(Blk.new w _ _).cell, Nat.zero_add, ← Array.getElem?_toList, toList_madeCells_one, List.getElem?_replicate, if_pos hi, List.getD_eq_getElem?_getD, List.getElem?_replicate, if_pos hi]
  rfl
theorem format_fit {c : NP.Chp} (h : Good6 c) {reserve : Int} {text : List Nat} (ht : ∀ y ∈ text, y < 256) {F : FP.Ft} (hq : FP.formatN c reserve text = some F) : Fit F := by
  obtain ⟨_, hres, _, _, _, _, g, hopen, hseal⟩ := FP.formatN_some hq
  have hg : Good6 (FP.wiped c) := wiped_good h c.B
  have hb : 0 ≤ FP.bads (FP.wiped c) ∧ FP.bads (FP.wiped c) ≤ 65535 := by
    have h1 := badTo_le (FP.wiped c) (FP.wiped c).B
    have h2 : (FP.wiped c).B ≤ 128 := by
      have : NP.rightB (FP.wiped c).B (FP.wiped c).P (FP.wiped c).S = true := hg.ok.right
      unfold NP.rightB at this
      simp only [Bool.and_eq_true, Bool.or_eq_true, beq_iff_eq, decide_eq_true_eq] at this
      omega
    unfold FP.bads
    omega
  exact (begun_fit hg hopen hres hb).sealed ht hseal
theorem FtNew.goes {base : Nat} {w w' : World} {k f : Nat} {M : ChM} {X : FtM} (h : FtNew base w k M w' f X) : Goes base w k M w' X.M :=
  ⟨by have := h.at_.held.chip; rw [h.key] at this; exact this, h.chg, fun n e => h.foot n (.inr (.inr (.inr (.inr (.inr (.inr (by rw [h.key]; exact e)))))))⟩
end Go.Proofs.YtjkaioonppmkjaaGreat.ft

/-
  What must come of fixed calls of a translation: the walk. No conditions.
-/
namespace Go.Proofs.YtjkaioonppmkjaaGreat.ft
open Go.RowKit Go.Proofs.YtjkaioonppmkjaaGreat.mgr
section
variable {base : Nat} {w : World} {f k : Nat} {M : ChM} {X : FtM}
theorem k_read1' : (({ FP.kF1 with c := FP.kC3 } : FP.Ft).read 3).2 = { FP.kF1 with c := (NP.readP FP.kC3 ((FP.kF1.at_ 3).getD default).block ((FP.kF1.at_ 3).getD default).page).2 } := by kernel_rfl
theorem kC0_good : Good6 FP.kC0 := new_good6 (b := 8) (p := 4) (s := 64) (bad := []) rfl
/-- A chip is formatted with 56 bytes of 0. -/
theorem format56 (h : ChipAt base w k M) (hv : M.view = FP.kC0) (hbase : base ≤ w.heap.size) (a : Option Addr) (hr : SRow base w a FP.z56) :
    Calls Tryz.prog 10 #[ptr k, .int .i64 1, .slice a 56 56] w fun e w' => ∃ f X, e = .returned (.tuple #[ptr f, vi 0]) ∧ FtNew base w k M w' f X ∧ X.view = FP.kF0 ∧ X.Fit := by
  have h1 := Format_new h (by rw [hv]; exact kC0_good) hbase 1 a FP.z56 56 hr FP.kF0 (by rw [hv]; exact FP.k_format)
  refine h1.mono ?_
  rintro e w' ⟨f, X, rfl, hn, hx⟩
  refine ⟨f, X, rfl, hn, hx, ?_⟩
  show Fit X.view
  rw [hx]
  exact format_fit kC0_good (by intro y hy; rw [List.eq_of_mem_replicate hy]; decide) FP.k_format
set_option maxRecDepth 100000 in
set_option maxHeartbeats 4000000 in
theorem known07_any (w : World) : Calls Tryz.prog 22 #[] w fun e w' => e = .returned (.bool true) ∧ Below w.heap.size w w' := by
  have hm56 : ∀ w : World, (Instr.makeSlice 23 (.int .i64 56) (.int .i64 56)).run Tryz.prog w = .ok (.slice (some ⟨w.heap.size, 0, none⟩) 56 56) (w.alloc (.cells (madeCells #[vb 0] 56) 5)) := fun w => make_bytes 56 (by omega) w
  have hm64 : ∀ w : World, (Instr.makeSlice 23 (.int .i64 64) (.int .i64 64)).run Tryz.prog w = .ok (.slice (some ⟨w.heap.size, 0, none⟩) 64 64) (w.alloc (.cells (madeCells #[vb 0] 64) 5)) := fun w => make_bytes 64 (by omega) w
  go_enter Tryz.func22, Tryz.ntmps22
  go_wp2_with fail
  refine (New_any w.heap.size 8 4 64 none [] 0 _ (.inl rfl) (Nat.zero_le _) (Nat.le_refl _)).mono ?_
  rintro e w1 hn
  rw [show NP.new 8 4 64 [] = some FP.kC0 from rfl] at hn
  obtain ⟨k, M, rfl, hm, hv⟩ := hn
  have HM := Lib.hid hm
  have HV := Lib.hid hv
  clear hm hv
  go_wp2_with fail
  have HB2 : Hid (Below w1.heap.size w1 (w1.alloc (.cells (madeCells #[vb 0] 56) 5))) := Lib.hid ((Below.refl _ _).alloc (Nat.le_refl _) _)
  have HF := Lib.hid (format56 (HM.out.at_.old HB2.out) HV.out (Nat.le_trans HM.out.below.size HB2.out.size) _ (zero_row w1 56))
  have HW2 := Lib.hid (HM.out.below.trans (HB2.out.mono HM.out.below.size))
  have HMO := Lib.hid HM.out.own
  clear hm56 HM HB2
  generalize w1.alloc (.cells (madeCells #[vb 0] 56) 5) = w2 at *
  refine HF.out.mono ?_
  rintro e w3 ⟨f, X, rfl, hnew, hxv, hxf⟩
  have HN := Lib.hid hnew
  have HXV := Lib.hid hxv
  have HXF := Lib.hid hxf
  have HB3 : Hid (Below w.heap.size w w3) := Lib.hid (HW2.out.trans (hnew.chg.to_below (fun n _ e => HMO.out n e) HW2.out.size))
  clear hnew hxv hxf HF
  have HL3 : Hid (∀ n, X.foot f n → w.heap.size ≤ n) := Lib.hid HN.out.at_.low'
  have HKY : Hid (X.G.k = k) := Lib.hid HN.out.key
  have H3 : Hid (FGoes w.heap.size w3 f X w3 X) := Lib.hid (FGoes.refl HN.out.at_)
  clear HN HMO HW2 HV
  go_wp2_with fail
  refine (Capacity_any H3.out.at_ HXF.out).mono ?_
  rw [HXV.out, FP.k_cap]
  rintro e w4 ⟨rfl, hb4⟩
  have H4 := Lib.hid (H3.out.old hb4)
  clear hb4
  go_wp2_with fail
  refine (Used_any H4.out.at_ HXF.out).mono ?_
  rw [HXV.out, FP.k_used]
  rintro e w5 ⟨rfl, hb5⟩
  have H5 := Lib.hid (H4.out.old hb5)
  clear hb5 H4 H3
  go_wp2_with fail
  have HB6 : Hid (Below w5.heap.size w5 (w5.alloc (.cells (madeCells #[vb 0] 64) 5))) := Lib.hid ((Below.refl _ _).alloc (Nat.le_refl _) _)
  have HW : Hid (Calls Tryz.prog 15 #[ptr f, .int .u32 3, .slice (some ⟨w5.heap.size, 0, none⟩) 64 64] (w5.alloc (.cells (madeCells #[vb 0] 64) 5)) (FIPost w.heap.size (w5.alloc (.cells (madeCells #[vb 0] 64) 5)) f X (0, FP.kF1))) :=
    Lib.hid (Write_quiet (H5.out.at_.old HB6.out) HXF.out (Nat.le_trans (Nat.le_trans HB3.out.size H5.out.size) HB6.out.size) 3 (by decide) _ FP.z64 64 (zero_row w5 64) (by decide) (0, FP.kF1) (by rw [HXV.out]; exact FP.k_write))
  have H6 := Lib.hid (H5.out.old HB6.out)
  clear H5 HB6 hm64
  generalize w5.alloc (.cells (madeCells #[vb 0] 64) 5) = w6 at *
  refine HW.out.mono ?_
  rintro e w7 ⟨X1, rfl, hg7, hv7⟩
  have H7 := Lib.hid (H6.out.trans hg7)
  have HX1V : Hid (X1.view = FP.kF1) := Lib.hid hv7
  have HF1 : Hid (Fit FP.kF1) := Lib.hid (by
    have h := HXF.out
    unfold FtM.Fit at h
    rw [HXV.out] at h
    exact Fit.write h (by intro y hy; rw [List.eq_of_mem_replicate hy]; decide) FP.k_write)
  have HK1 : Hid (X1.G.k = k) := Lib.hid (H7.out.key.1.trans HKY.out)
  have HC1 : Hid (X1.M.view = FP.kF1.c) := Lib.hid (congrArg FP.Ft.c HX1V.out)
  clear hg7 hv7 HW H6
  go_wp2_with fail
  have HO : Hid (Calls Tryz.prog 11 #[ptr k] w7 fun e w' => ∃ f X, e = .returned (.tuple #[ptr f, vi 0]) ∧ FtNew w.heap.size w7 k X1.M w' f X ∧ X.view = { (FP.opened FP.kF1.c).1 with over := X.over } ∧ X.Fit) :=
    Lib.hid (Open_new (by rw [← HK1.out]; exact H7.out.at_.held.chip) (by rw [HC1.out]; exact HF1.out.good) (Nat.le_trans HB3.out.size H7.out.size) _ _ (by rw [HC1.out]; exact FP.k_open1) (by rw [HC1.out]; exact FP.k_ok1))
  refine HO.out.mono ?_
  rintro e w8 ⟨fa, Xa, rfl, hna, hva, hfa⟩
  have H8 : Hid (FGoes w.heap.size w3 f X w8 { X1 with M := Xa.M }) := Lib.hid (H7.out.trans (H7.out.at_.chipGoes (by rw [HK1.out]; exact hna.goes)))
  have HCA : Hid (Xa.M.view = FP.kC2 ∧ Good6 FP.kC2) := Lib.hid ⟨congrArg FP.Ft.c hva, by
    have h := ft.Fit.good hfa
    rw [hva] at h
    exact h⟩
  clear hna hva hfa HO H7
  go_wp2_with fail
  have HO : Hid (Calls Tryz.prog 11 #[ptr k] w8 fun e w' => ∃ f X, e = .returned (.tuple #[ptr f, vi 0]) ∧ FtNew w.heap.size w8 k Xa.M w' f X ∧ X.view = { (FP.opened FP.kC2).1 with over := X.over } ∧ X.Fit) :=
    Lib.hid (Open_new (by rw [← HK1.out]; exact H8.out.at_.held.chip) (by rw [HCA.out.1]; exact HCA.out.2) (Nat.le_trans HB3.out.size H8.out.size) _ _ (by rw [HCA.out.1]; exact FP.k_open2) (by rw [HCA.out.1]; exact FP.k_ok2))
  refine HO.out.mono ?_
  rintro e w9 ⟨fo, Xo, rfl, hno, hvo, hfo⟩
  have H9 : Hid (FGoes w.heap.size w3 f X w9 { X1 with M := Xo.M }) := Lib.hid (H8.out.trans (H8.out.at_.chipGoes (M' := Xo.M) (by
    have h := hno.goes
    rw [← HK1.out] at h
    exact h)))
  have HNO := Lib.hid hno
  have HVO := Lib.hid hvo
  have HFO := Lib.hid hfo
  have HCO : Hid (Xo.M.view = FP.kC3 ∧ Good6 FP.kC3) := Lib.hid ⟨congrArg FP.Ft.c hvo, by
    have h := ft.Fit.good hfo
    rw [hvo] at h
    exact h⟩
  clear hno hvo hfo HO H8 HCA
  go_wp2_with fail
  have HR : Hid (Calls Tryz.prog 9 #[ptr fo, .int .u32 3] w9 (FReadPost w.heap.size w9 fo Xo (([], 60), { (FP.opened FP.kC2).1 with over := Xo.over }))) := Lib.hid (by
    have h := Read_any HNO.out.at_ HFO.out 3 (by decide)
    rw [HVO.out, FP.k_read2] at h
    exact h)
  refine HR.out.mono ?_
  rintro e w10 ⟨va, Xp, rfl, _, hrd, hvp⟩
  have H10 : Hid (FGoes w.heap.size w3 f X w10 { X1 with M := Xp.M }) := Lib.hid (H9.out.trans (H9.out.at_.chipGoes (M' := Xp.M) (by
    have h := hrd.chip
    rw [HNO.out.key, ← HK1.out] at h
    exact h)))
  have HCP : Hid (Xp.M.view = FP.kC3) := Lib.hid ((congrArg FP.Ft.c hvp).trans rfl)
  clear hrd hvp HR H9 HNO HVO HFO
  have HXP : Hid (({ X1 with M := Xp.M } : FtM).view = { FP.kF1 with c := FP.kC3 }) := Lib.hid (by
    rw [← HX1V.out, ← HCP.out])
  have HFP : Hid (({ X1 with M := Xp.M } : FtM).Fit) := Lib.hid (by
    unfold FtM.Fit
    rw [HXP.out]
    exact HF1.out.chip HCO.out.2 (by kernel_rfl) (by kernel_rfl))
  generalize ({ X1 with M := Xp.M } : FtM) = X2 at *
  go_wp2_with fail
  have HR : Hid (Calls Tryz.prog 9 #[ptr f, .int .u32 3] w10 (FReadPost w.heap.size w10 f X2 ((FP.z64, 0), (({ FP.kF1 with c := FP.kC3 } : FP.Ft).read 3).2))) := Lib.hid (by
    have h := Read_any H10.out.at_ HFP.out 3 (by decide)
    rw [HXP.out, FP.k_read1] at h
    exact h)
  refine HR.out.mono ?_
  rintro e w11 ⟨vb', X3, rfl, _, hrd, hv3⟩
  have H11 := Lib.hid (H10.out.trans hrd.goes)
  have HX3 : Hid (X3.view = (({ FP.kF1 with c := FP.kC3 } : FP.Ft).read 3).2) := Lib.hid hv3
  have HF3 : Hid X3.Fit := Lib.hid (by
    unfold FtM.Fit
    rw [HX3.out, k_read1']
    exact HF1.out.chip (readAct_good HCO.out.2 _ _) (by kernel_rfl) (by kernel_rfl))
  clear hrd hv3 HR H10
  go_wp2_with fail
  refine (Used_any H11.out.at_ HF3.out).mono ?_
  rw [HX3.out, FP.k_used3]
  rintro e w12 ⟨rfl, hb12⟩
  have H12 := Lib.hid (H11.out.old hb12)
  clear hb12 H11
  go_wp2_with fail
  refine (ReadOnly_any H12.out.at_ HF3.out).mono ?_
  rw [HX3.out, FP.k_shut3]
  rintro e w13 ⟨rfl, hb13⟩
  have H13 := Lib.hid (H12.out.old hb13)
  clear hb13 H12
  go_wp2_with fail
  go_ret
  exact ⟨rfl, HB3.out.trans (H13.out.below (fun n e => HL3.out n e) HB3.out.size)⟩
end
end Go.Proofs.YtjkaioonppmkjaaGreat.ft

/-
  A translation that is not there: what each method answers; none of a chip that is not there, or that is down. No conditions.
-/
namespace Go.Proofs.YtjkaioonppmkjaaGreat.ft
open Go.RowKit Go.Proofs.YtjkaioonppmkjaaGreat.mgr
attribute [local go_sem] Oper.semAt_some

section
variable {w : World}
abbrev nilp : Value := .pointer none
theorem ready_nil : Calls Tryz.prog 71 #[nilp] w fun e w' => e = .returned (vi 3) ∧ w' = w := by
  go_enter Tryz.func71, Tryz.ntmps71
  go_wp2_with fail
  go_ret
  exact ⟨rfl, rfl⟩
theorem logical_nil (p : Value) : Calls Tryz.prog 44 #[nilp, p] w fun e w' => e = .returned (vi 3) ∧ w' = w := by
  go_enter Tryz.func44, Tryz.ntmps44
  go_wp2_with fail
  refine ready_nil.mono ?_
  rintro e w' ⟨rfl, rfl⟩
  go_wp2_with fail
  go_ret
  exact ⟨rfl, rfl⟩
set_option maxRecDepth 100000 in
theorem Read_nil (p : Value) : Calls Tryz.prog 9 #[nilp, p] w fun e w' => e = .returned (.tuple #[.slice none 0 0, vi 3]) ∧ w' = w := by
  go_enter Tryz.func9, Tryz.ntmps9
  go_wp2_with fail
  refine (logical_nil p).mono ?_
  rintro e w' ⟨rfl, rfl⟩
  go_wp2_with fail
  go_ret2
  exact ⟨rfl, rfl⟩
set_option maxRecDepth 100000 in
theorem Write_nil (p b : Value) : Calls Tryz.prog 15 #[nilp, p, b] w fun e w' => e = .returned (vi 3) ∧ w' = w := by
  go_enter Tryz.func15, Tryz.ntmps15
  go_wp2_with fail
  refine (logical_nil p).mono ?_
  rintro e w' ⟨rfl, rfl⟩
  go_wp2_with fail
  go_ret
  exact ⟨rfl, rfl⟩
set_option maxRecDepth 100000 in
theorem Drop_nil (p : Value) : Calls Tryz.prog 16 #[nilp, p] w fun e w' => e = .returned (vi 3) ∧ w' = w := by
  go_enter Tryz.func16, Tryz.ntmps16
  go_wp2_with fail
  refine (logical_nil p).mono ?_
  rintro e w' ⟨rfl, rfl⟩
  go_wp2_with fail
  go_ret
  exact ⟨rfl, rfl⟩
set_option maxRecDepth 100000 in
theorem Seal_nil (b : Value) : Calls Tryz.prog 17 #[nilp, b] w fun e w' => e = .returned (vi 3) ∧ w' = w := by
  go_enter Tryz.func17, Tryz.ntmps17
  go_wp2_with fail
  refine ready_nil.mono ?_
  rintro e w' ⟨rfl, rfl⟩
  go_wp2_with fail
  go_ret
  exact ⟨rfl, rfl⟩
theorem Text_nil : Calls Tryz.prog 18 #[nilp] w fun e w' => e = .returned (.slice none 0 0) ∧ w' = w := by
  go_enter Tryz.func18, Tryz.ntmps18
  go_wp2_with fail
  go_ret
  exact ⟨rfl, rfl⟩
theorem Used_nil : Calls Tryz.prog 19 #[nilp] w fun e w' => e = .returned (vi 0) ∧ w' = w := by
  go_enter Tryz.func19, Tryz.ntmps19
  go_wp2_with fail
  go_ret
  exact ⟨rfl, rfl⟩
theorem Capacity_nil : Calls Tryz.prog 20 #[nilp] w fun e w' => e = .returned (vi 0) ∧ w' = w := by
  go_enter Tryz.func20, Tryz.ntmps20
  go_wp2_with fail
  go_ret
  exact ⟨rfl, rfl⟩
theorem ReadOnly_nil : Calls Tryz.prog 21 #[nilp] w fun e w' => e = .returned (.bool true) ∧ w' = w := by
  go_enter Tryz.func21, Tryz.ntmps21
  go_wp2_with fail
  go_ret
  exact ⟨rfl, rfl⟩
theorem Pages_any (p : Option Addr) : Calls Tryz.prog 12 #[.pointer p] w fun e w' => e = .returned (.func (.func 62) #[] #[.pointer (some ⟨w.heap.size, 0, none⟩)]) ∧ w' = w.alloc (.cells #[.pointer p] 24) := by
  go_enter Tryz.func12, Tryz.ntmps12
  go_wp2_with fail
  go_ret
  exact ⟨rfl, rfl⟩
abbrev noEncs : Empty → Array Value := fun e => e.elim
theorem Pages1_nil (n b1 : Nat) (h1 : w.cell? ⟨b1, 0, none⟩ = some nilp) (Kp : World → World → Prop) :
    SeqStopsK Fence.wide n Tryz.prog 62 #[.pointer (some ⟨b1, 0, none⟩)] noEncs Kp (fun xs => xs = []) (fun _ => False) 0 w := by
  intro l J Jx W hW hJ hJx hY h0
  refine callsIn_wide.2 ?_
  have c1 := cell_below h1 hW
  clear hY hJ hJx h1
  have H0 := Lib.hid h0
  clear h0
  go_enter Tryz.func62, Tryz.ntmps62
  go_wp2_with fail
  refine bodyPost_ret (results_none rfl _ _ _) rfl ?_
  exact ⟨⟨_, rfl⟩, .inl ⟨[], rfl, H0.out⟩⟩
set_option maxRecDepth 100000 in
theorem Format_nil (r b : Value) : Calls Tryz.prog 10 #[nilp, r, b] w fun e w' => e = .returned (.tuple #[nilp, vi 3]) ∧ w' = w := by
  go_enter Tryz.func10, Tryz.ntmps10
  go_wp2_with fail
  go_ret2
  exact ⟨rfl, rfl⟩
set_option maxRecDepth 100000 in
theorem Open_nil : Calls Tryz.prog 11 #[nilp] w fun e w' => e = .returned (.tuple #[nilp, vi 3]) ∧ w' = w := by
  go_enter Tryz.func11, Tryz.ntmps11
  go_wp2_with fail
  go_ret2
  exact ⟨rfl, rfl⟩
set_option maxRecDepth 100000 in
theorem Format_down {base k : Nat} {M : ChM} (h : ChipAt base w k M) (hd : M.down = true) (r b : Value) : Calls Tryz.prog 10 #[ptr k, r, b] w fun e w' => e = .returned (.tuple #[nilp, vi 4]) ∧ w' = w := by
  have HU := Lib.hid (Up_any h)
  rw [hd] at HU
  clear h hd
  go_enter Tryz.func10, Tryz.ntmps10
  go_wp2_with fail
  refine HU.out.mono ?_
  rintro e w' ⟨rfl, rfl⟩
  go_wp2_with fail
  go_ret2
  exact ⟨rfl, rfl⟩
set_option maxRecDepth 100000 in
theorem Open_down {base k : Nat} {M : ChM} (h : ChipAt base w k M) (hd : M.down = true) : Calls Tryz.prog 11 #[ptr k] w fun e w' => e = .returned (.tuple #[nilp, vi 4]) ∧ w' = w := by
  have HU := Lib.hid (Up_any h)
  rw [hd] at HU
  clear h hd
  go_enter Tryz.func11, Tryz.ntmps11
  go_wp2_with fail
  refine HU.out.mono ?_
  rintro e w' ⟨rfl, rfl⟩
  go_wp2_with fail
  go_ret2
  exact ⟨rfl, rfl⟩
end
end Go.Proofs.YtjkaioonppmkjaaGreat.ft

/-
  A translation of a chip that is down, in plain words; a range over a function that tells nothing. No conditions.
-/
namespace Go.Proofs.YtjkaioonppmkjaaGreat.FP
open Go.Proofs.YtjkaioonppmkjaaGreat.mgr
def kD : Ft := { kF0 with c := { kF0.c with down := true } }
theorem k_dread : kD.read 1 = (([], 4), kD) := by kernel_rfl
theorem k_dwrite : kD.write 1 z64 = some (4, kD) := by kernel_rfl
theorem k_ddrop : kD.drop 1 = (4, kD) := by kernel_rfl
theorem k_dseal : kD.sealed z56 = some (4, kD) := by kernel_rfl
end Go.Proofs.YtjkaioonppmkjaaGreat.FP
namespace Go.Proofs.YtjkaioonppmkjaaGreat.ft
open Go.RowKit Go.Proofs.YtjkaioonppmkjaaGreat.mgr
theorem kD_fit : Fit FP.kD := by
  have h := format_fit kC0_good (by intro y hy; rw [List.eq_of_mem_replicate hy]; decide) FP.k_format
  exact h.chip (c := { FP.kF0.c with down := true }) (h.good.act .lose trivial) rfl rfl
/-- A range over a function that tells nothing, whatever its loop does with its variables. -/
theorem wp_rangeFunc_empty {w : World} {g : Operand} {ps : Array Tmp} {assign body : Code} {Q : Exit → Act → World → Prop} {a : Act} {gf : Nat} {lb : Array Value} (hg : a.eval g = .func (.func gf) #[] lb)
    (eg : ∀ args w, (callFunc gf args).run Tryz.prog w = .ok (.enter gf args) w) (hseq : SeqStopsK Fence.wide 5 Tryz.prog gf lb noEncs (fun _ _ => True) (fun xs => xs = []) (fun _ => False) 0 w)
    (hdone : ∀ (D : Nat) (W : World), w.heap.size ≤ D → Below w.heap.size w W → W.heap[D]? = some (.deferred (some [])) → Q .normal { a with defers := { target := .collected D, args := #[] } :: a.defers } W) :
    (Code.rangeFunc g ps assign body).wp Tryz.prog Q a w :=
  wpIn_wide.1 (wpIn_rangeFunc_ownF (F := Fence.wide) (n := 6) rfl (by omega) (gf := gf) (lb := lb) hg trivial eg hseq (fun _ _ => trivial) (fun _ _ _ _ _ _ _ _ => trivial) (Below.refl _ _) (fun x => x.elim)
    (fun _ W => Below w.heap.size w W) (fun _ _ _ => False) (ownFrom_below (Nat.le_refl _) (Nat.le_refl _)) (fun _ _ _ _ _ h _ _ => h) (Below.refl _ _)
    (fun x => x.elim) (fun _ x => x.elim) (fun _ _ x => x.elim)
    (fun D _ W hD _ hB hK => hdone D W hD hB hK) (fun _ _ _ _ _ _ h => h.elim))
theorem eql_seqF (w : World) (f : Fn) (a b : Array Value) : (binOp .eql 32 (.func f a b) .nilFunc).run Tryz.prog w = .ok (.bool false) w := by
  have h : ∀ d : Nat, (Op.equalIn (d + 1) 32 (.func f a b) .nilFunc).run Tryz.prog w = .ok false w := fun d => by
    simp [Op.equalIn, run_underlying Tryz.underlying32]
  simp only [binOp]
  simp [Op.equal, Op.maxDepth, h 9999]
theorem below_taken {w w0 : World} {D : Nat} (h : Below w0.heap.size w0 w) (hD : w0.heap.size ≤ D) : Below w0.heap.size w0 (w.putObj D (.deferred none)) :=
  h.grown (grownBy_putObj' w D _) h.size (fun k e => by cases e; exact hD)
end Go.Proofs.YtjkaioonppmkjaaGreat.ft

/-
  A pool that is not there: what each method answers. A pool in memory: what it tells. Conditions: a pool told by PlAt.
-/
namespace Go.Proofs.YtjkaioonppmkjaaGreat.pl
open Go.RowKit Go.Proofs.YtjkaioonppmkjaaGreat.mgr Go.Proofs.YtjkaioonppmkjaaGreat.ft

section
variable {w : World}
theorem asked_nil (n : Value) : Calls Tryz.prog 75 #[nilp, n] w fun e w' => e = .returned (vi 3) ∧ w' = w := by
  go_enter Tryz.func75, Tryz.ntmps75
  go_wp2_with fail
  go_ret
  exact ⟨rfl, rfl⟩
theorem Get_nil (n : Value) : Calls Tryz.prog 23 #[nilp, n] w fun e w' => e = .returned (.tuple #[.slice none 0 0, vi 3]) ∧ w' = w := by
  go_enter Tryz.func23, Tryz.ntmps23
  go_wp2_with fail
  refine (asked_nil n).mono ?_
  rintro e w' ⟨rfl, rfl⟩
  go_wp2_with fail
  go_ret2
  exact ⟨rfl, rfl⟩
theorem Put_nil (n b : Value) : Calls Tryz.prog 27 #[nilp, n, b] w fun e w' => e = .returned (vi 3) ∧ w' = w := by
  go_enter Tryz.func27, Tryz.ntmps27
  go_wp2_with fail
  refine (asked_nil n).mono ?_
  rintro e w' ⟨rfl, rfl⟩
  go_wp2_with fail
  go_ret
  exact ⟨rfl, rfl⟩
theorem Alloc_nil : Calls Tryz.prog 24 #[nilp] w fun e w' => e = .returned (.tuple #[vi 0, vi 3]) ∧ w' = w := by
  go_enter Tryz.func24, Tryz.ntmps24
  go_wp2_with fail
  go_ret2
  exact ⟨rfl, rfl⟩
theorem Free_nil (n : Value) : Calls Tryz.prog 28 #[nilp, n] w fun e w' => e = .returned (vi 3) ∧ w' = w := by
  go_enter Tryz.func28, Tryz.ntmps28
  go_wp2_with fail
  refine (asked_nil n).mono ?_
  rintro e w' ⟨rfl, rfl⟩
  go_wp2_with fail
  go_ret
  exact ⟨rfl, rfl⟩
theorem Commit_nil (b : Value) : Calls Tryz.prog 29 #[nilp, b] w fun e w' => e = .returned (vi 3) ∧ w' = w := by
  go_enter Tryz.func29, Tryz.ntmps29
  go_wp2_with fail
  go_ret
  exact ⟨rfl, rfl⟩
theorem Dirty_nil : Calls Tryz.prog 30 #[nilp] w fun e w' => e = .returned (vi 0) ∧ w' = w := by
  go_enter Tryz.func30, Tryz.ntmps30
  go_wp2_with fail
  go_ret
  exact ⟨rfl, rfl⟩
theorem Room_nil : Calls Tryz.prog 31 #[nilp] w fun e w' => e = .returned (vi 0) ∧ w' = w := by
  go_enter Tryz.func31, Tryz.ntmps31
  go_wp2_with fail
  go_ret
  exact ⟨rfl, rfl⟩
theorem Size_nil : Calls Tryz.prog 32 #[nilp] w fun e w' => e = .returned (vi 0) ∧ w' = w := by
  go_enter Tryz.func32, Tryz.ntmps32
  go_wp2_with fail
  go_ret
  exact ⟨rfl, rfl⟩
theorem Layout_nil : Calls Tryz.prog 33 #[nilp] w fun e w' => e = .returned (.agg #[vi 0, vi 0, vi 0, vi 0]) ∧ Below w.heap.size w w' := by
  go_enter Tryz.func33, Tryz.ntmps33
  go_wp2_with fail
  exact bodyPost_ret (v := .agg #[vi 0, vi 0, vi 0, vi 0]) (by simp [results, Tryz.results33, go_sem]) rfl ⟨rfl, (Below.refl _ _).alloc (Nat.le_refl _) _⟩
theorem ReadOnly_nil : Calls Tryz.prog 34 #[nilp] w fun e w' => e = .returned (.bool true) ∧ w' = w := by
  go_enter Tryz.func34, Tryz.ntmps34
  go_wp2_with fail
  go_ret
  exact ⟨rfl, rfl⟩
theorem Open_nil (a b c d : Int) (u : Value) : Calls Tryz.prog 25 #[nilp, .agg #[vi a, vi b, vi c, vi d], u] w fun e w' => e = .returned (.tuple #[nilp, vi 3]) ∧ Below w.heap.size w w' := by
  go_enter Tryz.func25, Tryz.ntmps25
  go_wp2_with fail
  go_ret2
  exact ⟨rfl, (Below.refl _ _).alloc (Nat.le_refl _) _⟩
theorem Used_any (p : Option Addr) : Calls Tryz.prog 26 #[.pointer p] w fun e w' => e = .returned (.func (.func 78) #[] #[.pointer (some ⟨w.heap.size, 0, none⟩)]) ∧ w' = w.alloc (.cells #[.pointer p] 46) := by
  go_enter Tryz.func26, Tryz.ntmps26
  go_wp2_with fail
  go_ret
  exact ⟨rfl, rfl⟩
theorem Used1_nil (n b1 : Nat) (h1 : w.cell? ⟨b1, 0, none⟩ = some nilp) (Kp : World → World → Prop) :
    SeqStopsK Fence.wide n Tryz.prog 78 #[.pointer (some ⟨b1, 0, none⟩)] noEncs Kp (fun xs => xs = []) (fun _ => False) 0 w := by
  intro l J Jx W hW hJ hJx hY h0
  refine callsIn_wide.2 ?_
  have c1 := cell_below h1 hW
  clear hY hJ hJx h1
  have H0 := Lib.hid h0
  clear h0
  go_enter Tryz.func78, Tryz.ntmps78
  go_wp2_with fail
  refine bodyPost_ret (results_none rfl _ _ _) rfl ?_
  exact ⟨⟨_, rfl⟩, .inl ⟨[], rfl, H0.out⟩⟩
theorem eql_seqI (w : World) (f : Fn) (a b : Array Value) : (binOp .eql 55 (.func f a b) .nilFunc).run Tryz.prog w = .ok (.bool false) w := by
  have h : ∀ d : Nat, (Op.equalIn (d + 1) 55 (.func f a b) .nilFunc).run Tryz.prog w = .ok false w := fun d => by
    simp [Op.equalIn, run_underlying Tryz.underlying55]
  simp only [binOp]
  simp [Op.equal, Op.maxDepth, h 9999]
theorem eql_lay (w : World) : (binOp .eql 53 (.agg #[vi 0, vi 0, vi 0, vi 0]) (.agg #[vi 0, vi 0, vi 0, vi 0])).run Tryz.prog w = .ok (.bool true) w := by kernel_rfl
end

/-! A pool in memory. -/
structure PlM where
  f : Nat
  T : Int
  F : Int
  P : Int
  I : Int
  sz : Int
  bu : Nat
  bd : Nat
  U : Mp Int
  D : Mp Value
abbrev PlM.cs (Y : PlM) : Array Value := #[ptr Y.f, vi Y.T, vi Y.F, vi Y.P, vi Y.I, vi Y.sz, .map (some Y.bu), .map (some Y.bd)]
structure PlAt (w : World) (q : Nat) (Y : PlM) : Prop where
  obj : Blk w q 135 Y.cs
  used : MpAt w Y.bu .i64 encI Y.U
  dirty : MpAt w Y.bd .i64 (fun v : Value => v) Y.D
  ne : Y.bu ≠ Y.bd
section
variable {F : Nat → Prop} {w w' : World} {q : Nat} {Y : PlM}
def PlM.foot (Y : PlM) (q n : Nat) : Prop := n = q ∨ n = Y.bu ∨ n = Y.bd
theorem PlAt.chg (h : PlAt w q Y) (g : Chg F w w') (hn : ∀ n, Y.foot q n → ¬ F n) : PlAt w' q Y :=
  ⟨h.obj.chg g (hn _ (.inl rfl)), h.used.chg g (hn _ (.inr (.inl rfl))), h.dirty.chg g (hn _ (.inr (.inr rfl))), h.ne⟩
theorem PlAt.old (h : PlAt w q Y) (g : Below w.heap.size w w') : PlAt w' q Y := h.chg (F := fun _ => False) (Chg.of_below g) (fun _ _ e => e)
theorem PlAt.lt (h : PlAt w q Y) : ∀ n, Y.foot q n → n < w.heap.size := by
  intro n e
  rcases e with e | e | e
  · rw [e]; exact h.obj.lt
  · rw [e]; exact h.used.lt
  · rw [e]; exact h.dirty.lt
theorem PlAt.putU (h : PlAt w q Y) (n m : Int) : ∃ w', UpdRun 132 (.map (some Y.bu)) (vi n) (vi m) w w' ∧ PlAt w' q { Y with U := MP.put Y.U n m } ∧ w.grownBy w' (some Y.bu) := by
  obtain ⟨w', h1, h2, h3⟩ := h.used.update (P := Tryz.prog) Tryz.underlying132 Tryz.underlying3 n m
  have c : Chg (fun k => k = Y.bu) w w' := (Chg.refl _ _).grown h3 (fun k e => by cases e; exact .inl rfl)
  exact ⟨w', ⟨h1⟩, ⟨h.obj.chg c (fun e => h.used.ne_blk h.obj e.symm), h2, h.dirty.chg c (fun e => h.ne e.symm), h.ne⟩, h3⟩
theorem PlAt.putD (h : PlAt w q Y) (n : Int) (v : Value) : ∃ w', UpdRun 133 (.map (some Y.bd)) (vi n) v w w' ∧ PlAt w' q { Y with D := MP.put Y.D n v } ∧ w.grownBy w' (some Y.bd) := by
  obtain ⟨w', h1, h2, h3⟩ := h.dirty.update (P := Tryz.prog) Tryz.underlying133 Tryz.underlying3 n v
  have c : Chg (fun k => k = Y.bd) w w' := (Chg.refl _ _).grown h3 (fun k e => by cases e; exact .inl rfl)
  exact ⟨w', ⟨h1⟩, ⟨h.obj.chg c (fun e => h.dirty.ne_blk h.obj e.symm), h.used.chg c h.ne, h2, h.ne⟩, h3⟩
theorem PlAt.delU (h : PlAt w q Y) (n : Int) : ∃ w', DelRun 132 3 (.map (some Y.bu)) (vi n) w w' ∧ PlAt w' q { Y with U := MP.del Y.U n } ∧ w.grownBy w' (some Y.bu) := by
  obtain ⟨w', h1, h2, h3⟩ := h.used.delete (P := Tryz.prog) Tryz.underlying132 Tryz.underlying3 n
  have c : Chg (fun k => k = Y.bu) w w' := (Chg.refl _ _).grown h3 (fun k e => by cases e; exact .inl rfl)
  exact ⟨w', ⟨h1⟩, ⟨h.obj.chg c (fun e => h.used.ne_blk h.obj e.symm), h2, h.dirty.chg c (fun e => h.ne e.symm), h.ne⟩, h3⟩
theorem PlAt.delD (h : PlAt w q Y) (n : Int) : ∃ w', DelRun 133 3 (.map (some Y.bd)) (vi n) w w' ∧ PlAt w' q { Y with D := MP.del Y.D n } ∧ w.grownBy w' (some Y.bd) := by
  obtain ⟨w', h1, h2, h3⟩ := h.dirty.delete (P := Tryz.prog) Tryz.underlying133 Tryz.underlying3 n
  have c : Chg (fun k => k = Y.bd) w w' := (Chg.refl _ _).grown h3 (fun k e => by cases e; exact .inl rfl)
  exact ⟨w', ⟨h1⟩, ⟨h.obj.chg c (fun e => h.dirty.ne_blk h.obj e.symm), h.used.chg c h.ne, h2, h.ne⟩, h3⟩
theorem zero_bytes (w : World) : (zeroValue 23).run Tryz.prog w = .ok (.slice none 0 0) w := by kernel_rfl
theorem PlAt.lookU (h : PlAt w q Y) (n : Int) : (Instr.lookup 132 (.map (some Y.bu)) (vi n) true).run Tryz.prog w = .ok (.tuple #[((MP.get Y.U n).map encI).getD (vi 0), .bool (MP.has Y.U n)]) w :=
  h.used.lookup_ok Tryz.underlying132 Tryz.underlying3 (zero_int w) n
theorem PlAt.lookD (h : PlAt w q Y) (n : Int) : (Instr.lookup 133 (.map (some Y.bd)) (vi n) true).run Tryz.prog w = .ok (.tuple #[((MP.get Y.D n).map fun v => v).getD (.slice none 0 0), .bool (MP.has Y.D n)]) w :=
  h.dirty.lookup_ok Tryz.underlying133 Tryz.underlying3 (zero_bytes w) n
end
end Go.Proofs.YtjkaioonppmkjaaGreat.pl

