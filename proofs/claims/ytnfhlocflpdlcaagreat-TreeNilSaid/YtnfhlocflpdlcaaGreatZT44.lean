/-
  Lemmas for a law's proof, put together from several texts: each part says what it shows, and its conditions.
-/
import Derived.Test.YtnfhlocflpdlcaaGreatZT41
import Derived.Test.YtnfhlocflpdlcaaGreatZT02
import Derived.Deep.Slices
import Derived.Deep.Fields
import Derived.ChangeSame
/-
  A tree that is not there: what each method answers. No conditions.
-/
namespace Go.Proofs.YtnfhlocflpdlcaaGreat.tr
open Go.RowKit Go.Proofs.YtnfhlocflpdlcaaGreat.mgr Go.Proofs.YtnfhlocflpdlcaaGreat.ft Go.Proofs.YtnfhlocflpdlcaaGreat.pl Go.Proofs.YtnfhlocflpdlcaaGreat.ino Go.Proofs.YtnfhlocflpdlcaaGreat.nd
section
variable {w : World}
abbrev zI : Value := .agg #[vi 0, vi 0, vi 0, vi 0, vi 0, vi 0, vi 0, vi 0, vi 0, vi 0, vi 0]
abbrev zC : Obj := .cells #[vi 0, vi 0, vi 0, vi 0, vi 0, vi 0, vi 0, vi 0, vi 0, vi 0, vi 0] 50
theorem place_nil (n : Value) : Calls Tryz.prog 32 #[nilp, n] w fun e w' => e = .returned (.tuple #[vi 0, vi 0, vi 3]) ∧ w' = w := by
  go_enter Tryz.func32, Tryz.ntmps32
  go_wp2_with fail
  go_ret3
  exact ⟨rfl, rfl⟩
set_option maxRecDepth 100000 in
set_option maxHeartbeats 2000000 in
theorem Inode_nil (n : Value) : Calls Tryz.prog 13 #[nilp, n] w fun e w' => e = .returned (.tuple #[zI, vi 3]) ∧ Below w.heap.size w w' := by
  have HB1 : Hid (Below w.heap.size w (w.alloc zC)) := Lib.hid ((Below.refl _ _).alloc (Nat.le_refl _) _)
  have HG1 := Lib.hid (Blk.new w 50 #[vi 0, vi 0, vi 0, vi 0, vi 0, vi 0, vi 0, vi 0, vi 0, vi 0, vi 0])
  go_enter Tryz.func13, Tryz.ntmps13
  go_upto_region 1 with fail
  obtain ⟨g, hg⟩ : ∃ g, g = w.heap.size := ⟨_, rfl⟩
  rw [← hg] at HG1 ⊢
  have HGG := Lib.hid hg
  clear hg
  change Code.wp _ _ _ _ (w.alloc zC)
  change Hid (Blk (w.alloc zC) _ _ _) at HG1
  generalize w.alloc zC = w1 at *
  go_wp2_with fail
  refine (place_nil n).mono ?_
  rintro e w2 ⟨rfl, rfl⟩
  have r0 : w2.cell? ⟨g, 0, none⟩ = some (vi 0) := HG1.out.cell 0
  have f0 := HG1.out.frozen 0
  have r1 : w2.cell? ⟨g, 1, none⟩ = some (vi 0) := HG1.out.cell 1
  have f1 := HG1.out.frozen 1
  have r2 : w2.cell? ⟨g, 2, none⟩ = some (vi 0) := HG1.out.cell 2
  have f2 := HG1.out.frozen 2
  have r3 : w2.cell? ⟨g, 3, none⟩ = some (vi 0) := HG1.out.cell 3
  have f3 := HG1.out.frozen 3
  have r4 : w2.cell? ⟨g, 4, none⟩ = some (vi 0) := HG1.out.cell 4
  have f4 := HG1.out.frozen 4
  have r5 : w2.cell? ⟨g, 5, none⟩ = some (vi 0) := HG1.out.cell 5
  have f5 := HG1.out.frozen 5
  have r6 : w2.cell? ⟨g, 6, none⟩ = some (vi 0) := HG1.out.cell 6
  have f6 := HG1.out.frozen 6
  have r7 : w2.cell? ⟨g, 7, none⟩ = some (vi 0) := HG1.out.cell 7
  have f7 := HG1.out.frozen 7
  have r8 : w2.cell? ⟨g, 8, none⟩ = some (vi 0) := HG1.out.cell 8
  have f8 := HG1.out.frozen 8
  have r9 : w2.cell? ⟨g, 9, none⟩ = some (vi 0) := HG1.out.cell 9
  have f9 := HG1.out.frozen 9
  have r10 : w2.cell? ⟨g, 10, none⟩ = some (vi 0) := HG1.out.cell 10
  have f10 := HG1.out.frozen 10
  go_wp2_with fail
  obtain ⟨hf, hw⟩ := nd.ino_fill2 (vi 0) (vi 0) (vi 0) (vi 0) (vi 0) (vi 0) (vi 0) (vi 0) (vi 0) (vi 0) (vi 0) HG1.out
  refine bodyPost_ret (inode_result hf _ rfl rfl) rfl ⟨rfl, HB1.out.trans (hw.to_below (fun k _ e => ?_) HB1.out.size)⟩
  rw [e, HGG.out]
  exact Nat.le_refl _
set_option maxRecDepth 100000 in
set_option maxHeartbeats 2000000 in
theorem dir_nil (n : Value) : Calls Tryz.prog 36 #[nilp, n] w fun e w' => e = .returned (.tuple #[zI, .slice none 0 0, vi 3]) ∧ Below w.heap.size w w' := by
  have HB1 : Hid (Below w.heap.size w (w.alloc zC)) := Lib.hid ((Below.refl _ _).alloc (Nat.le_refl _) _)
  have HG1 := Lib.hid (Blk.new w 50 #[vi 0, vi 0, vi 0, vi 0, vi 0, vi 0, vi 0, vi 0, vi 0, vi 0, vi 0])
  go_enter Tryz.func36, Tryz.ntmps36
  go_upto_region 1 with fail
  obtain ⟨g, hg⟩ : ∃ g, g = w.heap.size := ⟨_, rfl⟩
  rw [← hg] at HG1 ⊢
  have HGG := Lib.hid hg
  clear hg
  change Code.wp _ _ _ _ (w.alloc zC)
  change Hid (Blk (w.alloc zC) _ _ _) at HG1
  generalize w.alloc zC = w1 at *
  go_wp2_with fail
  refine (Inode_nil n).mono ?_
  rintro e w2 ⟨rfl, hb2⟩
  have HG2 := Lib.hid (HG1.out.old hb2)
  have HB2 := Lib.hid (HB1.out.trans (hb2.mono HB1.out.size))
  clear hb2 HG1 HB1
  go_upto_region 2 with fail
  change Code.wp _ _ _ _ (w2.alloc zC)
  have HB3 : Hid (Below w2.heap.size w2 (w2.alloc zC)) := Lib.hid ((Below.refl _ _).alloc (Nat.le_refl _) _)
  have HG3 := Lib.hid (HG2.out.old HB3.out)
  have HBW := Lib.hid (HB2.out.trans (HB3.out.mono HB2.out.size))
  generalize w2.alloc zC = w3 at *
  clear HG2 HB2 HB3
  have r0 : w3.cell? ⟨g, 0, none⟩ = some (vi 0) := HG3.out.cell 0
  have f0 := HG3.out.frozen 0
  have r1 : w3.cell? ⟨g, 1, none⟩ = some (vi 0) := HG3.out.cell 1
  have f1 := HG3.out.frozen 1
  have r2 : w3.cell? ⟨g, 2, none⟩ = some (vi 0) := HG3.out.cell 2
  have f2 := HG3.out.frozen 2
  have r3 : w3.cell? ⟨g, 3, none⟩ = some (vi 0) := HG3.out.cell 3
  have f3 := HG3.out.frozen 3
  have r4 : w3.cell? ⟨g, 4, none⟩ = some (vi 0) := HG3.out.cell 4
  have f4 := HG3.out.frozen 4
  have r5 : w3.cell? ⟨g, 5, none⟩ = some (vi 0) := HG3.out.cell 5
  have f5 := HG3.out.frozen 5
  have r6 : w3.cell? ⟨g, 6, none⟩ = some (vi 0) := HG3.out.cell 6
  have f6 := HG3.out.frozen 6
  have r7 : w3.cell? ⟨g, 7, none⟩ = some (vi 0) := HG3.out.cell 7
  have f7 := HG3.out.frozen 7
  have r8 : w3.cell? ⟨g, 8, none⟩ = some (vi 0) := HG3.out.cell 8
  have f8 := HG3.out.frozen 8
  have r9 : w3.cell? ⟨g, 9, none⟩ = some (vi 0) := HG3.out.cell 9
  have f9 := HG3.out.frozen 9
  have r10 : w3.cell? ⟨g, 10, none⟩ = some (vi 0) := HG3.out.cell 10
  have f10 := HG3.out.frozen 10
  go_wp2_with fail
  obtain ⟨hf, hw⟩ := nd.ino_fill2 (vi 0) (vi 0) (vi 0) (vi 0) (vi 0) (vi 0) (vi 0) (vi 0) (vi 0) (vi 0) (vi 0) HG3.out
  refine bodyPost_ret (dir_result hf _ rfl rfl rfl) rfl ⟨rfl, HBW.out.trans (hw.to_below (fun k _ e => ?_) HBW.out.size)⟩
  rw [e, HGG.out]
  exact Nat.le_refl _
theorem Bytes_nil (n : Value) : Calls Tryz.prog 15 #[nilp, n] w fun e w' => e = .returned (.tuple #[.slice none 0 0, vi 3]) ∧ Below w.heap.size w w' := by
  go_enter Tryz.func15, Tryz.ntmps15
  go_wp2_with fail
  refine (dir_nil n).mono ?_
  rintro e w2 ⟨rfl, hb2⟩
  have HB2 := Lib.hid hb2
  clear hb2
  go_upto_region 2 with fail
  change Code.wp _ _ _ _ (w2.alloc zC)
  have HB3 : Hid (Below w.heap.size w (w2.alloc zC)) := Lib.hid (HB2.out.alloc HB2.out.size _)
  generalize w2.alloc zC = w3 at *
  go_wp2_with fail
  go_ret2
  exact ⟨rfl, HB3.out⟩
theorem Find_nil (n s : Value) : Calls Tryz.prog 16 #[nilp, n, s] w fun e w' => e = .returned (.tuple #[vi 0, vi 3]) ∧ Below w.heap.size w w' := by
  go_enter Tryz.func16, Tryz.ntmps16
  go_wp2_with fail
  refine (Bytes_nil n).mono ?_
  rintro e w2 ⟨rfl, hb2⟩
  have HB2 := Lib.hid hb2
  clear hb2
  go_wp2_with fail
  go_ret2
  exact ⟨rfl, HB2.out⟩
theorem Entries_nil (n : Value) : Calls Tryz.prog 10 #[nilp, n] w fun e w' => ∃ w1, e = .returned (.func (.func 68) #[] #[.pointer (some ⟨w1.heap.size, 0, none⟩)]) ∧ Below w.heap.size w w1 ∧ w' = w1.alloc (.cells #[.slice none 0 0] 56) := by
  go_enter Tryz.func10, Tryz.ntmps10
  go_wp2_with fail
  refine (Bytes_nil n).mono ?_
  rintro e w2 ⟨rfl, hb2⟩
  have HB2 := Lib.hid hb2
  clear hb2
  go_wp2_with fail
  refine (di.All_any none 0 0).mono ?_
  rintro e w3 ⟨rfl, rfl⟩
  go_wp2_with fail
  go_ret
  exact ⟨w2, rfl, HB2.out, rfl⟩
theorem Set_nil (n : Value) (v0 v1 v2 v3 v4 v5 v6 v7 v8 v9 v10 : Int) : Calls Tryz.prog 19 #[nilp, n, .agg #[vi v0, vi v1, vi v2, vi v3, vi v4, vi v5, vi v6, vi v7, vi v8, vi v9, vi v10]] w fun e w' => e = .returned (vi 3) ∧ Below w.heap.size w w' := by
  go_enter Tryz.func19, Tryz.ntmps19
  go_upto_region 1 with fail
  have HB3 : Hid (Below w.heap.size w (w.alloc (.cells #[vi v0, vi v1, vi v2, vi v3, vi v4, vi v5, vi v6, vi v7, vi v8, vi v9, vi v10] 50))) := Lib.hid ((Below.refl _ _).alloc (Nat.le_refl _) _)
  change Code.wp _ _ _ _ (w.alloc (.cells #[vi v0, vi v1, vi v2, vi v3, vi v4, vi v5, vi v6, vi v7, vi v8, vi v9, vi v10] 50))
  generalize w.alloc (.cells #[vi v0, vi v1, vi v2, vi v3, vi v4, vi v5, vi v6, vi v7, vi v8, vi v9, vi v10] 50) = w1 at *
  go_wp2_with fail
  refine (place_nil n).mono ?_
  rintro e w2 ⟨rfl, rfl⟩
  go_wp2_with fail
  go_ret
  exact ⟨rfl, HB3.out⟩
theorem Make_nil (n : Value) : Calls Tryz.prog 14 #[nilp, n] w fun e w' => e = .returned (.tuple #[vi 0, vi 3]) ∧ w' = w := by
  go_enter Tryz.func14, Tryz.ntmps14
  go_wp2_with fail
  go_ret2
  exact ⟨rfl, rfl⟩
theorem Walk_nil (v : Value) : Calls Tryz.prog 17 #[nilp, v] w fun e w' => e = .returned (.tuple #[vi 0, vi 3]) ∧ w' = w := by
  go_enter Tryz.func17, Tryz.ntmps17
  go_wp2_with fail
  go_step3
  go_wp2_with fail
  try rw [Exit.noGoto_ret]
  go_ret2
  exact ⟨rfl, rfl⟩
theorem Used_nil : Calls Tryz.prog 24 #[nilp] w fun e w' => e = .returned (vi 0) ∧ w' = w := by
  go_enter Tryz.func24, Tryz.ntmps24
  go_wp2_with fail
  go_ret
  exact ⟨rfl, rfl⟩
theorem Pool_nil : Calls Tryz.prog 25 #[nilp] w fun e w' => e = .returned nilp ∧ w' = w := by
  go_enter Tryz.func25, Tryz.ntmps25
  go_wp2_with fail
  go_ret
  exact ⟨rfl, rfl⟩
theorem Open_nil : Calls Tryz.prog 18 #[nilp] w fun e w' => e = .returned (.tuple #[nilp, vi 3]) ∧ w' = w := by
  go_enter Tryz.func18, Tryz.ntmps18
  go_wp2_with fail
  go_ret2
  exact ⟨rfl, rfl⟩
theorem Drop_nil (n : Value) : Calls Tryz.prog 20 #[nilp, n] w fun e w' => e = .returned (vi 3) ∧ Below w.heap.size w w' := by
  go_enter Tryz.func20, Tryz.ntmps20
  go_wp2_with fail
  refine (Inode_nil n).mono ?_
  rintro e w2 ⟨rfl, hb2⟩
  have HB2 := Lib.hid hb2
  clear hb2
  go_upto_region 2 with fail
  change Code.wp _ _ _ _ (w2.alloc zC)
  have HB3 : Hid (Below w.heap.size w (w2.alloc zC)) := Lib.hid (HB2.out.alloc HB2.out.size _)
  generalize w2.alloc zC = w3 at *
  go_wp2_with fail
  go_ret
  exact ⟨rfl, HB3.out⟩
theorem Add_nil (n s m : Value) : Calls Tryz.prog 21 #[nilp, n, s, m] w fun e w' => e = .returned (vi 3) ∧ Below w.heap.size w w' := by
  go_enter Tryz.func21, Tryz.ntmps21
  go_wp2_with fail
  refine (dir_nil n).mono ?_
  rintro e w2 ⟨rfl, hb2⟩
  have HB2 := Lib.hid hb2
  clear hb2
  go_upto_region 2 with fail
  change Code.wp _ _ _ _ (w2.alloc zC)
  have HB3 : Hid (Below w.heap.size w (w2.alloc zC)) := Lib.hid (HB2.out.alloc HB2.out.size _)
  generalize w2.alloc zC = w3 at *
  go_wp2_with fail
  go_ret
  exact ⟨rfl, HB3.out⟩
theorem Remove_nil (n s : Value) : Calls Tryz.prog 22 #[nilp, n, s] w fun e w' => e = .returned (vi 3) ∧ Below w.heap.size w w' := by
  go_enter Tryz.func22, Tryz.ntmps22
  go_wp2_with fail
  refine (dir_nil n).mono ?_
  rintro e w2 ⟨rfl, hb2⟩
  have HB2 := Lib.hid hb2
  clear hb2
  go_upto_region 2 with fail
  change Code.wp _ _ _ _ (w2.alloc zC)
  have HB3 : Hid (Below w.heap.size w (w2.alloc zC)) := Lib.hid (HB2.out.alloc HB2.out.size _)
  generalize w2.alloc zC = w3 at *
  go_wp2_with fail
  go_ret
  exact ⟨rfl, HB3.out⟩
theorem Turn_nil (n s m : Value) : Calls Tryz.prog 23 #[nilp, n, s, m] w fun e w' => e = .returned (vi 3) ∧ Below w.heap.size w w' := by
  go_enter Tryz.func23, Tryz.ntmps23
  go_wp2_with fail
  refine (dir_nil n).mono ?_
  rintro e w2 ⟨rfl, hb2⟩
  have HB2 := Lib.hid hb2
  clear hb2
  go_upto_region 2 with fail
  change Code.wp _ _ _ _ (w2.alloc zC)
  have HB3 : Hid (Below w.heap.size w (w2.alloc zC)) := Lib.hid (HB2.out.alloc HB2.out.size _)
  generalize w2.alloc zC = w3 at *
  go_wp2_with fail
  go_ret
  exact ⟨rfl, HB3.out⟩
end
end Go.Proofs.YtnfhlocflpdlcaaGreat.tr

/-
  From a walk to the given statement: a law whose call answers true and leaves all old memory alone meets its row. No conditions.
-/
namespace Go.Proofs.YtnfhlocflpdlcaaGreat
open Go.ChangeShapes Go.WideShapes Go.ChangeAt Go.RowKit Go.Deep
open Go.ChangeMaps (open_string shut_string)

theorem own : ownKnob Tryz.prog.godebug = none := by kernel_rfl
theorem laidOut : laidOutB Tryz.prog = true := by kernel_rfl

section
variable {H : Type} {enc : TypeId × Value → H} {P : Program}

theorem trodAll_stays (hl : laidOutB P = true) {W W' : World} (hb : Below W.heap.size W W') {sp : Nat → Bool} :
    ∀ {ts : List TypeId} {vs : List Value} {ds : List (DataW H)} {ps : List MemPlace}, (∀ t ∈ ts, P.readableRec t = true ∧ t < P.types.size) →
      DataW.TrodAll enc P W 0 (fun _ => true) true ts vs ds ps → (∀ x ∈ ps, x.block < W.heap.size) → (∀ x ∈ ps, sp x.block = true) → DataW.TrodAll enc P W' 0 sp true ts vs ds ps
  | [], vs, ds, ps, _, h, _, _ => by
    obtain ⟨rfl, rfl, rfl⟩ := trodAll_nil h
    exact trodAll_mk0
  | t :: ts, vs, ds, ps, ht, h, hlt, hsp => by
    obtain ⟨v, vs', d, ds', p, q, rfl, rfl, rfl, h0, r⟩ := trodAll_cons h
    exact trodAll_cons_mk (WideElems.Trod_stays hl (ht t (by simp)).1 (ht t (by simp)).2 h0 (fun x hx => hb.same (hlt x (by simp [hx]))) (fun x hx => hsp x (by simp [hx])))
      (trodAll_stays hl hb (fun t' h' => ht t' (by simp [h'])) r (fun x hx => hlt x (by simp [hx])) (fun x hx => hsp x (by simp [hx])))

/-- The row's step, whatever the arguments are: the call answered true, all old memory stands. -/
theorem law_close {f : Func} {s : ChangeSpec} {W W' : World} {args : Array Value} {ds gs : List (DataW H)} {before : List MemPlace} {tb : TypeId}
    (hl : laidOutB P = true) (htsB : (f.params.toList.all fun t => P.readableRec t && decide (t < P.types.size)) = true)
    (hW : DataW.Whole enc P f.params.toList s.vars false W args.toList ds gs before) (hv : s.vars = []) (hb : Below W.heap.size W W')
    (hres : f.resultTypes = #[tb]) (htb : P.underlying tb = some .bool)
    (hfn : s.fn H (ds ++ gs) = { results := [.lit (.bool true)], args := ds }) :
    s.post enc P f false true false false W args (.bool true) W' := by
  have hts : ∀ t ∈ f.params.toList, P.readableRec t = true ∧ t < P.types.size := fun t ht => by
    have := List.all_eq_true.1 htsB t ht
    simpa using this
  have hlt : ∀ x ∈ before, x.block < W.heap.size := fun x hx => hW.lt x hx
  have hW' := hW
  obtain ⟨p, q, hA, hV, rfl, hfz, hnd⟩ := hW
  rw [hv] at hV
  obtain ⟨rfl, rfl⟩ := trodVars_none hV
  refine ⟨_, _, _, [], p, [], hW', ?_, ?_, ?_, hb.frame _, fun h => by cases h⟩
  · rw [hfn, hres]
    exact trodAll_mk1 (shut_bool htb true)
  · rw [hfn]
    exact trodAll_stays hl hb hts hA (fun x hx => hlt x (by simp [hx])) (fun x hx => by simpa using hlt x (by simp [hx]))
  · rw [hfn, hv]
    rfl
end

end Go.Proofs.YtnfhlocflpdlcaaGreat

