/-
  What must come of fixed calls: of no operations, of one byte, of a history and a file system that are not there. No conditions of its own.
-/
import Derived.Test.YtneoeekhinlhgaaGreatHJ
namespace Go.Proofs.YtneoeekhinlhgaaGreat
open Go.RowKit

theorem awake_nil (w : World) : Calls Tryz.prog 56 #[.pointer none] w fun e w' => e = .returned (vi 3) ∧ Below w.heap.size w w' := by
  go_enter Tryz.func56, Tryz.ntmps56
  go_wp2
  go_ret
  exact ⟨rfl, Below.refl _ _⟩
theorem change_nil (w : World) : Calls Tryz.prog 58 #[.pointer none] w fun e w' => e = .returned (vi 3) ∧ Below w.heap.size w w' := by
  go_enter Tryz.func58, Tryz.ntmps58
  go_wp2_with fail
  refine (awake_nil _).mono ?_
  rintro e w1 ⟨rfl, hb⟩
  go_wp2_with fail
  go_ret
  exact ⟨rfl, hb⟩
theorem Sync_nil (w : World) : Calls Tryz.prog 47 #[.pointer none] w fun e w' => e = .returned (vi 3) ∧ Below w.heap.size w w' := by
  go_enter Tryz.func47, Tryz.ntmps47
  go_wp2_with fail
  refine (change_nil _).mono ?_
  rintro e w1 ⟨rfl, hb⟩
  go_wp2_with fail
  go_ret
  exact ⟨rfl, hb⟩

abbrev op14 : OpE := ⟨⟨14, [], [], 0, 0, 0, []⟩, none, 0⟩
abbrev nilAns : Value := .agg #[vi 3, vi 0, .slice none 0 0]

theorem HDo_nil (w : World) : Calls Tryz.prog 19 #[.pointer none, op14.v] w fun e w' => e = .returned nilAns ∧ Below w.heap.size w w' := by
  go_enter Tryz.func19, Tryz.ntmps19
  go_wp2_with fail
  exact bodyPost_ret (v := nilAns) (by simp [results, Tryz.results19, go_sem]) rfl ⟨rfl, ((Below.refl _ _).alloc (Nat.le_refl _) _).alloc (by simp) _⟩

theorem Again_nil (w : World) : Calls Tryz.prog 21 #[.pointer none, .pointer none] w fun e w' => e = .returned (.tuple #[vi 0, vi 3]) ∧ Below w.heap.size w w' := by
  go_enter Tryz.func21, Tryz.ntmps21
  go_wp2_with fail
  go_ret2
  exact ⟨rfl, Below.refl _ _⟩

theorem do_result {w' : World} {g : Nat} {v0 v1 v2 : Value} (hb : Blk w' g 51 #[v0, v1, v2]) (tmps : Array Value) (h2 : tmps[4]? = some (.pointer (some ⟨g, 0, none⟩))) :
    (results Tryz.f20 tmps).run Tryz.prog w' = .ok (.agg #[v0, v1, v2]) w' := by
  have g0 : w'.cell? ⟨g, 0, none⟩ = some v0 := hb.cell 0
  have g1 : w'.cell? ⟨g, 1, none⟩ = some v1 := hb.cell 1
  have g2 : w'.cell? ⟨g, 2, none⟩ = some v2 := hb.cell 2
  simp only [results, Tryz.results20]
  simp [go_sem, h2, g0, g1, g2]

set_option maxRecDepth 100000 in
set_option maxHeartbeats 2000000 in
theorem Do_nil (w : World) : Calls Tryz.prog 20 #[.pointer none, op14.v] w fun e w' => e = .returned nilAns ∧ Below w.heap.size w w' := by
  go_enter Tryz.func20, Tryz.ntmps20
  go_wp2_with fail
  refine (right_any op14 _).mono ?_
  rintro e w1 ⟨rfl, hb1⟩
  rw [show HP.rightB op14.o = true from rfl]
  have kb := ((Blk.new w 53 op14.cs).alloc (.cells #[vi 0, vi 0, .slice none 0 0] 51)).old hb1
  have ka0 : Blk ((w.alloc (.cells op14.cs 53)).alloc (.cells #[vi 0, vi 0, .slice none 0 0] 51)) (w.heap.size + 1) 51 #[vi 0, vi 0, .slice none 0 0] := by
    rw [← size_alloc w (.cells op14.cs 53)]
    exact Blk.new _ _ _
  have ka := ka0.old hb1
  have c0 : w1.cell? ⟨w.heap.size, 0, none⟩ = some (vi 14) := kb.cell 0
  have hb := (((Below.refl w.heap.size w).alloc (Nat.le_refl _) (.cells op14.cs 53)).alloc (by simp) (.cells #[vi 0, vi 0, .slice none 0 0] 51)).trans (hb1.mono (by simp; omega))
  have KA := Lib.hid ka
  have HB := Lib.hid hb
  clear ka0 ka hb hb1 kb
  go_wp2_with fail
  refine (Sync_nil _).mono ?_
  rintro e w2 ⟨rfl, hb2⟩
  have ka2 := KA.out.old hb2
  have c1 : w2.cell? ⟨w.heap.size + 1, 0, none⟩ = some (vi 0) := ka2.cell 0
  have c2 : w2.cell? ⟨w.heap.size + 1, 1, none⟩ = some (vi 0) := ka2.cell 1
  have c3 : w2.cell? ⟨w.heap.size + 1, 2, none⟩ = some (.slice none 0 0) := ka2.cell 2
  have f1 := ka2.frozen 0
  have f2 := ka2.frozen 1
  have f3 := ka2.frozen 2
  have HB2 := Lib.hid (HB.out.trans (hb2.mono HB.out.size))
  have KA2 := Lib.hid ka2
  clear hb2 c0 ka2
  go_wp2_with fail
  refine bodyPost_ret (v := nilAns) (do_result (((KA2.out.set_ 0 (vi 3)).set_ 1 (vi 0)).set_ 2 (.slice none 0 0)) _ rfl) rfl ⟨rfl, ?_⟩
  exact ((HB2.out.setCell (by dsimp only; omega) _).setCell (by dsimp only; omega) _).setCell (by dsimp only; omega) _

theorem body_nil : HP.writeL [] = (HP.bodyL [] ++ HP.le 4 (HP.sum (HP.bodyL [])), 0) := rfl

set_option maxRecDepth 100000 in
set_option maxHeartbeats 4000000 in
theorem known_any (w : World) : Calls Tryz.prog 8 #[] w fun e w' => e = .returned (.bool true) ∧ Below w.heap.size w w' := by
  go_enter Tryz.func8, Tryz.ntmps8
  go_wp2_with fail
  refine (Write_any none [] 0 _ ⟨.inl rfl, by simp, by simp, by simp⟩ (by simp) (by decide)).mono ?_
  rintro e w1 ⟨v1, rfl, ho1, hb1⟩
  rw [show opsOf [] = [] from rfl, body_nil] at ho1
  rw [show (HP.writeL (opsOf [])).2 = 0 from rfl]
  have hsm : ∀ x ∈ HP.bodyL [] ++ HP.le 4 (HP.sum (HP.bodyL [])), x < 256 := by
    intro x hx
    rcases List.mem_append.1 hx with h | h
    · exact HP.body_small (by simp) x h
    · exact HP.le_small _ _ x h
  obtain ⟨a1, c1, rfl, hr1, hc1, hm1⟩ := ho1.trow hsm
  have hl12 : (HP.bodyL [] ++ HP.le 4 (HP.sum (HP.bodyL []))).length = 12 := by simp [HP.bodyL, HP.le_length]
  rw [hl12] at hc1 ⊢
  have HR1 := Lib.hid (hr1.row.take 8)
  have ht8 : (HP.bodyL [] ++ HP.le 4 (HP.sum (HP.bodyL []))).take 8 = [72, 73, 83, 84, 0, 0, 0, 0] := by
    rw [List.take_append_of_le_length (by simp [HP.bodyL, HP.le_length])]
    rfl
  rw [ht8] at HR1
  have hm1' : c1 ≤ 9223372036854775807 := by unfold maxLen at hm1; omega
  have HB1 := Lib.hid hb1
  clear ho1 hb1 hsm hr1 hl12 ht8 hm1
  go_wp2_with fail
  refine (Read_short (some ⟨w1.heap.size, 0, none⟩) [1] 1 _ (by simp)).mono ?_
  rintro e w2 ⟨es2, s2, c2, rfl, -, -, hb2⟩
  rw [show (HP.readL [1]).2 = 21 from rfl]
  have HB2 := Lib.hid ((HB1.out.alloc HB1.out.size (.cells #[vb 1] 5)).trans (hb2.mono (by have := HB1.out.size; simp; omega)))
  have HR2 := Lib.hid ((HR1.out.below ((Below.refl _ _).alloc (Nat.le_refl _) (.cells #[vb 1] 5))).below hb2)
  clear hb2 HR1 HB1
  go_wp2_with fail
  refine (HDo_nil _).mono ?_
  rintro e w3 ⟨rfl, hb3⟩
  have HB3 := Lib.hid (HB2.out.trans (hb3.mono HB2.out.size))
  have HR3 := Lib.hid (HR2.out.below hb3)
  clear hb3 HR2 HB2
  go_wp2_with fail
  have k6 : Blk (w3.alloc (.cells #[vi 3, vi 0, .slice none 0 0] 51)) w3.heap.size 51 #[vi 3, vi 0, .slice none 0 0] := Blk.new _ _ _
  have K6 := Lib.hid k6
  have HB4 := Lib.hid (HB3.out.alloc HB3.out.size (.cells #[vi 3, vi 0, .slice none 0 0] 51))
  have HR4 := Lib.hid (HR3.out.below ((Below.refl _ _).alloc (Nat.le_refl _) (.cells #[vi 3, vi 0, .slice none 0 0] 51)))
  clear k6 HB3 HR3
  refine (Do_nil _).mono ?_
  rintro e w4 ⟨rfl, hb4⟩
  have K7 := Lib.hid (K6.out.old hb4)
  have HB5 := Lib.hid (HB4.out.trans (hb4.mono HB4.out.size))
  have HR5 := Lib.hid (HR4.out.below hb4)
  clear hb4 HB4 HR4 K6
  go_wp2_with fail
  refine (Again_nil _).mono ?_
  rintro e w5 ⟨rfl, hb5⟩
  have al := (Below.refl w4.heap.size w4).alloc (Nat.le_refl _) (.cells #[vi 3, vi 0, .slice none 0 0] 51)
  have K8 := Lib.hid ((K7.out.old al).old hb5)
  have K9 := Lib.hid ((Blk.new w4 51 #[vi 3, vi 0, .slice none 0 0]).old hb5)
  have HB6 := Lib.hid ((HB5.out.trans (al.mono HB5.out.size)).trans (hb5.mono (by have := HB5.out.size; simp; omega)))
  have HR6 := Lib.hid ((HR5.out.below al).below hb5)
  have c6 : w5.cell? ⟨w3.heap.size, 0, none⟩ = some (vi 3) := K8.out.cell 0
  have c7 : w5.cell? ⟨w4.heap.size, 0, none⟩ = some (vi 3) := K9.out.cell 0
  clear hb5 al HB5 HR5 K7
  go_wp2_with fail
  have al := (Below.refl w5.heap.size w5).alloc (Nat.le_refl _) (.cells #[vb 72, vb 73, vb 83, vb 84, vb 0, vb 0, vb 0, vb 0] 5)
  have k8 := al.cell (p := ⟨w3.heap.size, 0, none⟩) (cell_lt c6)
  have k9 := al.cell (p := ⟨w4.heap.size, 0, none⟩) (cell_lt c7)
  rw [c6] at k8
  rw [c7] at k9
  have HB7 := Lib.hid (HB6.out.trans (al.mono HB6.out.size))
  refine (SameBytes_any a1 (some ⟨w5.heap.size, 0, none⟩) [72, 73, 83, 84, 0, 0, 0, 0] c1 8 _ (HR6.out.below al) (BRow.of_blk (Blk.new w5 5 _) rfl (by simp))).mono ?_
  rintro e w7 ⟨rfl, rfl⟩
  clear al
  go_wp2_with fail
  go_ret
  exact ⟨rfl, HB7.out⟩

end Go.Proofs.YtneoeekhinlhgaaGreat
