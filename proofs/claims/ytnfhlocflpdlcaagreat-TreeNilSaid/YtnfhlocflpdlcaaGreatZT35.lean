/-
  Lemmas for a law's proof, put together from several texts: each part says what it shows, and its conditions.
-/
import Derived.Test.YtnfhlocflpdlcaaGreatZT09
import Derived.Test.YtnfhlocflpdlcaaGreatZT34
/-
  A file in its box: one of its first six pages, told and set. Conditions: a pool told by PQ.
-/
namespace Go.Proofs.YtnfhlocflpdlcaaGreat.nd
open Go.RowKit Go.Proofs.YtnfhlocflpdlcaaGreat.mgr Go.Proofs.YtnfhlocflpdlcaaGreat.ft Go.Proofs.YtnfhlocflpdlcaaGreat.pl Go.Proofs.YtnfhlocflpdlcaaGreat.ino
abbrev fileC (q : Nat) : PI.Ino → Array Value
  | ⟨kd, ln, sz, [d0, d1, d2, d3, d4, d5], sg, db⟩ => #[ptr q, vi kd, vi ln, vi sz, vi d0, vi d1, vi d2, vi d3, vi d4, vi d5, vi sg, vi db]
  | _ => #[]
section
variable {base : Nat} {w w' : World} {q g : Nat} {p : Pl} {K : Nat → Prop}
theorem file_d {i : PI.Ino} (hi : i.direct.length = 6) (h : Blk w g 147 (fileC q i)) {n : Nat} (hn : n < 6) : w.cell? ⟨g, 4 + n, none⟩ = some (vi (i.direct.getD n 0)) := by
  obtain ⟨kd, ln, sz, dl, sg, db⟩ := i
  obtain ⟨d0, d1, d2, d3, d4, d5, rfl⟩ := six (l := dl) hi
  rw [h.cell]
  rcases (by omega : n = 0 ∨ n = 1 ∨ n = 2 ∨ n = 3 ∨ n = 4 ∨ n = 5) with rfl | rfl | rfl | rfl | rfl | rfl <;> rfl
theorem file_q {i : PI.Ino} (hi : i.direct.length = 6) (h : Blk w g 147 (fileC q i)) : w.cell? ⟨g, 0, none⟩ = some (ptr q) := by
  obtain ⟨kd, ln, sz, dl, sg, db⟩ := i
  obtain ⟨d0, d1, d2, d3, d4, d5, rfl⟩ := six (l := dl) hi
  rw [h.cell]
  rfl
abbrev _root_.Go.Proofs.YtnfhlocflpdlcaaGreat.PI.Ino.setD (i : PI.Ino) (n x : Nat) : PI.Ino := { i with direct := i.direct.set n x }
theorem file_set {i : PI.Ino} (hi : i.direct.length = 6) (h : Blk w g 147 (fileC q i)) {n : Nat} (hn : n < 6) (x : Nat) : Blk (w.setCell ⟨g, 4 + n, none⟩ (vi x)) g 147 (fileC q (i.setD n x)) := by
  obtain ⟨kd, ln, sz, dl, sg, db⟩ := i
  obtain ⟨d0, d1, d2, d3, d4, d5, rfl⟩ := six (l := dl) hi
  have := h.set_ (4 + n) (vi x)
  rcases (by omega : n = 0 ∨ n = 1 ∨ n = 2 ∨ n = 3 ∨ n = 4 ∨ n = 5) with rfl | rfl | rfl | rfl | rfl | rfl <;> exact this
set_option maxRecDepth 100000 in
set_option maxHeartbeats 2000000 in
theorem at_direct (h : PQ base w q K p) (i : PI.Ino) (hi : i.direct.length = 6) (hf : Blk w g 147 (fileC q i)) (n : Nat) (hn : n < 6) :
    Calls Tryz.prog 84 #[ptr g, vi n] w fun e w' => e = .returned (vi (i.direct.getD n 0)) ∧ Below w.heap.size w w' := by
  have e0 := file_q hi hf
  have HF := Lib.hid hf
  have HI := Lib.hid hi
  have HS := Lib.hid (Size_any h)
  have HT := Lib.hid (To_any (w := w) n (by omega))
  rw [show PI.way n = (0, n, 0) by unfold PI.way; rw [if_pos hn]] at HT
  dsimp only at HT
  clear h hf hi
  generalize hC : fileC q i = C at *
  generalize hd : i.direct.getD n 0 = d at *
  have HD := Lib.hid hd
  have HC := Lib.hid hC
  clear hC hd
  go_enter Tryz.func84, Tryz.ntmps84
  go_wp2_with fail
  refine HS.out.mono ?_
  rintro e w' ⟨rfl, rfl⟩
  go_wp2_with fail
  refine HT.out.mono ?_
  rintro e w2 ⟨rfl, hb2⟩
  go_upto_region 2 with fail
  have HB3 : Hid (Below w'.heap.size w' (w2.alloc (.cells #[vi 0, vi n, vi 0] 210))) := Lib.hid (hb2.alloc hb2.size _)
  have HG3 := Lib.hid (Blk.new w2 210 #[vi 0, vi n, vi 0])
  change Code.wp _ _ _ _ (w2.alloc (.cells #[vi 0, vi n, vi 0] 210))
  generalize w2.alloc (.cells #[vi 0, vi n, vi 0] 210) = w3 at *
  generalize w2.heap.size = g2 at *
  have x0 : w3.cell? ⟨g2, 0, none⟩ = some (vi 0) := HG3.out.cell 0
  have x1 : w3.cell? ⟨g2, 1, none⟩ = some (vi n) := HG3.out.cell 1
  have HF3 := Lib.hid (HF.out.old HB3.out)
  have y0 : w3.cell? ⟨g, 4 + n, none⟩ = some (vi d) := by rw [← HD.out]; exact file_d HI.out (by rw [HC.out]; exact HF3.out) hn
  have n6 : (n : Int) < 6 := by omega
  clear hb2 HS HT HF e0
  go_wp2_with fail
  clear HF3 HG3 x0
  have n0 : (0 : Int) ≤ (n : Int) := by omega
  have x1 := Sub.cell x1
  have y0 := Sub.cell y0
  refine wp_region_sub (by kernel_rfl) (by kernel_rfl) ?_
  repeat (go_big_quiet_step (fail))
  refine wpQuiet_nil ?_
  rintro _ ⟨nq, rfl⟩
  have HB := Lib.hid (HB3.out.trans (nq.below.mono HB3.out.size))
  go_wp2_with fail
  go_ret
  exact ⟨rfl, HB.out⟩
set_option maxRecDepth 100000 in
set_option maxHeartbeats 2000000 in
theorem set_direct (h : PQ base w q K p) (i : PI.Ino) (hi : i.direct.length = 6) (hf : Blk w g 147 (fileC q i)) (n : Nat) (hn : n < 6) (x : Nat) :
    Calls Tryz.prog 85 #[ptr g, vi n, vi x] w fun e w' => e = .returned (.tuple #[]) ∧ Blk w' g 147 (fileC q (i.setD n x)) ∧ Chg (fun k => k = g) w w' := by
  have e0 := file_q hi hf
  have HF := Lib.hid hf
  have HI := Lib.hid hi
  have HS := Lib.hid (Size_any h)
  have HT := Lib.hid (To_any (w := w) n (by omega))
  rw [show PI.way n = (0, n, 0) by unfold PI.way; rw [if_pos hn]] at HT
  dsimp only at HT
  have HST : Hid (∀ W, Blk W g 147 (fileC q i) → Blk (W.setCell ⟨g, 4 + n, none⟩ (vi x)) g 147 (fileC q (i.setD n x))) := Lib.hid (fun W h => file_set hi h hn x)
  clear h hf hi
  generalize fileC q (i.setD n x) = C2 at *
  generalize hC : fileC q i = C at *
  have HC := Lib.hid hC
  clear hC
  go_enter Tryz.func85, Tryz.ntmps85
  go_wp2_with fail
  refine HS.out.mono ?_
  rintro e w' ⟨rfl, rfl⟩
  go_wp2_with fail
  refine HT.out.mono ?_
  rintro e w2 ⟨rfl, hb2⟩
  go_upto_region 1 with fail
  have HB3 : Hid (Below w'.heap.size w' (w2.alloc (.cells #[vi 0, vi n, vi 0] 210))) := Lib.hid (hb2.alloc hb2.size _)
  have HG3 := Lib.hid (Blk.new w2 210 #[vi 0, vi n, vi 0])
  change Code.wp _ _ _ _ (w2.alloc (.cells #[vi 0, vi n, vi 0] 210))
  generalize w2.alloc (.cells #[vi 0, vi n, vi 0] 210) = w3 at *
  generalize w2.heap.size = g2 at *
  have x0 : w3.cell? ⟨g2, 0, none⟩ = some (vi 0) := HG3.out.cell 0
  have x1 : w3.cell? ⟨g2, 1, none⟩ = some (vi n) := HG3.out.cell 1
  have HF3 := Lib.hid (HF.out.old HB3.out)
  have y0 : w3.cell? ⟨g, 4 + n, none⟩ = some (vi (i.direct.getD n 0)) := file_d HI.out (by rw [HC.out]; exact HF3.out) hn
  have y1 : w3.frozen? ⟨g, 4 + n, none⟩ = false := HF3.out.frozen _
  generalize i.direct.getD n 0 = d at *
  have n6 : (n : Int) < 6 := by omega
  have n0 : (0 : Int) ≤ (n : Int) := by omega
  clear hb2 HS HT HF e0
  go_upto_region 3 with fail
  clear HG3 x0
  go_region
  go_wp2_with fail
  have HC4 := Lib.hid (((Chg.of_below HB3.out).setCell (F := fun k => k = g) (p := ⟨g, 4 + n, none⟩) (.inl rfl) (vi x)).drew)
  have HF4 := Lib.hid (blk_drew (HST.out w3 HF3.out))
  go_end0
  exact ⟨rfl, HF4.out, HC4.out⟩
end
end Go.Proofs.YtnfhlocflpdlcaaGreat.nd

/-
  A file of which no page is there has no pages. Conditions: such a file; a pool told by PQ.
-/
namespace Go.Proofs.YtnfhlocflpdlcaaGreat.nd
open Go.RowKit Go.Proofs.YtnfhlocflpdlcaaGreat.mgr Go.Proofs.YtnfhlocflpdlcaaGreat.ft Go.Proofs.YtnfhlocflpdlcaaGreat.pl Go.Proofs.YtnfhlocflpdlcaaGreat.ino
section
variable {base : Nat} {w w' : World} {q g : Nat} {p : Pl} {K : Nat → Prop}
theorem five (w : World) (a b c d e : Obj) : Below w.heap.size w (((((w.alloc a).alloc b).alloc c).alloc d).alloc e) ∧ ((((w.alloc a).alloc b).alloc c).alloc d).heap.size = w.heap.size + 1 + 1 + 1 + 1 := by
  refine ⟨(((((Below.refl _ _).alloc (Nat.le_refl _) _).alloc ?_ _).alloc ?_ _).alloc ?_ _).alloc ?_ _, ?_⟩ <;> simp <;> omega
theorem ptr_result {w' : World} {g : Nat} {v0 : Value} (hb : Blk w' g 4 #[v0]) (tmps : Array Value) (h2 : tmps[10]? = some (.pointer (some ⟨g, 0, none⟩))) :
    (results Tryz.f172 tmps).run Tryz.prog w' = .ok v0 w' := by
  have g0 : w'.cell? ⟨g, 0, none⟩ = some v0 := hb.cell 0
  simp only [results, Tryz.results172]
  simp [go_sem, h2, g0]
set_option maxRecDepth 100000 in
theorem pointers_zero (g : Nat) (n l : Int) (y : Nat) : Calls Tryz.prog 172 #[ptr g, vi 0, vi n, vi l, .func (.func 133) #[] #[ptr y]] w fun e w' => e = .returned (.bool true) ∧ Below w.heap.size w w' := by
  go_enter Tryz.func172, Tryz.ntmps172
  go_upto_region 1 with fail
  have HB1 : Hid (Below w.heap.size w (((((w.alloc (.cells #[ptr g] 145)).alloc (.cells #[vi n] 3)).alloc (.cells #[vi l] 3)).alloc (.cells #[.func (.func 133) #[] #[ptr y]] 208)).alloc (.cells #[.bool false] 4))) :=
    Lib.hid (five w _ _ _ _ _).1
  have HR1 := Lib.hid (Blk.new ((((w.alloc (.cells #[ptr g] 145)).alloc (.cells #[vi n] 3)).alloc (.cells #[vi l] 3)).alloc (.cells #[.func (.func 133) #[] #[ptr y]] 208)) 4 #[.bool false])
  have HZ1 : Hid (w.heap.size ≤ w.heap.size + 1 + 1 + 1 + 1) := Lib.hid (by omega)
  rw [show ((((w.alloc (.cells #[ptr g] 145)).alloc (.cells #[vi n] 3)).alloc (.cells #[vi l] 3)).alloc (.cells #[.func (.func 133) #[] #[ptr y]] 208)).heap.size = w.heap.size + 1 + 1 + 1 + 1 from (five w _ _ _ _ (.cells #[] 0)).2] at HR1
  change Code.wp _ _ _ _ (((((w.alloc (.cells #[ptr g] 145)).alloc (.cells #[vi n] 3)).alloc (.cells #[vi l] 3)).alloc (.cells #[.func (.func 133) #[] #[ptr y]] 208)).alloc (.cells #[.bool false] 4))
  generalize (((((w.alloc (.cells #[ptr g] 145)).alloc (.cells #[vi n] 3)).alloc (.cells #[vi l] 3)).alloc (.cells #[.func (.func 133) #[] #[ptr y]] 208)).alloc (.cells #[.bool false] 4)) = w1 at *
  generalize hr : w.heap.size + 1 + 1 + 1 + 1 = r at *
  have r0 : w1.cell? ⟨r, 0, none⟩ = some (.bool false) := HR1.out.cell 0
  have f0 := HR1.out.frozen 0
  go_wp2_with fail
  have hb : Blk (w1.setCell ⟨r, 0, none⟩ (.bool true)) r 4 #[.bool true] := HR1.out.set_ 0 (.bool true)
  exact bodyPost_ret (ptr_result hb _ rfl) rfl ⟨rfl, HB1.out.setCell (p := ⟨r, 0, none⟩) HZ1.out _⟩
theorem zero_index (k : Nat) (hk : k < 6) (w : World) : (Instr.index 48 (.agg #[vi 0, vi 0, vi 0, vi 0, vi 0, vi 0]) (vi k)).run Tryz.prog w = .ok (vi 0) w := by
  obtain ⟨x0, x1, x2, x3, x4, x5⟩ := six_index 0 0 0 0 0 0 w
  rcases (by omega : k = 0 ∨ k = 1 ∨ k = 2 ∨ k = 3 ∨ k = 4 ∨ k = 5) with rfl | rfl | rfl | rfl | rfl | rfl
  · exact x0
  · exact x1
  · exact x2
  · exact x3
  · exact x4
  · exact x5
set_option maxRecDepth 100000 in
set_option maxHeartbeats 2000000 in
theorem all_none (h : PQ base w q K p) (kd ln sz : Nat) (hf : Blk w g 147 (fileC q ⟨kd, ln, sz, [0, 0, 0, 0, 0, 0], 0, 0⟩)) (y : Nat) :
    Calls Tryz.prog 132 #[ptr g, .func (.func 133) #[] #[ptr y]] w fun e w' => e = .returned (.tuple #[]) ∧ Below w.heap.size w w' := by
  have HF := Lib.hid hf
  have H := Lib.hid h
  have e4 : w.cell? ⟨g, 4, none⟩ = some (vi 0) := hf.cell 4
  have e5 : w.cell? ⟨g, 5, none⟩ = some (vi 0) := hf.cell 5
  have e6 : w.cell? ⟨g, 6, none⟩ = some (vi 0) := hf.cell 6
  have e7 : w.cell? ⟨g, 7, none⟩ = some (vi 0) := hf.cell 7
  have e8 : w.cell? ⟨g, 8, none⟩ = some (vi 0) := hf.cell 8
  have e9 : w.cell? ⟨g, 9, none⟩ = some (vi 0) := hf.cell 9
  have HZ : Hid (∀ (k : Nat), k < 6 → ∀ w : World, (Instr.index 48 (.agg #[vi 0, vi 0, vi 0, vi 0, vi 0, vi 0]) (vi k)).run Tryz.prog w = .ok (vi 0) w) := Lib.hid zero_index
  clear h hf
  go_enter Tryz.func132, Tryz.ntmps132
  go_wp2_with fail
  clear e4 e5 e6 e7 e8 e9
  go_loopw [12] (fun i wr => ∃ k : Nat, k ≤ 6 ∧ i = vi k ∧ Hid (Below w.heap.size w wr)) (fun i _ => 6 - (intOf i).toNat)
  case atStart => exact ⟨0, by decide, rfl, Lib.hid (Below.refl _ _)⟩
  case round =>
    obtain ⟨k, hk6, rfl, hb⟩ := hrel
    by_cases h6 : k < 6
    · have hz := HZ.out k h6 wr
      have n6 : (k : Int) < 6 := by omega
      go_wp2_with fail
      refine (pointers_zero g k 0 y).mono ?_
      rintro e w2 ⟨rfl, hb2⟩
      have HB2 := Lib.hid (hb.out.trans (hb2.mono hb.out.size))
      clear hb2 hb
      go_wp2_with fail
      go_roundw
      case rel => exact ⟨k + 1, by omega, by go_num, HB2⟩
      case measure => simp [intOf]; omega
    · obtain rfl : k = 6 := by omega
      have HB := hb
      have HF1 := Lib.hid (HF.out.old hb.out)
      have H1 := Lib.hid (H.out.old hb.out)
      have e0 : wr.cell? ⟨g, 0, none⟩ = some (ptr q) := HF1.out.cell 0
      have e10 : wr.cell? ⟨g, 10, none⟩ = some (vi 0) := HF1.out.cell 10
      clear hb
      go_wp2_with fail
      refine (Size_any H1.out).mono ?_
      rintro e w2 ⟨rfl, rfl⟩
      go_wp2_with fail
      refine (pointers_zero g 6 1 y).mono ?_
      rintro e w3 ⟨rfl, hb3⟩
      have HF3 := Lib.hid (HF1.out.old hb3)
      have HB3 := Lib.hid (HB.out.trans (hb3.mono HB.out.size))
      have e11 : w3.cell? ⟨g, 11, none⟩ = some (vi 0) := HF3.out.cell 11
      clear hb3 HF1 H1 HB e0 e10
      go_wp2_with fail
      refine (pointers_zero g 38 2 y).mono ?_
      rintro e w4 ⟨rfl, hb4⟩
      have HB4 := Lib.hid (HB3.out.trans (hb4.mono HB3.out.size))
      clear hb4 HB3 HF3 e11
      go_wp2_with fail
      go_end0
      exact ⟨rfl, HB4.out⟩
abbrev free0 (kd ln sz : Nat) : PI.Ino := ⟨kd, ln, sz, [0, 0, 0, 0, 0, 0], 0, 0⟩
set_option maxRecDepth 100000 in
set_option maxHeartbeats 2000000 in
theorem Pages_none (h : PQ base w q K p) (kd ln sz : Nat) :
    Calls Tryz.prog 81 #[ptr q, inoV (free0 kd ln sz)] w fun e w' => e = .returned (.slice none 0 0) ∧ Below w.heap.size w w' := by
  have H := Lib.hid h
  clear h
  simp only [inoV, inoC]
  go_enter Tryz.func81, Tryz.ntmps81
  go_upto_region 1 with fail
  have HB1 : Hid (Below w.heap.size w (w.alloc (.cells #[vi kd, vi ln, vi sz, vi 0, vi 0, vi 0, vi 0, vi 0, vi 0, vi 0, vi 0] 50))) := Lib.hid ((Below.refl _ _).alloc (Nat.le_refl _) _)
  have HX1 := Lib.hid (Blk.new w 50 #[vi kd, vi ln, vi sz, vi 0, vi 0, vi 0, vi 0, vi 0, vi 0, vi 0, vi 0])
  obtain ⟨x, hx⟩ : ∃ x, x = w.heap.size := ⟨_, rfl⟩
  rw [← hx] at HX1 ⊢
  clear hx
  change Code.wp _ _ _ _ (w.alloc (.cells #[vi kd, vi ln, vi sz, vi 0, vi 0, vi 0, vi 0, vi 0, vi 0, vi 0, vi 0] 50))
  generalize w.alloc (.cells #[vi kd, vi ln, vi sz, vi 0, vi 0, vi 0, vi 0, vi 0, vi 0, vi 0, vi 0] 50) = w1 at *
  go_upto_region 4 with fail
  have HB2 : Hid (Below w.heap.size w (w1.alloc (.cells #[.slice none 0 0] 34))) := Lib.hid (HB1.out.alloc HB1.out.size _)
  have HX2 := Lib.hid (HX1.out.alloc (.cells #[.slice none 0 0] 34))
  have HY2 := Lib.hid (Blk.new w1 34 #[.slice none 0 0])
  change Code.wp _ _ _ _ (w1.alloc (.cells #[.slice none 0 0] 34))
  generalize w1.alloc (.cells #[.slice none 0 0] 34) = w2 at *
  generalize w1.heap.size = y at *
  have x0 : w2.cell? ⟨x, 0, none⟩ = some (vi kd) := HX2.out.cell 0
  have x1 : w2.cell? ⟨x, 1, none⟩ = some (vi ln) := HX2.out.cell 1
  have x2 : w2.cell? ⟨x, 2, none⟩ = some (vi sz) := HX2.out.cell 2
  have x3 : w2.cell? ⟨x, 3, none⟩ = some (vi 0) := HX2.out.cell 3
  have x4 : w2.cell? ⟨x, 4, none⟩ = some (vi 0) := HX2.out.cell 4
  have x5 : w2.cell? ⟨x, 5, none⟩ = some (vi 0) := HX2.out.cell 5
  have x6 : w2.cell? ⟨x, 6, none⟩ = some (vi 0) := HX2.out.cell 6
  have x7 : w2.cell? ⟨x, 7, none⟩ = some (vi 0) := HX2.out.cell 7
  have x8 : w2.cell? ⟨x, 8, none⟩ = some (vi 0) := HX2.out.cell 8
  have x9 : w2.cell? ⟨x, 9, none⟩ = some (vi 0) := HX2.out.cell 9
  have x10 : w2.cell? ⟨x, 10, none⟩ = some (vi 0) := HX2.out.cell 10
  have HB3 : Hid (Below w.heap.size w (w2.alloc (.cells #[ptr q, vi kd, vi ln, vi sz, vi 0, vi 0, vi 0, vi 0, vi 0, vi 0, vi 0, vi 0] 147))) := Lib.hid (HB2.out.alloc HB2.out.size _)
  have HY3 := Lib.hid (HY2.out.alloc (.cells #[ptr q, vi kd, vi ln, vi sz, vi 0, vi 0, vi 0, vi 0, vi 0, vi 0, vi 0, vi 0] 147))
  have HAL : Hid (Calls Tryz.prog 132 #[ptr w2.heap.size, .func (.func 133) #[] #[ptr y]] (w2.alloc (.cells #[ptr q, vi kd, vi ln, vi sz, vi 0, vi 0, vi 0, vi 0, vi 0, vi 0, vi 0, vi 0] 147)) fun e w' => e = .returned (.tuple #[]) ∧ Below (w2.alloc (.cells #[ptr q, vi kd, vi ln, vi sz, vi 0, vi 0, vi 0, vi 0, vi 0, vi 0, vi 0, vi 0] 147)).heap.size (w2.alloc (.cells #[ptr q, vi kd, vi ln, vi sz, vi 0, vi 0, vi 0, vi 0, vi 0, vi 0, vi 0, vi 0] 147)) w') :=
    Lib.hid (all_none (H.out.old HB3.out) kd ln sz (Blk.new w2 _ _) y)
  clear HX1 HX2 HY2 HB1 HB2
  go_wp2_with fail
  refine HAL.out.mono ?_
  rintro e w4 ⟨rfl, hb4⟩
  have HB4 := Lib.hid (HB3.out.trans (hb4.mono HB3.out.size))
  have HY4 := Lib.hid (HY3.out.old hb4)
  have y0 : w4.cell? ⟨y, 0, none⟩ = some (.slice none 0 0) := HY4.out.cell 0
  clear hb4 HAL HB3 HY3 x0 x1 x2 x3 x4 x5 x6 x7 x8 x9 x10
  go_wp2_with fail
  go_ret
  exact ⟨rfl, HB4.out⟩
end
end Go.Proofs.YtnfhlocflpdlcaaGreat.nd

/-
  How many more pages a file without pages takes with its first one. No conditions.
-/
namespace Go.Proofs.YtnfhlocflpdlcaaGreat.nd
open Go.RowKit Go.Proofs.YtnfhlocflpdlcaaGreat.mgr Go.Proofs.YtnfhlocflpdlcaaGreat.ft Go.Proofs.YtnfhlocflpdlcaaGreat.pl Go.Proofs.YtnfhlocflpdlcaaGreat.ino
section
variable {w w' : World}
theorem nd_int_info : (Tryz.prog.info? 3).map (fun i => (i.zero, i.size, i.bytes)) = some (some (vi 0), 1, 8) := by kernel_rfl
theorem ows_old {base size n : Nat} {t : TypeId} {v : Value} {xs : List Value} (h : w.ownsRow base t size v n xs) (hb : Below w.heap.size w w') : w'.ownsRow base t size v n xs :=
  World.ownsRow.kept h (row := none) ⟨hb.os, hb.tape, hb.output, hb.size, fun k hk _ => hb.block k hk⟩ (by cases hv : v.ownBlock <;> simp)
theorem append_one {w : World} {b0 : Nat} {v : Value} {l : List Int} (hown : w.ownsRow b0 3 1 v l.length (l.map vi)) (x : Int) (hn : l.length + 1 ≤ 1000000) (hb : b0 ≤ w.heap.size) :
    ∃ v' w', AppRun 34 34 34 v (.slice (some ⟨w.heap.size, 0, none⟩) 1 1) (w.alloc (.cells #[vi x] 3)) v' w' ∧ w'.ownsRow b0 3 1 v' (l ++ [x]).length ((l ++ [x]).map vi) ∧ (w.alloc (.cells #[vi x] 3)).grownBy w' v.ownBlock := by
  obtain ⟨i0, hi, hz0, hz1, hz2⟩ := info_parts nd_int_info
  have hown' := ows_old hown ((Below.refl _ w).alloc (Nat.le_refl _) (.cells #[vi x] 3))
  obtain ⟨v', w', h1, h2, h3, _, h5⟩ := run_append_own_at (P := Tryz.prog) (w.alloc (.cells #[vi x] 3)) b0 34 34 3 i0 _ 1 8 Tryz.underlying34 hi hz0 hz1 hz2 rfl (by omega) v l.length (l.map vi) hown'
    ⟨w.heap.size, 0, none⟩ 1 1 [vi x] rfl (fun j u hu => by
      have hj : j = 0 := by
        have := (List.getElem?_eq_some_iff.1 hu).1
        simpa using this
      subst hj
      rw [add_plain, Nat.zero_add, (Blk.new w 3 #[vi x]).cell]
      exact hu) (by intro u hu; simp at hu; rw [hu]; rfl)
      (by unfold maxLen; omega) (by omega) (by simp; omega)
  refine ⟨v', w', ⟨h1⟩, ?_, h3⟩
  rw [List.length_append, List.map_append]
  simpa using h2
theorem rises_small (a : Option Addr) (n c : Nat) (hn : n ≤ 1) : Calls Tryz.prog 197 #[.slice a n c] w fun e w' => e = .returned (.bool true) ∧ w' = w := by
  have h1 : ¬ (1 : Int) < (n : Int) := by omega
  go_enter Tryz.func197, Tryz.ntmps197
  go_wp2_with fail
  go_step3
  go_wp2_with fail
  go_step3
  go_wp2_with fail
  go_loopw [3, 4] (fun g i wr => g = .bool true ∧ i = vi 1 ∧ wr = w) (fun _ _ _ => 0)
  case atStart => exact ⟨rfl, rfl, rfl⟩
  case round =>
    obtain ⟨rfl, rfl, rfl⟩ := hrel
    go_wp2_with fail
    rw [Exit.noGoto_ret]
    go_ret
    exact ⟨rfl, rfl⟩
theorem Clone_none : Calls Tryz.prog 198 #[.slice none 0 0] w fun e w' => e = .returned (.slice none 0 0) ∧ w' = w := by
  have hen := Lib.run_eql_slice_nil (P := Tryz.prog) w 34 3 none 0 0 0 0 Tryz.underlying34
  go_enter Tryz.func198, Tryz.ntmps198
  go_wp2_with fail
  go_ret
  exact ⟨rfl, rfl⟩
theorem Compact_small (a : Option Addr) (n c : Nat) (hn : n ≤ 1) : Calls Tryz.prog 200 #[.slice a n c] w fun e w' => e = .returned (.slice a n c) ∧ w' = w := by
  have h1 : (n : Int) < 2 := by omega
  go_enter Tryz.func200, Tryz.ntmps200
  go_wp2_with fail
  go_ret
  exact ⟨rfl, rfl⟩
theorem ins_one (a : Option Addr) (c : Nat) : Calls Tryz.prog 232 #[.slice a 1 c, vi 0, vi 1] w fun e w' => e = .returned (.tuple #[]) ∧ w' = w := by
  go_enter Tryz.func232, Tryz.ntmps232
  go_wp2_with fail
  go_loopw [6] (fun i wr => i = vi 1 ∧ wr = w) (fun _ _ => 0)
  case atStart => exact ⟨rfl, rfl⟩
  case round =>
    obtain ⟨rfl, rfl⟩ := hrel
    go_wp2_with fail
    go_end0
    exact ⟨rfl, rfl⟩
theorem pdq_one (a : Option Addr) (c : Nat) (m : Int) : Calls Tryz.prog 213 #[.slice a 1 c, vi 0, vi 1, vi m] w fun e w' => e = .returned (.tuple #[]) ∧ w' = w := by
  go_enter Tryz.func213, Tryz.ntmps213
  go_wp2_with fail
  go_loopw [1, 2] (fun i j wr => i = vi 0 ∧ j = vi 1 ∧ wr = w) (fun _ _ _ => 0)
  case atStart => exact ⟨rfl, rfl, rfl⟩
  case round =>
    obtain ⟨rfl, rfl, rfl⟩ := hrel
    go_wp2_with fail
    refine (ins_one a c).mono ?_
    rintro e w' ⟨rfl, rfl⟩
    go_wp2_with fail
    exact bodyPost_ret (results_none rfl _ _ _) rfl ⟨rfl, rfl⟩
set_option maxRecDepth 100000 in
theorem Len64_one : Calls Tryz.prog 242 #[.int .u64 1] w fun e w' => e = .returned (vi 1) ∧ w' = w := by
  go_enter Tryz.func242, Tryz.ntmps242
  go_wp2_with fail
  go_ret
  exact ⟨by kernel_rfl, rfl⟩
theorem Len_one : Calls Tryz.prog 214 #[.int .u64 1] w fun e w' => e = .returned (vi 1) ∧ w' = w := by
  go_enter Tryz.func214, Tryz.ntmps214
  go_wp2_with fail
  refine Len64_one.mono ?_
  rintro e w' ⟨rfl, rfl⟩
  go_wp2_with fail
  go_ret
  exact ⟨rfl, rfl⟩
theorem Sort_one (a : Option Addr) (c : Nat) : Calls Tryz.prog 199 #[.slice a 1 c] w fun e w' => e = .returned (.tuple #[]) ∧ w' = w := by
  go_enter Tryz.func199, Tryz.ntmps199
  go_wp2_with fail
  refine Len_one.mono ?_
  rintro e w' ⟨rfl, rfl⟩
  go_wp2_with fail
  refine (pdq_one a c 1).mono ?_
  rintro e w' ⟨rfl, rfl⟩
  go_wp2_with fail
  go_end0
  exact ⟨rfl, rfl⟩
theorem len_made (W : World) (b : Nat) (h : MpAt W b .i64 encI []) : (Builtin.len_ #[266] 3 #[.map (some b)]).run Tryz.prog W = .ok (vi 0) W := h.len Tryz.underlying266 3
set_option maxRecDepth 100000 in
theorem File_nil : Calls Tryz.prog 176 #[vi 64, .slice none 0 0] w fun e w' => e = .returned (.tuple #[vi 0, vi 0]) ∧ Below w.heap.size w w' := by
  have HB : Hid (Below w.heap.size w (w.alloc (.map #[] 0))) := Lib.hid ((Below.refl _ _).alloc (Nat.le_refl _) _)
  have hm := len_made (w.alloc (.map #[] 0)) w.heap.size (MpAt.made w _ _)
  have hmm := @run_makeMap Tryz.prog
  go_enter Tryz.func176, Tryz.ntmps176
  go_wp2_with fail
  refine PerPage_64.mono ?_
  rintro e w' ⟨rfl, rfl⟩
  go_wp2_with fail
  refine (rises_small none 0 0 (by decide)).mono ?_
  rintro e w' ⟨rfl, rfl⟩
  go_wp2_with fail
  go_loopw [22] (fun i wr => i = vi 0 ∧ wr = w'.alloc (.map #[] 0)) (fun _ _ => 0)
  case atStart => exact ⟨rfl, rfl⟩
  case round =>
    obtain ⟨rfl, rfl⟩ := hrel
    go_wp2_with fail
    go_ret2
    exact ⟨rfl, HB.out⟩
set_option maxRecDepth 100000 in
set_option maxHeartbeats 1000000 in
theorem File_one (g c : Nat) (hc : w.cell? ⟨g, 0, none⟩ = some (vi 0)) : Calls Tryz.prog 176 #[vi 64, .slice (some ⟨g, 0, none⟩) 1 c] w fun e w' => e = .returned (.tuple #[vi 1, vi 0]) ∧ Below w.heap.size w w' := by
  have HB : Hid (Below w.heap.size w (w.alloc (.map #[] 0))) := Lib.hid ((Below.refl _ _).alloc (Nat.le_refl _) _)
  have HM : Hid (MpAt (w.alloc (.map #[] 0)) w.heap.size .i64 encI []) := Lib.hid (MpAt.made w _ _)
  have HC := Lib.hid hc
  have hmm := @run_makeMap Tryz.prog
  clear hc
  go_enter Tryz.func176, Tryz.ntmps176
  go_wp2_with fail
  refine PerPage_64.mono ?_
  rintro e w' ⟨rfl, rfl⟩
  go_wp2_with fail
  refine (rises_small _ 1 c (by decide)).mono ?_
  rintro e w' ⟨rfl, rfl⟩
  go_upto_region 4 with fail
  change Code.wp _ _ _ _ (w'.alloc (.map #[] 0))
  generalize w'.alloc (.map #[] 0) = w1 at *
  obtain ⟨b, hb⟩ : ∃ b, b = w'.heap.size := ⟨_, rfl⟩
  rw [← hb] at HM ⊢
  clear hb hmm
  go_wp2_with fail
  go_loopw [22] (fun i wr => ∃ k : Nat, k ≤ 1 ∧ i = vi k ∧ Hid (Below w'.heap.size w' wr ∧ MpAt wr b .i64 encI [])) (fun i _ => 1 - (intOf i).toNat)
  case atStart => exact ⟨0, by decide, rfl, Lib.hid ⟨HB.out, HM.out⟩⟩
  case round =>
    obtain ⟨k, hk, rfl, hr⟩ := hrel
    rcases (by omega : k = 0 ∨ k = 1) with rfl | rfl
    · have hc : wr.cell? ⟨g, 0, none⟩ = some (vi 0) := cell_below HC.out hr.out.1
      go_wp2_with fail
      refine (To_any (w := wr) 0 (by decide)).mono ?_
      rw [show PI.way 0 = (0, 0, 0) from rfl]
      rintro e w2 ⟨rfl, hb2⟩
      go_upto_region 8 with fail
      have HR3 : Hid (Below w'.heap.size w' (w2.alloc (.cells #[vi 0, vi 0, vi 0] 210)) ∧ MpAt (w2.alloc (.cells #[vi 0, vi 0, vi 0] 210)) b .i64 encI []) := Lib.hid ⟨(hr.out.1.trans (hb2.mono hr.out.1.size)).alloc (Nat.le_trans hr.out.1.size hb2.size) _, (hr.out.2.old hb2).alloc _⟩
      have HG3 := Lib.hid (Blk.new w2 210 #[vi 0, vi 0, vi 0])
      change Code.wp _ _ _ _ (w2.alloc (.cells #[vi 0, vi 0, vi 0] 210))
      generalize w2.alloc (.cells #[vi 0, vi 0, vi 0] 210) = w3 at *
      generalize w2.heap.size = g2 at *
      have x0 : w3.cell? ⟨g2, 0, none⟩ = some (vi 0) := HG3.out.cell 0
      clear hb2 hr hc HG3
      go_wp2_with fail
      go_roundw
      case rel => exact ⟨1, by decide, rfl, HR3⟩
      case measure => simp [intOf]
    · have hm := len_made wr b hr.out.2
      have HR := hr
      clear hr
      go_wp2_with fail
      go_ret2
      exact ⟨rfl, HR.out.1⟩
set_option maxRecDepth 100000 in
set_option maxHeartbeats 1000000 in
theorem With_one : Calls Tryz.prog 177 #[.slice none 0 0, vi 0, vi 1] w fun e w' => ∃ g c, e = .returned (.slice (some ⟨g, 0, none⟩) 1 c) ∧ w'.cell? ⟨g, 0, none⟩ = some (vi 0) ∧ Below w.heap.size w w' := by
  obtain ⟨v', w1, hr, ho, hg⟩ := append_one (w := w) (b0 := w.heap.size) (v := .slice none 0 0) (l := []) (World.ownsRow_nil _ _ _ _) 0 (by simp) (Nat.le_refl _)
  have hv : ∃ g c, v' = .slice (some ⟨g, 0, none⟩) 1 c ∧ w1.cell? ⟨g, 0, none⟩ = some (vi 0) := by
    have hc := ho
    rcases ho.2 with ⟨_, h0⟩ | ⟨g, cap, cur, hv, hb, _, hnc, hcm, _⟩
    · simp at h0
    · exact ⟨g, cap, hv, by subst hv; exact World.ownsRow.cellAt hc 0 (by simp)⟩
  obtain ⟨g, c, rfl, hc⟩ := hv
  have HRUN := Lib.hid hr
  have HC := Lib.hid hc
  have HB : Hid (Below w.heap.size w w1) := Lib.hid (((Below.refl _ _).alloc (Nat.le_refl _) _).grown hg (by simp) (fun x hx => by cases hx))
  clear hr ho hg hc
  go_enter Tryz.func177, Tryz.ntmps177
  go_wp2_with fail
  refine Clone_none.mono ?_
  rintro e w' ⟨rfl, rfl⟩
  go_wp2_with fail
  go_loopw [7, 8] (fun l i wr => (l = .slice none 0 0 ∧ i = vi 0 ∧ wr = w') ∨ (l = .slice (some ⟨g, 0, none⟩) 1 c ∧ i = vi 1 ∧ wr = w1)) (fun _ i _ => 1 - (intOf i).toNat)
  case atStart => exact .inl ⟨rfl, by first | trivial | exact ⟨rfl, rfl⟩⟩
  case round =>
    rcases hrel with ⟨rfl, rfl, rfl⟩ | ⟨rfl, rfl, rfl⟩
    · go_wp2_with (at_builtin; refine wpList_append_run rfl (.tmp 23) (.tmp 25) rfl rfl rfl HRUN.out.run ?_)
      go_roundw
      case rel => exact .inr ⟨rfl, by first | rfl | trivial | exact ⟨rfl, rfl⟩ | exact ⟨rfl, trivial⟩⟩
      case measure => simp [intOf]
    · go_wp2_with fail
      refine (Sort_one _ c).mono ?_
      rintro e w2 ⟨rfl, rfl⟩
      go_wp2_with fail
      refine (Compact_small _ 1 c (by decide)).mono ?_
      rintro e w2 ⟨rfl, rfl⟩
      go_wp2_with fail
      go_ret
      exact ⟨g, c, rfl, HC.out, HB.out⟩
theorem More_one : Calls Tryz.prog 137 #[vi 64, .slice none 0 0, vi 0, vi 1] w fun e w' => e = .returned (.tuple #[vi 1, vi 0]) ∧ Below w.heap.size w w' := by
  go_enter Tryz.func137, Tryz.ntmps137
  go_wp2_with fail
  refine File_nil.mono ?_
  rintro e w1 ⟨rfl, hb1⟩
  have HB1 := Lib.hid hb1
  clear hb1
  go_wp2_with fail
  refine With_one.mono ?_
  rintro e w2 ⟨g, c, rfl, hc, hb2⟩
  have HB2 := Lib.hid (HB1.out.trans (hb2.mono HB1.out.size))
  have HF := Lib.hid (File_one g c hc)
  clear hb2 hc HB1
  go_wp2_with fail
  refine HF.out.mono ?_
  rintro e w3 ⟨rfl, hb3⟩
  have HB3 := Lib.hid (HB2.out.trans (hb3.mono HB2.out.size))
  clear hb3 HB2 HF
  go_wp2_with fail
  go_ret2
  exact ⟨rfl, HB3.out⟩
end
end Go.Proofs.YtnfhlocflpdlcaaGreat.nd

