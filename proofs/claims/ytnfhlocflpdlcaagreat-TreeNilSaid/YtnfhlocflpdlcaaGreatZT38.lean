/-
  Lemmas for a law's proof, put together from several texts: each part says what it shows, and its conditions.
-/
import Derived.Test.YtnfhlocflpdlcaaGreatZT37
import Derived.Test.YtnfhlocflpdlcaaGreatZT15
import Derived.Lib.BufferWrite
/-
  A directory's slot. Conditions: one entry, of the name "a" and the inode 2.
-/
namespace Go.Proofs.YtnfhlocflpdlcaaGreat.di
open Go.RowKit Go.Proofs.YtnfhlocflpdlcaaGreat.mgr Go.Proofs.YtnfhlocflpdlcaaGreat.ft Go.Proofs.YtnfhlocflpdlcaaGreat.pl Go.Proofs.YtnfhlocflpdlcaaGreat.ino
abbrev sa : Value := .string ⟨#[97]⟩
/-- The slot of the entry. -/
def sl : List Nat := [2, 0, 1, 97, 0, 0, 0, 0, 0, 0, 0, 0, 0, 0, 0, 0]
section
variable {w w' : World}
set_option maxRecDepth 100000 in
theorem Name_a : Calls Tryz.prog 87 #[sa] w fun e w' => e = .returned (vi 0) ∧ w' = w := by
  go_enter Tryz.func87, Tryz.ntmps87
  go_wp2_with fail
  go_loopw [21] (fun i wr => ∃ k : Nat, k ≤ 1 ∧ i = vi k ∧ wr = w) (fun i _ => 1 - (intOf i).toNat)
  case atStart => exact ⟨0, by decide, rfl, rfl⟩
  case round =>
    obtain ⟨k, hk, rfl, rfl⟩ := hrel
    rcases (by omega : k = 0 ∨ k = 1) with rfl | rfl
    · go_wp2_with fail
      go_roundw
      case rel => exact ⟨1, by decide, rfl, trivial⟩
      case measure => simp [intOf]
    · go_wp2_with fail
      go_ret
      exact ⟨rfl, rfl⟩
theorem inode_2 : Calls Tryz.prog 86 #[vi 2] w fun e w' => e = .returned (.bool true) ∧ w' = w := by
  go_enter Tryz.func86, Tryz.ntmps86
  go_wp2_with fail
  go_ret
  exact ⟨rfl, rfl⟩
theorem slots_any (a : Option Addr) (n c m : Nat) (hn : n ≤ 100000) (hm : n / 16 = m) : Calls Tryz.prog 69 #[.slice a n c] w fun e w' => e = .returned (vi m) ∧ w' = w := by
  go_enter Tryz.func69, Tryz.ntmps69
  go_wp2_with fail
  go_ret
  exact ⟨congrArg (fun x => Ending.returned (vi x)) (by omega), rfl⟩
theorem slot_0 (b o c : Nat) (hc : 16 ≤ c) : Calls Tryz.prog 71 #[.slice (some ⟨b, o, none⟩) 16 c, vi 0] w fun e w' => e = .returned (.slice (some ⟨b, o, none⟩) 16 c) ∧ w' = w := by
  have c0 : ¬ c = 0 := by omega
  go_enter Tryz.func71, Tryz.ntmps71
  go_wp2_with fail
  go_ret
  exact ⟨rfl, rfl⟩
theorem Room_none : Calls Tryz.prog 43 #[.slice none 0 0] w fun e w' => e = .returned (vi 0) ∧ w' = w := by
  go_enter Tryz.func43, Tryz.ntmps43
  go_wp2_with fail
  refine (slots_any none 0 0 0 (by decide) rfl).mono ?_
  rintro e w' ⟨rfl, rfl⟩
  go_wp2_with fail
  go_loopw [6] (fun i wr => i = vi 0 ∧ wr = w') (fun _ _ => 0)
  case atStart => exact ⟨rfl, rfl⟩
  case round =>
    obtain ⟨rfl, rfl⟩ := hrel
    go_wp2_with fail
    refine (slots_any none 0 0 0 (by decide) rfl).mono ?_
    rintro e w' ⟨rfl, rfl⟩
    go_wp2_with fail
    go_ret
    exact ⟨rfl, rfl⟩
theorem empty1_2 : Calls Tryz.prog 140 #[vb 2] w fun e w' => e = .returned (.bool true) ∧ w' = w := by
  go_enter Tryz.func140, Tryz.ntmps140
  go_wp2_with fail
  go_ret
  exact ⟨rfl, rfl⟩
theorem Index_2 (b o n c : Nat) (hn : 0 < n) (hc : w.cell? ⟨b, o, none⟩ = some (vb 2)) : Calls Tryz.prog 178 #[.slice (some ⟨b, o, none⟩) n c, .func (.func 140) #[] #[]] w fun e w' => e = .returned (vi 0) ∧ w' = w := by
  have n0 : (0 : Int) < (n : Int) := by omega
  go_enter Tryz.func178, Tryz.ntmps178
  go_wp2_with fail
  go_loopw [8] (fun i wr => i = vi 0 ∧ wr = w) (fun _ _ => 0)
  case atStart => exact ⟨rfl, rfl⟩
  case round =>
    obtain ⟨rfl, rfl⟩ := hrel
    go_wp2_with fail
    refine empty1_2.mono ?_
    rintro e w' ⟨rfl, rfl⟩
    go_wp2_with fail
    go_ret
    exact ⟨rfl, rfl⟩
theorem Contains_2 (b o n c : Nat) (hn : 0 < n) (hc : w.cell? ⟨b, o, none⟩ = some (vb 2)) : Calls Tryz.prog 139 #[.slice (some ⟨b, o, none⟩) n c, .func (.func 140) #[] #[]] w fun e w' => e = .returned (.bool true) ∧ w' = w := by
  go_enter Tryz.func139, Tryz.ntmps139
  go_wp2_with fail
  refine (Index_2 b o n c hn hc).mono ?_
  rintro e w' ⟨rfl, rfl⟩
  go_wp2_with fail
  go_ret
  exact ⟨rfl, rfl⟩
theorem empty_2 (b o n c : Nat) (hn : 0 < n) (hc : w.cell? ⟨b, o, none⟩ = some (vb 2)) : Calls Tryz.prog 89 #[.slice (some ⟨b, o, none⟩) n c] w fun e w' => e = .returned (.bool false) ∧ w' = w := by
  go_enter Tryz.func89, Tryz.ntmps89
  go_wp2_with fail
  refine (Contains_2 b o n c hn hc).mono ?_
  rintro e w' ⟨rfl, rfl⟩
  go_wp2_with fail
  go_ret
  exact ⟨rfl, rfl⟩
theorem Equal_sl (b o c b' o' c' : Nat) (h : BRow w (some ⟨b, o, none⟩) sl) (h' : BRow w (some ⟨b', o', none⟩) sl) : Calls Tryz.prog 121 #[.slice (some ⟨b, o, none⟩) 16 c, .slice (some ⟨b', o', none⟩) 16 c'] w fun e w' => e = .returned (.bool true) ∧ Below w.heap.size w w' := by
  have HR := Lib.hid h
  have HR' := Lib.hid h'
  clear h h'
  go_enter Tryz.func121, Tryz.ntmps121
  go_wp2_with fail
  go_loopw [13] (fun i wr => ∃ k : Nat, k ≤ 16 ∧ i = vi k ∧ Hid (Below w.heap.size w wr)) (fun i _ => 16 - (intOf i).toNat)
  case atStart => exact ⟨0, by decide, rfl, Lib.hid (Below.refl _ _)⟩
  case round =>
    obtain ⟨k, hk, rfl, hb⟩ := hrel
    by_cases h16 : k < 16
    · obtain ⟨_, _, he, hx, _⟩ := (HR.out.below hb.out).lookup (k := k) (by simpa [sl] using h16)
      cases he
      obtain ⟨_, _, he, hx', _⟩ := (HR'.out.below hb.out).lookup (k := k) (by simpa [sl] using h16)
      cases he
      have n16 : (k : Int) < 16 := by omega
      have n0 : (0 : Int) ≤ (k : Int) := by omega
      have hne : (vb (sl.getD k 0)) = vb (sl.getD k 0) := rfl
      generalize sl.getD k 0 = y at *
      have HB := hb
      clear hb
      go_wp2_with fail
      have hx := Sub.cell hx
      have hx' := Sub.cell hx'
      have hyy : ((y : Int) != (y : Int)) = false := by simp
      refine wp_region_sub (by kernel_rfl) (by kernel_rfl) ?_
      repeat (go_big_quiet_step (fail))
      refine wpQuiet_nil ?_
      rintro _ ⟨nq, rfl⟩
      have HB2 := Lib.hid (HB.out.trans (nq.below.mono HB.out.size))
      clear hx hx' HB
      generalize nq.w = w2 at *
      go_wp2_with fail
      go_roundw
      case rel => exact ⟨k + 1, by omega, by go_num, HB2⟩
      case measure => simp [intOf]; omega
    · obtain rfl : k = 16 := by omega
      have HB := hb
      clear hb
      go_wp2_with fail
      go_ret
      exact ⟨rfl, HB.out⟩
theorem byte_size : (Tryz.prog.info? 5).map (·.size) = some 1 := by kernel_rfl
theorem cells_bv (s : ByteArray) : Lib.byteCells s.data.toList = bv (s.data.toList.map UInt8.toNat) := by
  unfold Lib.byteCells bv
  rw [List.map_map]
  rfl
/-- A string copied into a row of the call's own. -/
theorem copy_str {base g n c : Nat} {l : List Nat} (h : Own w base (.slice (some ⟨g, 0, none⟩) n c) l) (hn : n = l.length) (j : Nat) (s : ByteArray) (hj : j + s.size ≤ n) (cj : Nat) :
    ∃ w', CopyRun 56 9 3 (.slice (some ⟨g, j, none⟩) (n - j) cj) (.string s) w (goInt s.size) w' ∧
      Own w' base (.slice (some ⟨g, 0, none⟩) n c) (l.take j ++ s.data.toList.map UInt8.toNat ++ l.drop (j + s.size)) ∧ w.grownBy w' (some g) := by
  subst hn
  obtain ⟨h1, h2⟩ := h
  rcases h2 with ⟨h2, _⟩ | ⟨g', cap, cur, hv, hb, hg, hnc, hcm, hcs, htk⟩
  · cases h2
  injection hv with hv _ hc
  injection hv with hv
  injection hv with hv
  subst hv hc
  have hsl : (s.data.toList.map UInt8.toNat).length = s.size := by rw [List.length_map, Array.length_toList]; rfl
  have hlen : (l.take j ++ s.data.toList.map UInt8.toNat ++ l.drop (j + s.size)).length = l.length := by
    simp only [List.length_append, List.length_take, List.length_drop, hsl]; omega
  have hcl : cur.toList.length = c := by rw [Array.length_toList, hcs, Nat.mul_one]
  have hrun := Lib.run_copy_row_string (P := Tryz.prog) w 56 9 3 5 g j (l.length - j) cj s cur 5 Tryz.underlying56 byte_size hg (by omega) (by rw [← Array.length_toList, hcl]; omega)
  rw [cells_bv] at hrun
  have hcs' : (bv (s.data.toList.map UInt8.toNat)).length = s.size := by rw [bv_length, hsl]
  refine ⟨_, ⟨hrun⟩, ⟨by rw [hlen, bv_length, hlen, Nat.mul_one], .inr ⟨g, c, _, by rw [hlen], hb, setRow_heap w g _ _ _ _ hg, by rw [hlen]; exact hnc, hcm, ?_, ?_⟩⟩, ⟨rfl, rfl, rfl, by simp [World.setRow], fun k _ hne => setRow_other w g k _ (fun e => hne (by rw [e]))⟩⟩
  · simp only [List.size_toArray, List.length_append, List.length_take, List.length_drop, hcs', Array.length_toList]
    omega
  · rw [hlen, Nat.mul_one]
    rw [Nat.mul_one] at htk
    have e1 : cur.toList.take j = bv (l.take j) := by
      have := congrArg (List.take j) htk
      rw [List.take_take, Nat.min_eq_left (by omega)] at this
      rw [this]
      exact (List.map_take ..).symm
    have e2 : (cur.toList.drop (j + s.size)).take (l.length - (j + s.size)) = bv (l.drop (j + s.size)) := by
      have := congrArg (List.drop (j + s.size)) htk
      rw [List.drop_take] at this
      rw [this]
      exact (List.map_drop ..).symm
    rw [List.toList_toArray, bv_append, bv_append, ← e1, ← e2, List.take_append, List.length_append, hcs', List.length_take, hcl, Nat.min_eq_left (by omega), List.take_of_length_le (by rw [List.length_append, List.length_take, hcs', hcl]; omega)]
set_option maxRecDepth 100000 in
set_option maxHeartbeats 2000000 in
theorem DWrite_a : Calls Tryz.prog 41 #[.agg #[vi 2, sa]] w fun e w' => ∃ v, e = .returned (.tuple #[v, vi 0]) ∧ Own w' w.heap.size v sl ∧ Below w.heap.size w w' := by
  have hmk : ∀ w : World, (Instr.makeSlice 56 (.int .i64 16) (.int .i64 16)).run Tryz.prog w = .ok (.slice (some ⟨w.heap.size, 0, none⟩) 16 16) (w.alloc (.cells (madeCells #[vb 0] 16) 5)) := fun w => make_bytes 16 (by omega) w
  go_enter Tryz.func41, Tryz.ntmps41
  go_upto_region 1 with fail
  have HB1 : Hid (Below w.heap.size w (w.alloc (.cells #[vi 2, sa] 39))) := Lib.hid ((Below.refl _ _).alloc (Nat.le_refl _) _)
  have HX1 := Lib.hid (Blk.new w 39 #[vi 2, sa])
  obtain ⟨x, hx⟩ : ∃ x, x = w.heap.size := ⟨_, rfl⟩
  rw [← hx] at HX1 ⊢
  have HXX := Lib.hid hx
  clear hx
  change Code.wp _ _ _ _ (w.alloc (.cells #[vi 2, sa] 39))
  generalize w.alloc (.cells #[vi 2, sa] 39) = w1 at *
  have x0 : w1.cell? ⟨x, 0, none⟩ = some (vi 2) := HX1.out.cell 0
  have x1 : w1.cell? ⟨x, 1, none⟩ = some sa := HX1.out.cell 1
  go_wp2_with fail
  refine inode_2.mono ?_
  rintro e w' ⟨rfl, rfl⟩
  go_wp2_with fail
  refine Name_a.mono ?_
  rintro e w' ⟨rfl, rfl⟩
  clear x0 x1
  go_upto_region 7 with fail
  have HO2 := Lib.hid (own_zeros w' 16 (by decide))
  have HB2 : Hid (Below w.heap.size w (w'.alloc (.cells (madeCells #[vb 0] 16) 5))) := Lib.hid (HB1.out.alloc HB1.out.size _)
  have HX2 := Lib.hid (HX1.out.alloc (.cells (madeCells #[vb 0] 16) 5))
  change Code.wp _ _ _ _ (w'.alloc (.cells (madeCells #[vb 0] 16) 5))
  generalize w'.alloc (.cells (madeCells #[vb 0] 16) 5) = w2 at *
  generalize hg : w'.heap.size = g at *
  have x0 : w2.cell? ⟨x, 0, none⟩ = some (vi 2) := HX2.out.cell 0
  have x1 : w2.cell? ⟨x, 1, none⟩ = some sa := HX2.out.cell 1
  have y0 : w2.cell? ⟨g, 0, none⟩ = some (vb 0) := own_cell HO2.out (by simp) (by decide)
  have y1 : w2.cell? ⟨g, 1, none⟩ = some (vb 0) := own_cell HO2.out (by simp) (by decide)
  have y2 : w2.cell? ⟨g, 2, none⟩ = some (vb 0) := own_cell HO2.out (by simp) (by decide)
  have f0 : w2.frozen? ⟨g, 0, none⟩ = false := own_frozen HO2.out (by simp) 0
  have f1 : w2.frozen? ⟨g, 1, none⟩ = false := own_frozen HO2.out (by simp) 1
  have f2 : w2.frozen? ⟨g, 2, none⟩ = false := own_frozen HO2.out (by simp) 2
  have ne : x ≠ g := by
    intro e
    subst e
    have := HX1.out.lt
    omega
  have ne' : g ≠ x := fun e => ne e.symm
  go_region
  have o1 := own_set HO2.out (by simp) 0 2
  have o2 := own_set o1 (by simp) 1 0
  have o3 := own_set o2 (by simp) 2 1
  have HO3 : Hid (Own (((w2.setCell ⟨g, 0, none⟩ (vb 2)).setCell ⟨g, 1, none⟩ (vb 0)).setCell ⟨g, 2, none⟩ (vb 1)).drew g (.slice (some ⟨g, 0, none⟩) 16 16) [2, 0, 1, 0, 0, 0, 0, 0, 0, 0, 0, 0, 0, 0, 0, 0]) := Lib.hid o3
  have HX3 : Hid (Blk (((w2.setCell ⟨g, 0, none⟩ (vb 2)).setCell ⟨g, 1, none⟩ (vb 0)).setCell ⟨g, 2, none⟩ (vb 1)).drew x 39 #[vi 2, sa]) := Lib.hid (((HX2.out.far ne _).far ne _).far ne _)
  have hgw : w.heap.size ≤ g := by rw [← hg]; exact HB1.out.size
  have HB3 : Hid (Below w.heap.size w (((w2.setCell ⟨g, 0, none⟩ (vb 2)).setCell ⟨g, 1, none⟩ (vb 0)).setCell ⟨g, 2, none⟩ (vb 1)).drew) := Lib.hid (((HB2.out.setCell (p := ⟨g, 0, none⟩) hgw _).setCell (p := ⟨g, 1, none⟩) hgw _).setCell (p := ⟨g, 2, none⟩) hgw _).drew
  clear o1 o2 o3 x0 x1 y0 y1 y2 f0 f1 f2 ne ne' HX2 HB2 HO2
  change Exit.then _ _ _ _ (((w2.setCell ⟨g, 0, none⟩ (vb 2)).setCell ⟨g, 1, none⟩ (vb 0)).setCell ⟨g, 2, none⟩ (vb 1)).drew
  generalize (((w2.setCell ⟨g, 0, none⟩ (vb 2)).setCell ⟨g, 1, none⟩ (vb 0)).setCell ⟨g, 2, none⟩ (vb 1)).drew = w3 at *
  go_upto_region 8 with fail
  have x1 : w3.cell? ⟨x, 1, none⟩ = some sa := HX3.out.cell 1
  obtain ⟨w4, hrun, ho4, hg4⟩ := copy_str (HO3.out.drew) (by rfl) 3 ⟨#[97]⟩ (by decide) 13
  have RC : CopyRun 56 9 3 (.slice (some ⟨g, 3, none⟩) 13 13) sa w3.drew (.int .i64 1) w4 := hrun
  have HO4 : Hid (Own w4 g (.slice (some ⟨g, 0, none⟩) 16 16) sl) := Lib.hid ho4
  have HB4 : Hid (Below w.heap.size w w4) := Lib.hid (HB3.out.drew.grown hg4 (by have := HB3.out.size; exact this) (fun k e => by injection e with e; omega))
  have HGW := Lib.hid hgw
  clear hrun ho4 hg4 hgw
  go_region_law (refine step_copy (.tmp 35) (.tmp 37) RC (by rfl) (by rfl) (by go_simp) (by go_simp) ?_)
  go_wp2_with fail
  go_ret2
  exact ⟨_, rfl, HO4.out.more HGW.out, HB4.out⟩
end
end Go.Proofs.YtnfhlocflpdlcaaGreat.di

/-
  A directory's slot read. Conditions: one entry, of the name "a" and the inode 2.
-/
namespace Go.Proofs.YtnfhlocflpdlcaaGreat.di
open Go.RowKit Go.Proofs.YtnfhlocflpdlcaaGreat.mgr Go.Proofs.YtnfhlocflpdlcaaGreat.ft Go.Proofs.YtnfhlocflpdlcaaGreat.pl Go.Proofs.YtnfhlocflpdlcaaGreat.ino
section
variable {w w' : World}
theorem ent_result {w' : World} {g : Nat} {v0 v1 : Value} {b : Bool} {n : Int} (hb : Blk w' g 39 #[v0, v1]) (tmps : Array Value) (h2 : tmps[2]? = some (.pointer (some ⟨g, 0, none⟩))) (h3 : tmps[3]? = some (.bool b)) (h4 : tmps[4]? = some (vi n)) :
    (results Tryz.f70 tmps).run Tryz.prog w' = .ok (.tuple #[.agg #[v0, v1], .bool b, vi n]) w' := by
  have g0 : w'.cell? ⟨g, 0, none⟩ = some v0 := hb.cell 0
  have g1 : w'.cell? ⟨g, 1, none⟩ = some v1 := hb.cell 1
  simp only [results, Tryz.results70]
  simp [go_sem, h2, h3, h4, g0, g1]
set_option maxRecDepth 100000 in
set_option maxHeartbeats 2000000 in
theorem DRead_a (b o c : Nat) (hc : 16 ≤ c) (hr : BRow w (some ⟨b, o, none⟩) sl) : Calls Tryz.prog 70 #[.slice (some ⟨b, o, none⟩) 16 c] w fun e w' => e = .returned (.tuple #[.agg #[vi 2, sa], .bool true, vi 0]) ∧ Below w.heap.size w w' := by
  have HB1 : Hid (Below w.heap.size w (w.alloc (.cells #[vi 0, .string ⟨#[]⟩] 39))) := Lib.hid ((Below.refl _ _).alloc (Nat.le_refl _) _)
  have HX1 := Lib.hid (Blk.new w 39 #[vi 0, .string ⟨#[]⟩])
  have HR1 := Lib.hid (hr.below HB1.out)
  clear hr
  go_enter Tryz.func70, Tryz.ntmps70
  go_upto_region 1 with fail
  obtain ⟨x, hx⟩ : ∃ x, x = w.heap.size := ⟨_, rfl⟩
  rw [← hx] at HX1 ⊢
  have HXX := Lib.hid hx
  clear hx
  change Code.wp _ _ _ _ (w.alloc (.cells #[vi 0, .string ⟨#[]⟩] 39))
  generalize w.alloc (.cells #[vi 0, .string ⟨#[]⟩] 39) = w1 at *
  have hc0 : w1.cell? ⟨b, o, none⟩ = some (vb 2) := by
    obtain ⟨_, _, he, hx, _⟩ := HR1.out.lookup (k := 0) (by decide)
    cases he
    exact hx
  have hc1 : w1.cell? ⟨b, o + 1, none⟩ = some (vb 0) := by
    obtain ⟨_, _, he, hx, _⟩ := HR1.out.lookup (k := 1) (by decide)
    cases he
    exact hx
  have hc2 : w1.cell? ⟨b, o + 2, none⟩ = some (vb 1) := by
    obtain ⟨_, _, he, hx, _⟩ := HR1.out.lookup (k := 2) (by decide)
    cases he
    exact hx
  go_wp2_with fail
  refine (empty_2 b o 16 c (by decide) hc0).mono ?_
  rintro e w2 ⟨rfl, rfl⟩
  go_wp2_with fail
  have hb8 : Below w2.heap.size w2 (w2.alloc (.cells #[vi 0, .string ⟨#[]⟩] 39)) := (Below.refl _ _).alloc (Nat.le_refl _) _
  have hcv : ∀ W, Below w2.heap.size w2 W → (convert 56 9 (.slice (some ⟨b, o + 3, none⟩) 1 (c - 3))).run Tryz.prog W = .ok sa W := fun W hb => run_text (((HR1.out.below hb).drop 3).take 1) (c - 3)
  have hv1 := hcv _ (Below.refl _ _)
  have hv2 := hcv _ hb8
  have hv3 := hcv _ ((Below.refl _ _).drew)
  have hv4 := hcv _ hb8.drew
  clear hcv
  have n3 : ¬ c = 3 := by omega
  have n4 : 4 ≤ c := by omega
  have d0 := cell_below hc0 hb8
  have d1 := cell_below hc1 hb8
  have d2 := cell_below hc2 hb8
  have hor : bits BinOp.or IntKind.i64 2 0 = 2 := by decide
  clear hb8
  go_region
  all_goals
    have HB3 : Hid (Below w.heap.size w (w2.alloc (.cells #[vi 2, sa] 39)).drew) := Lib.hid (HB1.out.alloc HB1.out.size _).drew
    have HX3 : Hid (Blk (w2.alloc (.cells #[vi 2, sa] 39)).drew x 39 #[vi 0, .string ⟨#[]⟩]) := Lib.hid (HX1.out.alloc (.cells #[vi 2, sa] 39))
    have HE3 : Hid (Blk (w2.alloc (.cells #[vi 2, sa] 39)).drew w2.heap.size 39 #[vi 2, sa]) := Lib.hid (Blk.new w2 39 #[vi 2, sa])
    have HR3 : Hid (BRow (w2.alloc (.cells #[vi 2, sa] 39)).drew (some ⟨b, o, none⟩) sl) := Lib.hid (HR1.out.below ((Below.refl _ _).alloc (Nat.le_refl _) _).drew)
    clear d0 d1 d2 hv1 hv2 hv3 hv4 hc0 hc1 hc2 HB1 HX1 HR1 hor
    change Exit.then _ _ _ _ (w2.alloc (.cells #[vi 2, sa] 39)).drew
    generalize (w2.alloc (.cells #[vi 2, sa] 39)).drew = w3 at *
    generalize w2.heap.size = y at *
    have y0 : w3.cell? ⟨y, 0, none⟩ = some (vi 2) := HE3.out.cell 0
    have y1 : w3.cell? ⟨y, 1, none⟩ = some sa := HE3.out.cell 1
    go_wp2_with fail
    refine DWrite_a.mono ?_
    rintro e w4 ⟨v4, rfl, ho4, hb4⟩
    obtain ⟨g4, c4, rfl, hg4, hc4, _⟩ := pl.own_some ho4 (by decide)
    have HR4 : Hid (BRow w4 (some ⟨g4, 0, none⟩) sl) := Lib.hid (by
      obtain ⟨a', c', he, hr', _⟩ := ho4.row (by decide)
      injection he with he _ _
      rwa [← he] at hr')
    have HEQ := Lib.hid (Equal_sl b o c g4 0 c4 (HR3.out.below hb4) HR4.out)
    have HB4 := Lib.hid (HB3.out.trans (hb4.mono HB3.out.size))
    have HX4 := Lib.hid (HX3.out.old hb4)
    have HE4 := Lib.hid (HE3.out.old hb4)
    clear ho4 hb4 HR3 HR4 HB3 HX3 HE3 y0 y1
    rw [show sl.length = 16 from rfl]
    go_wp2_with fail
    refine HEQ.out.mono ?_
    rintro e w5 ⟨rfl, hb5⟩
    have HB5 := Lib.hid (HB4.out.trans (hb5.mono HB4.out.size))
    have HX5 := Lib.hid (HX4.out.old hb5)
    have HE5 := Lib.hid (HE4.out.old hb5)
    clear hb5 HEQ HB4 HX4 HE4
    have y0 : w5.cell? ⟨y, 0, none⟩ = some (vi 2) := HE5.out.cell 0
    have y1 : w5.cell? ⟨y, 1, none⟩ = some sa := HE5.out.cell 1
    have x0 : w5.cell? ⟨x, 0, none⟩ = some (vi 0) := HX5.out.cell 0
    have x1 : w5.cell? ⟨x, 1, none⟩ = some (.string ⟨#[]⟩) := HX5.out.cell 1
    have f0 := HX5.out.frozen 0
    have f1 := HX5.out.frozen 1
    go_wp2_with fail
    have hb6 : Blk ((w5.setCell ⟨x, 0, none⟩ (vi 2)).setCell ⟨x, 1, none⟩ sa) x 39 #[vi 2, sa] := (HX5.out.set_ 0 (vi 2)).set_ 1 sa
    exact bodyPost_ret (ent_result hb6 _ rfl rfl rfl) rfl ⟨rfl, (HB5.out.setCell (p := ⟨x, 0, none⟩) (Nat.le_of_eq HXX.out.symm) _).setCell (p := ⟨x, 1, none⟩) (Nat.le_of_eq HXX.out.symm) _⟩
end
end Go.Proofs.YtnfhlocflpdlcaaGreat.di

