/-
  Lemmas for a law's proof, put together from several texts: each part says what it shows, and its conditions.
-/
import Derived.Test.YtnfhlocflpdlcaaGreatZT08
/-
  An inode taken out of a table's page. Conditions: a page of 64 bytes that holds an inode there.
-/
namespace Go.Proofs.YtnfhlocflpdlcaaGreat.ino
open Go.RowKit
theorem there_64' {w : World} (a : Option Addr) (c : Nat) (k : Nat) (hk : k < 2) : Calls Tryz.prog 77 #[.slice a 64 c, vi k] w fun e w' => e = .returned (.bool true) ∧ w' = w := by
  have h := there_64 (w := w) a (List.replicate 64 0) c k (by simp) hk
  rwa [List.length_replicate] at h
theorem get_result {w' : World} {g : Nat} {v0 v1 v2 v3 v4 v5 v6 v7 v8 v9 v10 : Value} {n : Int} (hb : Blk w' g 50 #[v0, v1, v2, v3, v4, v5, v6, v7, v8, v9, v10]) (tmps : Array Value) (h2 : tmps[4]? = some (.pointer (some ⟨g, 0, none⟩))) (h3 : tmps[5]? = some (vi n)) :
    (results Tryz.f34 tmps).run Tryz.prog w' = .ok (.tuple #[.agg #[v0, v1, v2, v3, v4, v5, v6, v7, v8, v9, v10], vi n]) w' := by
  have g0 : w'.cell? ⟨g, 0, none⟩ = some v0 := hb.cell 0
  have g1 : w'.cell? ⟨g, 1, none⟩ = some v1 := hb.cell 1
  have g2 : w'.cell? ⟨g, 2, none⟩ = some v2 := hb.cell 2
  have g3 : w'.cell? ⟨g, 3, none⟩ = some v3 := hb.cell 3
  have g4 : w'.cell? ⟨g, 4, none⟩ = some v4 := hb.cell 4
  have g5 : w'.cell? ⟨g, 5, none⟩ = some v5 := hb.cell 5
  have g6 : w'.cell? ⟨g, 6, none⟩ = some v6 := hb.cell 6
  have g7 : w'.cell? ⟨g, 7, none⟩ = some v7 := hb.cell 7
  have g8 : w'.cell? ⟨g, 8, none⟩ = some v8 := hb.cell 8
  have g9 : w'.cell? ⟨g, 9, none⟩ = some v9 := hb.cell 9
  have g10 : w'.cell? ⟨g, 10, none⟩ = some v10 := hb.cell 10
  simp only [results, Tryz.results34]
  simp [go_sem, h2, h3, g0, g1, g2, g3, g4, g5, g6, g7, g8, g9, g10]
set_option maxRecDepth 100000 in
set_option maxHeartbeats 4000000 in
theorem Get_any {w : World} (a : Option Addr) (b : List Nat) (c k : Nat) (hr : BRow w a b) (hl : b.length = 64) (hc : 64 ≤ c ∧ c ≤ maxLen) (hk : k < 2) (h1 : ((b.drop (k * 24)).take 24).getD 1 0 = 0) (hi : PI.right (PI.ofBytes ((b.drop (k * 24)).take 24)) = true) :
    Calls Tryz.prog 34 #[.slice a 64 c, vi k] w fun e w' => e = .returned (.tuple #[inoV (PI.ofBytes ((b.drop (k * 24)).take 24)), vi 0]) ∧ Below w.heap.size w w' := by
  obtain ⟨b0, o0, rfl, _⟩ := hr.lookup (k := 0) (by omega)
  have HB : Hid (Below w.heap.size w (w.alloc (.cells #[vi 0, vi 0, vi 0, vi 0, vi 0, vi 0, vi 0, vi 0, vi 0, vi 0, vi 0] 50))) := Lib.hid ((Below.refl _ _).alloc (Nat.le_refl _) _)
  have HF := Lib.hid (Blk.new w 50 #[vi 0, vi 0, vi 0, vi 0, vi 0, vi 0, vi 0, vi 0, vi 0, vi 0, vi 0])
  have HR := Lib.hid (hr.below HB.out)
  have HL := Lib.hid hl
  have HC := Lib.hid hc
  have H1 := Lib.hid h1
  have HI := Lib.hid hi
  clear hr hl hc h1 hi
  go_enter Tryz.func34, Tryz.ntmps34
  go_upto_region 1 with fail
  change Code.wp _ _ _ _ (w.alloc (.cells #[vi 0, vi 0, vi 0, vi 0, vi 0, vi 0, vi 0, vi 0, vi 0, vi 0, vi 0] 50))
  generalize w.alloc (.cells #[vi 0, vi 0, vi 0, vi 0, vi 0, vi 0, vi 0, vi 0, vi 0, vi 0, vi 0] 50) = w1 at *
  rcases (by omega : k = 0 ∨ k = 1) with rfl | rfl
  · have HS : Hid (BRow w1 (some ⟨b0, o0 + 0, none⟩) ((b.drop (0 * 24)).take 24)) := Lib.hid ((HR.out.drop (0 * 24)).take 24)
    have HLN : Hid (((b.drop (0 * 24)).take 24).length = 24) := Lib.hid (by rw [List.length_take, List.length_drop, HL.out]; rfl)
    have HRD := Lib.hid (Read_any (w := w1) (some ⟨b0, o0 + 0, none⟩) ((b.drop (0 * 24)).take 24) (c - 0) HS.out HLN.out (by have := HC.out; have := HLN.out; omega) H1.out HI.out)
    rw [HLN.out] at HRD
    have hc := HC.out
    have n0 : ¬ c = 0 := by omega
    have n1 : 24 ≤ c := by omega
    clear hc
    go_wp2_with fail
    refine (there_64' _ _ 0 (by decide)).mono ?_
    rintro e w2 ⟨rfl, rfl⟩
    go_wp2_with fail
    refine HRD.out.mono ?_
    rintro e w3 ⟨rfl, hb3⟩
    have HF3 := Lib.hid (HF.out.old hb3)
    have HB3 := Lib.hid (HB.out.trans (hb3.mono HB.out.size))
    generalize hio : PI.ofBytes ((b.drop (0 * 24)).take 24) = io at *
    have hd6 : io.direct.length = 6 := by rw [← hio]; rfl
    obtain ⟨kd, ln, sz, dl, sg, db⟩ := io
    obtain ⟨d0, d1, d2, d3, d4, d5, rfl⟩ := six (l := dl) hd6
    have HIO := Lib.hid hio
    clear hb3 HRD hd6 hio
    simp only [inoV, inoC]
    have r0 : w3.cell? ⟨w.heap.size, 0, none⟩ = some (vi 0) := HF3.out.cell 0
    have f0 := HF3.out.frozen 0
    have r1 : w3.cell? ⟨w.heap.size, 1, none⟩ = some (vi 0) := HF3.out.cell 1
    have f1 := HF3.out.frozen 1
    have r2 : w3.cell? ⟨w.heap.size, 2, none⟩ = some (vi 0) := HF3.out.cell 2
    have f2 := HF3.out.frozen 2
    have r3 : w3.cell? ⟨w.heap.size, 3, none⟩ = some (vi 0) := HF3.out.cell 3
    have f3 := HF3.out.frozen 3
    have r4 : w3.cell? ⟨w.heap.size, 4, none⟩ = some (vi 0) := HF3.out.cell 4
    have f4 := HF3.out.frozen 4
    have r5 : w3.cell? ⟨w.heap.size, 5, none⟩ = some (vi 0) := HF3.out.cell 5
    have f5 := HF3.out.frozen 5
    have r6 : w3.cell? ⟨w.heap.size, 6, none⟩ = some (vi 0) := HF3.out.cell 6
    have f6 := HF3.out.frozen 6
    have r7 : w3.cell? ⟨w.heap.size, 7, none⟩ = some (vi 0) := HF3.out.cell 7
    have f7 := HF3.out.frozen 7
    have r8 : w3.cell? ⟨w.heap.size, 8, none⟩ = some (vi 0) := HF3.out.cell 8
    have f8 := HF3.out.frozen 8
    have r9 : w3.cell? ⟨w.heap.size, 9, none⟩ = some (vi 0) := HF3.out.cell 9
    have f9 := HF3.out.frozen 9
    have r10 : w3.cell? ⟨w.heap.size, 10, none⟩ = some (vi 0) := HF3.out.cell 10
    have f10 := HF3.out.frozen 10
    go_wp2_with fail
    obtain ⟨hf, hw⟩ := ino_fill (vi kd) (vi ln) (vi sz) (vi d0) (vi d1) (vi d2) (vi d3) (vi d4) (vi d5) (vi sg) (vi db) HF3.out HB3.out (Nat.le_refl _)
    exact bodyPost_ret (get_result hf _ rfl rfl) rfl ⟨by rw [HIO.out], hw⟩
  · have HS : Hid (BRow w1 (some ⟨b0, o0 + 24, none⟩) ((b.drop (1 * 24)).take 24)) := Lib.hid ((HR.out.drop (1 * 24)).take 24)
    have HLN : Hid (((b.drop (1 * 24)).take 24).length = 24) := Lib.hid (by rw [List.length_take, List.length_drop, HL.out]; rfl)
    have HRD := Lib.hid (Read_any (w := w1) (some ⟨b0, o0 + 24, none⟩) ((b.drop (1 * 24)).take 24) (c - 24) HS.out HLN.out (by have := HC.out; have := HLN.out; omega) H1.out HI.out)
    rw [HLN.out] at HRD
    have hc := HC.out
    have n0 : ¬ c = 24 := by omega
    have n1 : 48 ≤ c := by omega
    clear hc
    go_wp2_with fail
    refine (there_64' _ _ 1 (by decide)).mono ?_
    rintro e w2 ⟨rfl, rfl⟩
    go_wp2_with fail
    refine HRD.out.mono ?_
    rintro e w3 ⟨rfl, hb3⟩
    have HF3 := Lib.hid (HF.out.old hb3)
    have HB3 := Lib.hid (HB.out.trans (hb3.mono HB.out.size))
    generalize hio : PI.ofBytes ((b.drop (1 * 24)).take 24) = io at *
    have hd6 : io.direct.length = 6 := by rw [← hio]; rfl
    obtain ⟨kd, ln, sz, dl, sg, db⟩ := io
    obtain ⟨d0, d1, d2, d3, d4, d5, rfl⟩ := six (l := dl) hd6
    have HIO := Lib.hid hio
    clear hb3 HRD hd6 hio
    simp only [inoV, inoC]
    have r0 : w3.cell? ⟨w.heap.size, 0, none⟩ = some (vi 0) := HF3.out.cell 0
    have f0 := HF3.out.frozen 0
    have r1 : w3.cell? ⟨w.heap.size, 1, none⟩ = some (vi 0) := HF3.out.cell 1
    have f1 := HF3.out.frozen 1
    have r2 : w3.cell? ⟨w.heap.size, 2, none⟩ = some (vi 0) := HF3.out.cell 2
    have f2 := HF3.out.frozen 2
    have r3 : w3.cell? ⟨w.heap.size, 3, none⟩ = some (vi 0) := HF3.out.cell 3
    have f3 := HF3.out.frozen 3
    have r4 : w3.cell? ⟨w.heap.size, 4, none⟩ = some (vi 0) := HF3.out.cell 4
    have f4 := HF3.out.frozen 4
    have r5 : w3.cell? ⟨w.heap.size, 5, none⟩ = some (vi 0) := HF3.out.cell 5
    have f5 := HF3.out.frozen 5
    have r6 : w3.cell? ⟨w.heap.size, 6, none⟩ = some (vi 0) := HF3.out.cell 6
    have f6 := HF3.out.frozen 6
    have r7 : w3.cell? ⟨w.heap.size, 7, none⟩ = some (vi 0) := HF3.out.cell 7
    have f7 := HF3.out.frozen 7
    have r8 : w3.cell? ⟨w.heap.size, 8, none⟩ = some (vi 0) := HF3.out.cell 8
    have f8 := HF3.out.frozen 8
    have r9 : w3.cell? ⟨w.heap.size, 9, none⟩ = some (vi 0) := HF3.out.cell 9
    have f9 := HF3.out.frozen 9
    have r10 : w3.cell? ⟨w.heap.size, 10, none⟩ = some (vi 0) := HF3.out.cell 10
    have f10 := HF3.out.frozen 10
    go_wp2_with fail
    obtain ⟨hf, hw⟩ := ino_fill (vi kd) (vi ln) (vi sz) (vi d0) (vi d1) (vi d2) (vi d3) (vi d4) (vi d5) (vi sg) (vi db) HF3.out HB3.out (Nat.le_refl _)
    exact bodyPost_ret (get_result hf _ rfl rfl) rfl ⟨by rw [HIO.out], hw⟩
end Go.Proofs.YtnfhlocflpdlcaaGreat.ino

/-
  An inode put into a table's page. Conditions: a page of 64 bytes, an inode that is right.
-/
namespace Go.Proofs.YtnfhlocflpdlcaaGreat.ino
open Go.RowKit
theorem own_some {w : World} {base : Nat} {v : Value} {l : List Nat} (h : Own w base v l) (hn : 0 < l.length) : ∃ g cap, v = .slice (some ⟨g, 0, none⟩) l.length cap ∧ base ≤ g ∧ l.length ≤ cap ∧ cap ≤ maxLen := by
  rcases h.2 with ⟨_, h0⟩ | ⟨g, cap, cur, hv, hb, _, hnc, hcm, _⟩
  · omega
  · exact ⟨g, cap, hv, hb, hnc, hcm⟩
theorem lay_eq {b m : List Nat} {j : Nat} (hm : m.length = 24) (hj : j ≤ 40) : b.take j ++ m.take (64 - j) ++ b.drop (j + min m.length (64 - j)) = b.take j ++ m ++ b.drop (j + 24) := by
  rw [List.take_of_length_le (l := m) (by omega), hm, Nat.min_eq_left (by omega)]
theorem ino_new {w : World} (i : PI.Ino) : Blk (w.alloc (.cells (inoC i) 50)) w.heap.size 50 (inoC i) := Blk.new w 50 (inoC i)
set_option maxRecDepth 100000 in
set_option maxHeartbeats 4000000 in
theorem Put_any {w : World} (a : Option Addr) (b : List Nat) (c k : Nat) (hr : BRow w a b) (hl : b.length = 64) (hk : k < 2) (i : PI.Ino) (hil : i.direct.length = 6) (hir : PI.right i = true) :
    Calls Tryz.prog 38 #[.slice a 64 c, vi k, inoV i] w fun e w' => ∃ v, e = .returned (.tuple #[v, vi 0]) ∧ Own w' w.heap.size v (PI.lay b k i) ∧ Below w.heap.size w w' := by
  have HR := Lib.hid hr
  have HL := Lib.hid hl
  have HWT : Hid (∀ W : World, Calls Tryz.prog 79 #[inoV i] W fun e w' => ∃ v, e = .returned (.tuple #[v, vi 0]) ∧ Own w' W.heap.size v (PI.bytes i) ∧ Below W.heap.size W w') := Lib.hid (fun W => Write_any i hil hir)
  have HBL := Lib.hid (PI.bytes_len hil)
  have HBS := Lib.hid (PI.bytes_small i)
  have HLY : Hid (PI.lay b k i = b.take (k * 24) ++ PI.bytes i ++ b.drop (k * 24 + 24)) := Lib.hid rfl
  clear hr hl hir
  generalize PI.lay b k i = out at *
  generalize PI.bytes i = m at *
  obtain ⟨kd, ln, sz, dl, sg, db⟩ := i
  obtain ⟨d0, d1, d2, d3, d4, d5, rfl⟩ := six (l := dl) hil
  clear hil
  simp only [inoV, inoC] at HWT ⊢
  go_enter Tryz.func38, Tryz.ntmps38
  go_upto_region 1 with fail
  have HB1 : Hid (Below w.heap.size w (w.alloc (.cells #[vi kd, vi ln, vi sz, vi d0, vi d1, vi d2, vi d3, vi d4, vi d5, vi sg, vi db] 50))) := Lib.hid ((Below.refl _ _).alloc (Nat.le_refl _) _)
  have HX1 := Lib.hid (Blk.new w 50 #[vi kd, vi ln, vi sz, vi d0, vi d1, vi d2, vi d3, vi d4, vi d5, vi sg, vi db])
  obtain ⟨g, hg⟩ : ∃ g, g = w.heap.size := ⟨_, rfl⟩
  rw [← hg] at HX1 ⊢
  clear hg
  generalize w.alloc (.cells #[vi kd, vi ln, vi sz, vi d0, vi d1, vi d2, vi d3, vi d4, vi d5, vi sg, vi db] 50) = w1 at *
  go_wp2_with fail
  refine (there_64' _ _ k hk).mono ?_
  rintro e w2 ⟨rfl, rfl⟩
  have g0 : w2.cell? ⟨g, 0, none⟩ = some (vi kd) := HX1.out.cell 0
  have g1 : w2.cell? ⟨g, 1, none⟩ = some (vi ln) := HX1.out.cell 1
  have g2 : w2.cell? ⟨g, 2, none⟩ = some (vi sz) := HX1.out.cell 2
  have g3 : w2.cell? ⟨g, 3, none⟩ = some (vi d0) := HX1.out.cell 3
  have g4 : w2.cell? ⟨g, 4, none⟩ = some (vi d1) := HX1.out.cell 4
  have g5 : w2.cell? ⟨g, 5, none⟩ = some (vi d2) := HX1.out.cell 5
  have g6 : w2.cell? ⟨g, 6, none⟩ = some (vi d3) := HX1.out.cell 6
  have g7 : w2.cell? ⟨g, 7, none⟩ = some (vi d4) := HX1.out.cell 7
  have g8 : w2.cell? ⟨g, 8, none⟩ = some (vi d5) := HX1.out.cell 8
  have g9 : w2.cell? ⟨g, 9, none⟩ = some (vi sg) := HX1.out.cell 9
  have g10 : w2.cell? ⟨g, 10, none⟩ = some (vi db) := HX1.out.cell 10
  go_wp2_with fail
  refine (HWT.out w2).mono ?_
  rintro e w3 ⟨vm, rfl, ho3, hb3⟩
  have HB3 := Lib.hid (HB1.out.trans (hb3.mono HB1.out.size))
  obtain ⟨am, cm, rfl, hrm, hcm, hcx, _⟩ := ho3.srow (base := 0) HBS.out
  have HRM := Lib.hid hrm.row
  clear ho3 hb3 hrm g0 g1 g2 g3 g4 g5 g6 g7 g8 g9 g10 HX1 HWT HB1
  have HCL : Hid (Calls Tryz.prog 75 #[.slice a 64 c] w3 fun e w' => ∃ v', e = .returned v' ∧ Own w' w3.heap.size v' b ∧ Below w3.heap.size w3 w') := Lib.hid (by
    have h := Clone_any a b c w3 (HR.out.below HB3.out) (by rw [HL.out]; decide)
    rwa [HL.out] at h)
  go_wp2_with fail
  refine HCL.out.mono ?_
  rintro e w4 ⟨v4, rfl, ho4, hb4⟩
  obtain ⟨g4, c4, rfl, hg4, hc4, hc4'⟩ := own_some ho4 (by rw [HL.out]; decide)
  rw [HL.out] at ho4 hc4
  obtain ⟨w5, hrun, ho5, hgr⟩ := copy_bytes ho4 HL.out.symm (k * 24) (by omega) (HRM.out.below hb4) cm (c4 - k * 24)
  rw [HBL.out, show min 24 (64 - k * 24) = 24 by omega] at hrun
  rw [lay_eq HBL.out (by omega), ← HLY.out] at ho5
  have HO5 := Lib.hid (ho5.more HB3.out.size)
  have HRUN : Hid (CopyRun 56 56 3 (.slice (some ⟨g4, k * 24, none⟩) (64 - k * 24) (c4 - k * 24)) (.slice am 24 cm) w4 (vi (24 : Nat)) w5) := Lib.hid hrun
  have HB5 : Hid (Below w.heap.size w w5) := Lib.hid ((HB3.out.trans (hb4.mono HB3.out.size)).grown hgr (Nat.le_trans HB3.out.size hb4.size) (fun x hx => by injection hx with hx; have := HB3.out.size; omega))
  rw [HL.out, HBL.out]
  clear hrun ho5 hgr ho4 hb4 HCL HRM HB3 hg4
  rcases (by omega : k = 0 ∨ k = 1) with rfl | rfl
  · have n0 : ¬ c4 = 0 := by omega
    go_wp2_with (refine wpList_copy_run rfl (.tmp 28) (.tmp 29) rfl rfl rfl HRUN.out ?_)
    go_ret2
    exact ⟨_, rfl, HO5.out, HB5.out⟩
  · have n0 : ¬ c4 = 24 := by omega
    have n1 : 24 ≤ c4 := by omega
    go_wp2_with (refine wpList_copy_run rfl (.tmp 28) (.tmp 29) rfl rfl rfl HRUN.out ?_)
    go_ret2
    exact ⟨_, rfl, HO5.out, HB5.out⟩
end Go.Proofs.YtnfhlocflpdlcaaGreat.ino

/-
  How much a file holds, and where a page of it stands. Conditions: pages of 64 bytes.
-/
namespace Go.Proofs.YtnfhlocflpdlcaaGreat.PI
/-- Where a file's page stands: its level, and its places; and whether there is such a page. -/
def way (n : Nat) : Nat × Nat × Nat := if n < 6 then (0, n, 0) else if n < 38 then (1, n - 6, 0) else (2, (n - 38) / 32, (n - 38) % 32)
end Go.Proofs.YtnfhlocflpdlcaaGreat.PI
namespace Go.Proofs.YtnfhlocflpdlcaaGreat.ino
open Go.RowKit
section
variable {w w' : World}
theorem pages_64 : Calls Tryz.prog 131 #[vi 64] w fun e w' => e = .returned (vi 1062) ∧ w' = w := by
  go_enter Tryz.func131, Tryz.ntmps131
  go_wp2_with fail
  go_ret
  exact ⟨rfl, rfl⟩
theorem Most_64 : Calls Tryz.prog 80 #[vi 64] w fun e w' => e = .returned (vi 67968) ∧ w' = w := by
  go_enter Tryz.func80, Tryz.ntmps80
  go_wp2_with fail
  refine sized_64.mono ?_
  rintro e w' ⟨rfl, rfl⟩
  go_wp2_with fail
  refine pages_64.mono ?_
  rintro e w' ⟨rfl, rfl⟩
  go_wp2_with fail
  go_ret
  exact ⟨rfl, rfl⟩
theorem blk_drew {g : Nat} {t : TypeId} {cs : Array Value} (h : Blk w g t cs) : Blk w.drew g t cs := h
theorem to_result {w' : World} {g : Nat} {v0 v1 v2 : Value} {n : Int} (hb : Blk w' g 210 #[v0, v1, v2]) (tmps : Array Value) (h2 : tmps[4]? = some (.pointer (some ⟨g, 0, none⟩))) (h3 : tmps[5]? = some (vi n)) :
    (results Tryz.f134 tmps).run Tryz.prog w' = .ok (.tuple #[.agg #[v0, v1, v2], vi n]) w' := by
  have g0 : w'.cell? ⟨g, 0, none⟩ = some v0 := hb.cell 0
  have g1 : w'.cell? ⟨g, 1, none⟩ = some v1 := hb.cell 1
  have g2 : w'.cell? ⟨g, 2, none⟩ = some v2 := hb.cell 2
  simp only [results, Tryz.results134]
  simp [go_sem, h2, h3, g0, g1, g2]
theorem way_fill {w w1 : World} {g : Nat} {u0 u1 u2 : Value} (v0 v1 v2 : Value) (h : Blk w1 g 210 #[u0, u1, u2]) (hb : Below w.heap.size w w1) (hg : w.heap.size ≤ g) :
    Blk (((w1.setCell ⟨g, 0, none⟩ v0).setCell ⟨g, 1, none⟩ v1).setCell ⟨g, 2, none⟩ v2) g 210 #[v0, v1, v2] ∧ Below w.heap.size w (((w1.setCell ⟨g, 0, none⟩ v0).setCell ⟨g, 1, none⟩ v1).setCell ⟨g, 2, none⟩ v2) :=
  ⟨((h.set_ 0 v0).set_ 1 v1).set_ 2 v2, ((hb.setCell (p := ⟨g, 0, none⟩) hg v0).setCell (p := ⟨g, 1, none⟩) hg v1).setCell (p := ⟨g, 2, none⟩) hg v2⟩
set_option maxRecDepth 100000 in
set_option maxHeartbeats 2000000 in
theorem To_any (n : Nat) (hn : n < 1062) : Calls Tryz.prog 134 #[vi 64, vi n] w fun e w' => e = .returned (.tuple #[.agg #[vi (PI.way n).1, vi (PI.way n).2.1, vi (PI.way n).2.2], vi 0]) ∧ Below w.heap.size w w' := by
  have HB : Hid (Below w.heap.size w (w.alloc (.cells #[vi 0, vi 0, vi 0] 210))) := Lib.hid ((Below.refl _ _).alloc (Nat.le_refl _) _)
  have HF := Lib.hid (Blk.new w 210 #[vi 0, vi 0, vi 0])
  have HT : Hid (PI.way n = if n < 6 then (0, n, 0) else if n < 38 then (1, n - 6, 0) else (2, (n - 38) / 32, (n - 38) % 32)) := Lib.hid rfl
  generalize PI.way n = T at *
  have w6 : IntKind.i64.wrap ((n : Int) - 6) = (n : Int) - 6 := IntWalk.i64_in _ (by omega)
  have n1 : ¬ (n : Int) < 0 := by omega
  have n2 : ¬ (1062 : Int) ≤ (n : Int) := by omega
  go_enter Tryz.func134, Tryz.ntmps134
  go_upto_region 1 with fail
  change Code.wp _ _ _ _ (w.alloc (.cells #[vi 0, vi 0, vi 0] 210))
  generalize w.alloc (.cells #[vi 0, vi 0, vi 0] 210) = w1 at *
  have r0 : w1.cell? ⟨w.heap.size, 0, none⟩ = some (vi 0) := HF.out.cell 0
  have f0 := HF.out.frozen 0
  have r1 : w1.cell? ⟨w.heap.size, 1, none⟩ = some (vi 0) := HF.out.cell 1
  have f1 := HF.out.frozen 1
  have r2 : w1.cell? ⟨w.heap.size, 2, none⟩ = some (vi 0) := HF.out.cell 2
  have f2 := HF.out.frozen 2
  go_wp2_with fail
  refine sized_64.mono ?_
  rintro e w2 ⟨rfl, rfl⟩
  go_wp2_with fail
  refine pages_64.mono ?_
  rintro e w2 ⟨rfl, rfl⟩
  by_cases h6 : n < 6
  · have c1 : (n : Int) - 6 < 0 := by omega
    go_wp2_with fail
    obtain ⟨hf, hw⟩ := way_fill (vi 0) (vi n) (vi 0) HF.out HB.out (Nat.le_refl _)
    exact bodyPost_ret (to_result hf _ rfl rfl) rfl ⟨by rw [HT.out, if_pos h6]; rfl, hw⟩
  · have c1 : ¬ (n : Int) - 6 < 0 := by omega
    by_cases h38 : n < 38
    · have c2 : (n : Int) - 6 < 32 := by omega
      go_wp2_with fail
      obtain ⟨hf, hw⟩ := way_fill (vi 1) (vi ((n : Int) - 6)) (vi 0) HF.out HB.out (Nat.le_refl _)
      exact bodyPost_ret (to_result hf _ rfl rfl) rfl ⟨by rw [HT.out, if_neg h6, if_pos h38]; simp; omega, hw⟩
    · have c2 : ¬ (n : Int) - 6 < 32 := by omega
      have w7 : IntKind.i64.wrap ((n : Int) - 6 - 32) = ((n - 38 : Nat) : Int) := by rw [IntWalk.i64_in _ (by omega)]; omega
      have q1 : IntKind.i64.wrap (((n - 38 : Nat) : Int).tdiv 32) = (((n - 38) / 32 : Nat) : Int) := by rw [Int.tdiv_eq_ediv_of_nonneg (by omega)]; rw [IntWalk.i64_in _ (by omega)]; omega
      have q2 : IntKind.i64.wrap (((n - 38 : Nat) : Int).tmod 32) = (((n - 38) % 32 : Nat) : Int) := by rw [Int.tmod_eq_emod_of_nonneg (by omega)]; rw [IntWalk.i64_in _ (by omega)]; omega
      go_upto_region 11 with fail
      go_region
      go_wp2_with fail
      obtain ⟨hf, hw⟩ := way_fill (vi 2) (vi ((n - 38 : Nat) / 32 : Int)) (vi ((n - 38 : Nat) % 32 : Int)) HF.out HB.out (Nat.le_refl _)
      refine bodyPost_ret (to_result (blk_drew hf) _ rfl rfl) rfl ⟨?_, hw.drew⟩
      rw [HT.out, if_neg h6, if_neg h38]
      rfl
end
end Go.Proofs.YtnfhlocflpdlcaaGreat.ino

