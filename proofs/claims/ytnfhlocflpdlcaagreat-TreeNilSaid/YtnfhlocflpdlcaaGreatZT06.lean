/-
  Lemmas for a law's proof, put together from several texts: each part says what it shows, and its conditions.
-/
import Derived.Test.YtnfhlocflpdlcaaGreatZT05
import Derived.Test.YtnfhlocflpdlcaaGreatZT04
import Derived.Laws.CopyOwn
import Derived.Deep.OwnRows
import Derived.Laws.Bits64b
import Derived.StillTailTactics
/-
  An inode's bytes written. Conditions: an inode that is right, with six direct pages.
-/
namespace Go.Proofs.YtnfhlocflpdlcaaGreat.ino
open Go.RowKit
section
variable {w : World}
set_option maxHeartbeats 1000000 in
theorem put_any (base : Nat) (v : Value) (l : List Nat) (x k : Nat) (w : World) (hown : Own w base v l) (hb : base ≤ w.heap.size) (hx : x < 4294967296) (hn : l.length + k ≤ 1000000) (hk : k ≤ 8) :
    Calls Tryz.prog 130 #[v, vi x, vi k] w fun e w' => ∃ v', e = .returned v' ∧ Own w' base v' (l ++ HP.le k x) ∧ Stp base w w' := by
  have HO := Lib.hid hown
  clear hown
  go_enter Tryz.func130, Tryz.ntmps130
  go_wp2_with fail
  go_loopw [0, 1, 8] (fun m y i wr => ∃ j z : Nat, j ≤ k ∧ i = vi j ∧ y = vi z ∧ Hid (z = x / 256 ^ j) ∧ z < 4294967296 ∧ Hid (Own wr base m (l ++ HP.le j x)) ∧ Hid (base ≤ wr.heap.size ∧ Stp base w wr)) (fun _ _ i _ => k - (intOf i).toNat)
  case atStart => exact ⟨0, x, Nat.zero_le _, rfl, rfl, Lib.hid (by simp), hx, Lib.hid (by simpa [HP.le] using HO.out), Lib.hid ⟨hb, Stp.refl _ _⟩⟩
  case round =>
    obtain ⟨j, y, hj, rfl, rfl, hy, hyl, ho, hB⟩ := hrel
    by_cases hlt : j < k
    · obtain ⟨v', w', hrun, ho', hb', hB'⟩ := tput_step hy.out ho.out hB.out.1 hB.out.2 (by omega)
      have HRun := Lib.hid hrun
      have HO2 := Lib.hid ho'
      have HB2 := Lib.hid (And.intro hb' hB')
      clear hrun ho' hb' hB' ho hB
      go_wp2_with (at_builtin; refine wpList_append_run rfl (.tmp 10) (.tmp 13) rfl rfl rfl HRun.out ?_)
      go_roundw
      case rel => exact ⟨j + 1, y / 256, by omega, by go_num, rfl, Lib.hid (div_more hy.out), by omega, HO2, HB2⟩
      case measure => simp [intOf]; omega
    · obtain rfl : j = k := by omega
      have HB2 := hB
      have HO2 := ho
      go_wp2_with fail
      go_ret
      exact ⟨_, rfl, HO2.out, HB2.out.2⟩
/-- An inode in its box, and its bytes so far. -/
structure WrSt (w : World) (g : Nat) (C : Array Value) (v : Value) (l : List Nat) (wr : World) : Prop where
  own : Own wr w.heap.size v l
  stp : Stp w.heap.size w wr
  box : Blk wr g 50 C
theorem WrSt.put {g : Nat} {C : Array Value} {v v' : Value} {l l' : List Nat} {wr w' : World} (h : WrSt w g C v l wr) (ho : Own w' w.heap.size v' l') (hs : Stp w.heap.size wr w') : WrSt w g C v' l' w' := ⟨ho, h.stp.trans hs, hs.blk _ _ _ (by decide) h.box⟩
set_option maxRecDepth 100000 in
set_option maxHeartbeats 4000000 in
theorem Write_any (i : PI.Ino) (hl : i.direct.length = 6) (hr : PI.right i = true) : Calls Tryz.prog 79 #[inoV i] w fun e w' => ∃ v, e = .returned (.tuple #[v, vi 0]) ∧ Own w' w.heap.size v (PI.bytes i) ∧ Below w.heap.size w w' := by
  have HRT : Hid (∀ W : World, Calls Tryz.prog 129 #[inoV i] W fun e w' => e = .returned (.bool true) ∧ Below W.heap.size W w') := Lib.hid (fun W => Right_any i hl hr)
  have HBY : Hid (PI.bytes i = ((((([i.kind % 256, 0] ++ HP.le 2 i.links) ++ HP.le 4 i.size) ++ i.direct.flatMap (HP.le 2)) ++ HP.le 2 i.single) ++ HP.le 2 i.double)) := Lib.hid rfl
  have hbd : i.links < 65536 ∧ i.size < 4294967296 ∧ (∀ p ∈ i.direct, p < 65536) ∧ i.single < 65536 ∧ i.double < 65536 := by
    by_cases hk : i.kind = 0
    · rw [PI.right_none hr hk]
      decide
    · obtain ⟨h1, _, h3, h4, h5, h6⟩ := PI.right_some hr hk
      exact ⟨by omega, by omega, fun p hp => by have := h1 p hp; omega, by omega, by omega⟩
  clear hr
  obtain ⟨kd, ln, sz, dl, sg, db⟩ := i
  obtain ⟨d0, d1, d2, d3, d4, d5, rfl⟩ := six (l := dl) hl
  clear hl
  simp only [inoV, inoC] at HRT ⊢
  obtain ⟨hln, hsz, hd, hsg, hdb⟩ := hbd
  have hd0 := hd d0 (by simp)
  have hd1 := hd d1 (by simp)
  have hd2 := hd d2 (by simp)
  have hd3 := hd d3 (by simp)
  have hd4 := hd d4 (by simp)
  have hd5 := hd d5 (by simp)
  clear hd
  dsimp only at hln hsz hsg hdb HBY
  go_enter Tryz.func79, Tryz.ntmps79
  go_upto_region 1 with fail
  have HS1 : Hid (Stp w.heap.size w (w.alloc (.cells #[vi kd, vi ln, vi sz, vi d0, vi d1, vi d2, vi d3, vi d4, vi d5, vi sg, vi db] 50))) := Lib.hid ((Stp.refl _ _).alloc (Nat.le_refl _) _)
  have HX1 := Lib.hid (Blk.new w 50 #[vi kd, vi ln, vi sz, vi d0, vi d1, vi d2, vi d3, vi d4, vi d5, vi sg, vi db])
  obtain ⟨g, hg⟩ : ∃ g, g = w.heap.size := ⟨_, rfl⟩
  rw [← hg] at HX1 ⊢
  clear hg
  generalize w.alloc (.cells #[vi kd, vi ln, vi sz, vi d0, vi d1, vi d2, vi d3, vi d4, vi d5, vi sg, vi db] 50) = w1 at *
  have g0 : w1.cell? ⟨g, 0, none⟩ = some (vi kd) := HX1.out.cell 0
  have g1 : w1.cell? ⟨g, 1, none⟩ = some (vi ln) := HX1.out.cell 1
  have g2 : w1.cell? ⟨g, 2, none⟩ = some (vi sz) := HX1.out.cell 2
  have g3 : w1.cell? ⟨g, 3, none⟩ = some (vi d0) := HX1.out.cell 3
  have g4 : w1.cell? ⟨g, 4, none⟩ = some (vi d1) := HX1.out.cell 4
  have g5 : w1.cell? ⟨g, 5, none⟩ = some (vi d2) := HX1.out.cell 5
  have g6 : w1.cell? ⟨g, 6, none⟩ = some (vi d3) := HX1.out.cell 6
  have g7 : w1.cell? ⟨g, 7, none⟩ = some (vi d4) := HX1.out.cell 7
  have g8 : w1.cell? ⟨g, 8, none⟩ = some (vi d5) := HX1.out.cell 8
  have g9 : w1.cell? ⟨g, 9, none⟩ = some (vi sg) := HX1.out.cell 9
  have g10 : w1.cell? ⟨g, 10, none⟩ = some (vi db) := HX1.out.cell 10
  go_wp2_with fail
  refine (HRT.out w1).mono ?_
  rintro e w2 ⟨rfl, hb2⟩
  have HX2 := Lib.hid (HX1.out.old hb2)
  have HS2 := Lib.hid (HS1.out.trans (Stp.of_below hb2 HS1.out.size))
  clear hb2 HX1 HS1 g0 g1 g2 g3 g4 g5 g6 g7 g8 g9 g10 HRT
  have g0 : w2.cell? ⟨g, 0, none⟩ = some (vi kd) := HX2.out.cell 0
  go_upto_region 4 with fail
  have HW : Hid (WrSt w g #[vi kd, vi ln, vi sz, vi d0, vi d1, vi d2, vi d3, vi d4, vi d5, vi sg, vi db] (.slice (some ⟨w2.heap.size, 0, none⟩) 2 2) [kd % 256, 0] (w2.alloc (.cells #[.int .u8 ((kd : Int) % 256), .int .u8 0] 5))) :=
    Lib.hid ⟨Own.lit HS2.out.size [kd % 256, 0] (by simp) (by simp [bv]), HS2.out.alloc HS2.out.size _, HX2.out.alloc _⟩
  clear HS2 HX2 g0
  generalize w2.alloc (.cells #[.int .u8 ((kd : Int) % 256), .int .u8 0] 5) = w3 at *
  obtain ⟨v3, hv3⟩ : ∃ v3 : Value, v3 = .slice (some ⟨w2.heap.size, 0, none⟩) 2 2 := ⟨_, rfl⟩
  rw [← hv3] at HW
  have h1 : w3.cell? ⟨g, 1, none⟩ = some (vi ln) := HW.out.box.cell 1
  have HP := Lib.hid (put_any w.heap.size v3 _ ln 2 w3 HW.out.own HW.out.stp.size (by omega) (by simp) (by decide))
  rw [hv3] at HP HW
  clear hv3
  go_wp2_with fail
  refine HP.out.mono ?_
  rintro e w4 ⟨v4, rfl, ho4, hs4⟩
  have HW4 := Lib.hid (HW.out.put ho4 hs4)
  clear HP HW ho4 hs4 h1
  have h2 : w4.cell? ⟨g, 2, none⟩ = some (vi sz) := HW4.out.box.cell 2
  have HP := Lib.hid (put_any w.heap.size v4 _ sz 4 w4 HW4.out.own HW4.out.stp.size (by omega) (by simp [HP.le_length]) (by decide))
  go_wp2_with fail
  refine HP.out.mono ?_
  rintro e w5 ⟨v5, rfl, ho5, hs5⟩
  have HW5 := Lib.hid (HW4.out.put ho5 hs5)
  clear HP HW4 ho5 hs5 h2
  have h3 : w5.cell? ⟨g, 3, none⟩ = some (vi d0) := HW5.out.box.cell 3
  have h4 : w5.cell? ⟨g, 4, none⟩ = some (vi d1) := HW5.out.box.cell 4
  have h5 : w5.cell? ⟨g, 5, none⟩ = some (vi d2) := HW5.out.box.cell 5
  have h6 : w5.cell? ⟨g, 6, none⟩ = some (vi d3) := HW5.out.box.cell 6
  have h7 : w5.cell? ⟨g, 7, none⟩ = some (vi d4) := HW5.out.box.cell 7
  have h8 : w5.cell? ⟨g, 8, none⟩ = some (vi d5) := HW5.out.box.cell 8
  go_wp2_with fail
  clear h3 h4 h5 h6 h7 h8
  go_loopw [4, 24] (fun v i wr => ∃ k : Nat, k ≤ 6 ∧ i = vi k ∧ Hid (WrSt w g #[vi kd, vi ln, vi sz, vi d0, vi d1, vi d2, vi d3, vi d4, vi d5, vi sg, vi db] v ((([kd % 256, 0] ++ HP.le 2 ln) ++ HP.le 4 sz) ++ ([d0, d1, d2, d3, d4, d5].take k).flatMap (HP.le 2)) wr)) (fun _ i _ => 6 - (intOf i).toNat)
  case atStart => exact ⟨0, by decide, rfl, by simpa using HW5⟩
  case round =>
    clear HW5
    obtain ⟨k, hk6, rfl, hw⟩ := hrel
    by_cases h6 : k = 6
    · subst h6
      have h9 : wr.cell? ⟨g, 9, none⟩ = some (vi sg) := hw.out.box.cell 9
      have HP := Lib.hid (put_any w.heap.size _ _ sg 2 wr hw.out.own hw.out.stp.size (by omega) (by simp [HP.le_length]) (by decide))
      go_wp2_with fail
      refine HP.out.mono ?_
      rintro e w6 ⟨v6, rfl, ho6, hs6⟩
      have HW6 := Lib.hid (hw.out.put ho6 hs6)
      clear HP hw ho6 hs6 h9
      have h10 : w6.cell? ⟨g, 10, none⟩ = some (vi db) := HW6.out.box.cell 10
      have HP := Lib.hid (put_any w.heap.size v6 _ db 2 w6 HW6.out.own HW6.out.stp.size (by omega) (by simp [HP.le_length]) (by decide))
      go_wp2_with fail
      refine HP.out.mono ?_
      rintro e w7 ⟨v7, rfl, ho7, hs7⟩
      have HW7 := Lib.hid (HW6.out.put ho7 hs7)
      clear HP HW6 ho7 hs7 h10
      go_wp2_with fail
      go_ret2
      have h := HW7.out.own
      exact ⟨v7, rfl, by rw [HBY.out]; exact h, HW7.out.stp.below⟩
    · obtain ⟨x0, x1, x2, x3, x4, x5⟩ := six_index d0 d1 d2 d3 d4 d5 wr
      rcases (by omega : k = 0 ∨ k = 1 ∨ k = 2 ∨ k = 3 ∨ k = 4 ∨ k = 5) with rfl | rfl | rfl | rfl | rfl | rfl
      · clear hk6 h6
        have HP := Lib.hid (put_any w.heap.size _ _ d0 2 wr hw.out.own hw.out.stp.size (by omega) (by simp [HP.le_length]) (by decide))
        go_wp2_with fail
        refine HP.out.mono ?_
        rintro e w6 ⟨v6, rfl, ho6, hs6⟩
        have HW6 := Lib.hid (hw.out.put ho6 hs6)
        clear HP hw ho6 hs6 x0 x1 x2 x3 x4 x5
        go_wp2_with fail
        go_roundw
        case rel => exact ⟨1, by decide, rfl, by simpa using HW6⟩
        case measure => simp [intOf]
      · clear hk6 h6
        have HP := Lib.hid (put_any w.heap.size _ _ d1 2 wr hw.out.own hw.out.stp.size (by omega) (by simp [HP.le_length]) (by decide))
        go_wp2_with fail
        refine HP.out.mono ?_
        rintro e w6 ⟨v6, rfl, ho6, hs6⟩
        have HW6 := Lib.hid (hw.out.put ho6 hs6)
        clear HP hw ho6 hs6 x0 x1 x2 x3 x4 x5
        go_wp2_with fail
        go_roundw
        case rel => exact ⟨2, by decide, rfl, by simpa using HW6⟩
        case measure => simp [intOf]
      · clear hk6 h6
        have HP := Lib.hid (put_any w.heap.size _ _ d2 2 wr hw.out.own hw.out.stp.size (by omega) (by simp [HP.le_length]) (by decide))
        go_wp2_with fail
        refine HP.out.mono ?_
        rintro e w6 ⟨v6, rfl, ho6, hs6⟩
        have HW6 := Lib.hid (hw.out.put ho6 hs6)
        clear HP hw ho6 hs6 x0 x1 x2 x3 x4 x5
        go_wp2_with fail
        go_roundw
        case rel => exact ⟨3, by decide, rfl, by simpa using HW6⟩
        case measure => simp [intOf]
      · clear hk6 h6
        have HP := Lib.hid (put_any w.heap.size _ _ d3 2 wr hw.out.own hw.out.stp.size (by omega) (by simp [HP.le_length]) (by decide))
        go_wp2_with fail
        refine HP.out.mono ?_
        rintro e w6 ⟨v6, rfl, ho6, hs6⟩
        have HW6 := Lib.hid (hw.out.put ho6 hs6)
        clear HP hw ho6 hs6 x0 x1 x2 x3 x4 x5
        go_wp2_with fail
        go_roundw
        case rel => exact ⟨4, by decide, rfl, by simpa using HW6⟩
        case measure => simp [intOf]
      · clear hk6 h6
        have HP := Lib.hid (put_any w.heap.size _ _ d4 2 wr hw.out.own hw.out.stp.size (by omega) (by simp [HP.le_length]) (by decide))
        go_wp2_with fail
        refine HP.out.mono ?_
        rintro e w6 ⟨v6, rfl, ho6, hs6⟩
        have HW6 := Lib.hid (hw.out.put ho6 hs6)
        clear HP hw ho6 hs6 x0 x1 x2 x3 x4 x5
        go_wp2_with fail
        go_roundw
        case rel => exact ⟨5, by decide, rfl, by simpa using HW6⟩
        case measure => simp [intOf]
      · clear hk6 h6
        have HP := Lib.hid (put_any w.heap.size _ _ d5 2 wr hw.out.own hw.out.stp.size (by omega) (by simp [HP.le_length]) (by decide))
        go_wp2_with fail
        refine HP.out.mono ?_
        rintro e w6 ⟨v6, rfl, ho6, hs6⟩
        have HW6 := Lib.hid (hw.out.put ho6 hs6)
        clear HP hw ho6 hs6 x0 x1 x2 x3 x4 x5
        go_wp2_with fail
        go_roundw
        case rel => exact ⟨6, by decide, rfl, by simpa using HW6⟩
        case measure => simp [intOf]
end
end Go.Proofs.YtnfhlocflpdlcaaGreat.ino

/-
  The chip's small methods. Conditions: a chip that is told by ChipAt.
-/
namespace Go.Proofs.YtnfhlocflpdlcaaGreat
open Go.RowKit

abbrev ptr (k : Nat) : Value := .pointer (some ⟨k, 0, none⟩)
section
variable {base : Nat} {w : World} {k : Nat} {M : ChM}

theorem Up_any (h : ChipAt base w k M) : Calls Tryz.prog 109 #[ptr k] w fun e w' => e = .returned (.bool (!M.down)) ∧ w' = w := by
  obtain ⟨c0, c1, c2, c3, c4, c5, c6, c7, c8⟩ := h.cells
  clear h c0 c1 c2 c3 c4 c5 c7 c8
  go_enter Tryz.func109, Tryz.ntmps109
  go_wp2
  go_ret
  exact ⟨rfl, rfl⟩
theorem Geo_any (h : ChipAt base w k M) : Calls Tryz.prog 110 #[ptr k] w fun e w' => e = .returned (.agg #[vi M.B, vi M.P, vi M.S]) ∧ Below w.heap.size w w' := by
  obtain ⟨c0, c1, c2, c3, c4, c5, c6, c7, c8⟩ := h.cells
  have hk := h.chip.lt
  clear h c3 c4 c5 c6 c7 c8
  go_enter Tryz.func110, Tryz.ntmps110
  go_wp2
  exact bodyPost_ret (v := .agg #[vi M.B, vi M.P, vi M.S]) (by simp [results, Tryz.results110, go_sem]) rfl ⟨rfl, (Below.refl _ _).alloc (Nat.le_refl _) _⟩
theorem full_any (h : ChipAt base w k M) (hS : M.S ≤ 512) : Calls Tryz.prog 165 #[ptr k] w fun e w' => e = .returned (vi (M.S + 32 : Nat)) ∧ w' = w := by
  obtain ⟨c0, c1, c2, c3, c4, c5, c6, c7, c8⟩ := h.cells
  clear h c0 c1 c3 c4 c5 c6 c7 c8
  go_enter Tryz.func165, Tryz.ntmps165
  go_wp2
  go_ret
  exact ⟨by go_num, rfl⟩
/-- Is there such a block? -/
def thereB (M : ChM) (j : Int) : Bool := decide (0 ≤ j ∧ j < M.bs.length)
theorem there_any (h : ChipAt base w k M) (j : Int) : Calls Tryz.prog 151 #[ptr k, vi j] w fun e w' => e = .returned (.bool (thereB M j)) ∧ w' = w := by
  obtain ⟨c0, c1, c2, c3, c4, c5, c6, c7, c8⟩ := h.cells
  clear h c0 c1 c2 c4 c5 c6 c7 c8
  by_cases h0 : 0 ≤ j
  · by_cases h1 : j < M.bs.length
    · have H := Lib.hid (show thereB M j = true by simp [thereB, h0, h1])
      go_enter Tryz.func151, Tryz.ntmps151
      go_wp2
      go_ret
      exact ⟨ret_bool (by rw [H.out]), rfl⟩
    · have H := Lib.hid (show thereB M j = false by simp [thereB]; omega)
      go_enter Tryz.func151, Tryz.ntmps151
      go_wp2
      go_ret
      exact ⟨ret_bool (by rw [H.out]), rfl⟩
  · have H := Lib.hid (show thereB M j = false by simp [thereB]; omega)
    go_enter Tryz.func151, Tryz.ntmps151
    go_wp2
    go_ret
    exact ⟨ret_bool (by rw [H.out]), rfl⟩
theorem asked_any (h : ChipAt base w k M) (hB : M.bs.length = M.B) (j p : Int) : Calls Tryz.prog 152 #[ptr k, vi j, vi p] w fun e w' => e = .returned (vi (NP.asked M.view j p)) ∧ w' = w := by
  obtain ⟨c0, c1, c2, c3, c4, c5, c6, c7, c8⟩ := h.cells
  have HC := Lib.hid h
  clear h c0 c2 c3 c4 c5 c7 c8
  obtain ⟨B, P, S, kb, kc, bs, fa, fs, fc, since, down, strokes, reads⟩ := M
  dsimp only at c1 c6 hB
  cases down
  · by_cases hj : 0 ≤ j ∧ j < B
    · have ht : Hid (thereB _ j = true) := Lib.hid (show thereB ⟨B, P, S, kb, kc, bs, fa, fs, fc, since, false, strokes, reads⟩ j = true by simp [thereB, hj, hB])
      by_cases hp0 : 0 ≤ p
      · by_cases hp1 : p < P
        · have H := Lib.hid (show NP.asked (ChM.view ⟨B, P, S, kb, kc, bs, fa, fs, fc, since, false, strokes, reads⟩) j p = 0 by simp [NP.asked, ChM.view, hj, hp0, hp1])
          clear hj hB
          go_enter Tryz.func152, Tryz.ntmps152
          go_wp2_with fail
          refine (there_any HC.out j).mono ?_
          rintro e w' ⟨rfl, rfl⟩
          rw [ht.out]
          go_wp2_with fail
          go_ret
          exact ⟨ret_int H.out.symm, rfl⟩
        · have H := Lib.hid (show NP.asked (ChM.view ⟨B, P, S, kb, kc, bs, fa, fs, fc, since, false, strokes, reads⟩) j p = 12 by simp [NP.asked, ChM.view, hp1])
          clear hj hB
          go_enter Tryz.func152, Tryz.ntmps152
          go_wp2_with fail
          refine (there_any HC.out j).mono ?_
          rintro e w' ⟨rfl, rfl⟩
          rw [ht.out]
          go_wp2_with fail
          go_ret
          exact ⟨ret_int H.out.symm, rfl⟩
      · have H := Lib.hid (show NP.asked (ChM.view ⟨B, P, S, kb, kc, bs, fa, fs, fc, since, false, strokes, reads⟩) j p = 12 by simp [NP.asked, ChM.view, hp0])
        clear hj hB
        go_enter Tryz.func152, Tryz.ntmps152
        go_wp2_with fail
        refine (there_any HC.out j).mono ?_
        rintro e w' ⟨rfl, rfl⟩
        rw [ht.out]
        go_wp2_with fail
        go_ret
        exact ⟨ret_int H.out.symm, rfl⟩
    · have ht : Hid (thereB _ j = false) := Lib.hid (show thereB ⟨B, P, S, kb, kc, bs, fa, fs, fc, since, false, strokes, reads⟩ j = false by simp [thereB, hB]; omega)
      have H := Lib.hid (show NP.asked (ChM.view ⟨B, P, S, kb, kc, bs, fa, fs, fc, since, false, strokes, reads⟩) j p = 12 by simp [NP.asked, ChM.view]; omega)
      clear hj hB
      go_enter Tryz.func152, Tryz.ntmps152
      go_wp2_with fail
      refine (there_any HC.out j).mono ?_
      rintro e w' ⟨rfl, rfl⟩
      rw [ht.out]
      go_wp2_with fail
      go_ret
      exact ⟨ret_int H.out.symm, rfl⟩
  · have H := Lib.hid (show NP.asked (ChM.view ⟨B, P, S, kb, kc, bs, fa, fs, fc, since, true, strokes, reads⟩) j p = 4 by simp [NP.asked, ChM.view])
    go_enter Tryz.func152, Tryz.ntmps152
    go_wp2_with fail
    go_ret
    exact ⟨ret_int H.out.symm, rfl⟩
end

end Go.Proofs.YtnfhlocflpdlcaaGreat

/-
  Rows of bytes that are made: bytes 255, bytes that are torn, one byte many times, bytes again. Conditions: fewer than 900000 bytes.
-/
namespace Go.Proofs.YtnfhlocflpdlcaaGreat
open Go.RowKit

/-- An append's, a copy's run. -/
structure AppRun (t u ty : TypeId) (v src : Value) (w : World) (v' : Value) (w' : World) : Prop where
  run : (Builtin.append_ #[t, u] ty #[v, src]).run Tryz.prog w = .ok v' w'
structure CopyRun (t u ty : TypeId) (v src : Value) (w : World) (v' : Value) (w' : World) : Prop where
  run : (Builtin.copy_ #[t, u] ty #[v, src]).run Tryz.prog w = .ok v' w'
theorem wpList_copy_run {w w' : World} {ops : Array Oper} {rest : List Oper} {o : Oper} {a : Act} {Q : Exit → Act → World → Prop} (hgd : o.guard = none) (s x : Operand) {t u : TypeId}
    (ho : o.op = .call { callee := .builtin .copy, args := #[s, x], argTypes := #[t, u] }) {v src v' : Value} (hs : a.eval s = v) (hx : a.eval x = src)
    (hrun : CopyRun t u o.type v src w v' w') (h : wpList Tryz.prog ops Q rest (a.put o.dst v') w') : wpList Tryz.prog ops Q (o :: rest) a w := by
  refine wpList_plain hgd fun K hK => ?_
  unfold Oper.wp execOp
  simp only [ho, resolve, invoke, builtin, Sem.run_bind, Sem.run_pure, Result.andThen_ok, List.map_toArray, List.map_cons, List.map_nil, hs, hx, hrun.run]
  exact hK _ _ h

/-- A byte stored into a row of the call's own. -/
theorem own_set {w : World} {base g n c : Nat} {l : List Nat} (h : Own w base (.slice (some ⟨g, 0, none⟩) n c) l) (hn : n = l.length) (j x : Nat) :
    Own (w.setCell ⟨g, j, none⟩ (vb x)) base (.slice (some ⟨g, 0, none⟩) n c) (l.set j x) := by
  subst hn
  have := (World.ownsRow.stored h j (vb x)).1
  unfold Own bv
  rw [List.length_set, List.map_set]
  exact this
theorem own_frozen {w : World} {base g n c : Nat} {l : List Nat} (h : Own w base (.slice (some ⟨g, 0, none⟩) n c) l) (hn : n = l.length) (j : Nat) : w.frozen? ⟨g, j, none⟩ = false := by
  subst hn
  exact World.ownsRow.frozenAt h j
theorem own_cell {w : World} {base g n c : Nat} {l : List Nat} (h : Own w base (.slice (some ⟨g, 0, none⟩) n c) l) (hn : n = l.length) {j : Nat} (hj : j < n) : w.cell? ⟨g, j, none⟩ = some (vb (l.getD j 0)) := by
  subst hn
  rw [World.ownsRow.cellAt h j (by omega), bv_get hj]
/-- Zeros. -/
theorem own_zeros (w : World) (n : Nat) (hn : n ≤ 1000000) : Own (w.alloc (.cells (madeCells #[vb 0] n) 5)) w.heap.size (.slice (some ⟨w.heap.size, 0, none⟩) n n) (List.replicate n 0) := by
  have := World.ownsRow_lit (base := w.heap.size) (size := 1) (e := 5) w (madeCells #[vb 0] n) n (Nat.le_refl _) (by unfold maxLen; omega) (by simp [madeCells])
  rw [toList_madeCells_one] at this
  unfold Own bv
  rw [List.length_replicate, List.map_replicate]
  exact this
theorem make_bytes (n : Nat) (hn : n ≤ 1000000) (w : World) : (Instr.makeSlice 56 (.int .i64 (n : Int)) (.int .i64 (n : Int))).run Tryz.prog w = .ok (.slice (some ⟨w.heap.size, 0, none⟩) n n) (w.alloc (.cells (madeCells #[vb 0] n) 5)) :=
  run_make_row' 56 5 (vb 0) 1 Tryz.underlying56 byte_info rfl .i64 .i64 n (by omega) (by omega) w
/-- A copy into a row of the call's own. -/
theorem copy_bytes {w : World} {base g n c : Nat} {l m : List Nat} (h : Own w base (.slice (some ⟨g, 0, none⟩) n c) l) (hn : n = l.length) (j : Nat) (hj : j ≤ n) {a : Option Addr} (hr : BRow w a m) (cm : Nat) (cj : Nat) :
    ∃ w', CopyRun 56 56 3 (.slice (some ⟨g, j, none⟩) (n - j) cj) (.slice a m.length cm) w (vi (min m.length (n - j) : Nat)) w' ∧
      Own w' base (.slice (some ⟨g, 0, none⟩) n c) (l.take j ++ m.take (n - j) ++ l.drop (j + min m.length (n - j))) ∧ w.grownBy w' (some g) := by
  subst hn
  obtain ⟨h1, h2⟩ := h
  rcases h2 with ⟨h2, _⟩ | ⟨g', cap, cur, hv, hb, hg, hnc, hcm, hcs, htk⟩
  · cases h2
  injection hv with hv _ hc
  injection hv with hv
  injection hv with hv
  subst hv hc
  have hcs' : (bv (m.take (l.length - j))).length = min m.length (l.length - j) := by rw [bv_length, List.length_take]; omega
  have hlen : (l.take j ++ m.take (l.length - j) ++ l.drop (j + min m.length (l.length - j))).length = l.length := by
    simp only [List.length_append, List.length_take, List.length_drop]; omega
  by_cases hz : min m.length (l.length - j) = 0
  · have hrun := run_copy_none (P := Tryz.prog) w 56 56 3 5 (some ⟨g, j, none⟩) a (l.length - j) cj m.length cm Tryz.underlying56 (by
      have := byte_info
      cases hq : Tryz.prog.info? 5 with
      | none => rw [hq] at this; cases this
      | some i => rw [hq] at this; simp at this; simp [this]) hz
    refine ⟨w, ⟨by rw [hrun, hz]; rfl⟩, ?_, World.grownBy.refl w _⟩
    have e : l.take j ++ m.take (l.length - j) ++ l.drop (j + min m.length (l.length - j)) = l := by
      have : m.take (l.length - j) = [] := List.eq_nil_of_length_eq_zero (by rw [List.length_take]; omega)
      rw [this, hz, List.append_nil, Nat.add_zero, List.take_append_drop]
    rw [e]
    exact ⟨h1, .inr ⟨g, c, cur, rfl, hb, hg, hnc, hcm, hcs, htk⟩⟩
  · obtain ⟨b, o, rfl, _⟩ := hr.lookup (k := 0) (by omega)
    have hrun := run_copy_row (P := Tryz.prog) w 56 56 3 5 g j (l.length - j) cj ⟨b, o, none⟩ m.length cm cur 5 (bv (m.take (l.length - j))) Tryz.underlying56 (by
      have := byte_info
      cases hq : Tryz.prog.info? 5 with
      | none => rw [hq] at this; cases this
      | some i => rw [hq] at this; simp at this; simp [this]) hg hcs' ((hr.take _).news) (by rw [hcs']; omega) (bv_one _)
    rw [hcs'] at hrun
    refine ⟨_, ⟨hrun⟩, ⟨by rw [hlen, bv_length, hlen, Nat.mul_one], .inr ⟨g, c, _, by rw [hlen], hb, setRow_heap w g _ _ _ _ hg, by rw [hlen]; exact hnc, hcm, ?_, ?_⟩⟩, ⟨rfl, rfl, rfl, by simp [World.setRow], fun k _ hne => setRow_other w g k _ (fun e => hne (by rw [e]))⟩⟩
    · simp only [List.size_toArray, List.length_append, List.length_take, List.length_drop, hcs', Array.length_toList]
      omega
    · rw [hlen, Nat.mul_one]
      rw [Nat.mul_one] at htk
      have hcl : cur.toList.length = c := by rw [Array.length_toList, hcs, Nat.mul_one]
      have e1 : cur.toList.take j = bv (l.take j) := by
        have := congrArg (List.take j) htk
        rw [List.take_take, Nat.min_eq_left hj] at this
        rw [this]
        exact (List.map_take ..).symm
      have e2 : (cur.toList.drop (j + min m.length (l.length - j))).take (l.length - (j + min m.length (l.length - j))) = bv (l.drop (j + min m.length (l.length - j))) := by
        have := congrArg (List.drop (j + min m.length (l.length - j))) htk
        rw [List.drop_take] at this
        rw [this]
        exact (List.map_drop ..).symm
      rw [List.toList_toArray, bv_append, bv_append, ← e1, ← e2, List.take_append, List.length_append, hcs', List.length_take, hcl, Nat.min_eq_left (by omega), List.take_of_length_le (by rw [List.length_append, List.length_take, hcs', hcl]; omega)]

set_option maxHeartbeats 1000000 in
theorem ones_any (n : Nat) (w : World) (hn : n ≤ 900000) : Calls Tryz.prog 164 #[vi n] w fun e w' => ∃ v', e = .returned v' ∧ Own w' w.heap.size v' (List.replicate n 255) ∧ Below w.heap.size w w' := by
  have hmk := make_bytes n (by omega)
  have HO := Lib.hid (own_zeros w n (by omega))
  have HB := Lib.hid ((Below.refl w.heap.size w).alloc (Nat.le_refl _) (.cells (madeCells #[vb 0] n) 5))
  go_enter Tryz.func164, Tryz.ntmps164
  go_wp2_with fail
  clear hmk
  generalize w.alloc (.cells (madeCells #[vb 0] n) 5) = w1 at *
  generalize hg : w.heap.size = g at *
  have HG := Lib.hid hg
  clear hg
  go_loopw [9] (fun i wr => ∃ k : Nat, k ≤ n ∧ i = vi k ∧ Hid (Own wr g (.slice (some ⟨g, 0, none⟩) n n) (List.replicate k 255 ++ List.replicate (n - k) 0)) ∧ Hid (Below g w wr)) (fun i _ => n - (intOf i).toNat)
  case atStart => exact ⟨0, Nat.zero_le _, rfl, HO, HB⟩
  case round =>
    obtain ⟨k, hk, rfl, ho, hb⟩ := hrel
    by_cases hlt : k < n
    · have hl : n = (List.replicate k 255 ++ List.replicate (n - k) 0).length := by simp; omega
      have hc := own_cell ho.out hl hlt
      have hf := own_frozen ho.out hl k
      have HS : Hid (Own (wr.setCell ⟨g, k, none⟩ (vb 255)) g (.slice (some ⟨g, 0, none⟩) n n) (List.replicate (k + 1) 255 ++ List.replicate (n - (k + 1)) 0)) := Lib.hid (by
        have := own_set ho.out hl k 255
        rw [List.set_append_right _ _ (by simp), List.length_replicate, Nat.sub_self, show n - k = (n - (k + 1)) + 1 by omega, List.replicate_succ, List.set_cons_zero] at this
        rw [List.replicate_succ', List.append_assoc]
        exact this)
      have HL := Lib.hid hl
      clear hl ho
      go_wp2_with fail
      go_roundw
      case rel => exact ⟨k + 1, by omega, by go_num, HS, Lib.hid (hb.out.setCell (Nat.le_refl _) _)⟩
      case measure => simp [intOf]; omega
    · obtain rfl : k = n := by omega
      have ho' := ho.out
      rw [Nat.sub_self, List.replicate_zero, List.append_nil] at ho'
      have HO' := Lib.hid ho'
      clear ho ho'
      go_wp2_with fail
      go_ret
      exact ⟨_, rfl, by rw [HG.out]; exact HO'.out, by rw [HG.out]; exact hb.out⟩

set_option maxHeartbeats 1000000 in
theorem Clone_any (a : Option Addr) (l : List Nat) (c : Nat) (w : World) (h : BRow w a l) (hl : l.length ≤ 900000) :
    Calls Tryz.prog 75 #[.slice a l.length c] w fun e w' => ∃ v', e = .returned v' ∧ Own w' w.heap.size v' l ∧ Below w.heap.size w w' := by
  have hen := fun (w : World) (a : Option Addr) (n c : Nat) => Lib.run_eql_slice_nil (P := Tryz.prog) w 56 5 a n c 0 0 Tryz.underlying56
  cases a with
  | none =>
    have h0 : l = [] := by
      rcases h.at_ with h | ⟨b, o, he, _⟩
      · exact h
      · cases he
    subst h0
    go_enter Tryz.func75, Tryz.ntmps75
    go_wp2_with fail
    go_ret
    exact ⟨_, rfl, Own.nil _ _, Below.refl _ _⟩
  | some ad =>
    obtain ⟨v', w', hrun, ho, hs⟩ := append_bytes (c := c) (Own.lit (Nat.le_refl w.heap.size) [] (by simp) (cs := #[]) rfl) (h.below ((Below.refl _ w).alloc (Nat.le_refl _) _)) (by simp; omega) (by simp)
    have R : AppRun 56 56 56 (.slice (some ⟨w.heap.size, 0, none⟩) 0 0) (.slice (some ad) l.length c) (w.alloc (.cells #[] 5)) v' w' := ⟨hrun⟩
    have HB := Lib.hid (((Below.refl w.heap.size w).alloc (Nat.le_refl _) (.cells #[] 5)).trans hs.below)
    have HO := Lib.hid ho
    clear hrun ho hs
    go_enter Tryz.func75, Tryz.ntmps75
    go_wp2_with (at_builtin; refine wpList_append_run rfl (.tmp 5) (.tmp 6) rfl rfl rfl R.run ?_)
    go_ret
    exact ⟨_, rfl, HO.out, HB.out⟩

set_option maxHeartbeats 1000000 in
theorem torn_any {base k : Nat} {M : ChM} {w : World} (h : ChipAt base w k M) (hS : M.S ≤ 512) (a : Option Addr) (l : List Nat) (c : Nat) (hr : BRow w a l) :
    Calls Tryz.prog 260 #[ptr k, .slice a l.length c] w fun e w' => ∃ v', e = .returned v' ∧ Own w' w.heap.size v' (NP.torn (M.S + 32) l) ∧ Below w.heap.size w w' := by
  have HC := Lib.hid h
  have HR := Lib.hid hr
  clear h hr
  go_enter Tryz.func260, Tryz.ntmps260
  go_wp2_with fail
  refine (full_any HC.out hS).mono ?_
  rintro e w' ⟨rfl, rfl⟩
  go_wp2_with fail
  refine (ones_any (M.S + 32) _ (by omega)).mono ?_
  rintro e w2 ⟨v2, rfl, ho2, hb2⟩
  rcases ho2.2 with ⟨_, h0⟩ | ⟨g, cap, cur, hv, hg, _⟩
  · simp at h0
  rw [List.length_replicate] at hv
  subst hv
  obtain ⟨w3, hrun, ho3, hg3⟩ := copy_bytes ho2 (List.length_replicate ..).symm 0 (Nat.zero_le _) (HR.out.below hb2) c cap
  have HRun := Lib.hid hrun
  have HO3 : Hid (Own w3 w'.heap.size (.slice (some ⟨g, 0, none⟩) (M.S + 32) cap) (NP.torn (M.S + 32) l)) := Lib.hid (by
    have e : NP.torn (M.S + 32) l = (List.replicate (M.S + 32) 255).take 0 ++ l.take (M.S + 32 - 0) ++ (List.replicate (M.S + 32) 255).drop (0 + min l.length (M.S + 32 - 0)) := by
      simp only [NP.torn, List.take_zero, List.nil_append, Nat.sub_zero, Nat.zero_add, List.drop_replicate]
      congr 2
      omega
    rw [e]
    exact ho3)
  have HB3 := Lib.hid (hb2.grown hg3 hb2.size (fun x hx => by injection hx with hx; omega))
  clear hrun ho3 hg3 ho2
  go_wp2_with (refine wpList_copy_run rfl (.tmp 9) (.tmp 10) rfl rfl rfl HRun.out ?_)
  go_ret
  exact ⟨_, rfl, HO3.out, HB3.out⟩

end Go.Proofs.YtnfhlocflpdlcaaGreat

