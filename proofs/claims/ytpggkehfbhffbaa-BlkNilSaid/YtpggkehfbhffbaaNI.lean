/-
  A chip is made: is a geometry right, a chip without bytes, a chip with bad blocks. No conditions of its own.
-/
import Derived.Test.YtpggkehfbhffbaaNH
import Derived.Deep.QuietTactic
namespace Go.Proofs.Ytpggkehfbhffbaa
open Go.RowKit

/-- Numbers that a slice reads as. -/
def IRow (w : World) (a : Option Addr) (l : List Int) : Prop := l = [] ∨ ∃ b o, a = some ⟨b, o, none⟩ ∧ ∀ i, i < l.length → w.cell? ⟨b, o + i, none⟩ = some (vi (l.getD i 0))
theorem IRow.lookup {w : World} {a : Option Addr} {l : List Int} (h : IRow w a l) {i : Nat} (hi : i < l.length) : ∃ b o, a = some ⟨b, o, none⟩ ∧ w.cell? ⟨b, o + i, none⟩ = some (vi (l.getD i 0)) := by
  rcases h with rfl | ⟨b, o, rfl, h⟩
  · simp at hi
  · exact ⟨b, o, rfl, h i hi⟩
theorem IRow.below {w w' : World} {a : Option Addr} {l : List Int} (h : IRow w a l) (q : Below w.heap.size w w') : IRow w' a l := by
  rcases h with h | ⟨b, o, rfl, h⟩
  · exact .inl h
  · exact .inr ⟨b, o, rfl, fun i hi => cell_below (h i hi) q⟩
/-- The first place of a number. -/
def idx (x : Int) : List Int → Nat → Int
  | [], _ => -1
  | y :: l, k => if x = y then (k : Int) else idx x l (k + 1)
theorem idx_drop {x : Int} {l : List Int} {k : Nat} (h : k < l.length) : idx x (l.drop k) k = if x = l.getD k 0 then (k : Int) else idx x (l.drop (k + 1)) (k + 1) := by
  rw [List.drop_eq_getElem_cons h, idx, List.getD_eq_getElem?_getD, List.getElem?_eq_getElem h]
  rfl
set_option maxHeartbeats 1000000 in
theorem Index_any (a : Option Addr) (l : List Int) (c : Nat) (x : Int) (w : World) (h : IRow w a l) (hl : l.length ≤ 1000000) : Calls Try.prog 127 #[.slice a l.length c, vi x] w fun e w' => e = .returned (vi (idx x l 0)) ∧ w' = w := by
  have H := Lib.hid h
  clear h
  go_enter Try.func127, Try.ntmps127
  go_wp2_with fail
  go_loop [8] (fun i => ∃ k : Nat, k ≤ l.length ∧ i = vi k ∧ Hid (idx x l 0 = idx x (l.drop k) k)) (fun i => l.length - (intOf i).toNat)
  case atStart => exact ⟨0, Nat.zero_le _, rfl, Lib.hid (by rw [List.drop_zero])⟩
  case round =>
    obtain ⟨k, hk, rfl, hd⟩ := hrel
    by_cases hlt : k < l.length
    · obtain ⟨b, o, rfl, hc⟩ := H.out.lookup hlt
      have hdr := idx_drop (x := x) hlt
      by_cases hx : x = l.getD k 0
      · rw [if_pos hx] at hdr
        have HF := Lib.hid (hd.out.trans hdr)
        rw [← hx] at hc
        clear hdr hx
        go_wp2_with fail
        go_ret
        exact ⟨ret_int HF.out.symm, rfl⟩
      · rw [if_neg hx] at hdr
        have HF := Lib.hid (hd.out.trans hdr)
        generalize l.getD k 0 = y at *
        have hxy : ((x : Int) == y) = false := by simp [hx]
        clear hdr
        go_wp2_with fail
        go_round
        case rel => exact ⟨k + 1, by omega, by go_num, HF⟩
        case measure => simp [intOf]; omega
    · obtain rfl : k = l.length := by omega
      have HF : Hid (idx x l 0 = -1) := Lib.hid (by rw [hd.out, List.drop_length]; rfl)
      go_wp2_with fail
      go_ret
      exact ⟨ret_int HF.out.symm, rfl⟩
theorem Contains_any (a : Option Addr) (l : List Int) (c : Nat) (x : Int) (w : World) (h : IRow w a l) (hl : l.length ≤ 1000000) : Calls Try.prog 103 #[.slice a l.length c, vi x] w fun e w' => e = .returned (.bool (decide (0 ≤ idx x l 0))) ∧ w' = w := by
  have H := Lib.hid h
  clear h
  go_enter Try.func103, Try.ntmps103
  go_wp2_with fail
  refine (Index_any a l c x w H.out hl).mono ?_
  rintro e w' ⟨rfl, rfl⟩
  generalize hn : idx x l 0 = n
  have HN := Lib.hid hn
  clear hn
  go_wp2_with fail
  go_ret
  exact ⟨ret_bool (by rw [HN.out]), rfl⟩

theorem sizes_idx (s : Int) : decide (0 ≤ idx s [64, 128, 256, 512] 0) = (s == 64 || s == 128 || s == 256 || s == 512) := by
  unfold idx idx idx idx idx
  by_cases h1 : s = 64
  · simp [h1]
  by_cases h2 : s = 128
  · simp [h2]
  by_cases h3 : s = 256
  · simp [h3]
  by_cases h4 : s = 512
  · simp [h4]
  simp [h1, h2, h3, h4]
set_option maxRecDepth 100000 in
set_option maxHeartbeats 4000000 in
theorem Right_any (b p s : Int) (w : World) : Calls Try.prog 77 #[.agg #[vi b, vi p, vi s]] w fun e w' => e = .returned (.bool (NP.rightB b p s)) ∧ Below w.heap.size w w' := by
  have h1 : Blk ((w.alloc (.cells #[vi b, vi p, vi s] 23)).alloc (.cells #[vi 64, vi 128, vi 256, vi 512] 133)) w.heap.size 23 #[vi b, vi p, vi s] := (Blk.new _ _ _).alloc _
  have h2 : Blk ((w.alloc (.cells #[vi b, vi p, vi s] 23)).alloc (.cells #[vi 64, vi 128, vi 256, vi 512] 133)) (w.heap.size + 1) 133 #[vi 64, vi 128, vi 256, vi 512] := by
    rw [← size_alloc w (.cells #[vi b, vi p, vi s] 23)]
    exact Blk.new _ _ _
  have HB : Hid (Below w.heap.size w ((w.alloc (.cells #[vi b, vi p, vi s] 23)).alloc (.cells #[vi 64, vi 128, vi 256, vi 512] 133))) := Lib.hid (((Below.refl _ _).alloc (Nat.le_refl _) _).alloc (by simp) _)
  go_enter Try.func77, Try.ntmps77
  go_wp2_with fail
  generalize (w.alloc (.cells #[vi b, vi p, vi s] 23)).alloc (.cells #[vi 64, vi 128, vi 256, vi 512] 133) = w2 at *
  have c0 : w2.cell? ⟨w.heap.size, 0, none⟩ = some (vi b) := h1.cell 0
  have c1 : w2.cell? ⟨w.heap.size, 1, none⟩ = some (vi p) := h1.cell 1
  have c2 : w2.cell? ⟨w.heap.size, 2, none⟩ = some (vi s) := h1.cell 2
  have hR : IRow w2 (some ⟨w.heap.size + 1, 0, none⟩) [64, 128, 256, 512] := .inr ⟨_, 0, rfl, fun i hi => by
    rw [h2.cell]
    match i, hi with
    | 0, _ => rfl
    | 1, _ => rfl
    | 2, _ => rfl
    | 3, _ => rfl⟩
  have HC : Hid (∀ n, Calls Try.prog 103 #[.slice (some ⟨w.heap.size + 1, 0, none⟩) 4 4, vi s] (w2.drewN n) fun e w' => e = .returned (.bool (s == 64 || s == 128 || s == 256 || s == 512)) ∧ w' = w2.drewN n) := Lib.hid fun n => by
    have := Contains_any (some ⟨w.heap.size + 1, 0, none⟩) [64, 128, 256, 512] 4 s (w2.drewN n) (hR.below (below_drewN (Below.refl _ _) n)) (by decide)
    rw [sizes_idx] at this
    exact this
  clear h1 h2 hR
  by_cases hb1 : 8 ≤ b
  · by_cases hb2 : b ≤ 128
    · by_cases hp1 : 4 ≤ p
      · by_cases hp2 : p ≤ 32
        · have HQ := Lib.hid (show NP.rightB b p s = (s == 64 || s == 128 || s == 256 || s == 512) by simp [NP.rightB, hb1, hb2, hp1, hp2])
          generalize (s == 64 || s == 128 || s == 256 || s == 512) = q at *
          go_quiet ((go_at_call 103; exact Calls.quiet_of_same (HC.out _)))
          go_wp2_with fail
          go_ret
          exact ⟨ret_bool (by rw [HQ.out]), below_drewN HB.out _⟩
        · have HQ := Lib.hid (show NP.rightB b p s = false by simp [NP.rightB, hp2])
          have hd : decide (p ≤ 32) = false := by simp [hp2]
          go_quiet (fail)
          go_wp2_with fail
          go_ret
          exact ⟨ret_bool (by rw [HQ.out]), below_drewN HB.out _⟩
      · have HQ := Lib.hid (show NP.rightB b p s = false by simp [NP.rightB, hp1])
        have hd : decide (4 ≤ p) = false := by simp [hp1]
        go_quiet (fail)
        go_wp2_with fail
        go_ret
        exact ⟨ret_bool (by rw [HQ.out]), below_drewN HB.out _⟩
    · have HQ := Lib.hid (show NP.rightB b p s = false by simp [NP.rightB, hb2])
      have hd : decide (b ≤ 128) = false := by simp [hb2]
      go_quiet (fail)
      go_wp2_with fail
      go_ret
      exact ⟨ret_bool (by rw [HQ.out]), below_drewN HB.out _⟩
  · have HQ := Lib.hid (show NP.rightB b p s = false by simp [NP.rightB, hb1])
    have hd : decide (8 ≤ b) = false := by simp [hb1]
    go_quiet (fail)
    go_wp2_with fail
    go_ret
    exact ⟨ret_bool (by rw [HQ.out]), below_drewN HB.out _⟩

end Go.Proofs.Ytpggkehfbhffbaa
