/-
  gc and its references: counts, sums, the greatest Wear, and may: for every row that is read.
-/
import Derived.Test.YthehkhondbphoaaGcH
import Derived.Test.YthehkhondbphoaaGcI
namespace Go.Proofs.Ythehkhondbphoaa
open Go.RowKit

def countL (state : Int) (bs : List Blk) : Nat := (bs.filter (fun x => x.s == state)).length
theorem countL_le (state : Int) (bs : List Blk) : countL state bs ≤ bs.length := List.length_filter_le _ _
theorem countL_take (state : Int) (bs : List Blk) (k : Nat) (h : k < bs.length) : countL state (bs.take (k + 1)) = countL state (bs.take k) + (if (bs.getD k default).s == state then 1 else 0) := by
  unfold countL
  rw [List.take_succ_eq_append_getElem h, List.filter_append, List.length_append, List.getD_eq_getElem?_getD, List.getElem?_eq_getElem h]
  cases hs : (bs[k].s == state) <;> simp [hs]
/-- The sum of Live as it comes: wrapped at each step. -/
def liveTo (bs : List Blk) : Nat → Int
  | 0 => 0
  | k + 1 => wrap64 (liveTo bs k + (bs.getD k default).l)
def liveL (bs : List Blk) : Int := liveTo bs bs.length

set_option maxHeartbeats 1000000 in
theorem Count_any (v : Value) (bs : List Blk) (state : Int) (w : World) (hrow : Row w v bs) :
    Calls Try.prog 27 #[v, vi state] w fun e w' => e = .returned (vi (countL state bs)) ∧ Below w.heap.size w w' := by
  have HR := Lib.hid hrow
  obtain ⟨hlen, a, cap, rfl, -⟩ := hrow
  go_enter Try.func27, Try.ntmps27
  go_wp2_with fail
  go_loopw [5, 10] (fun n i wr => ∃ k : Nat, k ≤ bs.length ∧ i = vi k ∧ n = vi (countL state (bs.take k)) ∧ Below w.heap.size w wr) (fun _ i _ => bs.length - (intOf i).toNat)
  case atStart => exact ⟨0, Nat.zero_le _, rfl, rfl, Below.refl _ _⟩
  case round =>
    obtain ⟨k, hk, rfl, rfl, hb⟩ := hrel
    by_cases hlt : k < bs.length
    · obtain ⟨b, o, rfl, hx⟩ := (HR.out.below hb).lookup hlt
      have hst := countL_take state bs k hlt
      have hle : countL state (bs.take k) ≤ k := Nat.le_trans (countL_le _ _) (by simp; omega)
      generalize bs.getD k default = x at hx hst
      generalize countL state (bs.take k) = c at hst hle ⊢
      obtain ⟨g0, g1, g2, g3⟩ := hx
      have Hst := Lib.hid hst
      clear hst
      cases hs : (x.s == state)
      all_goals
        go_wp2_with fail
        go_roundw
        case rel => exact ⟨k + 1, by omega, by go_num, by rw [Hst.out, hs]; simp, hb.alloc hb.size _⟩
        case measure => simp [intOf]; omega
    · go_wp2_with fail
      go_ret
      obtain rfl : k = bs.length := by omega
      exact ⟨ret_int (by rw [List.take_length]), hb⟩

set_option maxHeartbeats 1000000 in
theorem RCount_any (v : Value) (bs : List Blk) (state : Int) (w : World) (hrow : Row w v bs) :
    Calls Try.prog 28 #[v, vi state] w fun e w' => e = .returned (vi (countL state bs)) ∧ Below w.heap.size w w' := by
  have HR := Lib.hid hrow
  obtain ⟨hlen, a, cap, rfl, -⟩ := hrow
  go_enter Try.func28, Try.ntmps28
  go_wp2_with fail
  go_loop [5, 6] (fun n i => ∃ k : Nat, k ≤ bs.length ∧ i = vi k ∧ n = vi (countL state (bs.take k))) (fun _ i => bs.length - (intOf i).toNat)
  case atStart => exact ⟨0, Nat.zero_le _, rfl, rfl⟩
  case round =>
    obtain ⟨k, hk, rfl, rfl⟩ := hrel
    by_cases hlt : k < bs.length
    · obtain ⟨b, o, rfl, hx⟩ := HR.out.lookup hlt
      have hst := countL_take state bs k hlt
      have hle : countL state (bs.take k) ≤ k := Nat.le_trans (countL_le _ _) (by simp; omega)
      generalize bs.getD k default = x at hx hst
      generalize countL state (bs.take k) = c at hst hle ⊢
      obtain ⟨g0, g1, g2, g3⟩ := hx
      have Hst := Lib.hid hst
      clear hst
      cases hs : (x.s == state)
      all_goals
        go_wp2_with fail
        go_round
        case rel => exact ⟨k + 1, by omega, by go_num, by rw [Hst.out, hs]; simp⟩
        case measure => simp [intOf]; omega
    · go_wp2_with fail
      go_ret
      obtain rfl : k = bs.length := by omega
      exact ⟨ret_int (by rw [List.take_length]), Below.refl _ _⟩

set_option maxHeartbeats 1000000 in
theorem Live_any (v : Value) (bs : List Blk) (w : World) (hrow : Row w v bs) :
    Calls Try.prog 29 #[v] w fun e w' => e = .returned (vi (liveL bs)) ∧ Below w.heap.size w w' := by
  have HR := Lib.hid hrow
  obtain ⟨hlen, a, cap, rfl, -⟩ := hrow
  go_enter Try.func29, Try.ntmps29
  go_wp2_with fail
  go_loopw [3, 8] (fun n i wr => ∃ k : Nat, k ≤ bs.length ∧ i = vi k ∧ n = vi (liveTo bs k) ∧ Below w.heap.size w wr) (fun _ i _ => bs.length - (intOf i).toNat)
  case atStart => exact ⟨0, Nat.zero_le _, rfl, rfl, Below.refl _ _⟩
  case round =>
    obtain ⟨k, hk, rfl, rfl, hb⟩ := hrel
    by_cases hlt : k < bs.length
    · obtain ⟨b, o, rfl, hx⟩ := (HR.out.below hb).lookup hlt
      have Hst := Lib.hid (show liveTo bs (k + 1) = wrap64 (liveTo bs k + (bs.getD k default).l) from rfl)
      generalize bs.getD k default = x at hx Hst
      generalize liveTo bs k = c at Hst ⊢
      obtain ⟨g0, g1, g2, g3⟩ := hx
      go_wp2_with fail
      go_roundw
      case rel => exact ⟨k + 1, by omega, by go_num, by rw [Hst.out], hb.alloc hb.size _⟩
      case measure => simp [intOf]; omega
    · go_wp2_with fail
      go_ret
      obtain rfl : k = bs.length := by omega
      exact ⟨rfl, hb⟩

set_option maxHeartbeats 1000000 in
theorem RLive_any (v : Value) (bs : List Blk) (w : World) (hrow : Row w v bs) :
    Calls Try.prog 30 #[v] w fun e w' => e = .returned (vi (liveL bs)) ∧ Below w.heap.size w w' := by
  have HR := Lib.hid hrow
  obtain ⟨hlen, a, cap, rfl, -⟩ := hrow
  go_enter Try.func30, Try.ntmps30
  go_wp2_with fail
  go_loop [3, 4] (fun n i => ∃ k : Nat, k ≤ bs.length ∧ i = vi k ∧ n = vi (liveTo bs k)) (fun _ i => bs.length - (intOf i).toNat)
  case atStart => exact ⟨0, Nat.zero_le _, rfl, rfl⟩
  case round =>
    obtain ⟨k, hk, rfl, rfl⟩ := hrel
    by_cases hlt : k < bs.length
    · obtain ⟨b, o, rfl, hx⟩ := HR.out.lookup hlt
      have Hst := Lib.hid (show liveTo bs (k + 1) = wrap64 (liveTo bs k + (bs.getD k default).l) from rfl)
      generalize bs.getD k default = x at hx Hst
      generalize liveTo bs k = c at Hst ⊢
      obtain ⟨g0, g1, g2, g3⟩ := hx
      go_wp2_with fail
      go_round
      case rel => exact ⟨k + 1, by omega, by go_num, by rw [Hst.out]⟩
      case measure => simp [intOf]; omega
    · go_wp2_with fail
      go_ret
      obtain rfl : k = bs.length := by omega
      exact ⟨rfl, Below.refl _ _⟩

/-- The references' greatest Wear, as they find it. -/
def rGreatTo (bs : List Blk) : Nat → Int × Bool
  | 0 => (0, false)
  | k + 1 => if goodB (bs.getD k default) && (!(rGreatTo bs k).2 || decide ((rGreatTo bs k).1 < (bs.getD k default).r)) then ((bs.getD k default).r, true) else rGreatTo bs k
theorem rGreatTo_eq (bs : List Blk) (k : Nat) : rGreatTo bs k = if bestTo goodB moreB bs k < 0 then (0, false) else ((bs.getD (bestTo goodB moreB bs k).toNat default).r, true) := by
  induction k with
  | zero => rfl
  | succ k ih =>
    have hb := bestTo_bd goodB moreB bs k
    unfold rGreatTo bestTo
    rw [ih]
    by_cases h0 : bestTo goodB moreB bs k < 0
    · cases hg : goodB (bs.getD k default)
      · simp [h0]
      · simp [h0]
    · cases hg : goodB (bs.getD k default)
      · simp [h0]
      · simp only [h0, if_false, Bool.not_true, Bool.false_or, Bool.true_and, decide_false, moreB]
        split
        · rw [if_neg (by omega)]; simp
        · rfl
theorem rGreat_eq (bs : List Blk) : (rGreatTo bs bs.length).1 = greatestL bs := by
  unfold greatestL wearAt best
  rw [rGreatTo_eq]
  split <;> rfl

set_option maxHeartbeats 1000000 in
theorem RGreatest_any (v : Value) (bs : List Blk) (w : World) (hrow : Row w v bs) :
    Calls Try.prog 26 #[v] w fun e w' => e = .returned (vi (greatestL bs)) ∧ Below w.heap.size w w' := by
  have HR := Lib.hid hrow
  obtain ⟨hlen, a, cap, rfl, -⟩ := hrow
  go_enter Try.func26, Try.ntmps26
  go_wp2_with fail
  go_loop [3, 4, 5] (fun n f i => ∃ k : Nat, k ≤ bs.length ∧ i = vi k ∧ n = vi (rGreatTo bs k).1 ∧ f = .bool (rGreatTo bs k).2) (fun _ _ i => bs.length - (intOf i).toNat)
  case atStart => exact ⟨0, Nat.zero_le _, rfl, rfl, rfl⟩
  case round =>
    obtain ⟨k, hk, rfl, rfl, rfl⟩ := hrel
    by_cases hlt : k < bs.length
    · obtain ⟨b, o, rfl, hx⟩ := HR.out.lookup hlt
      have hd : rGreatTo bs (k + 1) = if goodB (bs.getD k default) && (!(rGreatTo bs k).2 || decide ((rGreatTo bs k).1 < (bs.getD k default).r)) then ((bs.getD k default).r, true) else rGreatTo bs k := rfl
      generalize bs.getD k default = x at hx hd
      generalize rGreatTo bs k = q at hd ⊢
      obtain ⟨q, f⟩ := q
      dsimp only at hd ⊢
      obtain ⟨g0, g1, g2, g3⟩ := hx
      have Hd := Lib.hid hd
      clear hd g1 g3
      by_cases h1 : (x.s != 4) = true
      · cases f
        · go_wp2_with fail
          go_round
          case rel => exact ⟨k + 1, by omega, by go_num, by rw [Hd.out]; simp [goodB, h1], by rw [Hd.out]; simp [goodB, h1]⟩
          case measure => simp [intOf]; omega
        · by_cases h2 : q < x.r
          all_goals
            go_wp2_with fail
            go_round
            case rel => exact ⟨k + 1, by omega, by go_num, by rw [Hd.out]; simp [goodB, h1, h2], by rw [Hd.out]; simp [goodB, h1, h2]⟩
            case measure => simp [intOf]; omega
      · have h1' : (x.s != 4) = false := by simpa using h1
        go_wp2_with fail
        go_round
        case rel => exact ⟨k + 1, by omega, by go_num, by rw [Hd.out]; simp [goodB, h1'], by rw [Hd.out]; simp [goodB, h1']⟩
        case measure => simp [intOf]; omega
    · go_wp2_with fail
      go_ret
      obtain rfl : k = bs.length := by omega
      exact ⟨ret_int (rGreat_eq bs), Below.refl _ _⟩

set_option maxHeartbeats 2000000 in
/-- Of any row and any place. -/
theorem RMay_all (v : Value) (bs : List Blk) (p k : Int) (w : World) (hrow : Row w v bs) :
    Calls Try.prog 31 #[v, vi p, vi k] w fun e w' => e = .returned (.bool (MayL bs p k)) ∧ Below w.heap.size w w' := by
  have HL := Lib.hid (show MayL bs p k = (decide (0 ≤ k) && decide (k < bs.length) && RightL p bs && mayB (leastL bs) (bs.getD k.toNat default)) from rfl)
  have HR := Lib.hid hrow
  cases hr : RightL p bs
  · obtain ⟨hlen, a, cap, rfl, -⟩ := hrow
    have hq := fun n : Sub w => RRight_any _ bs p n.w (HR.out.below n.below)
    rw [hr] at hq
    have HQ := Lib.hid hq
    have Hr := Lib.hid hr
    clear hq hr
    go_enter Try.func31, Try.ntmps31
    go_wp2_with fail
    refine wp_region_sub (by kernel_rfl) (by kernel_rfl) ?_
    repeat (go_big_quiet_step (exact ext_of (HQ.out _)))
    refine wpQuiet_nil ?_
    rintro _ ⟨nq, rfl⟩
    have HB := Lib.hid nq.below
    go_wp2_with fail
    go_ret
    exact ⟨ret_bool (by rw [HL.out, Hr.out]; simp), HB.out⟩
  · by_cases h0 : 0 ≤ k
    · obtain ⟨j, rfl⟩ : ∃ j : Nat, k = j := ⟨k.toNat, by omega⟩
      by_cases h1 : j < bs.length
      · refine (RMay_any v bs p j w hrow hr h1).mono ?_
        rintro e w' ⟨rfl, hb⟩
        exact ⟨ret_bool (by rw [HL.out, hr]; simp [h1]), hb⟩
      · obtain ⟨hlen, a, cap, rfl, -⟩ := hrow
        have hq := fun n : Sub w => RRight_any _ bs p n.w (HR.out.below n.below)
        rw [hr] at hq
        have HQ := Lib.hid hq
        clear hq hr
        have h1' : decide ((j : Int) < (bs.length : Int)) = false := decide_eq_false (by omega)
        go_enter Try.func31, Try.ntmps31
        go_wp2_with fail
        refine wp_region_sub (by kernel_rfl) (by kernel_rfl) ?_
        repeat (go_big_quiet_step (exact ext_of (HQ.out _)))
        refine wpQuiet_nil ?_
        rintro _ ⟨nq, rfl⟩
        have HB := Lib.hid nq.below
        go_wp2_with fail
        go_ret
        exact ⟨ret_bool (by rw [HL.out, h1']; simp), HB.out⟩
    · obtain ⟨hlen, a, cap, rfl, -⟩ := hrow
      have hq := fun n : Sub w => RRight_any _ bs p n.w (HR.out.below n.below)
      rw [hr] at hq
      have HQ := Lib.hid hq
      clear hq hr
      have h0' : decide ((0 : Int) ≤ k) = false := decide_eq_false h0
      go_enter Try.func31, Try.ntmps31
      go_wp2_with fail
      refine wp_region_sub (by kernel_rfl) (by kernel_rfl) ?_
      repeat (go_big_quiet_step (exact ext_of (HQ.out _)))
      refine wpQuiet_nil ?_
      rintro _ ⟨nq, rfl⟩
      have HB := Lib.hid nq.below
      go_wp2_with fail
      go_ret
      exact ⟨ret_bool (by rw [HL.out, h0']; simp), HB.out⟩

end Go.Proofs.Ythehkhondbphoaa
