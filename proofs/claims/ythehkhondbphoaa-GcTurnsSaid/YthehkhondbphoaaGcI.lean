/-
  The references of gc: right, may, rank, ahead: for every row that is read.
-/
import Derived.Test.YthehkhondbphoaaGcG
import Derived.Test.YthehkhondbphoaaGcPlain
namespace Go.Proofs.Ythehkhondbphoaa
open Go.RowKit

theorem rightB_iff (p : Int) (x : Blk) : rightB p x = true ↔ (0 ≤ x.s ∧ x.s ≤ 4 ∧ 0 ≤ x.l ∧ x.l ≤ p ∧ 0 ≤ x.n ∧ x.n ≤ p ∧ 0 ≤ x.r ∧ x.r ≤ 1099511627776 ∧ (x.l = 0 ∨ x.s = 1 ∨ x.s = 2)) := by
  simp only [rightB]
  simp
  omega

set_option maxHeartbeats 2000000 in
theorem RRight_any (v : Value) (bs : List Blk) (p : Int) (w : World) (hrow : Row w v bs) :
    Calls Try.prog 23 #[v, vi p] w fun e w' => e = .returned (.bool (RightL p bs)) ∧ Below w.heap.size w w' := by
  have HR := Lib.hid hrow
  obtain ⟨hlen, a, cap, rfl, -⟩ := hrow
  go_enter Try.func23, Try.ntmps23
  by_cases h1 : p < 1
  · go_wp2_with fail
    go_ret
    exact ⟨ret_bool (by simp [RightL, h1]), Below.refl _ _⟩
  by_cases h2 : 32 < p
  · go_wp2_with fail
    go_ret
    exact ⟨ret_bool (by simp [RightL, h2]), Below.refl _ _⟩
  go_wp2_with fail
  go_loopw [5] (fun i wr => ∃ k : Nat, k ≤ bs.length ∧ i = vi k ∧ (bs.take k).all (rightB p) = true ∧ Below w.heap.size w wr) (fun i _ => bs.length - (intOf i).toNat)
  case atStart => exact ⟨0, Nat.zero_le _, rfl, by simp, Below.refl _ _⟩
  case round =>
    obtain ⟨k, hk, rfl, hall, hb⟩ := hrel
    by_cases hlt : k < bs.length
    · obtain ⟨b, o, rfl, hx⟩ := (HR.out.below hb).lookup hlt
      have hst := all_take_succ (rightB p) bs default k hlt
      rw [hall] at hst
      have hno := all_of_not (rightB p) bs default k hlt
      clear hall
      generalize bs.getD k default = x at hx hst hno
      obtain ⟨g0, g1, g2, g3⟩ := hx
      have Hst := Lib.hid hst
      have Hno := Lib.hid hno
      clear hst hno
      have Hx := Lib.hid (rightB_iff p x)
      go_wp2_with fail
      all_goals first
        | (go_ret; exact ⟨ret_bool (by rw [RightL, Hno.out (by rw [Bool.eq_false_iff, ne_eq, Hx.out]; (try simp only [bne_iff_ne, ne_eq] at *); omega)]; simp), hb.alloc hb.size _⟩)
        | (go_roundw
           case rel => exact ⟨k + 1, by omega, by go_num, by rw [Hst.out, Bool.true_and, Hx.out]; (try simp only [bne_eq_false_iff_eq] at *); omega, hb.alloc hb.size _⟩
           case measure => simp [intOf]; omega)
    · go_wp2_with fail
      go_ret
      obtain rfl : k = bs.length := by omega
      rw [List.take_length] at hall
      exact ⟨ret_bool (by simp [RightL, h1, h2, hall]), hb⟩

def rmayB (least : Int) (x : Blk) : Bool := x.s != 4 && decide (x.r < least + 4)
theorem rmayB_eq (least : Int) (x : Blk) : rmayB least x = mayB least x := by
  unfold rmayB mayB
  congr 1
  rw [Bool.eq_iff_iff]
  simp
  omega

set_option maxHeartbeats 2000000 in
/-- Of a right row and a place of it. -/
theorem RMay_any (v : Value) (bs : List Blk) (p : Int) (j : Nat) (w : World) (hrow : Row w v bs) (hr : RightL p bs = true) (h1 : j < bs.length) :
    Calls Try.prog 31 #[v, vi p, vi j] w fun e w' => e = .returned (.bool (mayB (leastL bs) (bs.getD j default))) ∧ Below w.heap.size w w' := by
  have HR := Lib.hid hrow
  obtain ⟨hlen, a, cap, rfl, -⟩ := hrow
  have hq := fun n : Sub w => RRight_any _ bs p n.w (HR.out.below n.below)
  have hq2 := fun n : Sub w => RLeast_any _ bs n.w (HR.out.below n.below)
  rw [hr] at hq
  have hlb := leastL_bd hr
  have hw := RightL_wear hr _ (getD_mem h1)
  obtain ⟨b, o, rfl, hx⟩ := HR.out.lookup h1
  generalize bs.getD j default = x at hx hw
  generalize leastL bs = least at hq2 hlb
  have HL := Lib.hid (rmayB_eq least x)
  have HQ := Lib.hid hq
  have HQ2 := Lib.hid hq2
  obtain ⟨w1, w2⟩ := hw
  clear hq hq2 hr
  have f0 := Sub.cell hx.1
  have f2 := Sub.cell hx.2.2.1
  clear hx
  have hj0 : (0 : Int) ≤ (j : Int) := by omega
  have hj1 : (j : Int) < (bs.length : Int) := by omega
  have hwr : IntKind.i64.wrap (least + 4) = least + 4 := IntWalk.i64_in _ (by omega)
  go_enter Try.func31, Try.ntmps31
  go_wp2_with fail
  by_cases hs : (x.s != 4) = true
  · refine wp_region_sub (by kernel_rfl) (by kernel_rfl) ?_
    repeat (go_big_quiet_step (first | exact ext_of (HQ.out _) | exact ext_of (HQ2.out _)))
    refine wpQuiet_nil ?_
    rintro _ ⟨nq, rfl⟩
    have HB := Lib.hid nq.below
    go_wp2_with fail
    go_ret
    exact ⟨ret_bool (by rw [← HL.out, rmayB, hs]; simp), HB.out⟩
  · have hs' : (x.s != 4) = false := by simpa using hs
    refine wp_region_sub (by kernel_rfl) (by kernel_rfl) ?_
    repeat (go_big_quiet_step (first | exact ext_of (HQ.out _) | exact ext_of (HQ2.out _)))
    refine wpQuiet_nil ?_
    rintro _ ⟨nq, rfl⟩
    have HB := Lib.hid nq.below
    go_wp2_with fail
    go_ret
    exact ⟨ret_bool (by rw [← HL.out, rmayB, hs']; simp), HB.out⟩

end Go.Proofs.Ythehkhondbphoaa
