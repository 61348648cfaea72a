/-
  gc: may a block of a row be erased: for every row that is read.
-/
import Derived.Test.YthehkhondbphoaaGcG
import Derived.Test.YthehkhondbphoaaGcPlain
namespace Go.Proofs.Ythehkhondbphoaa
open Go.RowKit

def MayL (bs : List Blk) (p k : Int) : Bool := decide (0 ≤ k) && decide (k < bs.length) && RightL p bs && mayB (leastL bs) (bs.getD k.toNat default)

set_option maxHeartbeats 2000000 in
theorem May_any (v : Value) (bs : List Blk) (p k : Int) (w : World) (hrow : Row w v bs) :
    Calls Try.prog 18 #[v, vi p, vi k] w fun e w' => e = .returned (.bool (MayL bs p k)) ∧ Below w.heap.size w w' := by
  have HR := Lib.hid hrow
  obtain ⟨hlen, a, cap, rfl, -⟩ := hrow
  have HL := Lib.hid (show MayL bs p k = (decide (0 ≤ k) && decide (k < bs.length) && RightL p bs && mayB (leastL bs) (bs.getD k.toNat default)) from rfl)
  have hq := fun n : Sub w => Right_any _ bs p n.w (HR.out.below n.below)
  have hq2 := fun n : Sub w => Least_any _ bs n.w (HR.out.below n.below)
  go_enter Try.func18, Try.ntmps18
  go_wp2_with fail
  by_cases h0 : 0 ≤ k
  · obtain ⟨j, rfl⟩ : ∃ j : Nat, k = j := ⟨k.toNat, by omega⟩
    by_cases h1 : j < bs.length
    · cases hr : RightL p bs
      · rw [hr] at hq
        have HQ := Lib.hid hq
        clear hq hq2
        refine wp_region_sub (by kernel_rfl) (by kernel_rfl) ?_
        repeat (go_big_quiet_step (exact ext_of (HQ.out _)))
        refine wpQuiet_nil ?_
        rintro _ ⟨nq, rfl⟩
        have HB := Lib.hid nq.below
        go_wp2_with fail
        go_ret
        exact ⟨ret_bool (by rw [HL.out, hr]; simp), HB.out⟩
      · have hw := RightL_wear hr _ (getD_mem h1)
        have hlb := leastL_bd hr
        rw [hr] at hq
        obtain ⟨b, o, rfl, hx⟩ := HR.out.lookup h1
        have HL2 : Hid (MayL bs p j = mayB (leastL bs) (bs.getD j default)) := by show _ = _; rw [HL.out, hr]; simp [h1]
        have hq3 := fun n : Sub w => may_any (bs.getD j default) (leastL bs) n.w hw.1 hw.2 hlb.1 hlb.2
        generalize bs.getD j default = x at hx hq3 HL2
        generalize leastL bs = least at hq2 hq3 HL2
        have HQ := Lib.hid hq
        have HQ2 := Lib.hid hq2
        have HQ3 := Lib.hid hq3
        clear hq hq2 hq3 HL hr hw hlb
        have f0 := Sub.cell hx.1
        have f1 := Sub.cell hx.2.1
        have f2 := Sub.cell hx.2.2.1
        have f3 := Sub.cell hx.2.2.2
        clear hx
        have hj0 : (0 : Int) ≤ (j : Int) := by omega
        have hj1 : (j : Int) < (bs.length : Int) := by omega
        refine wp_region_sub (by kernel_rfl) (by kernel_rfl) ?_
        repeat (go_big_quiet_step (first | exact ext_of (HQ.out _) | exact ext_of (HQ2.out _) | exact ext_of (HQ3.out _)))
        refine wpQuiet_nil ?_
        rintro _ ⟨nq, rfl⟩
        have HB := Lib.hid nq.below
        go_wp2_with fail
        go_ret
        exact ⟨ret_bool (by rw [HL2.out]), HB.out⟩
    · have h1' : ¬ (j : Int) < (bs.length : Int) := by omega
      have h2 : decide ((j : Int) < (bs.length : Int)) = false := by simpa using h1'
      clear hq hq2
      refine wp_region_sub (by kernel_rfl) (by kernel_rfl) ?_
      repeat (go_big_quiet_step (fail))
      refine wpQuiet_nil ?_
      rintro _ ⟨nq, rfl⟩
      have HB := Lib.hid nq.below
      go_wp2_with fail
      go_ret
      exact ⟨ret_bool (by rw [HL.out, h2]; simp), HB.out⟩
  · have h2 : decide ((0 : Int) ≤ k) = false := by simpa using h0
    clear hq hq2
    refine wp_region_sub (by kernel_rfl) (by kernel_rfl) ?_
    repeat (go_big_quiet_step (fail))
    refine wpQuiet_nil ?_
    rintro _ ⟨nq, rfl⟩
    have HB := Lib.hid nq.below
    go_wp2_with fail
    go_ret
    exact ⟨ret_bool (by rw [HL.out, h2]; simp), HB.out⟩

end Go.Proofs.Ythehkhondbphoaa
