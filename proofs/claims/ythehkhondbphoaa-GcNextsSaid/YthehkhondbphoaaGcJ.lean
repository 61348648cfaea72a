/-
  The references of gc: rank and ahead: for every row that is read.
-/
import Derived.Test.YthehkhondbphoaaGcI
namespace Go.Proofs.Ythehkhondbphoaa
open Go.RowKit

def rankB (least p : Int) (room : Bool) (x : Blk) : Int :=
  if x.s == 3 && mayB least x then 1
  else if x.s == 2 && room && mayB least x && decide (x.l < p) then 2
  else if x.r == least && (x.s == 0 || x.s == 1 && x.n == 0) then 3
  else if x.s == 2 && room && x.r == least then 4
  else if x.s == 3 then 5
  else if x.s == 2 && room && decide (x.l < p) then 6
  else 0

set_option maxHeartbeats 4000000 in
/-- Of a right row and a place of it. -/
theorem rank_any (v : Value) (bs : List Blk) (p : Int) (j : Nat) (room : Bool) (w : World) (hrow : Row w v bs) (hr : RightL p bs = true) (h1 : j < bs.length) :
    Calls Try.prog 45 #[v, vi p, vi j, .bool room] w fun e w' => e = .returned (vi (rankB (leastL bs) p room (bs.getD j default))) ∧ Below w.heap.size w w' := by
  have HR := Lib.hid hrow
  obtain ⟨hlen, a, cap, rfl, -⟩ := hrow
  obtain ⟨b, o, rfl, hx⟩ := HR.out.lookup h1
  have hq := fun (W : World) (h : Below w.heap.size w W) => RMay_any _ bs p j W (HR.out.below h) hr h1
  generalize bs.getD j default = x at hx hq
  obtain ⟨g0, g1, g2, g3⟩ := hx
  obtain ⟨W, hW⟩ : ∃ W : World, W = w.alloc (.cells #[vi x.s, vi x.l, vi x.r, vi x.n] 34) := ⟨_, rfl⟩
  have hb0 : Below w.heap.size w W := by rw [hW]; exact (Below.refl _ _).alloc (Nat.le_refl _) _
  have hq2 := fun n : Sub W => RLeast_any _ bs n.w (HR.out.below (hb0.trans (n.below.mono hb0.size)))
  generalize leastL bs = least at hq hq2
  have HQ := Lib.hid hq
  have HQ2 := Lib.hid hq2
  clear hq hq2 hr
  have f2 : ∀ n : Sub W, n.w.cell? ⟨w.heap.size, 2, none⟩ = some (vi x.r) := Sub.cell (by rw [hW]; simp)
  have hj0 : (0 : Int) ≤ (j : Int) := by omega
  have hj1 : (j : Int) < (bs.length : Int) := by omega
  go_enter Try.func45, Try.ntmps45
  go_wp2_with fail
  rw [← hW]
  refine wp_region_sub (by kernel_rfl) (by kernel_rfl) ?_
  repeat (go_big_quiet_step (exact ext_of (HQ2.out _)))
  refine wpQuiet_nil ?_
  rintro _ ⟨nq, rfl⟩
  have hnb := nq.below
  generalize nq.w = w1 at hnb ⊢
  rw [hW] at hnb
  obtain ⟨⟨c0, c1, c2, c3⟩, hb1⟩ := box4 x 34 hnb
  have HB := Lib.hid hb1
  clear hnb hb1 f2 g0 g1 g2 g3 hW hb0 HQ2
  have HD := Lib.hid (show rankB least p room x = if x.s == 3 && mayB least x then 1
  else if x.s == 2 && room && mayB least x && decide (x.l < p) then 2
  else if x.r == least && (x.s == 0 || x.s == 1 && x.n == 0) then 3
  else if x.s == 2 && room && x.r == least then 4
  else if x.s == 3 then 5
  else if x.s == 2 && room && decide (x.l < p) then 6
  else 0 from rfl)
  by_cases s3 : (x.s == 3) = true
  · have s2 : (x.s == 2) = false := by simp at s3 ⊢; omega
    have s0 : (x.s == 0) = false := by simp at s3 ⊢; omega
    have s1 : (x.s == 1) = false := by simp at s3 ⊢; omega
    go_wp2_with fail
    refine (HQ.out _ HB.out).mono ?_
    rintro e w2 ⟨rfl, hb2⟩
    have d0 := cell_below c0 hb2
    have HB2 := Lib.hid (HB.out.trans (hb2.mono HB.out.size))
    clear hb2 c0 c1 c2 c3
    cases hm : mayB least x
    · have Hm := Lib.hid hm
      clear hm
      cases hl : (x.r == least)
      all_goals
        go_wp2_with fail
        go_ret
        exact ⟨ret_int (by rw [HD.out, s3, s2, s0, s1, Hm.out]; simp), HB2.out⟩
    · have Hm := Lib.hid hm
      clear hm
      go_wp2_with fail
      go_ret
      exact ⟨ret_int (by rw [HD.out, s3, Hm.out]; simp), HB2.out⟩
  have s3' : (x.s == 3) = false := by simpa using s3
  clear s3
  by_cases s2 : (x.s == 2) = true
  · have s0 : (x.s == 0) = false := by simp at s2 ⊢; omega
    have s1 : (x.s == 1) = false := by simp at s2 ⊢; omega
    cases room
    · cases hl : (x.r == least)
      all_goals
        go_wp2_with fail
        go_ret
        exact ⟨ret_int (by rw [HD.out, s3', s2, s0, s1]; simp), HB.out⟩
    · go_wp2_with fail
      refine (HQ.out _ HB.out).mono ?_
      rintro e w2 ⟨rfl, hb2⟩
      have d0 := cell_below c0 hb2
      have d1 := cell_below c1 hb2
      have HB2 := Lib.hid (HB.out.trans (hb2.mono HB.out.size))
      clear hb2 c0 c1 c2 c3
      cases hm : mayB least x
      all_goals
        have Hm := Lib.hid hm
        clear hm
        obtain ⟨c, hc⟩ : ∃ c, decide (x.l < p) = c := ⟨_, rfl⟩
        have HC := Lib.hid hc
        clear hc
        cases c
        · have hlp : ¬ x.l < p := by simpa using HC.out
          cases hl : (x.r == least)
          all_goals
            go_wp2_with fail
            go_ret
            exact ⟨ret_int (by rw [HD.out, s3', s2, s0, s1, Hm.out, hl, HC.out]; simp), HB2.out⟩
        · have hlp : x.l < p := by simpa using HC.out
          cases hl : (x.r == least)
          all_goals
            go_wp2_with fail
            go_ret
            exact ⟨ret_int (by rw [HD.out, s3', s2, s0, s1, Hm.out, hl, HC.out]; simp), HB2.out⟩
  have s2' : (x.s == 2) = false := by simpa using s2
  clear s2
  cases hl : (x.r == least)
  · go_wp2_with fail
    go_ret
    exact ⟨ret_int (by rw [HD.out, s3', s2', hl]; simp), HB.out⟩
  · by_cases s0 : (x.s == 0) = true
    · go_wp2_with fail
      go_ret
      exact ⟨ret_int (by rw [HD.out, s3', s2', hl, s0]; simp), HB.out⟩
    have s0' : (x.s == 0) = false := by simpa using s0
    clear s0
    cases s1 : (x.s == 1)
    · go_wp2_with fail
      go_ret
      exact ⟨ret_int (by rw [HD.out, s3', s2', hl, s0', s1]; simp), HB.out⟩
    · cases hn : (x.n == 0)
      all_goals
        go_wp2_with fail
        go_ret
        exact ⟨ret_int (by rw [HD.out, s3', s2', hl, s0', s1, hn]; simp), HB.out⟩

def aheadB (n : Int) (x y : Blk) : Bool :=
  if n == 3 then false
  else if (n == 2 || n == 4 || n == 6) && x.l != y.l then decide (x.l < y.l)
  else decide (x.r < y.r)

set_option maxHeartbeats 2000000 in
theorem ahead_any (x y : Blk) (n : Int) (w : World) (hn1 : 1 ≤ n) (hn6 : n ≤ 6) :
    Calls Try.prog 46 #[x.v, y.v, vi n] w fun e w' => e = .returned (.bool (aheadB n x y)) ∧ Below w.heap.size w w' := by
  have HD := Lib.hid (show aheadB n x y = if n == 3 then false
    else if (n == 2 || n == 4 || n == 6) && x.l != y.l then decide (x.l < y.l) else decide (x.r < y.r) from rfl)
  have hb := ((Below.refl w.heap.size w).alloc (Nat.le_refl _) (.cells #[vi x.s, vi x.l, vi x.r, vi x.n] 34)).alloc (by simp) (.cells #[vi y.s, vi y.l, vi y.r, vi y.n] 34)
  have HB := Lib.hid hb
  clear hb
  have hn : n = 1 ∨ n = 2 ∨ n = 3 ∨ n = 4 ∨ n = 5 ∨ n = 6 := by omega
  rcases hn with rfl | rfl | rfl | rfl | rfl | rfl
  all_goals
    cases hl : (x.l != y.l)
    all_goals
      go_enter Try.func46, Try.ntmps46
      go_wp2_with fail
      go_ret
      exact ⟨ret_bool (by rw [HD.out, hl]; simp), HB.out⟩

end Go.Proofs.Ythehkhondbphoaa
