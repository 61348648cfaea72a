/-
  gc: an action is followed: for every row of at most 4096 blocks.
-/
import Derived.Test.YthehkhondbphoaaGcM
import Derived.Test.YthehkhondbphoaaGcPlain
import Derived.Test.YthehkhondbphoaaGcI
import Derived.StillTailTactics
namespace Go.Proofs.Ythehkhondbphoaa
open Go.RowKit

/-- What is refused. -/
def refusesB (bs : List Blk) (p kind block : Int) : Bool :=
  !RightL p bs || decide (kind < 1) || decide (4 < kind) || decide (block < 0) || decide ((bs.length : Int) ≤ block) || !goodB (bs.getD block.toNat default)
def followL (bs : List Blk) (block : Nat) : List Blk := bs.set block ⟨0, 0, (bs.getD block default).r + 1, 0⟩

theorem cellsOf_set (bs : List Blk) (k : Nat) (x : Blk) (hk : k < bs.length) :
    cellsOf (bs.set k x) = ((((cellsOf bs).set (k * 4) (vi x.s)).set (k * 4 + 1) (vi x.l)).set (k * 4 + 2) (vi x.r)).set (k * 4 + 3) (vi x.n) := by
  induction bs generalizing k with
  | nil => simp at hk
  | cons y bs ih =>
    have e : ∀ (z : Blk) (l : List Blk), cellsOf (z :: l) = vi z.s :: vi z.l :: vi z.r :: vi z.n :: cellsOf l := fun z l => by simp [cellsOf, Blk.cells4]
    cases k with
    | zero => rw [List.set_cons_zero, e, e]; simp
    | succ k =>
      rw [List.set_cons_succ, e, e, ih k (by simpa using hk), show (k + 1) * 4 = k * 4 + 4 from by omega]
      simp [List.set_cons_succ]

theorem refuse_cases {bs : List Blk} {p kind block : Int} (h : refusesB bs p kind block = true) :
    RightL p bs = false ∨ (RightL p bs = true ∧ (kind < 1 ∨ (1 ≤ kind ∧ (4 < kind ∨ (kind ≤ 4 ∧ (block < 0 ∨ (0 ≤ block ∧ ((bs.length : Int) ≤ block ∨ (block < bs.length ∧ goodB (bs.getD block.toNat default) = false))))))))) := by
  simp only [refusesB, Bool.or_eq_true, Bool.not_eq_true', decide_eq_true_eq] at h
  cases hr : RightL p bs
  · exact .inl rfl
  · right
    refine ⟨rfl, ?_⟩
    rw [hr] at h
    simp only [Bool.true_eq_false, false_or] at h
    by_cases h1 : kind < 1
    · exact .inl h1
    by_cases h4 : 4 < kind
    · exact .inr ⟨by omega, .inl h4⟩
    by_cases hb : block < 0
    · exact .inr ⟨by omega, .inr ⟨by omega, .inl hb⟩⟩
    by_cases hl : (bs.length : Int) ≤ block
    · exact .inr ⟨by omega, .inr ⟨by omega, .inr ⟨by omega, .inl hl⟩⟩⟩
    · rcases h with (((h | h) | h) | h) | h
      · exact absurd h h1
      · exact absurd h h4
      · exact absurd h hb
      · exact absurd h hl
      · exact .inr ⟨by omega, .inr ⟨by omega, .inr ⟨by omega, .inr ⟨by omega, h⟩⟩⟩⟩

set_option maxHeartbeats 4000000 in
theorem Follow_no (v : Value) (bs : List Blk) (p kind block : Int) (w : World) (hrow : Row w v bs) (h : refusesB bs p kind block = true) :
    Calls Try.prog 19 #[v, vi p, vact (kind, block)] w fun e w' => e = .returned (.tuple #[.slice none 0 0, vi 1]) ∧ Below w.heap.size w w' := by
  have HR := Lib.hid hrow
  obtain ⟨hlen, a, cap, rfl, -⟩ := hrow
  have hb0 : Below w.heap.size w (w.alloc (.cells #[vi kind, vi block] 28)) := (Below.refl _ _).alloc (Nat.le_refl _) _
  have hc := refuse_cases h
  clear h
  have HB0 := Lib.hid hb0
  clear hb0
  rcases hc with hr | ⟨hr, hc⟩
  · go_enter Try.func19, Try.ntmps19
    go_wp2_with fail
    refine (Right_any _ bs p _ (HR.out.below HB0.out)).mono ?_
    rw [hr]
    rintro e w1 ⟨rfl, hb1⟩
    have HB := Lib.hid (HB0.out.trans (hb1.mono HB0.out.size))
    clear hb1 hr
    go_wp2_with fail
    go_ret2
    exact ⟨rfl, HB.out⟩
  · have Hc := Lib.hid hc
    clear hc
    go_enter Try.func19, Try.ntmps19
    go_wp2_with fail
    refine (Right_any _ bs p _ (HR.out.below HB0.out)).mono ?_
    rw [hr]
    rintro e w1 ⟨rfl, hb1⟩
    obtain ⟨⟨c0, c1, _⟩, _⟩ := box2 hb1
    have HB := Lib.hid (HB0.out.trans (hb1.mono HB0.out.size))
    clear hb1 hr HB0
    rcases Hc.out with hk | ⟨hk, hc⟩
    · go_wp2_with fail
      go_ret2
      exact ⟨rfl, HB.out⟩
    rcases hc with hk4 | ⟨hk4, hc⟩
    · go_wp2_with fail
      go_ret2
      exact ⟨rfl, HB.out⟩
    rcases hc with hb | ⟨hb, hc⟩
    · go_wp2_with fail
      go_ret2
      exact ⟨rfl, HB.out⟩
    rcases hc with hbl | ⟨hbl, hg⟩
    · go_wp2_with fail
      go_ret2
      exact ⟨rfl, HB.out⟩
    obtain ⟨j, rfl⟩ : ∃ j : Nat, block = j := ⟨block.toNat, by omega⟩
    obtain ⟨b, o, rfl, hx⟩ := (HR.out.below HB.out).lookup (k := j) (by omega)
    simp only [Int.toNat_natCast] at hg
    generalize bs.getD j default = x at hx hg
    obtain ⟨g0, g1, g2, g3⟩ := hx
    have hj1 : (j : Int) < (bs.length : Int) := by omega
    clear Hc
    have Hg := Lib.hid hg
    clear hg
    go_wp2_with fail
    refine (good_any x _).mono ?_
    rw [show (x.s != 4) = false from Hg.out]
    rintro e w2 ⟨rfl, hb2⟩
    have HB2 := Lib.hid (HB.out.trans (hb2.mono HB.out.size))
    clear hb2
    go_wp2_with fail
    go_ret2
    exact ⟨rfl, HB2.out⟩

theorem Row.drew {w : World} {v : Value} {bs : List Blk} (h : Row w v bs) : Row w.drew v bs := h.below (Below.refl _ _).drew
/-- A block stored into a row of the call's own. -/
theorem row_stored {w : World} {base g k cap : Nat} {bs : List Blk} {x : Blk} (h : w.ownsRow base 34 4 (.slice (some ⟨g, 0, none⟩) bs.length cap) bs.length (cellsOf bs))
    (hset : cellsOf (bs.set k x) = ((((cellsOf bs).set (k * 4) (vi x.s)).set (k * 4 + 1) (vi x.l)).set (k * 4 + 2) (vi x.r)).set (k * 4 + 3) (vi x.n)) :
    Row ((((w.setCell ⟨g, k * 4, none⟩ (vi x.s)).setCell ⟨g, k * 4 + 1, none⟩ (vi x.l)).setCell ⟨g, k * 4 + 2, none⟩ (vi x.r)).setCell ⟨g, k * 4 + 3, none⟩ (vi x.n)).drew (.slice (some ⟨g, 0, none⟩) bs.length cap) (bs.set k x) := by
  have h1 := (h.stored (k * 4) (vi x.s)).1
  generalize w.setCell ⟨g, k * 4, none⟩ (vi x.s) = w1 at h1 ⊢
  have h2 := (h1.stored (k * 4 + 1) (vi x.l)).1
  generalize w1.setCell ⟨g, k * 4 + 1, none⟩ (vi x.l) = w2 at h2 ⊢
  have h3 := (h2.stored (k * 4 + 2) (vi x.r)).1
  generalize w2.setCell ⟨g, k * 4 + 2, none⟩ (vi x.r) = w3 at h3 ⊢
  have h4 := (h3.stored (k * 4 + 3) (vi x.n)).1
  generalize w3.setCell ⟨g, k * 4 + 3, none⟩ (vi x.n) = w4 at h4 ⊢
  have hl : (bs.set k x).length = bs.length := List.length_set
  rw [← hset, ← hl] at h4
  have h5 := (row_of_own h4).drew
  rwa [hl] at h5

set_option maxHeartbeats 4000000 in
theorem Follow_yes (v : Value) (bs : List Blk) (p kind : Int) (block : Nat) (w : World) (hrow : Row w v bs) (h : refusesB bs p kind block = false) (hn : bs.length ≤ 4096) :
    Calls Try.prog 19 #[v, vi p, vact (kind, block)] w fun e w' => ∃ v', e = .returned (.tuple #[v', vi 0]) ∧ Row w' v' (followL bs block) ∧ Below w.heap.size w w' := by
  have HR := Lib.hid hrow
  obtain ⟨hlen, a, cap, rfl, -⟩ := hrow
  have hb0 : Below w.heap.size w (w.alloc (.cells #[vi kind, vi block] 28)) := (Below.refl _ _).alloc (Nat.le_refl _) _
  have HB0 := Lib.hid hb0
  clear hb0
  simp only [refusesB, Bool.or_eq_false_iff, Bool.not_eq_false', decide_eq_false_iff_not, Int.toNat_natCast] at h
  obtain ⟨⟨⟨⟨⟨hr, hk1⟩, hk4⟩, hb0⟩, hbl⟩, hg⟩ := h
  have hlt : block < bs.length := by omega
  have hw := RightL_wear hr _ (getD_mem hlt)
  go_enter Try.func19, Try.ntmps19
  go_wp2_with fail
  refine (Right_any _ bs p _ (HR.out.below HB0.out)).mono ?_
  rw [hr]
  rintro e w1 ⟨rfl, hb1⟩
  obtain ⟨⟨c0, c1, _⟩, _⟩ := box2 hb1
  have HB := Lib.hid (HB0.out.trans (hb1.mono HB0.out.size))
  clear hb1 hr HB0
  obtain ⟨b, o, rfl, hx⟩ := (HR.out.below HB.out).lookup hlt
  have Hset := Lib.hid (cellsOf_set bs block ⟨0, 0, (bs.getD block default).r + 1, 0⟩ hlt)
  have Hfol := Lib.hid (show followL bs block = bs.set block ⟨0, 0, (bs.getD block default).r + 1, 0⟩ from rfl)
  generalize bs.getD block default = x at hx hg hw Hset Hfol
  obtain ⟨g0, g1, g2, g3⟩ := hx
  obtain ⟨hw0, hw1⟩ := hw
  have hj1 : (block : Int) < (bs.length : Int) := by omega
  have Hg := Lib.hid hg
  clear hg
  go_wp2_with fail
  refine (good_any x _).mono ?_
  rw [show (x.s != 4) = true from Hg.out]
  rintro e w2 ⟨rfl, hb2⟩
  have HB2 := Lib.hid (HB.out.trans (hb2.mono HB.out.size))
  have c0' := cell_below c0 hb2
  have c1' := cell_below c1 hb2
  have g2' := cell_below g2 hb2
  clear hb2 c0 c1 g0 g1 g2 g3
  go_wp2_with fail
  refine (Clone_any _ bs _ (HR.out.below HB2.out) hn).mono ?_
  rintro e w3 ⟨v', rfl, hown, hb3⟩
  have HB3 := Lib.hid (HB2.out.trans (hb3.mono HB2.out.size))
  have d0 := cell_below c0' hb3
  have d1 := cell_below c1' hb3
  have e2 := cell_below g2' hb3
  clear hb3 c0' c1' g2'
  obtain ⟨g, cap', rfl, hg2⟩ : ∃ g cap', v' = .slice (some ⟨g, 0, none⟩) bs.length cap' ∧ w2.heap.size ≤ g := by
    rcases hown.2 with ⟨_, h0⟩ | ⟨g, cap', cur, hv, hg, _⟩
    · omega
    · exact ⟨g, cap', hv, hg⟩
  have hk0 : (0 : Int) ≤ (block : Int) := by omega
  have hown2 := hown
  have HO := Lib.hid hown
  clear hown
  have s0 : w3.cell? ⟨g, block * 4, none⟩ = (cellsOf bs)[block * 4]? := hown2.cellAt (block * 4) (by omega)
  have s1 : w3.cell? ⟨g, block * 4 + 1, none⟩ = (cellsOf bs)[block * 4 + 1]? := hown2.cellAt (block * 4 + 1) (by omega)
  have s2 : w3.cell? ⟨g, block * 4 + 2, none⟩ = (cellsOf bs)[block * 4 + 2]? := hown2.cellAt (block * 4 + 2) (by omega)
  have s3 : w3.cell? ⟨g, block * 4 + 3, none⟩ = (cellsOf bs)[block * 4 + 3]? := hown2.cellAt (block * 4 + 3) (by omega)
  have hl4 := cellsOf_length bs
  rw [List.getElem?_eq_getElem (by omega)] at s0 s1 s2 s3
  have z0 := hown2.frozenAt (block * 4)
  have z1 := hown2.frozenAt (block * 4 + 1)
  have z2 := hown2.frozenAt (block * 4 + 2)
  have z3 := hown2.frozenAt (block * 4 + 3)
  clear hown2
  generalize (cellsOf bs)[block * 4]'(by omega) = q0 at s0
  generalize (cellsOf bs)[block * 4 + 1]'(by omega) = q1 at s1
  generalize (cellsOf bs)[block * 4 + 2]'(by omega) = q2 at s2
  generalize (cellsOf bs)[block * 4 + 3]'(by omega) = q3 at s3
  go_wp2_with fail
  go_still_tail 12, (by kernel_rfl)
  change wpList _ _ _ _ _ w3.drew
  go_wp2_with fail
  go_ret2
  have hfin := row_stored (k := block) (x := ⟨0, 0, x.r + 1, 0⟩) HO.out Hset.out
  refine ⟨.slice (some ⟨g, 0, none⟩) bs.length cap', rfl, by rw [Hfol.out]; exact hfin, ?_⟩
  exact ((((HB3.out.setCell (p := ⟨g, block * 4, none⟩) (Nat.le_trans HB2.out.size hg2) _).setCell (p := ⟨g, block * 4 + 1, none⟩) (Nat.le_trans HB2.out.size hg2) _).setCell (p := ⟨g, block * 4 + 2, none⟩) (Nat.le_trans HB2.out.size hg2) _).setCell (p := ⟨g, block * 4 + 3, none⟩) (Nat.le_trans HB2.out.size hg2) _).drew

set_option maxHeartbeats 4000000 in
theorem RFollow_no (v : Value) (bs : List Blk) (p kind block : Int) (w : World) (hrow : Row w v bs) (h : refusesB bs p kind block = true) :
    Calls Try.prog 20 #[v, vi p, vact (kind, block)] w fun e w' => e = .returned (.tuple #[.slice none 0 0, vi 1]) ∧ Below w.heap.size w w' := by
  have HR := Lib.hid hrow
  obtain ⟨hlen, a, cap, rfl, -⟩ := hrow
  have hb0 : Below w.heap.size w (w.alloc (.cells #[vi kind, vi block] 26)) := (Below.refl _ _).alloc (Nat.le_refl _) _
  have hc := refuse_cases h
  clear h
  have HB0 := Lib.hid hb0
  clear hb0
  rcases hc with hr | ⟨hr, hc⟩
  · go_enter Try.func20, Try.ntmps20
    go_wp2_with fail
    refine (RRight_any _ bs p _ (HR.out.below HB0.out)).mono ?_
    rw [hr]
    rintro e w1 ⟨rfl, hb1⟩
    have HB := Lib.hid (HB0.out.trans (hb1.mono HB0.out.size))
    clear hb1 hr
    go_wp2_with fail
    go_ret2
    exact ⟨rfl, HB.out⟩
  · have Hc := Lib.hid hc
    clear hc
    go_enter Try.func20, Try.ntmps20
    go_wp2_with fail
    refine (RRight_any _ bs p _ (HR.out.below HB0.out)).mono ?_
    rw [hr]
    rintro e w1 ⟨rfl, hb1⟩
    obtain ⟨⟨c0, c1, _⟩, _⟩ := box2 hb1
    have HB := Lib.hid (HB0.out.trans (hb1.mono HB0.out.size))
    clear hb1 hr HB0
    rcases Hc.out with hk | ⟨hk, hc⟩
    · go_wp2_with fail
      go_ret2
      exact ⟨rfl, HB.out⟩
    rcases hc with hk4 | ⟨hk4, hc⟩
    · go_wp2_with fail
      go_ret2
      exact ⟨rfl, HB.out⟩
    rcases hc with hb | ⟨hb, hc⟩
    · go_wp2_with fail
      go_ret2
      exact ⟨rfl, HB.out⟩
    rcases hc with hbl | ⟨hbl, hg⟩
    · go_wp2_with fail
      go_ret2
      exact ⟨rfl, HB.out⟩
    obtain ⟨j, rfl⟩ : ∃ j : Nat, block = j := ⟨block.toNat, by omega⟩
    obtain ⟨b, o, rfl, hx⟩ := (HR.out.below HB.out).lookup (k := j) (by omega)
    simp only [Int.toNat_natCast] at hg
    generalize bs.getD j default = x at hx hg
    obtain ⟨g0, g1, g2, g3⟩ := hx
    have hj1 : (j : Int) < (bs.length : Int) := by omega
    clear Hc
    have Hg := Lib.hid hg
    clear hg
    have hs : (x.s == 4) = true := by
      have := Hg.out
      simpa [goodB] using this
    go_wp2_with fail
    go_ret2
    exact ⟨rfl, HB.out⟩

set_option maxHeartbeats 4000000 in
theorem RFollow_yes (v : Value) (bs : List Blk) (p kind : Int) (block : Nat) (w : World) (hrow : Row w v bs) (h : refusesB bs p kind block = false) (hn : bs.length ≤ 4096) :
    Calls Try.prog 20 #[v, vi p, vact (kind, block)] w fun e w' => ∃ v', e = .returned (.tuple #[v', vi 0]) ∧ Row w' v' (followL bs block) ∧ Below w.heap.size w w' := by
  have HR := Lib.hid hrow
  obtain ⟨hlen, a, cap, rfl, -⟩ := hrow
  have hb0 : Below w.heap.size w (w.alloc (.cells #[vi kind, vi block] 26)) := (Below.refl _ _).alloc (Nat.le_refl _) _
  have HB0 := Lib.hid hb0
  clear hb0
  simp only [refusesB, Bool.or_eq_false_iff, Bool.not_eq_false', decide_eq_false_iff_not, Int.toNat_natCast] at h
  obtain ⟨⟨⟨⟨⟨hr, hk1⟩, hk4⟩, hb0⟩, hbl⟩, hg⟩ := h
  have hlt : block < bs.length := by omega
  have hw := RightL_wear hr _ (getD_mem hlt)
  go_enter Try.func20, Try.ntmps20
  go_wp2_with fail
  refine (RRight_any _ bs p _ (HR.out.below HB0.out)).mono ?_
  rw [hr]
  rintro e w1 ⟨rfl, hb1⟩
  obtain ⟨⟨c0, c1, _⟩, _⟩ := box2 hb1
  have HB := Lib.hid (HB0.out.trans (hb1.mono HB0.out.size))
  clear hb1 hr HB0
  obtain ⟨b, o, rfl, hx⟩ := (HR.out.below HB.out).lookup hlt
  have Hset := Lib.hid (cellsOf_set bs block ⟨0, 0, (bs.getD block default).r + 1, 0⟩ hlt)
  have Hfol := Lib.hid (show followL bs block = bs.set block ⟨0, 0, (bs.getD block default).r + 1, 0⟩ from rfl)
  generalize bs.getD block default = x at hx hg hw Hset Hfol
  obtain ⟨g0, g1, g2, g3⟩ := hx
  obtain ⟨hw0, hw1⟩ := hw
  have hj1 : (block : Int) < (bs.length : Int) := by omega
  have Hg := Lib.hid hg
  clear hg
  have hs : (x.s == 4) = false := by
    have := Hg.out
    simpa [goodB] using this
  obtain ⟨v', w3, hrun, hown0, hgr⟩ := append_blocks (World.ownsRow_nil w1 w1.heap.size _ _) (HR.out.below HB.out) (by omega) (Nat.le_refl _)
  have hb3 := grown_below (World.ownsRow_nil w1 w1.heap.size 34 4) hgr (Nat.le_refl _)
  have hown : w3.ownsRow w1.heap.size 34 4 v' bs.length (cellsOf bs) := by simpa using hown0
  have HB3 := Lib.hid (HB.out.trans (hb3.mono HB.out.size))
  have HRun := Lib.hid hrun
  have d0 := cell_below c0 hb3
  have d1 := cell_below c1 hb3
  have e2 := cell_below g2 hb3
  clear hrun hown0 hgr hb3
  obtain ⟨g, cap', rfl, hg2⟩ : ∃ g cap', v' = .slice (some ⟨g, 0, none⟩) bs.length cap' ∧ w1.heap.size ≤ g := by
    rcases hown.2 with ⟨_, h0⟩ | ⟨g, cap', cur, hv, hg, _⟩
    · omega
    · exact ⟨g, cap', hv, hg⟩
  go_wp2_with (at_builtin; refine wpList_append_run rfl (.tmp 44) (.tmp 45) rfl rfl rfl HRun.out ?_)
  have hk0 : (0 : Int) ≤ (block : Int) := by omega
  have hown2 := hown
  have HO := Lib.hid hown
  clear hown
  have s0 : w3.cell? ⟨g, block * 4, none⟩ = (cellsOf bs)[block * 4]? := hown2.cellAt (block * 4) (by omega)
  have s1 : w3.cell? ⟨g, block * 4 + 1, none⟩ = (cellsOf bs)[block * 4 + 1]? := hown2.cellAt (block * 4 + 1) (by omega)
  have s2 : w3.cell? ⟨g, block * 4 + 2, none⟩ = (cellsOf bs)[block * 4 + 2]? := hown2.cellAt (block * 4 + 2) (by omega)
  have s3 : w3.cell? ⟨g, block * 4 + 3, none⟩ = (cellsOf bs)[block * 4 + 3]? := hown2.cellAt (block * 4 + 3) (by omega)
  have hl4 := cellsOf_length bs
  rw [List.getElem?_eq_getElem (by omega)] at s0 s1 s2 s3
  have z0 := hown2.frozenAt (block * 4)
  have z1 := hown2.frozenAt (block * 4 + 1)
  have z2 := hown2.frozenAt (block * 4 + 2)
  have z3 := hown2.frozenAt (block * 4 + 3)
  clear hown2
  generalize (cellsOf bs)[block * 4]'(by omega) = q0 at s0
  generalize (cellsOf bs)[block * 4 + 1]'(by omega) = q1 at s1
  generalize (cellsOf bs)[block * 4 + 2]'(by omega) = q2 at s2
  generalize (cellsOf bs)[block * 4 + 3]'(by omega) = q3 at s3
  clear c0 c1 g0 g1 g2 g3
  go_wp2_with fail
  go_still_tail 12, (by kernel_rfl)
  change wpList _ _ _ _ _ w3.drew
  go_wp2_with fail
  go_ret2
  have hfin := row_stored (k := block) (x := ⟨0, 0, x.r + 1, 0⟩) HO.out Hset.out
  refine ⟨.slice (some ⟨g, 0, none⟩) bs.length cap', rfl, by rw [Hfol.out]; exact hfin, ?_⟩
  exact ((((HB3.out.setCell (p := ⟨g, block * 4, none⟩) (Nat.le_trans HB.out.size hg2) _).setCell (p := ⟨g, block * 4 + 1, none⟩) (Nat.le_trans HB.out.size hg2) _).setCell (p := ⟨g, block * 4 + 2, none⟩) (Nat.le_trans HB.out.size hg2) _).setCell (p := ⟨g, block * 4 + 3, none⟩) (Nat.le_trans HB.out.size hg2) _).drew

end Go.Proofs.Ythehkhondbphoaa
