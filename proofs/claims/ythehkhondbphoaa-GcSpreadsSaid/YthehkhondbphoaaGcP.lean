/-
  gc: the gap, and what an action that is followed makes of it: for every row that is read.
-/
import Derived.Test.YthehkhondbphoaaGcN
import Derived.Test.YthehkhondbphoaaGcL
import Derived.Test.YthehkhondbphoaaGcOpen
namespace Go.Proofs.Ythehkhondbphoaa
open Go.ChangeShapes Go.WideShapes Go.ChangeAt Go.RowKit Go.Deep

theorem bestTo_min {P : Blk → Bool} {Q : Blk → Blk → Bool} {f : Blk → Int} (hQ : ∀ x y, Q x y = decide (f x < f y)) (bs : List Blk) :
    ∀ k, ∀ i, i < k → P (bs.getD i default) = true → 0 ≤ bestTo P Q bs k ∧ f (bs.getD (bestTo P Q bs k).toNat default) ≤ f (bs.getD i default)
  | 0, i, hi, _ => absurd hi (Nat.not_lt_zero i)
  | k + 1, i, hi, hp => by
    have hs : bestTo P Q bs (k + 1) = if P (bs.getD k default) && (decide (bestTo P Q bs k < 0) || Q (bs.getD k default) (bs.getD (bestTo P Q bs k).toNat default)) then (k : Int) else bestTo P Q bs k := rfl
    rw [hs, hQ]
    rcases Nat.lt_succ_iff_lt_or_eq.1 hi with h | rfl
    · obtain ⟨h0, h1⟩ := bestTo_min hQ bs k i h hp
      split
      · rename_i hc
        simp only [Bool.and_eq_true, Bool.or_eq_true, decide_eq_true_eq] at hc
        have : f (bs.getD k default) < f (bs.getD (bestTo P Q bs k).toNat default) := by
          rcases hc.2 with h2 | h2
          · omega
          · exact h2
        exact ⟨by omega, by simp only [Int.toNat_natCast]; omega⟩
      · exact ⟨h0, h1⟩
    · rw [hp]
      by_cases h0 : bestTo P Q bs i < 0
      · simp [h0]
      · by_cases h1 : f (bs.getD i default) < f (bs.getD (bestTo P Q bs i).toNat default)
        · simp only [h1, decide_true, Bool.or_true, Bool.and_true, if_true]
          exact ⟨by omega, by simp⟩
        · simp only [h1, decide_false, Bool.or_false, Bool.true_and, decide_eq_true_eq, if_neg h0]
          exact ⟨by omega, by omega⟩

theorem least_le {bs : List Blk} {x : Blk} (hx : x ∈ bs) (hg : goodB x = true) : leastL bs ≤ x.r := by
  obtain ⟨i, hi, rfl⟩ := mem_getD hx
  obtain ⟨h0, h1⟩ := bestTo_min (P := goodB) (Q := wornB) (f := fun x => x.r) (fun _ _ => rfl) bs bs.length i hi hg
  show wearAt bs (best goodB wornB bs) ≤ _
  unfold wearAt best
  rw [if_neg (by omega)]
  exact h1
theorem greatest_ge {bs : List Blk} {x : Blk} (hx : x ∈ bs) (hg : goodB x = true) : x.r ≤ greatestL bs := by
  obtain ⟨i, hi, rfl⟩ := mem_getD hx
  obtain ⟨h0, h1⟩ := bestTo_min (P := goodB) (Q := moreB) (f := fun x => -x.r) (fun x y => by simp only [moreB]; congr 1; rw [eq_iff_iff]; omega) bs bs.length i hi hg
  show _ ≤ wearAt bs (best goodB moreB bs)
  unfold wearAt best
  rw [if_neg (by omega)]
  omega
theorem least_mem {bs : List Blk} {x : Blk} (hx : x ∈ bs) (hg : goodB x = true) : ∃ y ∈ bs, goodB y = true ∧ leastL bs = y.r := by
  obtain ⟨i, hi, rfl⟩ := mem_getD hx
  obtain ⟨h0, h1⟩ := bestTo_min (P := goodB) (Q := wornB) (f := fun x => x.r) (fun _ _ => rfl) bs bs.length i hi hg
  have hb := (best_bd goodB wornB bs).2
  have h0' : 0 ≤ best goodB wornB bs := h0
  refine ⟨_, getD_mem (i := (best goodB wornB bs).toNat) (by omega), best_pos h0', ?_⟩
  show wearAt bs (best goodB wornB bs) = _
  unfold wearAt
  rw [if_neg (by omega)]
theorem greatest_mem {bs : List Blk} {x : Blk} (hx : x ∈ bs) (hg : goodB x = true) : ∃ y ∈ bs, goodB y = true ∧ greatestL bs = y.r := by
  obtain ⟨i, hi, rfl⟩ := mem_getD hx
  obtain ⟨h0, h1⟩ := bestTo_min (P := goodB) (Q := moreB) (f := fun x => -x.r) (fun x y => by simp only [moreB]; congr 1; rw [eq_iff_iff]; omega) bs bs.length i hi hg
  have hb := (best_bd goodB moreB bs).2
  have h0' : 0 ≤ best goodB moreB bs := h0
  refine ⟨_, getD_mem (i := (best goodB moreB bs).toNat) (by omega), best_pos h0', ?_⟩
  show wearAt bs (best goodB moreB bs) = _
  unfold wearAt
  rw [if_neg (by omega)]
theorem greatestL_bd {p : Int} {bs : List Blk} (h : RightL p bs = true) : 0 ≤ greatestL bs ∧ greatestL bs ≤ 1099511627776 := wearAt_bd (RightL_wear h) _ (best_bd _ _ _).2

theorem key1 {least : Int} (x : Blk) (h : (staleB x && mayB least x) = true) : goodB x = true ∧ x.r < least + 4 := by
  simp only [mayB, Bool.and_eq_true] at h
  have h9 := of_decide_eq_true h.2.2
  exact ⟨h.2.1, by omega⟩
theorem key2 {least p : Int} {room : Bool} (x : Blk) (h : (fullB room x && mayB least x && decide (x.l < p)) = true) : goodB x = true ∧ x.r < least + 4 := by
  simp only [mayB, Bool.and_eq_true] at h
  have h9 := of_decide_eq_true h.1.2.2
  exact ⟨h.1.2.1, by omega⟩
theorem key3 {least : Int} (x : Blk) (h : burnB least x = true) : goodB x = true ∧ x.r < least + 4 := by
  simp only [burnB, Bool.and_eq_true, beq_iff_eq, Bool.or_eq_true] at h
  refine ⟨?_, by omega⟩
  simp only [goodB, bne_iff_ne, ne_eq]
  omega
theorem key4 {least : Int} {room : Bool} (x : Blk) (h : (fullB room x && x.r == least) = true) : goodB x = true ∧ x.r < least + 4 := by
  simp only [fullB, Bool.and_eq_true, beq_iff_eq] at h
  refine ⟨?_, by omega⟩
  simp only [goodB, bne_iff_ne, ne_eq]
  omega

/-- What an action that Next says tells of its block, Force and Nothing left out. -/
theorem NextL_block {bs : List Blk} {p : Int} {room : Bool} (hr : RightL p bs = true) (h0 : (NextL bs p room).1 ≠ 0) (h4 : (NextL bs p room).1 ≠ 4) :
    1 ≤ (NextL bs p room).1 ∧ (NextL bs p room).1 ≤ 4 ∧ ∃ k : Nat, (NextL bs p room).2 = k ∧ k < bs.length ∧ goodB (bs.getD k default) = true ∧ (bs.getD k default).r < leastL bs + 4 := by
  unfold NextL at h0 h4 ⊢
  rw [if_pos hr] at h0 h4 ⊢
  by_cases h1 : 0 ≤ best (fun x => staleB x && mayB (leastL bs) x) wornB bs
  · rw [pick4_yes h1]
    have hp := key1 _ (best_pos h1)
    have hb := (best_bd (fun x => staleB x && mayB (leastL bs) x) wornB bs).2
    exact ⟨show (1 : Int) ≤ 1 by omega, show (1 : Int) ≤ 4 by omega, _, (Int.toNat_of_nonneg h1).symm, by omega, hp.1, hp.2⟩
  rw [pick4_no (by omega)] at h0 h4 ⊢
  by_cases h2 : 0 ≤ best (fun x => fullB room x && mayB (leastL bs) x && decide (x.l < p)) emptierB bs
  · rw [pick4_yes h2]
    have hp := key2 _ (best_pos h2)
    have hb := (best_bd (fun x => fullB room x && mayB (leastL bs) x && decide (x.l < p)) emptierB bs).2
    exact ⟨show (1 : Int) ≤ 2 by omega, show (2 : Int) ≤ 4 by omega, _, (Int.toNat_of_nonneg h2).symm, by omega, hp.1, hp.2⟩
  rw [pick4_no (by omega)] at h0 h4 ⊢
  by_cases h3 : 0 ≤ first (burnB (leastL bs)) bs
  · rw [pick4_yes h3]
    have hp := key3 _ (first_pos h3)
    have hb := (first_bd (burnB (leastL bs)) bs).2
    exact ⟨show (1 : Int) ≤ 3 by omega, show (3 : Int) ≤ 4 by omega, _, (Int.toNat_of_nonneg h3).symm, by omega, hp.1, hp.2⟩
  rw [pick4_no (by omega)] at h0 h4 ⊢
  by_cases h5 : 0 ≤ best (fun x => fullB room x && x.r == leastL bs) emptierB bs
  · rw [pick4_yes h5]
    have hp := key4 _ (best_pos h5)
    have hb := (best_bd (fun x => fullB room x && x.r == leastL bs) emptierB bs).2
    exact ⟨show (1 : Int) ≤ 2 by omega, show (2 : Int) ≤ 4 by omega, _, (Int.toNat_of_nonneg h5).symm, by omega, hp.1, hp.2⟩
  rw [pick4_no (by omega)] at h0 h4 ⊢
  unfold forcedL at h0 h4 ⊢
  exfalso
  by_cases h6 : 0 ≤ best staleB wornB bs
  · rw [pick4_yes h6] at h4
    exact h4 rfl
  rw [pick4_no (by omega)] at h0 h4
  by_cases h7 : 0 ≤ best (movedB room p) emptierB bs
  · rw [pick4_yes h7] at h4
    exact h4 rfl
  rw [pick4_no (by omega)] at h0
  exact h0 rfl

/-- P5.4, plain: the gap stays within Spread, or grows no more. -/
theorem gap_stays {bs : List Blk} {k : Nat} (hk : k < bs.length) (hg : goodB (bs.getD k default) = true) (hr : (bs.getD k default).r < leastL bs + 4) :
    greatestL (followL bs k) - leastL (followL bs k) ≤ 4 ∨ greatestL (followL bs k) - leastL (followL bs k) ≤ greatestL bs - leastL bs := by
  have hmem : ∀ y ∈ followL bs k, y = ⟨0, 0, (bs.getD k default).r + 1, 0⟩ ∨ y ∈ bs := fun y hy => (List.mem_or_eq_of_mem_set hy).symm
  have hin : (⟨0, 0, (bs.getD k default).r + 1, 0⟩ : Blk) ∈ followL bs k := List.mem_set hk _
  have hx := getD_mem hk
  obtain ⟨y, hy, hyg, hyl⟩ := least_mem hin (by rfl)
  obtain ⟨z, hz, hzg, hzl⟩ := greatest_mem hin (by rfl)
  have hl0 := least_le hx hg
  have hl : leastL bs ≤ leastL (followL bs k) := by
    rw [hyl]
    rcases hmem y hy with rfl | h
    · dsimp only; omega
    · exact least_le h hyg
  rcases hmem z hz with rfl | h
  · left
    dsimp only at hzl
    omega
  · right
    have := greatest_ge h hzg
    omega

set_option maxHeartbeats 1000000 in
theorem gap_any (v : Value) (bs : List Blk) (p : Int) (w : World) (hrow : Row w v bs) (hr : RightL p bs = true) :
    Calls Try.prog 22 #[v] w fun e w' => e = .returned (vi (greatestL bs - leastL bs)) ∧ Below w.heap.size w w' := by
  have HR := Lib.hid hrow
  have h1 := leastL_bd hr
  have h2 := greatestL_bd hr
  clear hr
  go_enter Try.func22, Try.ntmps22
  go_wp2_with fail
  refine (Greatest_any _ bs _ HR.out).mono ?_
  rintro e w1 ⟨rfl, hb1⟩
  have HB := Lib.hid hb1
  clear hb1
  go_wp2_with fail
  refine (Least_any _ bs _ (HR.out.below HB.out)).mono ?_
  rintro e w2 ⟨rfl, hb2⟩
  have HB2 := Lib.hid (HB.out.trans (hb2.mono HB.out.size))
  clear hb2
  have HE := Lib.hid (rfl : greatestL bs - leastL bs = greatestL bs - leastL bs)
  go_wp2_with fail
  go_ret
  exact ⟨rfl, HB2.out⟩

/-- A slice of bools. -/
def Bools (w : World) (v : Value) (rs : List Bool) : Prop :=
  rs.length ≤ 9223372036854775807 ∧ ∃ a cap, v = .slice a rs.length cap ∧ (rs = [] ∨ ∃ b o, a = some ⟨b, o, none⟩ ∧ ∀ i, i < rs.length → w.cell? ⟨b, o + i, none⟩ = some (.bool (rs.getD i false)))
theorem Bools.below {w w' : World} {v : Value} {rs : List Bool} (h : Bools w v rs) (hb : Below w.heap.size w w') : Bools w' v rs := by
  obtain ⟨h0, a, cap, rfl, h⟩ := h
  refine ⟨h0, a, cap, rfl, ?_⟩
  rcases h with h | ⟨b, o, rfl, h⟩
  · exact .inl h
  · exact .inr ⟨b, o, rfl, fun i hi => cell_below (h i hi) hb⟩
theorem Bools.lookup {w : World} {a : Option Addr} {rs : List Bool} {cap : Nat} (h : Bools w (.slice a rs.length cap) rs) {k : Nat} (hk : k < rs.length) :
    ∃ b o, a = some ⟨b, o, none⟩ ∧ w.cell? ⟨b, o + k, none⟩ = some (.bool (rs.getD k false)) := by
  obtain ⟨_, a', cap', he, h⟩ := h
  injection he with he _ _
  subst he
  rcases h with h | ⟨b, o, rfl, h⟩
  · rw [h] at hk; simp at hk
  · exact ⟨b, o, rfl, h k hk⟩

theorem cellsBool : Try.prog.cellsOf 4 = 1 := by kernel_rfl
theorem open_bools {H : Type} {enc : TypeId × Value → H} {W : World} {v : Value} {d : DataW H} {p : List MemPlace} (h : DataW.Trod enc Try.prog W 0 (fun _ => true) true 44 v d p) {r : Reach} {b : Nat}
    (hv : Value.okWide Try.prog W r b 44 v) : ∃ rs, Bools W v rs := by
  obtain ⟨a, len, cap, rfl⟩ := okWide_slice Try.underlying44 hv
  obtain ⟨fuel, hf⟩ := h
  rcases open_slice1 Try.underlying44 cellsBool hf with ⟨hcs, _⟩ | ⟨a', len', cap', m, n, V, D, Pl, hcs, _, hl, hm, hmm, _, hi⟩
  · simp [Value.cells] at hcs
    obtain ⟨rfl, rfl, rfl⟩ := hcs
    exact ⟨[], by decide, none, 0, rfl, .inl rfl⟩
  · simp [Value.cells] at hcs
    obtain ⟨rfl, rfl, rfl⟩ := hcs
    simp only [if_true] at hmm
    subst hmm
    obtain ⟨B, hB⟩ := choose_lt (α := Bool) (n := len) (p := fun i x => W.cell? (a'.add i) = some (.bool x)) (fun i hlt => by
      obtain ⟨hc, ht⟩ := hi i (by omega)
      obtain ⟨x, hx, _⟩ := DataW.trod_bool Try.underlying4 ht
      injection hx with hx
      exact ⟨x, by rw [hc, hx]⟩)
    refine ⟨(List.range len).map B, by simp [maxLen] at hm ⊢; omega, some a', m, by simp, ?_⟩
    rcases Nat.eq_zero_or_pos len with h0 | h0
    · exact .inl (by simp [h0])
    · have hsp : a'.spot = none := by
        have := hB 0 h0
        simp only [Addr.add, if_true, World.cell?] at this
        cases hh : a'.spot with
        | none => rfl
        | some q => rw [hh] at this; split at this <;> simp at this
      obtain ⟨b', o', s'⟩ := a'
      dsimp only at hsp
      subst hsp
      refine .inr ⟨b', o', rfl, fun i hlt => ?_⟩
      have hlt' : i < len := by simpa using hlt
      have := hB i hlt'
      have e : ∀ k, (⟨b', o', none⟩ : Addr).add k = ⟨b', o' + k, none⟩ := fun k => by unfold Addr.add; split <;> simp [*]
      rw [e] at this
      have hg : ((List.range len).map B).getD i false = B i := by simp [List.getD, hlt']
      rw [hg]
      exact this

end Go.Proofs.Ythehkhondbphoaa
