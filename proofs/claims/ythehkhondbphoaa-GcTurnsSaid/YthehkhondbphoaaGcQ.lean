/-
  gc: a row that is turned round: for every row.
-/
import Derived.Test.YthehkhondbphoaaGcN
import Derived.Test.YthehkhondbphoaaGcG
import Derived.Test.YthehkhondbphoaaGcOpen
namespace Go.Proofs.Ythehkhondbphoaa
open Go.RowKit

theorem Among_any (k n : Int) (w : World) (h0 : 0 ≤ k) (h1 : k < n) (h2 : n ≤ 4096) :
    Calls Try.prog 17 #[vi k, vi n] w fun e w' => e = .returned (vi k) ∧ w = w' := by
  have he : k % n = k := Int.emod_eq_of_lt h0 h1
  go_enter Try.func17, Try.ntmps17
  go_wp2
  go_ret
  exact ⟨ret_int he, rfl⟩

/-- A row under a length told in other words. -/
theorem Row.lookup' {w : World} {a : Option Addr} {bs : List Blk} {n cap : Nat} (h : Row w (.slice a n cap) bs) {k : Nat} (hk : k < bs.length) :
    ∃ b o, a = some ⟨b, o, none⟩ ∧ At4 w b (o + k * 4) (bs.getD k default) := by
  obtain ⟨_, a', cap', he, h⟩ := h
  injection he with he _ _
  subst he
  rcases h with h | ⟨b, o, rfl, h⟩
  · rw [h] at hk; simp at hk
  · exact ⟨b, o, rfl, h k hk⟩

/-- Nothing comes ahead of the best one. -/
theorem bestTo_least {P : Blk → Bool} {Q : Blk → Blk → Bool} (hi : ∀ x, Q x x = false) (ha : ∀ x y, Q x y = true → Q y x = false) (ht : ∀ x y z, Q y x = false → Q z y = false → Q z x = false) (bs : List Blk) :
    ∀ k, ∀ i, i < k → P (bs.getD i default) = true → 0 ≤ bestTo P Q bs k ∧ Q (bs.getD i default) (bs.getD (bestTo P Q bs k).toNat default) = false
  | 0, i, hik, _ => absurd hik (Nat.not_lt_zero i)
  | k + 1, i, hik, hp => by
    have hs : bestTo P Q bs (k + 1) = if P (bs.getD k default) && (decide (bestTo P Q bs k < 0) || Q (bs.getD k default) (bs.getD (bestTo P Q bs k).toNat default)) then (k : Int) else bestTo P Q bs k := rfl
    rw [hs]
    rcases Nat.lt_succ_iff_lt_or_eq.1 hik with h | rfl
    · obtain ⟨h0, h1⟩ := bestTo_least hi ha ht bs k i h hp
      split
      · rename_i hc
        simp only [Bool.and_eq_true, Bool.or_eq_true, decide_eq_true_eq] at hc
        have h3 : Q (bs.getD k default) (bs.getD (bestTo P Q bs k).toNat default) = true := by
          rcases hc.2 with h2 | h2
          · omega
          · exact h2
        exact ⟨by omega, by simpa using ht _ _ _ (ha _ _ h3) h1⟩
      · exact ⟨h0, h1⟩
    · rw [hp]
      by_cases h0 : bestTo P Q bs i < 0
      · simp [h0, hi]
      · cases h1 : Q (bs.getD i default) (bs.getD (bestTo P Q bs i).toNat default)
        · simp only [Bool.or_false, Bool.true_and, decide_eq_true_eq, if_neg h0]
          exact ⟨by omega, h1⟩
        · simp only [Bool.or_true, Bool.and_true, if_true]
          exact ⟨by omega, by simp [hi]⟩
theorem best_least {P : Blk → Bool} {Q : Blk → Blk → Bool} (hi : ∀ x, Q x x = false) (ha : ∀ x y, Q x y = true → Q y x = false) (ht : ∀ x y z, Q y x = false → Q z y = false → Q z x = false) {bs : List Blk} {x : Blk} (hx : x ∈ bs) (hp : P x = true) :
    0 ≤ best P Q bs ∧ Q x (bs.getD (best P Q bs).toNat default) = false := by
  obtain ⟨i, hil, rfl⟩ := mem_getD hx
  exact bestTo_least hi ha ht bs bs.length i hil hp

/-- Two that are found in a row and in the row turned round. -/
structure Alike (P : Blk → Bool) (Q : Blk → Blk → Bool) (bs : List Blk) : Prop where
  sign : 0 ≤ best P Q bs ↔ 0 ≤ best P Q bs.reverse
  same : 0 ≤ best P Q bs → Q (bs.getD (best P Q bs).toNat default) (bs.reverse.getD (best P Q bs.reverse).toNat default) = false ∧ Q (bs.reverse.getD (best P Q bs.reverse).toNat default) (bs.getD (best P Q bs).toNat default) = false
theorem alike {P : Blk → Bool} {Q : Blk → Blk → Bool} (hi : ∀ x, Q x x = false) (ha : ∀ x y, Q x y = true → Q y x = false) (ht : ∀ x y z, Q y x = false → Q z y = false → Q z x = false) (bs : List Blk) : Alike P Q bs := by
  have h1 : 0 ≤ best P Q bs → 0 ≤ best P Q bs.reverse ∧ Q (bs.getD (best P Q bs).toNat default) (bs.reverse.getD (best P Q bs.reverse).toNat default) = false := fun h => by
    have hb := (best_bd P Q bs).2
    exact best_least hi ha ht (List.mem_reverse.2 (getD_mem (bs := bs) (i := (best P Q bs).toNat) (by omega))) (best_pos h)
  have h2 : 0 ≤ best P Q bs.reverse → 0 ≤ best P Q bs ∧ Q (bs.reverse.getD (best P Q bs.reverse).toNat default) (bs.getD (best P Q bs).toNat default) = false := fun h => by
    have hb := (best_bd P Q bs.reverse).2
    exact best_least hi ha ht (List.mem_reverse.1 (getD_mem (bs := bs.reverse) (i := (best P Q bs.reverse).toNat) (by omega))) (best_pos h)
  exact ⟨⟨fun h => (h1 h).1, fun h => (h2 h).1⟩, fun h => ⟨(h1 h).2, (h2 (h1 h).1).2⟩⟩

theorem worn_irr (x : Blk) : wornB x x = false := by simp [wornB]
theorem worn_asym (x y : Blk) (h : wornB x y = true) : wornB y x = false := by simp [wornB] at *; omega
theorem worn_trans (x y z : Blk) (h : wornB y x = false) (h' : wornB z y = false) : wornB z x = false := by simp [wornB] at *; omega
theorem emptier_irr (x : Blk) : emptierB x x = false := by simp [emptierB]
theorem emptier_asym (x y : Blk) (h : emptierB x y = true) : emptierB y x = false := by simp [emptierB] at *; omega
theorem emptier_trans (x y z : Blk) (h : emptierB y x = false) (h' : emptierB z y = false) : emptierB z x = false := by simp [emptierB] at *; omega

theorem worn_eq {x y : Blk} (h : wornB x y = false ∧ wornB y x = false) : x.r = y.r := by simp [wornB] at h; omega
theorem emptier_eq {x y : Blk} (h : emptierB x y = false ∧ emptierB y x = false) : x.l = y.l ∧ x.r = y.r := by simp [emptierB] at h; omega

theorem alike_worn (P : Blk → Bool) (bs : List Blk) : Alike P wornB bs := alike worn_irr worn_asym worn_trans bs
theorem alike_emptier (P : Blk → Bool) (bs : List Blk) : Alike P emptierB bs := alike emptier_irr emptier_asym emptier_trans bs

theorem RightL_reverse (p : Int) (bs : List Blk) : RightL p bs.reverse = RightL p bs := by simp [RightL]
theorem leastL_reverse (bs : List Blk) : leastL bs.reverse = leastL bs := by
  have h := alike_worn goodB bs
  show wearAt bs.reverse (best goodB wornB bs.reverse) = wearAt bs (best goodB wornB bs)
  unfold wearAt
  by_cases h0 : 0 ≤ best goodB wornB bs
  · rw [if_neg (by have := h.sign.1 h0; omega), if_neg (by omega)]
    exact (worn_eq (h.same h0)).symm
  · rw [if_pos (by have : ¬ 0 ≤ best goodB wornB bs.reverse := fun h' => h0 (h.sign.2 h'); omega), if_pos (by omega)]
theorem first_sign (P : Blk → Bool) (bs : List Blk) : 0 ≤ first P bs ↔ ∃ x ∈ bs, P x = true := by
  constructor
  · intro h
    have hb := (first_bd P bs).2
    exact ⟨_, getD_mem (i := (first P bs).toNat) (by omega), first_pos h⟩
  · rintro ⟨x, hx, hp⟩
    rcases Int.lt_or_le (first P bs) 0 with h | h
    · rw [first_neg h x hx] at hp; cases hp
    · exact h
theorem first_alike (P : Blk → Bool) (bs : List Blk) : 0 ≤ first P bs ↔ 0 ≤ first P bs.reverse := by
  rw [first_sign, first_sign]; simp

/-- Two answers that are alike. -/
def Match (bs : List Blk) (a b : Int × Int) : Prop :=
  a.1 = b.1 ∧ (a.1 = 0 → a.2 = -1 ∧ b.2 = -1) ∧ (a.1 ≠ 0 → a.1 ≠ 3 → (0 ≤ a.2 ∧ a.2 < bs.length) ∧ (0 ≤ b.2 ∧ b.2 < bs.length) ∧
    (bs.getD a.2.toNat default).s = (bs.reverse.getD b.2.toNat default).s ∧ (bs.getD a.2.toNat default).l = (bs.reverse.getD b.2.toNat default).l ∧ (bs.getD a.2.toNat default).r = (bs.reverse.getD b.2.toNat default).r)
theorem match_none (bs : List Blk) : Match bs (0, -1) (0, -1) := ⟨rfl, fun _ => ⟨rfl, rfl⟩, fun h => absurd rfl h⟩
theorem match_pick {bs : List Blk} {k k' kind : Int} {r r' : Int × Int} (hs : 0 ≤ k ↔ 0 ≤ k') (h0 : kind ≠ 0)
    (hm : 0 ≤ k → kind ≠ 3 → (k < bs.length) ∧ (k' < bs.length) ∧ (bs.getD k.toNat default).s = (bs.reverse.getD k'.toNat default).s ∧ (bs.getD k.toNat default).l = (bs.reverse.getD k'.toNat default).l ∧ (bs.getD k.toNat default).r = (bs.reverse.getD k'.toNat default).r)
    (hr : Match bs r r') : Match bs (pick4 k kind r) (pick4 k' kind r') := by
  by_cases h : 0 ≤ k
  · rw [pick4_yes h, pick4_yes (hs.1 h)]
    exact ⟨rfl, fun h' => absurd h' h0, fun _ h3 => ⟨⟨h, (hm h h3).1⟩, ⟨hs.1 h, (hm h h3).2.1⟩, (hm h h3).2.2⟩⟩
  · rw [pick4_no (by omega), pick4_no (by have : ¬ 0 ≤ k' := fun h' => h (hs.2 h'); omega)]
    exact hr

/-- A stale block has nothing in it. -/
theorem stale_live {p : Int} {bs : List Blk} (hr : RightL p bs = true) {x : Blk} (hx : x ∈ bs) (h : x.s = 3) : x.l = 0 := by
  have := RightL_all hr x hx
  simp only [rightB, Bool.and_eq_true] at this
  have h2 := this.2
  simp [h] at h2
  exact h2

theorem match_stale {p : Int} {bs : List Blk} (hr : RightL p bs = true) {P : Blk → Bool} (hP : ∀ x, P x = true → x.s = 3) (h0 : 0 ≤ best P wornB bs) :
    (best P wornB bs < bs.length) ∧ (best P wornB bs.reverse < bs.length) ∧ (bs.getD (best P wornB bs).toNat default).s = (bs.reverse.getD (best P wornB bs.reverse).toNat default).s ∧
      (bs.getD (best P wornB bs).toNat default).l = (bs.reverse.getD (best P wornB bs.reverse).toNat default).l ∧ (bs.getD (best P wornB bs).toNat default).r = (bs.reverse.getD (best P wornB bs.reverse).toNat default).r := by
  have h := alike_worn P bs
  have h1 := h.sign.1 h0
  have b1 := (best_bd P wornB bs).2
  have b2 := (best_bd P wornB bs.reverse).2
  rw [List.length_reverse] at b2
  have s1 := hP _ (best_pos h0)
  have s2 := hP _ (best_pos h1)
  have m1 := getD_mem (bs := bs) (i := (best P wornB bs).toNat) (by omega)
  have m2 := List.mem_reverse.1 (getD_mem (bs := bs.reverse) (i := (best P wornB bs.reverse).toNat) (by rw [List.length_reverse]; omega))
  have l1 := stale_live hr m1 s1
  have l2 := stale_live hr m2 s2
  exact ⟨b1, b2, by rw [s1, s2], by rw [l1, l2], worn_eq (h.same h0)⟩
theorem match_full {bs : List Blk} {P : Blk → Bool} (hP : ∀ x, P x = true → x.s = 2) (h0 : 0 ≤ best P emptierB bs) :
    (best P emptierB bs < bs.length) ∧ (best P emptierB bs.reverse < bs.length) ∧ (bs.getD (best P emptierB bs).toNat default).s = (bs.reverse.getD (best P emptierB bs.reverse).toNat default).s ∧
      (bs.getD (best P emptierB bs).toNat default).l = (bs.reverse.getD (best P emptierB bs.reverse).toNat default).l ∧ (bs.getD (best P emptierB bs).toNat default).r = (bs.reverse.getD (best P emptierB bs.reverse).toNat default).r := by
  have h := alike_emptier P bs
  have h1 := h.sign.1 h0
  have b1 := (best_bd P emptierB bs).2
  have b2 := (best_bd P emptierB bs.reverse).2
  rw [List.length_reverse] at b2
  have s1 := hP _ (best_pos h0)
  have s2 := hP _ (best_pos h1)
  exact ⟨b1, b2, by rw [s1, s2], emptier_eq (h.same h0)⟩

/-- P5.7, of what Next answers. -/
theorem NextL_turns (bs : List Blk) (p : Int) (room : Bool) : Match bs (NextL bs p room) (NextL bs.reverse p room) := by
  unfold NextL
  rw [RightL_reverse, leastL_reverse]
  by_cases hr : RightL p bs = true
  · rw [if_pos hr, if_pos hr]
    generalize leastL bs = least
    refine match_pick (alike_worn _ bs).sign (by decide) (fun h _ => match_stale hr (fun x hx => by simp [staleB] at hx; exact hx.1) h) ?_
    refine match_pick (alike_emptier _ bs).sign (by decide) (fun h _ => match_full (fun x hx => by simp [fullB] at hx; exact hx.1.1.2) h) ?_
    refine match_pick (first_alike _ bs) (by decide) (fun _ h => absurd rfl h) ?_
    refine match_pick (alike_emptier _ bs).sign (by decide) (fun h _ => match_full (fun x hx => by simp [fullB] at hx; exact hx.1.2) h) ?_
    unfold forcedL
    refine match_pick (alike_worn _ bs).sign (by decide) (fun h _ => match_stale hr (fun x hx => by simpa [staleB] using hx) h) ?_
    exact match_pick (alike_emptier _ bs).sign (by decide) (fun h _ => match_full (fun x hx => by simp [movedB, fullB] at hx; exact hx.1.2) h) (match_none bs)
  · rw [if_neg hr, if_neg hr]
    exact match_none bs

end Go.Proofs.Ythehkhondbphoaa
