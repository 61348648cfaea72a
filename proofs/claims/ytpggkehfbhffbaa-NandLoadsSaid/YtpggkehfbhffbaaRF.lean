/-
  The document's chip: an erased block in plain words. No program in sight; no conditions.
-/
import Derived.Test.YtpggkehfbhffbaaRE
namespace Go.Proofs.Ytpggkehfbhffbaa
open Go.RowKit

theorem cutTo_getD (n : Nat) (data : List Nat) (ps : List (List Nat)) (p : Nat) : ∀ k, k ≤ ps.length → (NP.cutTo n data ps k).getD p [] = if p < k then NP.cutOne n (data.getD p 0) (ps.getD p []) else ps.getD p []
  | 0, _ => by simp [NP.cutTo]
  | k + 1, hk => by
    have ih := cutTo_getD n data ps p k (by omega)
    have ihk := cutTo_getD n data ps k k (by omega)
    unfold NP.cutTo
    dsimp only
    rw [NP.getD_set _ _ _ _ _ (by rw [NP.cutTo_length]; omega), ihk, if_neg (Nat.lt_irrefl k)]
    by_cases e : k = p
    · subst e
      rw [if_pos rfl, if_pos (Nat.lt_succ_self k)]
    · rw [if_neg e, ih]
      by_cases h : p < k
      · rw [if_pos h, if_pos (by omega)]
      · rw [if_neg h, if_neg (by omega)]
/-- Pages of a block: a range told by its elements. -/
theorem range_ext {α : Type} (l : List α) (d : α) (f : Nat → α) {n : Nat} (hl : l.length = n) (h : ∀ p, p < n → l.getD p d = f p) : l = (List.range n).map f := by
  apply List.ext_getElem?
  intro p
  by_cases hp : p < n
  · have := h p hp
    rw [List.getD_eq_getElem?_getD, List.getElem?_eq_getElem (by omega)] at this
    rw [List.getElem?_map, List.getElem?_range hp, List.getElem?_eq_getElem (by omega)]
    exact congrArg some this
  · rw [List.getElem?_eq_none (by omega), List.getElem?_eq_none (by simp; omega)]
theorem cutTo_range (n : Nat) (data : List Nat) (P : Nat) (f : Nat → List Nat) : NP.cutTo n data ((List.range P).map f) P = (List.range P).map (fun p => NP.cutOne n (data.getD p 0) (f p)) := by
  refine range_ext _ [] _ (by rw [NP.cutTo_length]; simp) fun p hp => ?_
  rw [cutTo_getD n data _ p P (by simp), if_pos hp, range_map_getD _ _ _ hp]

section
variable {base : Nat} {w wr : World} {k : Nat} {R : RefM}
/-- Pages so far: those of a block are turned by f up to i. -/
structure Turned (R : RefM) (b : Nat) (f : Nat → List Nat → List Nat) (i : Nat) (qs : List PgM) : Prop where
  len : qs.length = R.ps.length
  at_ : ∀ m, (qs.getD m default).l = if b * R.P ≤ m ∧ m < b * R.P + i then f (m - b * R.P) (R.ps.getD m default).l else (R.ps.getD m default).l
variable {b i : Nat} {f : Nat → List Nat → List Nat} {qs : List PgM}
theorem Turned.nil : Turned R b f 0 R.ps := ⟨rfl, fun m => by rw [if_neg (by omega)]⟩
theorem Turned.step (h : Turned R b f i qs) (hi : b * R.P + i < R.ps.length) (q : PgM) (hq : q.l = f i (R.ps.getD (b * R.P + i) default).l) : Turned R b f (i + 1) (qs.set (b * R.P + i) q) := by
  refine ⟨by rw [List.length_set, h.len], fun m => ?_⟩
  rw [getD_set' _ _ _ _ _ (by rw [h.len]; exact hi)]
  by_cases e : m = b * R.P + i
  · subst e
    rw [if_pos rfl, if_pos (by omega), hq, Nat.add_sub_cancel_left]
  · rw [if_neg e, h.at_]
    by_cases h1 : b * R.P ≤ m ∧ m < b * R.P + i
    · rw [if_pos h1, if_pos (by omega)]
    · rw [if_neg h1, if_neg (by omega)]
theorem Turned.stay (h : Turned R b f i qs) (hq : (R.ps.getD (b * R.P + i) default).l = f i (R.ps.getD (b * R.P + i) default).l) : Turned R b f (i + 1) qs := by
  refine ⟨h.len, fun m => ?_⟩
  rw [h.at_]
  by_cases e : m = b * R.P + i
  · subst e
    rw [if_neg (by omega), if_pos (by omega), Nat.add_sub_cancel_left]
    exact hq
  · by_cases h1 : b * R.P ≤ m ∧ m < b * R.P + i
    · rw [if_pos h1, if_pos (by omega)]
    · rw [if_neg h1, if_neg (by omega)]
/-- The block behind all. -/
theorem Turned.view (h : Turned R b f R.P qs) (hb : b < R.B) (hw : RefAt base w k R) {n' : Nat} {br' : Bool} {wr' : Int} {R' : RefM}
    (hR : R' = { R with ps := qs, nx := R.nx.set b n', br := R.br.set b br', wr := R.wr.set b wr' }) :
    R'.view = NP.setBlk R.view b ⟨(List.range R.P).map (fun p => f p (R.ps.getD (b * R.P + p) default).l), n', br', R.bd.getD b false, wr'⟩ := by
  subst hR
  unfold NP.setBlk
  show NP.Chp.mk _ _ _ _ _ _ _ _ _ = NP.Chp.mk _ _ _ _ _ _ _ _ _
  congr 1
  refine RefM.view_set R _ _ (fun j hj => ?_) rfl
  show NP.Blo.mk ((List.range R.P).map fun p => (qs.getD (j * R.P + p) default).l) ((R.nx.set b n').getD j 0) ((R.br.set b br').getD j false) (R.bd.getD j false) ((R.wr.set b wr').getD j 0) = _
  rw [getD_set' _ _ _ _ _ (by rw [hw.ln]; exact hb), getD_set' _ _ _ _ _ (by rw [hw.lb]; exact hb), getD_set' _ _ _ _ _ (by rw [hw.lw]; exact hb)]
  by_cases e : j = b
  · subst e
    rw [if_pos rfl, if_pos rfl, if_pos rfl, if_pos rfl]
    congr 1
    refine List.map_congr_left fun p hp => ?_
    rw [List.mem_range] at hp
    rw [h.at_, if_pos (by omega), Nat.add_sub_cancel_left]
  · rw [if_neg e, if_neg e, if_neg e, if_neg e]
    unfold RefM.blo
    congr 1
    refine List.map_congr_left fun p hp => ?_
    rw [List.mem_range] at hp
    rw [h.at_, if_neg]
    rintro ⟨h1, h2⟩
    refine e ?_
    have h3 : j * R.P + p = b * R.P + (j * R.P + p - b * R.P) := by omega
    exact ((at_inj hp (by omega)).1 h3).1
end

end Go.Proofs.Ytpggkehfbhffbaa
