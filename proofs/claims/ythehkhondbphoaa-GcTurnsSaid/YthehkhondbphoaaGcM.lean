/-
  A row of blocks copied: for every row of at most 4096 blocks.
-/
import Derived.Test.YthehkhondbphoaaGcF
import Derived.Test.YthehkhondbphoaaGcOpen
import Derived.Maps.AppendAt
namespace Go.Proofs.Ythehkhondbphoaa
open Go.RowKit

def Blk.cells4 (x : Blk) : List Value := [vi x.s, vi x.l, vi x.r, vi x.n]
def cellsOf (bs : List Blk) : List Value := bs.flatMap Blk.cells4
theorem cellsOf_length (bs : List Blk) : (cellsOf bs).length = bs.length * 4 := by
  induction bs with
  | nil => rfl
  | cons x bs ih => simp [cellsOf, Blk.cells4] at ih ⊢; omega
theorem cellsOf_append (xs ys : List Blk) : cellsOf (xs ++ ys) = cellsOf xs ++ cellsOf ys := by simp [cellsOf]
theorem cellsOf_get (bs : List Blk) (i j : Nat) (hi : i < bs.length) (hj : j < 4) : (cellsOf bs)[i * 4 + j]? = (bs.getD i default).cells4[j]? := by
  induction bs generalizing i with
  | nil => simp at hi
  | cons x bs ih =>
    have e : cellsOf (x :: bs) = x.cells4 ++ cellsOf bs := by simp [cellsOf]
    have hx : x.cells4.length = 4 := rfl
    rw [e]
    cases i with
    | zero => rw [List.getElem?_append_left (by omega)]; simp
    | succ i =>
      rw [List.getElem?_append_right (by omega), show (i + 1) * 4 + j - x.cells4.length = i * 4 + j from by omega, ih i (by simpa using hi)]
      simp
theorem cellsOf_one (bs : List Blk) : ∀ u ∈ cellsOf bs, u.oneCell' = true := by
  intro u hu
  simp only [cellsOf, List.mem_flatMap, Blk.cells4] at hu
  obtain ⟨x, _, hx⟩ := hu
  simp at hx
  rcases hx with rfl | rfl | rfl | rfl <;> rfl

theorem Row.news {w : World} {ad : Addr} {cap : Nat} {bs : List Blk} (h : Row w (.slice (some ad) bs.length cap) bs) : ∀ j u, (cellsOf bs)[j]? = some u → w.cell? (ad.add j) = some u := by
  intro j u hu
  have hj : j < bs.length * 4 := by
    have := (List.getElem?_eq_some_iff.1 hu).1
    rwa [cellsOf_length] at this
  have hi : j / 4 < bs.length := by omega
  obtain ⟨b, o, he, hx⟩ := h.lookup hi
  injection he with he
  subst he
  have e4 := Nat.div_add_mod j 4
  have hg := cellsOf_get bs (j / 4) (j % 4) hi (by omega)
  rw [show j / 4 * 4 + j % 4 = j from by omega, hu] at hg
  have ea : (⟨b, o, none⟩ : Addr).add j = ⟨b, o + j / 4 * 4 + j % 4, none⟩ := by
    unfold Addr.add
    split
    · subst_vars; simp
    · simp; omega
  rw [ea]
  have hm : j % 4 = 0 ∨ j % 4 = 1 ∨ j % 4 = 2 ∨ j % 4 = 3 := by omega
  rcases hm with hm | hm | hm | hm <;> rw [hm] at hg ⊢ <;> simp only [Blk.cells4, List.getElem?_cons_zero, List.getElem?_cons_succ, Option.some.injEq] at hg <;> rw [hg]
  · exact hx.1
  · exact hx.2.1
  · exact hx.2.2.1
  · exact hx.2.2.2

/-- What the call owns reads as a row. -/
theorem row_of_own {w : World} {base : Nat} {v : Value} {bs : List Blk} (h : w.ownsRow base 34 4 v bs.length (cellsOf bs)) : Row w v bs := by
  rcases h.2 with ⟨rfl, h0⟩ | ⟨g, cap, cur, rfl, hg, hh, hn, hm, hs, ht⟩
  · have : bs = [] := List.eq_nil_of_length_eq_zero h0
    subst this
    exact ⟨by decide, none, 0, rfl, .inl rfl⟩
  · refine ⟨by simp [maxLen] at hm; omega, _, cap, rfl, .inr ⟨g, 0, rfl, fun i hi => ?_⟩⟩
    have hc : ∀ j, j < 4 → w.cell? ⟨g, 0 + i * 4 + j, none⟩ = (bs.getD i default).cells4[j]? := fun j hj => by
      rw [← cellsOf_get bs i j hi hj, show 0 + i * 4 + j = i * 4 + j from by omega]
      exact World.ownsRow.cellAt h (i * 4 + j) (by omega)
    exact ⟨hc 0 (by omega), hc 1 (by omega), hc 2 (by omega), hc 3 (by omega)⟩

theorem block_info : (Try.prog.info? 34).map (fun i => (i.zero, i.size, i.bytes)) = some (some (.agg #[vi 0, vi 0, vi 0, vi 0]), 4, 32) := by kernel_rfl

/-- A row appended to a row of the call's own. -/
theorem append_blocks {w : World} {base : Nat} {v : Value} {n : Nat} {xs : List Value} (hown : w.ownsRow base 34 4 v n xs) {a : Option Addr} {c : Nat} {bs : List Blk}
    (hr : Row w (.slice a bs.length c) bs) (hn : n + bs.length ≤ 8192) (hb : base ≤ w.heap.size) :
    ∃ v' w', (Builtin.append_ #[22, 22] 22 #[v, .slice a bs.length c]).run Try.prog w = .ok v' w' ∧ w'.ownsRow base 34 4 v' (n + bs.length) (xs ++ cellsOf bs) ∧ w.grownBy w' v.ownBlock := by
  obtain ⟨i0, hi, hz0, hz1, hz2⟩ := info_parts block_info
  cases a with
  | some ad =>
    obtain ⟨v', w', h1, h2, h3, _⟩ := run_append_own_at (P := Try.prog) w base 22 22 34 i0 _ 4 32 Try.underlying22 hi hz0 hz1 hz2 rfl (by omega) v n xs hown ad bs.length c (cellsOf bs) (cellsOf_length bs) hr.news (cellsOf_one bs)
      (by unfold maxLen; omega) (by omega) hb
    exact ⟨v', w', h1, h2, h3⟩
  | none =>
    have h0 : bs = [] := by
      obtain ⟨_, a', c', he, h⟩ := hr
      injection he with he
      subst he
      rcases h with h | ⟨b, o, he, _⟩
      · exact h
      · cases he
    subst h0
    refine ⟨v, w, ?_, by simpa [cellsOf] using hown, World.grownBy.refl w _⟩
    rcases hown.2 with ⟨rfl, rfl⟩ | ⟨g, cap, cur, rfl, _, _, hnc, _⟩
    · simp [Builtin.append_, run_underlying Try.underlying22, sizeOf, typeInfo, hi, Builtin.lenOf, Builtin.firstCells]
    · simp [Builtin.append_, run_underlying Try.underlying22, sizeOf, typeInfo, hi, Builtin.lenOf, Builtin.firstCells, hnc, storeCells]

theorem own_empty (w : World) : (w.alloc (.cells #[] 34)).ownsRow w.heap.size 34 4 (.slice (some ⟨w.heap.size, 0, none⟩) 0 0) 0 [] :=
  ⟨rfl, .inr ⟨w.heap.size, 0, #[], rfl, Nat.le_refl _, heap_alloc_new w _, Nat.le_refl _, by decide, rfl, rfl⟩⟩

/-- Behind an append to what the call owns from 'base' on. -/
theorem grown_below {w w' : World} {base : Nat} {e size n : Nat} {v : Value} {xs : List Value} (hown : w.ownsRow base e size v n xs) (hg : w.grownBy w' v.ownBlock) (hb : base ≤ w.heap.size) : Below base w w' :=
  (Below.refl _ _).grown hg hb (fun k hk => (hown.lt k hk).1)

set_option maxHeartbeats 1000000 in
theorem Clone_any (v : Value) (bs : List Blk) (w : World) (hrow : Row w v bs) (hn : bs.length ≤ 4096) :
    Calls Try.prog 49 #[v] w fun e w' => ∃ v', e = .returned v' ∧ w'.ownsRow w.heap.size 34 4 v' bs.length (cellsOf bs) ∧ Below w.heap.size w w' := by
  have HR := Lib.hid hrow
  obtain ⟨hlen, a, cap, rfl, -⟩ := hrow
  have heq := fun W => Lib.run_eql_slice_nil (P := Try.prog) W 22 34 a bs.length cap 0 0 Try.underlying22
  cases a with
  | none =>
    have h0 : bs = [] := by
      obtain ⟨_, a', c', he, h⟩ := HR.out
      injection he with he
      subst he
      rcases h with h | ⟨b, o, he, _⟩
      · exact h
      · cases he
    subst h0
    simp only [List.length_nil] at heq ⊢
    go_enter Try.func49, Try.ntmps49
    go_wp2_with fail
    go_ret
    exact ⟨_, rfl, World.ownsRow_nil _ _ _ _, Below.refl _ _⟩
  | some ad =>
    obtain ⟨v', w', hrun, hown, hg⟩ := append_blocks (own_empty w) (HR.out.below ((Below.refl _ _).alloc (Nat.le_refl _) _)) (by omega) (by simp)
    have HO := Lib.hid hown
    have HG := Lib.hid (grown_below (own_empty w) hg (by simp))
    clear hown hg
    go_enter Try.func49, Try.ntmps49
    have HRun := Lib.hid hrun
    clear hrun
    go_wp2_with (at_builtin; refine wpList_append_run rfl (.tmp 5) (.tmp 6) rfl rfl rfl HRun.out ?_)
    go_ret
    exact ⟨_, rfl, by simpa using HO.out, ((Below.refl _ _).alloc (Nat.le_refl _) _).trans HG.out⟩

end Go.Proofs.Ythehkhondbphoaa
