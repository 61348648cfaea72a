/-
  A slice of blocks that came in, opened: for every such slice.
-/
import Derived.Test.YthehkhondbphoaaFrame
import Derived.Test.YthehkhondbphoaaGcA
namespace Go.Proofs.Ythehkhondbphoaa
open Go.ChangeShapes Go.WideShapes Go.ChangeAt Go.RowKit Go.Deep

theorem intRange {n : Int} (h : (Lit.int .i64 n).wf = true) : -9223372036854775808 ≤ n ∧ n ≤ 9223372036854775807 := by
  simpa [Lit.wf, IntKind.min, IntKind.max, IntKind.signed, IntKind.bits] using h

section
variable {H : Type} {enc : TypeId × Value → H}

/-- A place's four cells. -/
theorem cells4 {w : World} {base : Nat} {a : Addr} {cs : List Value} (h : w.cells? base a 4 = some cs) :
    ∃ c0 c1 c2 c3, cs = [c0, c1, c2, c3] ∧ w.cell? a = some c0 ∧ w.cell? (a.add 1) = some c1 ∧ w.cell? (a.add 2) = some c2 ∧ w.cell? (a.add 3) = some c3 := by
  obtain ⟨_, hl, hat⟩ := World.cells?_some h
  match cs, hl with
  | [c0, c1, c2, c3], _ =>
    have h0 := hat 0 (by omega)
    have h1 := hat 1 (by omega)
    have h2 := hat 2 (by omega)
    have h3 := hat 3 (by omega)
    exact ⟨c0, c1, c2, c3, rfl, by simpa [Addr.add] using h0, by simpa using h1, by simpa using h2, by simpa using h3⟩

/-- An integer of a field. -/
theorem int_field {W : World} {base : Nat} {sp : Nat → Bool} {held : Bool} {n : Nat} {v : Value} {y : DataW H × List MemPlace} (h : DataW.trod enc Try.prog W base sp held n 3 [v] = some y) : ∃ x, v = vi x := by
  obtain ⟨x, hx, _⟩ := DataW.trod_int Try.underlying3 h
  injection hx with hx _
  exact ⟨x, hx⟩

theorem block_fields : ∃ f0 f1 f2 f3 : Field, Try.prog.underlying 34 = some (.struct #[f0, f1, f2, f3]) ∧ (f0.type = 3 ∧ f0.offset = 0) ∧ (f1.type = 3 ∧ f1.offset = 1) ∧ (f2.type = 3 ∧ f2.offset = 2) ∧ (f3.type = 3 ∧ f3.offset = 3) :=
  ⟨_, _, _, _, Try.underlying34, ⟨rfl, rfl⟩, ⟨rfl, rfl⟩, ⟨rfl, rfl⟩, ⟨rfl, rfl⟩⟩
theorem cellsInt : Try.prog.cellsOf 3 = 1 := by kernel_rfl
theorem cellsBlock : Try.prog.cellsOf 34 = 4 := by kernel_rfl

theorem open_row {W : World} {v : Value} {d : DataW H} {p : List MemPlace} (h : DataW.Trod enc Try.prog W 0 (fun _ => true) true 22 v d p) {r : Reach} {b : Nat} (hv : Value.okWide Try.prog W r b 22 v) : ∃ bs, Row W v bs := by
  obtain ⟨a, len, cap, rfl⟩ := okWide_slice Try.underlying22 hv
  obtain ⟨fuel, hf⟩ := h
  rcases open_slice Try.underlying22 hf with ⟨hcs, _⟩ | ⟨a', len', cap', m, n, D, Pl, hcs, _, hl, hm, hmm, _, hi⟩
  · simp [Value.cells] at hcs
    obtain ⟨rfl, rfl, rfl⟩ := hcs
    exact ⟨[], by decide, none, 0, rfl, .inl rfl⟩
  · simp [Value.cells] at hcs
    obtain ⟨rfl, rfl, rfl⟩ := hcs
    simp only [if_true] at hmm
    subst hmm
    obtain ⟨f0, f1, f2, f3, hs, t0, t1, t2, t3⟩ := block_fields
    obtain ⟨B, hB⟩ := choose_lt (α := Blk) (n := len) (p := fun i x => W.cell? (a'.add (i * 4)) = some (vi x.s) ∧ W.cell? (a'.add (i * 4 + 1)) = some (vi x.l) ∧ W.cell? (a'.add (i * 4 + 2)) = some (vi x.r) ∧ W.cell? (a'.add (i * 4 + 3)) = some (vi x.n)) (fun i hlt => by
      obtain ⟨cs, hc, ht⟩ := hi i (by omega)
      rw [cellsBlock] at hc
      obtain ⟨c0, c1, c2, c3, rfl, h0, h1, h2, h3⟩ := cells4 hc
      obtain ⟨xs, n', _, _, _, hxl, hg⟩ := DataW.trod_struct hs ht
      simp at hxl
      match xs, hxl with
      | [y0, y1, y2, y3], _ =>
        have q0 := hg 0 f0 rfl
        have q1 := hg 1 f1 rfl
        have q2 := hg 2 f2 rfl
        have q3 := hg 3 f3 rfl
        rw [t0.1, t0.2, cellsInt] at q0
        rw [t1.1, t1.2, cellsInt] at q1
        rw [t2.1, t2.2, cellsInt] at q2
        rw [t3.1, t3.2, cellsInt] at q3
        obtain ⟨x0, rfl⟩ := int_field q0
        obtain ⟨x1, rfl⟩ := int_field q1
        obtain ⟨x2, rfl⟩ := int_field q2
        obtain ⟨x3, rfl⟩ := int_field q3
        rw [add_add] at h1 h2 h3
        exact ⟨⟨x0, x1, x2, x3⟩, h0, h1, h2, h3⟩)
    refine ⟨(List.range len).map B, by simp [maxLen] at hm ⊢; omega, some a', m, by simp, ?_⟩
    rcases Nat.eq_zero_or_pos len with h0 | h0
    · exact .inl (by simp [h0])
    · have hsp : a'.spot = none := by
        have := (hB 0 h0).1
        simp only [Nat.zero_mul, Addr.add, if_true, World.cell?] at this
        cases hh : a'.spot with
        | none => rfl
        | some q => rw [hh] at this; split at this <;> simp at this
      obtain ⟨b', o', s'⟩ := a'
      dsimp only at hsp
      subst hsp
      refine .inr ⟨b', o', rfl, fun i hlt => ?_⟩
      have hlt' : i < len := by simpa using hlt
      have := hB i hlt'
      have e : ∀ k, (⟨b', o', none⟩ : Addr).add k = ⟨b', o' + k, none⟩ := fun k => by unfold Addr.add; split <;> simp [*]
      rw [e, e, e, e] at this
      have hg : ((List.range len).map B).getD i default = B i := by simp [List.getD, hlt']
      rw [hg]
      exact this
end

end Go.Proofs.Ythehkhondbphoaa
