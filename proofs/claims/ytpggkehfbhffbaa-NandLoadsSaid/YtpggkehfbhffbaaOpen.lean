/-
  Data that came in, opened: numbers, truth values, rows of them, structs, rows of structs. For every program; no conditions.
-/
import Derived.Test.YtpggkehfbhffbaaB
import Derived.Deep.Slices
import Derived.Deep.Fields
import Derived.ChangeSame
import Derived.SizedLaws
namespace Go.Proofs.Ytpggkehfbhffbaa
open Go.ChangeShapes Go.WideShapes Go.ChangeAt Go.RowKit Go.Deep

theorem reach_le : reachBytes ≤ 140737488355328 := by decide

/-- A row's slice. -/
structure RowE (E : Type) where
  a : Option Addr
  l : List E
  c : Nat
abbrev RowE.v {E : Type} (r : RowE E) : Value := .slice r.a r.l.length r.c
instance {E : Type} : Inhabited (RowE E) := ⟨⟨none, [], 0⟩⟩

section
variable {H : Type} {enc : TypeId × Value → H} {P : Program} {W : World}

theorem weights_at {ts us : List TypeId} {ds gs : List (DataW H)} (h : (DataW.weightsEach P (ts ++ us) (ds ++ gs)).all (· ≤ reachBytes) = true) {j : Nat} {t : TypeId} {d : DataW H} (ht : ts[j]? = some t) (hd : ds[j]? = some d) :
    ∀ n ∈ d.weights P t, n ≤ reachBytes := by
  intro n hn
  have h1 : (ts ++ us)[j]? = some t := by rw [List.getElem?_append_left ((List.getElem?_eq_some_iff.1 ht).1)]; exact ht
  have h2 : (ds ++ gs)[j]? = some d := by rw [List.getElem?_append_left ((List.getElem?_eq_some_iff.1 hd).1)]; exact hd
  have := List.all_eq_true.1 h n (DataW.weights_mem_each h1 h2 n hn)
  simpa using this
theorem weightsAll_mem {e : TypeId} : ∀ {l : List (DataW H)} {d : DataW H}, d ∈ l → ∀ n ∈ d.weights P e, n ∈ DataW.weightsAll P e l
  | x :: l, d, h, n, hn => by
    simp only [DataW.weightsAll, List.mem_append]
    rcases List.mem_cons.1 h with rfl | h
    · exact Or.inl hn
    · exact Or.inr (weightsAll_mem h n hn)

/-- Cells of a type read as elements of a kind. -/
structure Opens (enc : TypeId × Value → H) (P : Program) (W : World) (t : TypeId) (m : Nat) {E : Type} (cs : E → List Value) (good : E → Prop) : Prop where
  size : P.cellsOf t = m
  len : ∀ e, (cs e).length = m
  elem : ∀ fuel c x, DataW.trod enc P W 0 (fun _ => true) true fuel t c = some x → (∀ n ∈ x.1.weights P t, n ≤ reachBytes) → ∃ e, c = cs e ∧ good e

theorem Opens.map {t : TypeId} {m : Nat} {E E' : Type} {cs : E → List Value} {good : E → Prop} {cs' : E' → List Value} {good' : E' → Prop} (h : Opens enc P W t m cs good) (f : E → E') (hl : ∀ e, (cs' e).length = m) (hc : ∀ e, cs' (f e) = cs e) (hg : ∀ e, good e → good' (f e)) : Opens enc P W t m cs' good' :=
  ⟨h.size, hl, fun fuel c x hx hw => by
    obtain ⟨e, rfl, hgd⟩ := h.elem fuel c x hx hw
    exact ⟨f e, (hc e).symm, hg e hgd⟩⟩

theorem Opens.int {t : TypeId} (ht : P.underlying t = some (.int .i64)) (hs : P.cellsOf t = 1) : Opens enc P W t 1 (fun n : Int => [vi n]) (fun n => -9223372036854775808 ≤ n ∧ n ≤ 9223372036854775807) :=
  ⟨hs, fun _ => rfl, fun fuel c x hx _ => by
    obtain ⟨k, hk, _, hwf⟩ := DataW.trod_int ht hx
    exact ⟨k, hk, by simpa [Lit.wf, IntKind.min, IntKind.max, IntKind.signed, IntKind.bits] using hwf⟩⟩
theorem Opens.byte {t : TypeId} (ht : P.underlying t = some (.int .u8)) (hs : P.cellsOf t = 1) : Opens enc P W t 1 (fun n : Nat => [.int .u8 n]) (fun n => n < 256) :=
  ⟨hs, fun _ => rfl, fun fuel c x hx _ => by
    obtain ⟨k, hk, _, hwf⟩ := DataW.trod_int ht hx
    have hr : 0 ≤ k ∧ k ≤ 255 := by simpa [Lit.wf, IntKind.min, IntKind.max, IntKind.signed, IntKind.bits] using hwf
    exact ⟨k.toNat, by rw [hk, Int.toNat_of_nonneg hr.1], by omega⟩⟩
theorem Opens.bool {t : TypeId} (ht : P.underlying t = some .bool) (hs : P.cellsOf t = 1) : Opens enc P W t 1 (fun b : Bool => [.bool b]) (fun _ => True) :=
  ⟨hs, fun _ => rfl, fun fuel c x hx _ => by
    obtain ⟨b, hb, _⟩ := DataW.trod_bool ht hx
    exact ⟨b, hb, trivial⟩⟩

/-- A row of elements. -/
structure RowOf (W : World) (m : Nat) {E : Type} [Inhabited E] (cs : E → List Value) (good : E → Prop) (r : RowE E) : Prop where
  at_ : r.l = [] ∨ ∃ b o, r.a = some ⟨b, o, none⟩ ∧ b < W.heap.size ∧ ∀ i, i < r.l.length → ∀ j u, (cs (r.l.getD i default))[j]? = some u → W.cell? ⟨b, o + i * m + j, none⟩ = some u
  good : ∀ e ∈ r.l, good e
  len : r.l.length ≤ r.c
  cap : r.c ≤ maxLen

theorem Opens.row {t T : TypeId} {m bytes : Nat} {E : Type} [Inhabited E] {cs : E → List Value} {good : E → Prop} (h : Opens enc P W t m cs good) (hm : 0 < m) (hT : P.underlying T = some (.slice t)) (hs : P.cellsOf T = 1) (hb : P.bytesOf t = bytes) :
    Opens enc P W T 1 (fun r : RowE E => [r.v]) (fun r => RowOf W m cs good r ∧ r.l.length * bytes ≤ reachBytes) := by
  refine ⟨hs, fun _ => rfl, fun fuel c x hx hw => ?_⟩
  rcases open_slice hT hx with ⟨rfl, _⟩ | ⟨a, len, cap, q, n, D, Pl, rfl, _, hl, hcm, hmm, rfl, hi⟩
  · exact ⟨⟨none, [], 0⟩, rfl, ⟨.inl rfl, by simp, Nat.le_refl _, Nat.zero_le _⟩, by simp⟩
  · simp only [if_true] at hmm
    subst hmm
    rw [h.size] at hi
    obtain ⟨B, hB⟩ := choose_lt (α := E) (n := len) (p := fun i e => W.cells? 0 (a.add (i * m)) m = some (cs e) ∧ good e) (fun i hlt => by
      obtain ⟨c', hc, ht⟩ := hi i (by omega)
      obtain ⟨e, rfl, hg⟩ := h.elem _ _ _ ht (fun n hn => hw n (by
        simp only [DataW.weights, hT, List.mem_cons, List.mem_append]
        exact .inr (.inl (weightsAll_mem (List.mem_map.2 ⟨i, List.mem_range.2 hlt, rfl⟩) n hn))))
      exact ⟨e, hc, hg⟩)
    have hL : ((List.range len).map B).length = len := by simp
    refine ⟨⟨some a, (List.range len).map B, q⟩, by simp [RowE.v], ⟨?_, ?_, by rw [hL]; exact hl, hcm⟩, ?_⟩
    · rcases Nat.eq_zero_or_pos len with h0 | h0
      · exact .inl (by simp [h0])
      · have hcell : ∀ i, i < len → ∀ j u, (cs (B i))[j]? = some u → W.cell? ((a.add (i * m)).add j) = some u := fun i hlt j u hu => by
          obtain ⟨_, hl2, hat⟩ := World.cells?_some (hB i hlt).1
          have hj : j < m := by
            have := (List.getElem?_eq_some_iff.1 hu).1
            rw [h.len] at this
            exact this
          rw [hat j hj]
          exact hu
        have h00 := hcell 0 h0 0 ((cs (B 0))[0]'(by rw [h.len]; exact hm)) (List.getElem?_eq_getElem _)
        have hsp : a.spot = none := by
          cases hh : a.spot with
          | none => rfl
          | some q => exact absurd (World.cell?_spot h00) (by simp [Addr.add, hh])
        obtain ⟨b', o', s'⟩ := a
        dsimp only at hsp
        subst hsp
        refine .inr ⟨b', o', rfl, ?_, fun i hlt j u hu => ?_⟩
        · have := cell_lt h00
          simpa [Addr.add] using this
        · have hlt' : i < len := by simpa using hlt
          have hg : ((List.range len).map B).getD i default = B i := by simp [List.getD, hlt']
          rw [hg] at hu
          have := hcell i hlt' j u hu
          rw [add_plain, add_plain] at this
          exact this
    · intro e he
      obtain ⟨i, hi', rfl⟩ := List.mem_map.1 he
      exact (hB i (List.mem_range.1 hi')).2
    · rw [hL]
      have := hw ((((List.range len).map D).length + ((List.range (q - len)).map fun j => D (len + j)).length) * P.bytesOf t) (by simp [DataW.weights, hT])
      rw [hb] at this
      simp only [List.length_map, List.length_range] at this
      exact Nat.le_trans (Nat.mul_le_mul_right _ (by omega)) this

section
variable {T : TypeId} {f0 f1 f2 f3 f4 f5 f6 : Field} {m0 m1 m2 m3 m4 m5 m6 : Nat} {E0 E1 E2 E3 E4 E5 E6 : Type} {c0 : E0 → List Value} {c1 : E1 → List Value} {c2 : E2 → List Value} {c3 : E3 → List Value} {c4 : E4 → List Value} {c5 : E5 → List Value} {c6 : E6 → List Value}
  {g0 : E0 → Prop} {g1 : E1 → Prop} {g2 : E2 → Prop} {g3 : E3 → Prop} {g4 : E4 → Prop} {g5 : E5 → Prop} {g6 : E6 → Prop}
/-- A field's cells. -/
theorem field_opens {fs : Array Field} (hS : P.underlying T = some (.struct fs)) {n : Nat} {c : List Value} {ys : List (DataW H × List MemPlace)} {j m off : Nat} {f : Field} {E : Type} {cs : E → List Value} {good : E → Prop}
    (hf : fs[j]? = some f) (hl : ys.length = fs.size)
    (hg : ∀ (i : Nat) (f : Field), fs[i]? = some f → DataW.trod enc P W 0 (fun _ => true) true n f.type ((c.drop f.offset).take (P.cellsOf f.type)) = ys[i]?)
    (hw : ∀ n ∈ (DataW.agg (ys.map (·.1))).weights P T, n ≤ reachBytes)
    (h : Opens enc P W f.type m cs good) (ho : f.offset = off) : ∃ e, (c.drop off).take m = cs e ∧ good e := by
  have ht := hg j f hf
  have hj : j < ys.length := by rw [hl]; exact (Array.getElem?_eq_some_iff.1 hf).1
  have hy : ys[j]? = some ys[j] := List.getElem?_eq_getElem hj
  rw [hy, ho, h.size] at ht
  exact h.elem _ _ _ ht (fun n hn => hw n (by
    simp only [DataW.weights, hS]
    exact DataW.weights_mem_each (j := j) (by simp [hf]) (by simp [hy]) n hn))
end
end

end Go.Proofs.Ytpggkehfbhffbaa
