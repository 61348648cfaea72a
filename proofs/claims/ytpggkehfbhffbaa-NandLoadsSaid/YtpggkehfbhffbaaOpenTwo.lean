/-
  Data that came in, opened: structs of three and five fields, arguments. For every program; no conditions.
-/
import Derived.Test.YtpggkehfbhffbaaOpen
namespace Go.Proofs.Ytpggkehfbhffbaa
open Go.ChangeShapes Go.WideShapes Go.ChangeAt Go.RowKit Go.Deep

section
variable {H : Type} {enc : TypeId × Value → H} {P : Program} {W : World}
theorem split3 {α : Type} {c : List α} {a b d : Nat} (h : c.length = a + b + d) : c = (c.drop 0).take a ++ ((c.drop a).take b ++ (c.drop (a + b)).take d) := by
  rw [List.drop_zero]
  have h1 : (c.drop (a + b)).take d = c.drop (a + b) := List.take_of_length_le (by rw [List.length_drop]; omega)
  rw [h1, ← List.drop_drop, List.take_append_drop, List.take_append_drop]
variable {T : TypeId} {f0 f1 f2 f3 f4 : Field} {m0 m1 m2 m3 m4 : Nat} {E0 E1 E2 E3 E4 : Type} {c0 : E0 → List Value} {c1 : E1 → List Value} {c2 : E2 → List Value} {c3 : E3 → List Value} {c4 : E4 → List Value}
  {g0 : E0 → Prop} {g1 : E1 → Prop} {g2 : E2 → Prop} {g3 : E3 → Prop} {g4 : E4 → Prop}
theorem Opens.agg3 (hS : P.underlying T = some (.struct #[f0, f1, f2])) (hC : P.cellsOf T = m0 + m1 + m2) (h0 : Opens enc P W f0.type m0 c0 g0) (o0 : f0.offset = 0) (h1 : Opens enc P W f1.type m1 c1 g1) (o1 : f1.offset = m0)
    (h2 : Opens enc P W f2.type m2 c2 g2) (o2 : f2.offset = m0 + m1) : Opens enc P W T (m0 + m1 + m2) (fun e : E0 × E1 × E2 => c0 e.1 ++ (c1 e.2.1 ++ c2 e.2.2)) (fun e => g0 e.1 ∧ g1 e.2.1 ∧ g2 e.2.2) := by
  refine ⟨hC, fun e => by simp [h0.len, h1.len, h2.len, Nat.add_assoc], fun fuel c x hx hw => ?_⟩
  obtain ⟨xs, n, _, rfl, hl, hlen, hf⟩ := DataW.trod_struct hS hx
  obtain ⟨e0, p0, q0⟩ := field_opens (W := W) (j := 0) hS (c := c) (f := f0) rfl (by simpa using hlen) hf hw h0 o0
  obtain ⟨e1, p1, q1⟩ := field_opens (W := W) (j := 1) hS (c := c) (f := f1) rfl (by simpa using hlen) hf hw h1 o1
  obtain ⟨e2, p2, q2⟩ := field_opens (W := W) (j := 2) hS (c := c) (f := f2) rfl (by simpa using hlen) hf hw h2 o2
  refine ⟨(e0, e1, e2), ?_, q0, q1, q2⟩
  dsimp only
  rw [← p0, ← p1, ← p2]
  exact split3 (by rw [hl, hC])
theorem split5 {α : Type} {c : List α} {a b d e f : Nat} (h : c.length = a + b + d + e + f) : c = (c.drop 0).take a ++ ((c.drop a).take b ++ ((c.drop (a + b)).take d ++ ((c.drop (a + b + d)).take e ++ (c.drop (a + b + d + e)).take f))) := by
  rw [List.drop_zero]
  have h1 : (c.drop (a + b + d + e)).take f = c.drop (a + b + d + e) := List.take_of_length_le (by rw [List.length_drop]; omega)
  rw [h1, ← List.drop_drop (i := e), List.take_append_drop, ← List.drop_drop (i := d), List.take_append_drop, ← List.drop_drop (i := b), List.take_append_drop, List.take_append_drop]
theorem Opens.agg5 (hS : P.underlying T = some (.struct #[f0, f1, f2, f3, f4])) (hC : P.cellsOf T = m0 + m1 + m2 + m3 + m4) (h0 : Opens enc P W f0.type m0 c0 g0) (o0 : f0.offset = 0) (h1 : Opens enc P W f1.type m1 c1 g1) (o1 : f1.offset = m0)
    (h2 : Opens enc P W f2.type m2 c2 g2) (o2 : f2.offset = m0 + m1) (h3 : Opens enc P W f3.type m3 c3 g3) (o3 : f3.offset = m0 + m1 + m2) (h4 : Opens enc P W f4.type m4 c4 g4) (o4 : f4.offset = m0 + m1 + m2 + m3) :
    Opens enc P W T (m0 + m1 + m2 + m3 + m4) (fun e : E0 × E1 × E2 × E3 × E4 => c0 e.1 ++ (c1 e.2.1 ++ (c2 e.2.2.1 ++ (c3 e.2.2.2.1 ++ c4 e.2.2.2.2)))) (fun e => g0 e.1 ∧ g1 e.2.1 ∧ g2 e.2.2.1 ∧ g3 e.2.2.2.1 ∧ g4 e.2.2.2.2) := by
  refine ⟨hC, fun e => by simp [h0.len, h1.len, h2.len, h3.len, h4.len, Nat.add_assoc], fun fuel c x hx hw => ?_⟩
  obtain ⟨xs, n, _, rfl, hl, hlen, hf⟩ := DataW.trod_struct hS hx
  obtain ⟨e0, p0, q0⟩ := field_opens (W := W) (j := 0) hS (c := c) (f := f0) rfl (by simpa using hlen) hf hw h0 o0
  obtain ⟨e1, p1, q1⟩ := field_opens (W := W) (j := 1) hS (c := c) (f := f1) rfl (by simpa using hlen) hf hw h1 o1
  obtain ⟨e2, p2, q2⟩ := field_opens (W := W) (j := 2) hS (c := c) (f := f2) rfl (by simpa using hlen) hf hw h2 o2
  obtain ⟨e3, p3, q3⟩ := field_opens (W := W) (j := 3) hS (c := c) (f := f3) rfl (by simpa using hlen) hf hw h3 o3
  obtain ⟨e4, p4, q4⟩ := field_opens (W := W) (j := 4) hS (c := c) (f := f4) rfl (by simpa using hlen) hf hw h4 o4
  refine ⟨(e0, e1, e2, e3, e4), ?_, q0, q1, q2, q3, q4⟩
  dsimp only
  rw [← p0, ← p1, ← p2, ← p3, ← p4]
  exact split5 (by rw [hl, hC])
end

end Go.Proofs.Ytpggkehfbhffbaa
