/-
  How small the rows are that a law looks at. Plain.
-/
import Derived.Test.YtneoeekhinlhgaaGreatHK
namespace Go.Proofs.YtneoeekhinlhgaaGreat
open Go.RowKit

theorem sizeTo_sum (es : List OpE) : ∀ k, k ≤ es.length → sizeTo es k = ((es.take k).map sizeOf1).sum
  | 0, _ => by simp [sizeTo]
  | k + 1, h => by
    rw [sizeTo, sizeTo_sum es k (by omega), take_snoc_op (by omega)]
    simp
theorem sum_ge : ∀ es : List OpE, es.length * 20 ≤ (es.map sizeOf1).sum ∧ ((opsOf es).flatMap HP.enc).length ≤ (es.map sizeOf1).sum + es.length
  | [] => by simp [opsOf]
  | e :: es => by
    obtain ⟨h1, h2⟩ := sum_ge es
    have h3 := HP.enc_length e.o
    simp only [opsOf, List.map_cons, List.flatMap_cons, List.length_append, List.sum_cons, List.length_cons] at h1 h2 ⊢
    rw [h3]
    unfold sizeOf1 at *
    omega
theorem body_len (l : List HP.HOp) : (HP.bodyL l).length = 8 + (l.flatMap HP.enc).length := by
  simp [HP.bodyL, HP.le_length]
  omega
/-- What a small size says. -/
theorem size_small {es : List OpE} (h : sizeTo es es.length ≤ 20000) : es.length ≤ 1000 ∧ (HP.bodyL (opsOf es)).length ≤ 21008 := by
  rw [sizeTo_sum es es.length (Nat.le_refl _), List.take_length] at h
  obtain ⟨h1, h2⟩ := sum_ge es
  rw [body_len]
  omega
theorem write_len (l : List HP.HOp) : (HP.writeL l).1.length ≤ (HP.bodyL l).length + 4 := by
  unfold HP.writeL
  split
  · simp
  · split
    · simp [HP.le_length]
    · simp
theorem write_small (l : List HP.HOp) (hf : ∀ o ∈ l, o.fits) : ∀ x ∈ (HP.writeL l).1, x < 256 := by
  unfold HP.writeL
  split
  · simp
  · split
    · intro x hx
      rcases List.mem_append.1 hx with h | h
      · exact HP.body_small hf x h
      · exact HP.le_small _ _ x h
    · simp
theorem ops_fits {es : List OpE} (h : ∀ e ∈ es, e.o.fits) : ∀ o ∈ opsOf es, o.fits := by
  intro o ho
  obtain ⟨e, he, rfl⟩ := List.mem_map.1 ho
  exact h e he

end Go.Proofs.YtneoeekhinlhgaaGreat
