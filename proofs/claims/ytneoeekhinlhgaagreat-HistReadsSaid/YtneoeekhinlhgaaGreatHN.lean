/-
  Read, of any row of bytes; what is read is small. Conditions: rows that are read.
-/
import Derived.Test.YtneoeekhinlhgaaGreatHM
namespace Go.Proofs.YtneoeekhinlhgaaGreat
open Go.RowKit

theorem Read_all (a : Option Addr) (l : List Nat) (c : Nat) (w : World) (h : BRow w a l) (hl : l.length ≤ 900000) (hc : l.length ≤ c) (hm : c ≤ maxLen) :
    Calls Tryz.prog 15 #[.slice a l.length c] w (ReadPost l w) := by
  by_cases h12 : 12 ≤ l.length
  · exact Read_any a l c w h h12 hl hc hm
  · exact Read_short a l c w (by omega)
theorem readL_no {b : List Nat} (h : (HP.readL b).2 ≠ 0) : (HP.readL b).1 = [] := by
  unfold HP.readL at h ⊢
  split
  · rfl
  · split
    · rfl
    · split
      · rfl
      · split
        · split
          · rename_i h1 h2 h3 h4 _ _ h5
            exfalso
            apply h
            rw [if_neg h1, if_neg h2, if_neg h3, if_pos h4, h5]
          · rfl
        · rfl
theorem write_small0 {l : List HP.HOp} {b : List Nat} (h : HP.writeL l = (b, 0)) : l.length ≤ 4096 ∧ b.length = (HP.bodyL l).length + 4 := by
  unfold HP.writeL at h
  split at h
  · injection h with _ h; omega
  · split at h
    · injection h with h _
      refine ⟨by omega, ?_⟩
      rw [← h]; simp [HP.le_length]
    · injection h with _ h; omega
theorem read_small {b : List Nat} (hb : ∀ x ∈ b, x < 256) (hl : b.length ≤ 900000) : (HP.readL b).1.length ≤ 10000 ∧ (HP.bodyL (HP.readL b).1).length ≤ 900000 := by
  by_cases h : (HP.readL b).2 = 0
  · obtain ⟨h1, _⟩ := HP.write_read hb (l := (HP.readL b).1) (by rw [← h])
    have := write_small0 h1
    omega
  · rw [readL_no h]
    decide
theorem own_cap {w : World} {base : Nat} {v : Value} {l : List Nat} (h : Own w base v l) (hs : ∀ x ∈ l, x < 256) : ∃ a c, v = .slice a l.length c ∧ BRow w a l ∧ l.length ≤ c ∧ c ≤ maxLen := by
  obtain ⟨a, c, rfl, hr, hc⟩ := h.row hs
  refine ⟨a, c, rfl, hr, hc, ?_⟩
  rcases h.2 with ⟨hv, _⟩ | ⟨g, cap, cur, hv, _, _, _, hcm, _⟩
  · injection hv with _ _ hv
    subst hv
    exact Nat.zero_le _
  · injection hv with _ _ hv
    subst hv
    exact hcm
theorem opsOf_length (es : List OpE) : (opsOf es).length = es.length := by simp [opsOf]

end Go.Proofs.YtneoeekhinlhgaaGreat
