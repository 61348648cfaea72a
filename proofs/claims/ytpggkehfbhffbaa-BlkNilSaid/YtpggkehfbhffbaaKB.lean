/-
  Truth values that a slice reads as; numbers made. No conditions.
-/
import Derived.Test.YtpggkehfbhffbaaND
namespace Go.Proofs.Ytpggkehfbhffbaa
open Go.RowKit

/-- Truth values that a slice reads as. -/
def BoRow (w : World) (a : Option Addr) (l : List Bool) : Prop := l = [] ∨ ∃ b o, a = some ⟨b, o, none⟩ ∧ ∀ i, i < l.length → w.cell? ⟨b, o + i, none⟩ = some (.bool (l.getD i false))
theorem BoRow.lookup {w : World} {a : Option Addr} {l : List Bool} (h : BoRow w a l) {i : Nat} (hi : i < l.length) : ∃ b o, a = some ⟨b, o, none⟩ ∧ w.cell? ⟨b, o + i, none⟩ = some (.bool (l.getD i false)) := by
  rcases h with rfl | ⟨b, o, rfl, h⟩
  · simp at hi
  · exact ⟨b, o, rfl, h i hi⟩
theorem BoRow.old {w w' : World} {a : Option Addr} {l : List Bool} (h : BoRow w a l) (q : Below w.heap.size w w') : BoRow w' a l := by
  rcases h with h | ⟨b, o, rfl, h⟩
  · exact .inl h
  · exact .inr ⟨b, o, rfl, fun i hi => cell_below (h i hi) q⟩
theorem borow_own {w : World} {base : Nat} {v : Value} {l : List Bool} (h : w.ownsRow base 4 1 v l.length (l.map Value.bool)) : ∃ a c, v = .slice a l.length c ∧ BoRow w a l := by
  have h' := h
  rcases h'.2 with ⟨rfl, h0⟩ | ⟨g, cap, cur, rfl, _⟩
  · have : l = [] := List.eq_nil_of_length_eq_zero h0
    subst this
    exact ⟨none, 0, rfl, .inl rfl⟩
  · refine ⟨_, cap, rfl, .inr ⟨g, 0, rfl, fun i hi => ?_⟩⟩
    rw [Nat.zero_add, World.ownsRow.cellAt h i (by omega), List.getElem?_map, List.getElem?_eq_getElem hi, List.getD_eq_getElem?_getD, List.getElem?_eq_getElem hi]
    rfl
theorem mgr.int_info : (Try.prog.info? 3).map (fun i => (i.zero, i.size, i.bytes)) = some (some (vi 0), 1, 8) := by kernel_rfl
theorem mgr.make_ints (n : Nat) (hn : n ≤ 1000000) (w : World) : (Instr.makeSlice 24 (.int .i64 (n : Int)) (.int .i64 (n : Int))).run Try.prog w = .ok (.slice (some ⟨w.heap.size, 0, none⟩) n n) (w.alloc (.cells (madeCells #[vi 0] n) 3)) :=
  run_make_row' 24 3 (vi 0) 8 Try.underlying24 mgr.int_info rfl .i64 .i64 n (by omega) (by omega) w

theorem alloc_box (w : World) (cs : Array Value) (t : TypeId) : Below w.heap.size w (w.alloc (.cells cs t)) := (Below.refl _ _).alloc (Nat.le_refl _) _
theorem bad_view (M : ChM) (j : Int) (hB : M.bs.length = M.B) : badM M j = NP.badAt M.view j := by
  have hB' : (M.view.B : Int) = M.bs.length := by rw [hB]; rfl
  unfold badM NP.badAt
  rw [hB']
  by_cases h : 0 ≤ j ∧ j < M.bs.length
  · rw [if_pos h, if_pos h, view_blk (by omega)]
    rfl
  · rw [if_neg h, if_neg h]

end Go.Proofs.Ytpggkehfbhffbaa
