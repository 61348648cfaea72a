/-
  gc: what a block's small tests answer, and the best one of a row: for every row that is read.
-/
import Derived.Test.YtpggkehfbhffbaaLib
namespace Go.Proofs.Ytpggkehfbhffbaa.gcs
open Go.RowKit

abbrev vblk (s l r n : Int) : Value := .agg #[vi s, vi l, vi r, vi n]
/-- api.Block: State, Live, Wear, Next. -/
structure Blk where
  s : Int
  l : Int
  r : Int
  n : Int
instance : Inhabited Blk := ⟨⟨0, 0, 0, 0⟩⟩
abbrev Blk.v (b : Blk) : Value := vblk b.s b.l b.r b.n

/-- Four cells at an address read as a block. -/
def At4 (w : World) (b o : Nat) (x : Blk) : Prop :=
  w.cell? ⟨b, o, none⟩ = some (vi x.s) ∧ w.cell? ⟨b, o + 1, none⟩ = some (vi x.l) ∧ w.cell? ⟨b, o + 2, none⟩ = some (vi x.r) ∧ w.cell? ⟨b, o + 3, none⟩ = some (vi x.n)
theorem At4.below {w w' : World} {b o : Nat} {x : Blk} (h : At4 w b o x) (hb : Below w.heap.size w w') : At4 w' b o x :=
  ⟨cell_below h.1 hb, cell_below h.2.1 hb, cell_below h.2.2.1 hb, cell_below h.2.2.2 hb⟩

/-- A slice of blocks: nil or not. -/
def Row (w : World) (v : Value) (bs : List Blk) : Prop :=
  bs.length ≤ 9223372036854775807 ∧ ∃ a cap, v = .slice a bs.length cap ∧ (bs = [] ∨ ∃ b o, a = some ⟨b, o, none⟩ ∧ ∀ i, i < bs.length → At4 w b (o + i * 4) (bs.getD i default))
theorem Row.below {w w' : World} {v : Value} {bs : List Blk} (h : Row w v bs) (hb : Below w.heap.size w w') : Row w' v bs := by
  obtain ⟨h0, a, cap, rfl, h⟩ := h
  refine ⟨h0, a, cap, rfl, ?_⟩
  rcases h with h | ⟨b, o, rfl, h⟩
  · exact .inl h
  · exact .inr ⟨b, o, rfl, fun i hi => (h i hi).below hb⟩

def rightB (p : Int) (x : Blk) : Bool :=
  decide (0 ≤ x.s) && decide (x.s ≤ 4) && decide (0 ≤ x.l) && decide (x.l ≤ p) && decide (0 ≤ x.n) && decide (x.n ≤ p) && decide (0 ≤ x.r) && decide (x.r ≤ 1099511627776) && (!(x.s == 0 || x.s == 3 || x.s == 4) || x.l == 0)

set_option maxHeartbeats 400000 in
theorem right_any (x : Blk) (p : Int) (w : World) :
    Calls Try.prog 128 #[x.v, vi p] w fun e w' => e = .returned (.bool (rightB p x)) ∧ Below w.heap.size w w' := by
  obtain ⟨s, l, r, n⟩ := x
  go_enter Try.func128, Try.ntmps128
  go_wp2
  all_goals go_ret
  all_goals refine ⟨ret_bool ?_, (Below.refl _ _).alloc (Nat.le_refl _) _⟩
  all_goals simp [rightB, *]
  all_goals omega

theorem good_any (x : Blk) (w : World) :
    Calls Try.prog 105 #[x.v] w fun e w' => e = .returned (.bool (x.s != 4)) ∧ Below w.heap.size w w' := by
  go_enter Try.func105, Try.ntmps105
  go_wp2
  go_ret
  exact ⟨rfl, (Below.refl _ _).alloc (Nat.le_refl _) _⟩

theorem worn_any (x y : Blk) (w : World) :
    Calls Try.prog 113 #[x.v, y.v] w fun e w' => e = .returned (.bool (decide (x.r < y.r))) ∧ Below w.heap.size w w' := by
  go_enter Try.func113, Try.ntmps113
  go_wp2
  go_ret
  exact ⟨rfl, ((Below.refl _ _).alloc (Nat.le_refl _) _).alloc (by simp) _⟩

end Go.Proofs.Ytpggkehfbhffbaa.gcs
