/-
  Small general facts used by every walk of this seat: cells and worlds that only grow; a region that draws its order and whose operations leave old memory alone, walked once in the order of the text. No conditions of its own.
-/
import Derived.Test.YtpggkehfbhffbaaRows
import Derived.WalkKit
import Derived.WalkLawsBesides
import Derived.WalkSpells
import Derived.ProofKit
import Derived.Lib.Hide
import Derived.BigQuiet
import Derived.Deep.Slices
import Derived.Deep.Fields
import Derived.OpenShut
import Derived.Laws.EntriesVeiled
namespace Go.Proofs.Ytpggkehfbhffbaa
open Go.RowKit

abbrev vi (n : Int) : Value := .int .i64 n

theorem ret_int {a b : Int} (h : a = b) : Ending.returned (vi a) = .returned (vi b) := by rw [h]
theorem ret_bool {a b : Bool} (h : a = b) : Ending.returned (.bool a) = .returned (.bool b) := by rw [h]

theorem cell_lt {w : World} {a : Addr} {v : Value} (h : w.cell? a = some v) : a.block < w.heap.size := by
  rcases Nat.lt_or_ge a.block w.heap.size with hlt | hge
  · exact hlt
  · simp [World.cell?, Array.getElem?_eq_none hge] at h
theorem cell_below {w w' : World} {a : Addr} {v : Value} (h : w.cell? a = some v) (hb : Below w.heap.size w w') : w'.cell? a = some v :=
  (hb.cell (cell_lt h)).trans h

/-- The worlds in which all that W holds stands as it stood. -/
structure Sub (W : World) where
  w : World
  below : Below W.heap.size W w

instance {W : World} : Nonempty (Sub W) := ⟨⟨W, Below.refl _ _⟩⟩

theorem Sub.cell {W : World} {a : Addr} {v : Value} (h : W.cell? a = some v) : ∀ n : Sub W, n.w.cell? a = some v := fun n => cell_below h n.below
theorem Sub.grow {W : World} (n : Sub W) {w' : World} (h : Below n.w.heap.size n.w w') : Below W.heap.size W w' := n.below.trans (h.mono n.below.size)

/-- A callee's contract, met in one of these worlds. -/
theorem ext_of {P : Program} {f : FuncId} {args : Array Value} {W : World} {n : Sub W} {v : Value}
    (h : Calls P f args n.w fun e w' => e = .returned v ∧ Below n.w.heap.size n.w w') :
    Calls P f args n.w fun e w'' => e = .returned v ∧ ∃ m : Sub W, w'' = m.w :=
  h.mono fun _ _ ⟨he, hb⟩ => ⟨he, ⟨_, n.grow hb⟩, rfl⟩

/-- A region that draws its order, walked once in the order of the text: its operations yield the same in each of these worlds, its callees leave one of them. -/
theorem wp_region_sub {P : Program} {id : Nat} {Q : Exit → Act → World → Prop} {a : Act} {w : World} {l : List Oper} (hm : P.follows .mixedOrders = true) (hB : Region.lexB .any l.toArray = true)
    (h : wpQuiet P l.toArray (fun w' => ∃ n : Sub w, w' = n.w) (fun a' => ∀ w', (∃ n : Sub w, w' = n.w) → Q .normal a' w') l a) : (Code.region id l.toArray true).wp P Q a w :=
  wp_region_quiet (C := fun w' => ∃ n : Sub w, w' = n.w) hm hB ⟨⟨_, (Below.refl _ _).drew⟩, rfl⟩ (by simpa using h)

/-- A call of a function that has a body enters it. -/
theorem enter_of {P : Program} {f : FuncId} {fn : Func} {c : Code} (hf : P.funcs[f]? = some fn) (hname : (fn.name == "runtime.NumGoroutine") = false) (hb : fn.body = some c) (args : Array Value) (w : World) :
    (callFunc f args).run P w = .ok (.enter f args) w := by
  have h1 : fn.name ≠ "runtime.NumGoroutine" := by simpa using hname
  simp [callFunc, hf, h1, hb]

/-- An append whose run is known. -/
theorem wpList_append_run {P : Program} {w w' : World} {ops : Array Oper} {rest : List Oper} {o : Oper} {a : Act} {Q : Exit → Act → World → Prop} (hgd : o.guard = none) (s x : Operand) {t : TypeId}
    (ho : o.op = .call { callee := .builtin .append, args := #[s, x], argTypes := #[t, t] }) {v src v' : Value} (hs : a.eval s = v) (hx : a.eval x = src)
    (hrun : (Builtin.append_ #[t, t] o.type #[v, src]).run P w = .ok v' w') (h : wpList P ops Q rest (a.put o.dst v') w') : wpList P ops Q (o :: rest) a w := by
  refine wpList_plain hgd fun K hK => ?_
  unfold Oper.wp execOp
  simp only [ho, resolve, invoke, builtin, Sem.run_bind, Sem.run_pure, Result.andThen_ok, List.map_toArray, List.map_cons, List.map_nil, hs, hx, hrun]
  exact hK _ _ h

end Go.Proofs.Ytpggkehfbhffbaa
