/-
  A block's pages told one by one: the function that tells them; of a chip that is not there none are told. No conditions of its own.
-/
import Derived.Test.YtpggkehfbhffbaaNN
import Derived.RangeFuncNested
import Derived.RangeFuncBound
import Derived.RangeFuncCalls
import Derived.RangeFuncLeaves
import Derived.OwnWalkIn
import Derived.TacticsInMore
import Derived.LoopNIn
import Derived.LoopIn
namespace Go.Proofs.Ytpggkehfbhffbaa
open Go.RowKit
attribute [local go_sem] Oper.semAt_some

section
variable {w : World}
theorem Pages_any (p : Option Addr) (j : Int) : Calls Try.prog 15 #[.pointer p, vi j] w fun e w' => e = .returned (.func (.func 61) #[] #[.pointer (some ⟨w.heap.size, 0, none⟩), .pointer (some ⟨w.heap.size + 1, 0, none⟩)]) ∧ w' = (w.alloc (.cells #[.pointer p] 26)).alloc (.cells #[vi j] 3) := by
  go_enter Try.func15, Try.ntmps15
  go_wp2_with fail
  go_ret
  exact ⟨rfl, rfl⟩
/-- A page that is told. -/
structure Told where
  i : Int
  a : Option Addr
  l : List Nat
  c : Nat
abbrev Told.encs (x : Told) : Array Value := #[vi x.i, .slice x.a x.l.length x.c]
theorem Pages1_nil (n b1 b2 : Nat) (j : Int) (h1 : w.cell? ⟨b1, 0, none⟩ = some nilp) (h2 : w.cell? ⟨b2, 0, none⟩ = some (vi j)) (Kp : World → World → Prop) :
    SeqStopsK Fence.wide n Try.prog 61 #[.pointer (some ⟨b1, 0, none⟩), .pointer (some ⟨b2, 0, none⟩)] Told.encs Kp (fun xs => xs = []) (fun _ => False) 0 w := by
  intro l J Jx W hW hJ hJx hY h0
  refine callsIn_wide.2 ?_
  have c1 := cell_below h1 hW
  have c2 := cell_below h2 hW
  clear hY hJ hJx h1 h2
  have H0 := Lib.hid h0
  clear h0
  go_enter Try.func61, Try.ntmps61
  go_wp2_with fail
  refine (there_nil j).mono ?_
  rintro e w' ⟨rfl, rfl⟩
  go_wp2_with fail
  refine bodyPost_ret (results_none rfl _ _ _) rfl ?_
  exact ⟨⟨_, rfl⟩, .inl ⟨[], rfl, H0.out⟩⟩
theorem eql_seq_nil (w : World) (f : Fn) (a b : Array Value) : (binOp .eql 37 (.func f a b) .nilFunc).run Try.prog w = .ok (.bool false) w := by
  have h : ∀ d : Nat, (Op.equalIn (d + 1) 37 (.func f a b) .nilFunc).run Try.prog w = .ok false w := fun d => by
    simp [Op.equalIn, run_underlying Try.underlying37]
  simp only [binOp]
  simp [Op.equal, Op.maxDepth, h 9999]
/-- A function that holds one range over a function returns. -/
theorem marks_ret {n : Nat} {fn : Func} {R : Ending → World → Prop} {tmps : Array Value} {D : Nat} {v : Value} (hK : w.heap[D]? = some (.deferred (some []))) (hres : ∀ w, (results fn tmps).run Try.prog w = .ok v w)
    (h : R (.returned v) (w.putObj D (.deferred none))) : bodyPostM Fence.wide n Try.prog fn R .ret { tmps, defers := [{ target := .collected D, args := #[] }] } w :=
  ⟨by simp, .inl ⟨_, _, rfl, run_takeDeferred hK, ⟨_, hres _, h⟩⟩⟩
/-- A range over a function that tells nothing, its loop without variables of its own. -/
theorem wp_rangeFunc_none {α : Type} {g : Operand} {ps : Array Tmp} {body : Code} {Q : Exit → Act → World → Prop} {a : Act} {gf : Nat} {lb : Array Value} (hg : a.eval g = .func (.func gf) #[] lb)
    (eg : ∀ args w, (callFunc gf args).run Try.prog w = .ok (.enter gf args) w) {encs : α → Array Value} (hseq : SeqStopsK Fence.wide 5 Try.prog gf lb encs (fun _ _ => True) (fun xs => xs = []) (fun _ => False) 0 w)
    (hps : ∀ x, (encs x).size = ps.size)
    (hdone : ∀ (D : Nat) (W : World), w.heap.size ≤ D → Below w.heap.size w W → W.heap[D]? = some (.deferred (some [])) → Q .normal { a with defers := { target := .collected D, args := #[] } :: a.defers } W) :
    (Code.rangeFunc g ps Code.skip body).wp Try.prog Q a w :=
  wpIn_wide.1 (wpIn_rangeFunc_ownF (F := Fence.wide) (n := 6) rfl (by omega) (gf := gf) (lb := lb) hg trivial eg hseq (fun _ _ => trivial) (fun _ _ _ _ _ _ _ _ => trivial) (Below.refl _ _) hps
    (fun _ W => Below w.heap.size w W) (fun _ _ _ => False) (ownFrom_below (Nat.le_refl _) (Nat.le_refl _)) (fun _ _ _ _ _ h _ _ => h) (Below.refl _ _)
    (fun x => { tmps := (ps.zip (encs x)).foldl (fun t (p, v) => t.setIfInBounds p v) a.tmps, defers := [] }) (fun _ _ _ _ hK => wpIn_skip hK) (fun _ _ _ _ _ h => absurd h (Nat.not_lt_zero _))
    (fun D _ W hD _ hB hK => hdone D W hD hB hK) (fun _ _ _ _ _ _ h => h.elim))
theorem below_taken {w0 : World} {D : Nat} (h : Below w0.heap.size w0 w) (hD : w0.heap.size ≤ D) : Below w0.heap.size w0 (w.putObj D (.deferred none)) :=
  h.grown (grownBy_putObj' w D _) h.size (fun k e => by cases e; exact hD)
end

end Go.Proofs.Ytpggkehfbhffbaa
