/-
  A manager that is not there: what each method answers; none of a chip that is not there. No conditions.
-/
import Derived.Test.YtpggkehfbhffbaaNO
import Derived.WalkMore
namespace Go.Proofs.Ytpggkehfbhffbaa.mgr
open Go.RowKit
attribute [local go_sem] Oper.semAt_some

section
variable {w : World}
theorem ready_nil : Calls Try.prog 79 #[nilp] w fun e w' => e = .returned (vi 3) ∧ w' = w := by
  go_enter Try.func79, Try.ntmps79
  go_wp2_with fail
  go_ret
  exact ⟨rfl, rfl⟩
theorem idle_nil (j : Int) : Calls Try.prog 88 #[nilp, vi j] w fun e w' => e = .returned (vi 3) ∧ w' = w := by
  go_enter Try.func88, Try.ntmps88
  go_wp2_with fail
  refine ready_nil.mono ?_
  rintro e w' ⟨rfl, rfl⟩
  go_wp2_with fail
  go_ret
  exact ⟨rfl, rfl⟩
set_option maxRecDepth 100000 in
theorem Program_nil (v : Value) : Calls Try.prog 37 #[nilp, v] w fun e w' => e = .returned (.tuple #[vi 0, vi 0, vi 3]) ∧ w' = w := by
  go_enter Try.func37, Try.ntmps37
  go_wp2_with fail
  go_step3
  go_wp2_with fail
  refine ready_nil.mono ?_
  rintro e w' ⟨rfl, rfl⟩
  go_wp2_with fail
  rw [Exit.noGoto_ret]
  go_ret3
  exact ⟨rfl, rfl⟩
theorem Drop_nil (j : Int) : Calls Try.prog 40 #[nilp, vi j] w fun e w' => e = .returned (vi 3) ∧ w' = w := by
  go_enter Try.func40, Try.ntmps40
  go_wp2_with fail
  go_ret
  exact ⟨rfl, rfl⟩
theorem Erase_nil (j : Int) : Calls Try.prog 41 #[nilp, vi j] w fun e w' => e = .returned (vi 3) ∧ w' = w := by
  go_enter Try.func41, Try.ntmps41
  go_wp2_with fail
  refine (idle_nil j).mono ?_
  rintro e w' ⟨rfl, rfl⟩
  go_wp2_with fail
  go_ret
  exact ⟨rfl, rfl⟩
theorem Retire_nil (j : Int) : Calls Try.prog 42 #[nilp, vi j] w fun e w' => e = .returned (vi 3) ∧ w' = w := by
  go_enter Try.func42, Try.ntmps42
  go_wp2_with fail
  refine (idle_nil j).mono ?_
  rintro e w' ⟨rfl, rfl⟩
  go_wp2_with fail
  go_ret
  exact ⟨rfl, rfl⟩
theorem Free_nil : Calls Try.prog 44 #[nilp] w fun e w' => e = .returned (vi 0) ∧ w' = w := by
  go_enter Try.func44, Try.ntmps44
  go_wp2_with fail
  go_ret
  exact ⟨rfl, rfl⟩
theorem Room_nil : Calls Try.prog 43 #[nilp] w fun e w' => e = .returned (vi 0) ∧ w' = w := by
  go_enter Try.func43, Try.ntmps43
  go_wp2_with fail
  go_ret
  exact ⟨rfl, rfl⟩
theorem Left_nil : Calls Try.prog 45 #[nilp] w fun e w' => e = .returned (vi 0) ∧ w' = w := by
  go_enter Try.func45, Try.ntmps45
  go_wp2_with fail
  go_ret
  exact ⟨rfl, rfl⟩
set_option maxRecDepth 100000 in
theorem Open_nil (v1 v2 v3 v4 : Value) : Calls Try.prog 38 #[nilp, v1, v2, v3, v4] w fun e w' => e = .returned (.tuple #[.pointer none, vi 3]) ∧ w' = w := by
  go_enter Try.func38, Try.ntmps38
  go_wp2_with fail
  go_ret2
  exact ⟨rfl, rfl⟩
theorem Next_nil : Calls Try.prog 39 #[nilp] w fun e w' => e = .returned (.agg #[vi 0, vi (-1)]) ∧ Below w.heap.size w w' := by
  go_enter Try.func39, Try.ntmps39
  go_wp2_with fail
  exact bodyPost_ret (v := .agg #[vi 0, vi (-1)]) (by simp [results, Try.results39, go_sem]) rfl ⟨rfl, (Below.refl _ _).alloc (Nat.le_refl _) _⟩
theorem All_any (p : Option Addr) : Calls Try.prog 91 #[.pointer p] w fun e w' => e = .returned (.func (.func 121) #[] #[.pointer (some ⟨w.heap.size, 0, none⟩)]) ∧ w' = w.alloc (.cells #[.pointer p] 68) := by
  go_enter Try.func91, Try.ntmps91
  go_wp2_with fail
  go_ret
  exact ⟨rfl, rfl⟩
abbrev noEncs : Empty → Array Value := fun e => e.elim
theorem All1_nil (n b1 : Nat) (h1 : w.cell? ⟨b1, 0, none⟩ = some nilp) (Kp : World → World → Prop) :
    SeqStopsK Fence.wide n Try.prog 121 #[.pointer (some ⟨b1, 0, none⟩)] noEncs Kp (fun xs => xs = []) (fun _ => False) 0 w := by
  intro l J Jx W hW hJ hJx hY h0
  refine callsIn_wide.2 ?_
  have c1 := cell_below h1 hW
  clear hY hJ hJx h1
  have H0 := Lib.hid h0
  clear h0
  go_enter Try.func121, Try.ntmps121
  go_wp2_with fail
  refine bodyPost_ret (results_none rfl _ _ _) rfl ?_
  exact ⟨⟨_, rfl⟩, .inl ⟨[], rfl, H0.out⟩⟩
/-- A range over a function that tells nothing, whatever its loop does with its variables. -/
theorem wp_rangeFunc_empty {g : Operand} {ps : Array Tmp} {assign body : Code} {Q : Exit → Act → World → Prop} {a : Act} {gf : Nat} {lb : Array Value} (hg : a.eval g = .func (.func gf) #[] lb)
    (eg : ∀ args w, (callFunc gf args).run Try.prog w = .ok (.enter gf args) w) (hseq : SeqStopsK Fence.wide 5 Try.prog gf lb noEncs (fun _ _ => True) (fun xs => xs = []) (fun _ => False) 0 w)
    (hdone : ∀ (D : Nat) (W : World), w.heap.size ≤ D → Below w.heap.size w W → W.heap[D]? = some (.deferred (some [])) → Q .normal { a with defers := { target := .collected D, args := #[] } :: a.defers } W) :
    (Code.rangeFunc g ps assign body).wp Try.prog Q a w :=
  wpIn_wide.1 (wpIn_rangeFunc_ownF (F := Fence.wide) (n := 6) rfl (by omega) (gf := gf) (lb := lb) hg trivial eg hseq (fun _ _ => trivial) (fun _ _ _ _ _ _ _ _ => trivial) (Below.refl _ _) (fun x => x.elim)
    (fun _ W => Below w.heap.size w W) (fun _ _ _ => False) (ownFrom_below (Nat.le_refl _) (Nat.le_refl _)) (fun _ _ _ _ _ h _ _ => h) (Below.refl _ _)
    (fun x => x.elim) (fun _ x => x.elim) (fun _ _ x => x.elim)
    (fun D _ W hD _ hB hK => hdone D W hD hB hK) (fun _ _ _ _ _ _ h => h.elim))
theorem eql_seq_nil (w : World) (f : Fn) (a b : Array Value) : (binOp .eql 126 (.func f a b) .nilFunc).run Try.prog w = .ok (.bool false) w := by
  have h : ∀ d : Nat, (Op.equalIn (d + 1) 126 (.func f a b) .nilFunc).run Try.prog w = .ok false w := fun d => by
    simp [Op.equalIn, run_underlying Try.underlying126]
  simp only [binOp]
  simp [Op.equal, Op.maxDepth, h 9999]
set_option maxRecDepth 100000 in
set_option maxHeartbeats 2000000 in
theorem all_nil : Calls Try.prog 46 #[nilp] w fun e w' => e = .returned (.slice none 0 0) ∧ Below w.heap.size w w' := by
  have HB1 : Hid (Below w.heap.size w ((w.alloc (.cells #[.slice none 0 0] 76)).alloc (.cells #[.pointer none] 68))) := Lib.hid (((Below.refl _ _).alloc (Nat.le_refl _) _).alloc (by simp) _)
  have F0 : Blk ((w.alloc (.cells #[.slice none 0 0] 76)).alloc (.cells #[.pointer none] 68)) w.heap.size 76 #[.slice none 0 0] := (Blk.new _ _ _).alloc _
  have F1 : Blk ((w.alloc (.cells #[.slice none 0 0] 76)).alloc (.cells #[.pointer none] 68)) (w.heap.size + 1) 68 #[.pointer none] := by
    have := Blk.new (w.alloc (.cells #[.slice none 0 0] 76)) 68 #[.pointer none]
    rwa [size_alloc] at this
  refine callsIn_wide.1 (callsIn_of_wp_marks (F := Fence.wide) (n := 6) Try.func46 rfl trivial (wpIn_wide.2 ?_) rfl)
  simp only [Try.ntmps46, List.size_toArray, List.length_cons, List.length_nil, Nat.reduceAdd, Nat.reduceSub, Array.replicate_succ, Array.replicate_zero, List.push_toArray, List.append_toArray, List.nil_append, List.cons_append]
  go_wp2_with fail
  refine (All_any none).mono ?_
  rintro e w' ⟨rfl, rfl⟩
  have heq := eql_seq_nil
  go_wp2_with fail
  clear heq
  generalize (w.alloc (.cells #[.slice none 0 0] 76)).alloc (.cells #[.pointer none] 68) = w1 at *
  refine wp_rangeFunc_empty (gf := 121) (lb := #[.pointer (some ⟨w.heap.size + 1, 0, none⟩)]) rfl (enter_of Try.func121 (by kernel_rfl) rfl)
    (All1_nil 5 _ (F1.cell 0) (fun _ _ => True)) ?_
  rintro D W hD hB hK
  have HB := Lib.hid (HB1.out.trans (hB.mono HB1.out.size))
  have HK := Lib.hid hK
  have HD := Lib.hid hD
  have c0 : W.cell? ⟨w.heap.size, 0, none⟩ = some (.slice none 0 0) := cell_below (F0.cell 0) hB
  clear hK hB hD F0 F1
  go_wp2_with fail
  exact marks_ret (v := .slice none 0 0) HK.out (fun w => by simp [results, Try.results46, go_sem]) ⟨rfl, below_taken HB.out (Nat.le_trans HB1.out.size HD.out)⟩
end

end Go.Proofs.Ytpggkehfbhffbaa.mgr
