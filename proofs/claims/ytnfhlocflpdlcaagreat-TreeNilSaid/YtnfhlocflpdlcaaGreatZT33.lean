/-
  Lemmas for a law's proof, put together from several texts: each part says what it shows, and its conditions.
-/
import Derived.Test.YtnfhlocflpdlcaaGreatZT32
import Derived.WalkMore
import Derived.RangeFuncNested
import Derived.RangeFuncBound
import Derived.RangeFuncCalls
import Derived.RangeFuncLeaves
import Derived.OwnWalkIn
import Derived.TacticsInMore
import Derived.LoopNIn
import Derived.LoopIn
/-
  A translation that was formatted fits; rows of bytes 0; a range over a function that tells nothing. No conditions.
-/
namespace Go.Proofs.YtnfhlocflpdlcaaGreat.FP
open Go.Proofs.YtnfhlocflpdlcaaGreat.mgr
def z56 : List Nat := List.replicate 56 0
def z64 : List Nat := List.replicate 64 0
def dummy : Ft := ⟨NP.blank 8 4 64, ⟨[], 0, 0, 0, false⟩, 0, 0, [], [], [], [], 0, 0, [], false⟩
end Go.Proofs.YtnfhlocflpdlcaaGreat.FP
namespace Go.Proofs.YtnfhlocflpdlcaaGreat.ft
open Go.RowKit Go.Proofs.YtnfhlocflpdlcaaGreat.mgr
abbrev nilp : Value := .pointer none
abbrev encI (n : Int) : Value := vi n
theorem zero_int (w : World) : (zeroValue 3).run Tryz.prog w = .ok (vi 0) w := by kernel_rfl
abbrev noEncs : Empty → Array Value := fun e => e.elim
theorem zero_row {base : Nat} (w : World) (n : Nat) : SRow base (w.alloc (.cells (madeCells #[vb 0] n) 5)) (some ⟨w.heap.size, 0, none⟩) (List.replicate n 0) := by
  refine ⟨⟨fun x hx => by rw [List.eq_of_mem_replicate hx]; decide, .inr ⟨w.heap.size, 0, rfl, fun i hi => ?_⟩⟩, .inr ⟨w.heap.size, 0, rfl, Safe.byte (Blk.new w _ _)⟩⟩
  rw [List.length_replicate] at hi
  rw [(Blk.new w _ _).cell, Nat.zero_add, ← Array.getElem?_toList, toList_madeCells_one, List.getElem?_replicate, if_pos hi, List.getD_eq_getElem?_getD, List.getElem?_replicate, if_pos hi]
  rfl
theorem format_fit {c : NP.Chp} (h : Good6 c) {reserve : Int} {text : List Nat} (ht : ∀ y ∈ text, y < 256) {F : FP.Ft} (hq : FP.formatN c reserve text = some F) : Fit F := by
  obtain ⟨_, hres, _, _, _, _, g, hopen, hseal⟩ := FP.formatN_some hq
  have hg : Good6 (FP.wiped c) := wiped_good h c.B
  have hb : 0 ≤ FP.bads (FP.wiped c) ∧ FP.bads (FP.wiped c) ≤ 65535 := by
    have h1 := badTo_le (FP.wiped c) (FP.wiped c).B
    have h2 : (FP.wiped c).B ≤ 128 := by
      have : NP.rightB (FP.wiped c).B (FP.wiped c).P (FP.wiped c).S = true := hg.ok.right
      unfold NP.rightB at this
      simp only [Bool.and_eq_true, Bool.or_eq_true, beq_iff_eq, decide_eq_true_eq] at this
      omega
    unfold FP.bads
    omega
  exact (begun_fit hg hopen hres hb).sealed ht hseal
theorem FtNew.goes {base : Nat} {w w' : World} {k f : Nat} {M : ChM} {X : FtM} (h : FtNew base w k M w' f X) : Goes base w k M w' X.M :=
  ⟨by have := h.at_.held.chip; rw [h.key] at this; exact this, h.chg, fun n e => h.foot n (.inr (.inr (.inr (.inr (.inr (.inr (by rw [h.key]; exact e)))))))⟩
/-- A range over a function that tells nothing, whatever its loop does with its variables. -/
theorem wp_rangeFunc_empty {w : World} {g : Operand} {ps : Array Tmp} {assign body : Code} {Q : Exit → Act → World → Prop} {a : Act} {gf : Nat} {lb : Array Value} (hg : a.eval g = .func (.func gf) #[] lb)
    (eg : ∀ args w, (callFunc gf args).run Tryz.prog w = .ok (.enter gf args) w) (hseq : SeqStopsK Fence.wide 5 Tryz.prog gf lb noEncs (fun _ _ => True) (fun xs => xs = []) (fun _ => False) 0 w)
    (hdone : ∀ (D : Nat) (W : World), w.heap.size ≤ D → Below w.heap.size w W → W.heap[D]? = some (.deferred (some [])) → Q .normal { a with defers := { target := .collected D, args := #[] } :: a.defers } W) :
    (Code.rangeFunc g ps assign body).wp Tryz.prog Q a w :=
  wpIn_wide.1 (wpIn_rangeFunc_ownF (F := Fence.wide) (n := 6) rfl (by omega) (gf := gf) (lb := lb) hg trivial eg hseq (fun _ _ => trivial) (fun _ _ _ _ _ _ _ _ => trivial) (Below.refl _ _) (fun x => x.elim)
    (fun _ W => Below w.heap.size w W) (fun _ _ _ => False) (ownFrom_below (Nat.le_refl _) (Nat.le_refl _)) (fun _ _ _ _ _ h _ _ => h) (Below.refl _ _)
    (fun x => x.elim) (fun _ x => x.elim) (fun _ _ x => x.elim)
    (fun D _ W hD _ hB hK => hdone D W hD hB hK) (fun _ _ _ _ _ _ h => h.elim))
theorem below_taken {w w0 : World} {D : Nat} (h : Below w0.heap.size w0 w) (hD : w0.heap.size ≤ D) : Below w0.heap.size w0 (w.putObj D (.deferred none)) :=
  h.grown (grownBy_putObj' w D _) h.size (fun k e => by cases e; exact hD)
/-- A function that holds one range over a function returns. -/
theorem marksP_ret {w : World} {n : Nat} {fn : Func} {R : Ending → World → Prop} {tmps : Array Value} {D : Nat} {v : Value} (hK : w.heap[D]? = some (.deferred (some []))) (hres : ∀ w, (results fn tmps).run Tryz.prog w = .ok v w)
    (h : R (.returned v) (w.putObj D (.deferred none))) : bodyPostM Fence.wide n Tryz.prog fn R .ret { tmps, defers := [{ target := .collected D, args := #[] }] } w :=
  ⟨by simp, .inl ⟨_, _, rfl, run_takeDeferred hK, ⟨_, hres _, h⟩⟩⟩
end Go.Proofs.YtnfhlocflpdlcaaGreat.ft

/-
  A pool in memory. Conditions: a pool told by PlAt.
-/
namespace Go.Proofs.YtnfhlocflpdlcaaGreat.pl
open Go.RowKit Go.Proofs.YtnfhlocflpdlcaaGreat.mgr Go.Proofs.YtnfhlocflpdlcaaGreat.ft

/-! A pool in memory. -/
structure PlM where
  f : Nat
  T : Int
  F : Int
  P : Int
  I : Int
  sz : Int
  bu : Nat
  bd : Nat
  U : Mp Int
  D : Mp Value
abbrev PlM.cs (Y : PlM) : Array Value := #[ptr Y.f, vi Y.T, vi Y.F, vi Y.P, vi Y.I, vi Y.sz, .map (some Y.bu), .map (some Y.bd)]
structure PlAt (w : World) (q : Nat) (Y : PlM) : Prop where
  obj : Blk w q 137 Y.cs
  used : MpAt w Y.bu .i64 encI Y.U
  dirty : MpAt w Y.bd .i64 (fun v : Value => v) Y.D
  ne : Y.bu ≠ Y.bd
section
variable {F : Nat → Prop} {w w' : World} {q : Nat} {Y : PlM}
def PlM.foot (Y : PlM) (q n : Nat) : Prop := n = q ∨ n = Y.bu ∨ n = Y.bd
theorem PlAt.chg (h : PlAt w q Y) (g : Chg F w w') (hn : ∀ n, Y.foot q n → ¬ F n) : PlAt w' q Y :=
  ⟨h.obj.chg g (hn _ (.inl rfl)), h.used.chg g (hn _ (.inr (.inl rfl))), h.dirty.chg g (hn _ (.inr (.inr rfl))), h.ne⟩
theorem PlAt.old (h : PlAt w q Y) (g : Below w.heap.size w w') : PlAt w' q Y := h.chg (F := fun _ => False) (Chg.of_below g) (fun _ _ e => e)
theorem PlAt.lt (h : PlAt w q Y) : ∀ n, Y.foot q n → n < w.heap.size := by
  intro n e
  rcases e with e | e | e
  · rw [e]; exact h.obj.lt
  · rw [e]; exact h.used.lt
  · rw [e]; exact h.dirty.lt
theorem PlAt.putU (h : PlAt w q Y) (n m : Int) : ∃ w', UpdRun 134 (.map (some Y.bu)) (vi n) (vi m) w w' ∧ PlAt w' q { Y with U := MP.put Y.U n m } ∧ w.grownBy w' (some Y.bu) := by
  obtain ⟨w', h1, h2, h3⟩ := h.used.update (P := Tryz.prog) Tryz.underlying134 Tryz.underlying3 n m
  have c : Chg (fun k => k = Y.bu) w w' := (Chg.refl _ _).grown h3 (fun k e => by cases e; exact .inl rfl)
  exact ⟨w', ⟨h1⟩, ⟨h.obj.chg c (fun e => h.used.ne_blk h.obj e.symm), h2, h.dirty.chg c (fun e => h.ne e.symm), h.ne⟩, h3⟩
theorem PlAt.putD (h : PlAt w q Y) (n : Int) (v : Value) : ∃ w', UpdRun 135 (.map (some Y.bd)) (vi n) v w w' ∧ PlAt w' q { Y with D := MP.put Y.D n v } ∧ w.grownBy w' (some Y.bd) := by
  obtain ⟨w', h1, h2, h3⟩ := h.dirty.update (P := Tryz.prog) Tryz.underlying135 Tryz.underlying3 n v
  have c : Chg (fun k => k = Y.bd) w w' := (Chg.refl _ _).grown h3 (fun k e => by cases e; exact .inl rfl)
  exact ⟨w', ⟨h1⟩, ⟨h.obj.chg c (fun e => h.dirty.ne_blk h.obj e.symm), h.used.chg c h.ne, h2, h.ne⟩, h3⟩
theorem PlAt.delU (h : PlAt w q Y) (n : Int) : ∃ w', DelRun 134 3 (.map (some Y.bu)) (vi n) w w' ∧ PlAt w' q { Y with U := MP.del Y.U n } ∧ w.grownBy w' (some Y.bu) := by
  obtain ⟨w', h1, h2, h3⟩ := h.used.delete (P := Tryz.prog) Tryz.underlying134 Tryz.underlying3 n
  have c : Chg (fun k => k = Y.bu) w w' := (Chg.refl _ _).grown h3 (fun k e => by cases e; exact .inl rfl)
  exact ⟨w', ⟨h1⟩, ⟨h.obj.chg c (fun e => h.used.ne_blk h.obj e.symm), h2, h.dirty.chg c (fun e => h.ne e.symm), h.ne⟩, h3⟩
theorem PlAt.delD (h : PlAt w q Y) (n : Int) : ∃ w', DelRun 135 3 (.map (some Y.bd)) (vi n) w w' ∧ PlAt w' q { Y with D := MP.del Y.D n } ∧ w.grownBy w' (some Y.bd) := by
  obtain ⟨w', h1, h2, h3⟩ := h.dirty.delete (P := Tryz.prog) Tryz.underlying135 Tryz.underlying3 n
  have c : Chg (fun k => k = Y.bd) w w' := (Chg.refl _ _).grown h3 (fun k e => by cases e; exact .inl rfl)
  exact ⟨w', ⟨h1⟩, ⟨h.obj.chg c (fun e => h.dirty.ne_blk h.obj e.symm), h.used.chg c h.ne, h2, h.ne⟩, h3⟩
theorem zero_bytes (w : World) : (zeroValue 56).run Tryz.prog w = .ok (.slice none 0 0) w := by kernel_rfl
theorem PlAt.lookU (h : PlAt w q Y) (n : Int) : (Instr.lookup 134 (.map (some Y.bu)) (vi n) true).run Tryz.prog w = .ok (.tuple #[((MP.get Y.U n).map encI).getD (vi 0), .bool (MP.has Y.U n)]) w :=
  h.used.lookup_ok Tryz.underlying134 Tryz.underlying3 (zero_int w) n
theorem PlAt.lookD (h : PlAt w q Y) (n : Int) : (Instr.lookup 135 (.map (some Y.bd)) (vi n) true).run Tryz.prog w = .ok (.tuple #[((MP.get Y.D n).map fun v => v).getD (.slice none 0 0), .bool (MP.has Y.D n)]) w :=
  h.dirty.lookup_ok Tryz.underlying135 Tryz.underlying3 (zero_bytes w) n
end
end Go.Proofs.YtnfhlocflpdlcaaGreat.pl

/-
  A pool: which pages are handed out, a page handed out and taken back. Conditions: a pool told by PlAt, of moderate numbers.
-/
namespace Go.Proofs.YtnfhlocflpdlcaaGreat.pl
open Go.RowKit Go.Proofs.YtnfhlocflpdlcaaGreat.mgr Go.Proofs.YtnfhlocflpdlcaaGreat.ft
section
variable {w : World} {q : Nat} {Y : PlM}
def PlM.given (Y : PlM) (n : Int) : Bool := decide (Y.F ≤ n) && decide (n - Y.F < Y.P)
def PlM.there (Y : PlM) (n : Int) : Bool := (decide (1 ≤ n) && decide (n ≤ Y.T)) || MP.has Y.U n
set_option maxRecDepth 100000 in
theorem given_any (h : PlAt w q Y) (n : Int) (hb : -1000000 ≤ n ∧ n ≤ 1000000 ∧ -1000000 ≤ Y.F ∧ Y.F ≤ 1000000) : Calls Tryz.prog 120 #[ptr q, vi n] w fun e w' => e = .returned (.bool (Y.given n)) ∧ Below w.heap.size w w' := by
  have e2 : w.cell? ⟨q, 2, none⟩ = some (vi Y.F) := h.obj.cell 2
  have e3 : w.cell? ⟨q, 3, none⟩ = some (vi Y.P) := h.obj.cell 3
  have HG : Hid (Y.given n = (decide (Y.F ≤ n) && decide (n - Y.F < Y.P))) := Lib.hid rfl
  have w1 : IntKind.i64.wrap (n - Y.F) = n - Y.F := IntWalk.i64_in _ (by omega)
  clear h hb
  generalize Y.given n = gv at *
  have e2 := Sub.cell e2
  have e3 := Sub.cell e3
  go_enter Tryz.func120, Tryz.ntmps120
  by_cases hF : Y.F ≤ n
  · go_upto_region 1 with fail
    refine wp_region_sub (by kernel_rfl) (by kernel_rfl) ?_
    repeat (go_big_quiet_step (fail))
    refine wpQuiet_nil ?_
    rintro _ ⟨nq, rfl⟩
    have HB := Lib.hid nq.below
    go_wp2_with fail
    go_ret
    exact ⟨ret_bool (by rw [HG.out]; simp [hF]), HB.out⟩
  · go_upto_region 1 with fail
    refine wp_region_sub (by kernel_rfl) (by kernel_rfl) ?_
    repeat (go_big_quiet_step (fail))
    refine wpQuiet_nil ?_
    rintro _ ⟨nq, rfl⟩
    have HB := Lib.hid nq.below
    go_wp2_with fail
    go_ret
    exact ⟨ret_bool (by rw [HG.out]; simp; intros; omega), HB.out⟩
theorem there_any (h : PlAt w q Y) (n : Int) : Calls Tryz.prog 123 #[ptr q, vi n] w fun e w' => e = .returned (.bool (Y.there n)) ∧ w' = w := by
  have e1 : w.cell? ⟨q, 1, none⟩ = some (vi Y.T) := h.obj.cell 1
  have e6 : w.cell? ⟨q, 6, none⟩ = some (.map (some Y.bu)) := h.obj.cell 6
  have L := h.lookU n
  have HG : Hid (Y.there n = ((decide (1 ≤ n) && decide (n ≤ Y.T)) || MP.has Y.U n)) := Lib.hid rfl
  clear h
  generalize Y.there n = gv at *
  go_enter Tryz.func123, Tryz.ntmps123
  by_cases h1 : 1 ≤ n
  · by_cases h2 : n ≤ Y.T
    · go_wp2_with fail
      go_ret
      exact ⟨ret_bool (by rw [HG.out]; simp [h1, h2]), rfl⟩
    · go_wp2_with fail
      go_ret
      exact ⟨ret_bool (by rw [HG.out]; simp; intros; omega), rfl⟩
  · go_wp2_with fail
    go_ret
    exact ⟨ret_bool (by rw [HG.out]; simp; intros; omega), rfl⟩
theorem asked_any (h : PlAt w q Y) (n : Int) : Calls Tryz.prog 74 #[ptr q, vi n] w fun e w' => e = .returned (vi (if Y.there n then 0 else 1)) ∧ w' = w := by
  have H := Lib.hid (there_any h n)
  clear h
  generalize Y.there n = b at *
  go_enter Tryz.func74, Tryz.ntmps74
  go_wp2_with fail
  refine H.out.mono ?_
  rintro e w' ⟨rfl, rfl⟩
  cases b
  · go_wp2_with fail
    go_ret
    exact ⟨rfl, rfl⟩
  · go_wp2_with fail
    go_ret
    exact ⟨rfl, rfl⟩
theorem Room_any (h : PlAt w q Y) (n : Int) (hn : Y.P - Y.U.length = n) (hb : 0 ≤ Y.P ∧ Y.P ≤ 1000000 ∧ Y.U.length ≤ 1000000) : Calls Tryz.prog 56 #[ptr q] w fun e w' => e = .returned (vi n) ∧ Below w.heap.size w w' := by
  have e3 : w.cell? ⟨q, 3, none⟩ = some (vi Y.P) := h.obj.cell 3
  have e6 : w.cell? ⟨q, 6, none⟩ = some (.map (some Y.bu)) := h.obj.cell 6
  have l : ∀ n : Sub w, (Builtin.len_ #[134] 3 #[.map (some Y.bu)]).run Tryz.prog n.w = .ok (goInt Y.U.length) n.w := fun n => (h.used.old n.below).len Tryz.underlying134 _
  have w1 : IntKind.i64.wrap (Y.P - Y.U.length) = n := by rw [hn]; exact IntWalk.i64_in _ (by omega)
  clear h hn hb
  have e3 := Sub.cell e3
  have e6 := Sub.cell e6
  go_enter Tryz.func56, Tryz.ntmps56
  go_upto_region 3 with fail
  refine wp_region_sub (by kernel_rfl) (by kernel_rfl) ?_
  repeat (go_big_quiet_step (fail))
  refine wpQuiet_nil ?_
  rintro _ ⟨nq, rfl⟩
  have HB := Lib.hid nq.below
  go_wp2_with fail
  go_ret
  exact ⟨rfl, HB.out⟩
set_option maxRecDepth 100000 in
set_option maxHeartbeats 1000000 in
/-- The first page is handed out. -/
theorem Alloc_first (h : PlAt w q Y) (hb : 0 ≤ Y.F ∧ Y.F ≤ 1000000) (hg : Y.given Y.F = true) (ht : Y.there Y.F = false) (s : Nat) (hs : Y.sz = s) (hsl : s ≤ 1000000) : Calls Tryz.prog 138 #[ptr q] w fun e w' =>
    ∃ g, e = .returned (.tuple #[vi Y.F, vi 0]) ∧ PlAt w' q { Y with U := MP.put Y.U Y.F Y.F, D := MP.put Y.D Y.F (.slice (some ⟨g, 0, none⟩) s s) } ∧ Chg (fun n => n = Y.bu ∨ n = Y.bd) w w' := by
  have e2 : w.cell? ⟨q, 2, none⟩ = some (vi Y.F) := h.obj.cell 2
  have H := Lib.hid h
  have HG := Lib.hid (given_any h Y.F (by omega))
  rw [hg] at HG
  have HSZ := Lib.hid hs
  have HT := Lib.hid ht
  have hmk := make_bytes s hsl
  clear h hg ht hs
  go_enter Tryz.func138, Tryz.ntmps138
  go_wp2_with fail
  clear e2
  go_loopw [4] (fun v wr => v = vi Y.F ∧ wr = w) (fun _ _ => 0)
  case atStart => exact ⟨rfl, rfl⟩
  case round =>
    obtain ⟨rfl, rfl⟩ := hrel
    go_wp2_with fail
    refine HG.out.mono ?_
    rintro e w1 ⟨rfl, hb1⟩
    have HB1 := Lib.hid hb1
    have H1 := Lib.hid (H.out.old hb1)
    have HTH := Lib.hid (there_any H1.out Y.F)
    rw [HT.out] at HTH
    clear hb1
    go_wp2_with fail
    refine HTH.out.mono ?_
    rintro e w2 ⟨rfl, rfl⟩
    obtain ⟨w3, hu, h3, hg3⟩ := H1.out.putU Y.F Y.F
    have HU := Lib.hid hu
    have H3 := Lib.hid h3
    have HC3 : Hid (Chg (fun n => n = Y.bu ∨ n = Y.bd) wr w3) := Lib.hid ((Chg.of_below HB1.out).grown hg3 (fun k e => by cases e; exact .inl (.inl rfl)))
    have e6 : w2.cell? ⟨q, 6, none⟩ = some (.map (some Y.bu)) := H1.out.obj.cell 6
    clear hu h3 hg3
    go_upto_region 7 with fail
    go_wp2_with (at_mapUpdate; refine wpList_mapUpdate_run rfl (.tmp 24) (.tmp 25) (.tmp 26) rfl rfl rfl rfl HU.out.run ?_)
    clear e6 HU HTH HG
    go_frame
    have d7 : w3.cell? ⟨q, 7, none⟩ = some (.map (some Y.bd)) := H3.out.obj.cell 7
    have d5 : w3.cell? ⟨q, 5, none⟩ = some (.int .i64 (s : Int)) := by
      have h := H3.out.obj.cell 5
      change w3.cell? ⟨q, 5, none⟩ = some (vi Y.sz) at h
      rwa [HSZ.out] at h
    have hb4 : Below w3.heap.size w3 (w3.drew.alloc (.cells (madeCells #[vb 0] s) 5)) := (Below.refl _ _).drew.alloc (Nat.le_refl _) _
    obtain ⟨w5, hu5, h5, hg5⟩ := (H3.out.old hb4).putD Y.F (.slice (some ⟨w3.heap.size, 0, none⟩) s s)
    have hup : (Instr.mapUpdate 135 (.map (some Y.bd)) (vi Y.F) (.slice (some ⟨w3.heap.size, 0, none⟩) s s)).run Tryz.prog ((w3.alloc (.cells (madeCells #[vb 0] s) 5)).drew) = .ok () w5 := hu5.run
    have H5 := Lib.hid h5
    have HC5 : Hid (Chg (fun n => n = Y.bu ∨ n = Y.bd) wr w5) := Lib.hid ((HC3.out.below hb4).grown hg5 (fun k e => by cases e; exact .inl (.inr rfl)))
    have HS1 : Hid (w3.drew.cell? ⟨q, 7, none⟩ = some (.map (some Y.bd)) ∧ w3.drew.cell? ⟨q, 5, none⟩ = some (.int .i64 (s : Int))) := Lib.hid ⟨d7, d5⟩
    have HS2 : Hid (((w3.alloc (.cells (madeCells #[vb 0] s) 5)).drew).cell? ⟨q, 7, none⟩ = some (.map (some Y.bd)) ∧ ((w3.alloc (.cells (madeCells #[vb 0] s) 5)).drew).cell? ⟨q, 5, none⟩ = some (.int .i64 (s : Int))) := Lib.hid ⟨cell_below d7 hb4, cell_below d5 hb4⟩
    have HS3 : Hid (w5.cell? ⟨q, 7, none⟩ = some (.map (some Y.bd)) ∧ w5.cell? ⟨q, 5, none⟩ = some (.int .i64 (s : Int))) := Lib.hid ⟨h5.obj.cell 7, by
      have h := h5.obj.cell 5
      change w5.cell? ⟨q, 5, none⟩ = some (vi Y.sz) at h
      rwa [HSZ.out] at h⟩
    clear hu5 h5 hg5 hb4 HC3 H3
    go_region_held3 (fun W => W.cell? ⟨q, 7, none⟩ = some (.map (some Y.bd)) ∧ W.cell? ⟨q, 5, none⟩ = some (.int .i64 (s : Int)))
      (first | exact HS1.out | exact HS2.out | exact HS3.out)
      (fail)
    go_wp2_with fail
    go_ret2
    exact ⟨rfl, ⟨_, H5.out⟩, HC5.out⟩
set_option maxRecDepth 100000 in
/-- A page is taken back. -/
theorem Free_any (h : PlAt w q Y) (n : Int) (hb : -1000000 ≤ n ∧ n ≤ 1000000 ∧ -1000000 ≤ Y.F ∧ Y.F ≤ 1000000) (hg : Y.given n = true) (ht : Y.there n = true) : Calls Tryz.prog 83 #[ptr q, vi n] w fun e w' =>
    e = .returned (vi 0) ∧ PlAt w' q { Y with U := MP.del Y.U n, D := MP.del Y.D n } ∧ Chg (fun n => n = Y.bu ∨ n = Y.bd) w w' := by
  have H := Lib.hid h
  have HG := Lib.hid (given_any h n hb)
  rw [hg] at HG
  have HA := Lib.hid (asked_any h n)
  rw [ht] at HA
  clear h hg ht hb
  go_enter Tryz.func83, Tryz.ntmps83
  go_wp2_with fail
  refine HA.out.mono ?_
  rintro e w' ⟨rfl, rfl⟩
  go_wp2_with fail
  refine HG.out.mono ?_
  rintro e w1 ⟨rfl, hb1⟩
  have HB1 := Lib.hid hb1
  have H1 := Lib.hid (H.out.old hb1)
  clear hb1
  obtain ⟨w2, hu, h2, hg2⟩ := H1.out.delU n
  have HU := Lib.hid hu
  have H2 := Lib.hid h2
  have HC2 : Hid (Chg (fun n => n = Y.bu ∨ n = Y.bd) w' w2) := Lib.hid ((Chg.of_below HB1.out).grown hg2 (fun k e => by cases e; exact .inl (.inl rfl)))
  have e6 : w1.cell? ⟨q, 6, none⟩ = some (.map (some Y.bu)) := H1.out.obj.cell 6
  clear hu h2 hg2
  obtain ⟨w3, hu, h3, hg3⟩ := H2.out.delD n
  have HU2 := Lib.hid hu
  have H3 := Lib.hid h3
  have HC3 : Hid (Chg (fun n => n = Y.bu ∨ n = Y.bd) w' w3) := Lib.hid (HC2.out.grown hg3 (fun k e => by cases e; exact .inl (.inr rfl)))
  have e7 : w2.cell? ⟨q, 7, none⟩ = some (.map (some Y.bd)) := H2.out.obj.cell 7
  clear hu h3 hg3
  go_wp2_with (at_delete; first | (refine wpList_delete_run rfl (.tmp 19) (.tmp 20) rfl rfl rfl (HU.out.run _) ?_) | (refine wpList_delete_run rfl (.tmp 24) (.tmp 25) rfl rfl rfl (HU2.out.run _) ?_))
  go_ret
  exact ⟨rfl, H3.out, HC3.out⟩
theorem Get_no (h : PlAt w q Y) (n : Int) (ht : Y.there n = false) : Calls Tryz.prog 33 #[ptr q, vi n] w fun e w' => e = .returned (.tuple #[.slice none 0 0, vi 1]) ∧ w' = w := by
  have HA := Lib.hid (asked_any h n)
  rw [ht] at HA
  clear h ht
  go_enter Tryz.func33, Tryz.ntmps33
  go_wp2_with fail
  refine HA.out.mono ?_
  rintro e w' ⟨rfl, rfl⟩
  go_wp2_with fail
  go_ret2
  exact ⟨rfl, rfl⟩
def GetZ (base : Nat) (w : World) (q : Nat) (Y : PlM) (X : FtM) (s : Nat) (e : Ending) (w' : World) : Prop :=
  ∃ g X', e = .returned (.tuple #[.slice (some ⟨g, 0, none⟩) s s, vi 0]) ∧ BRow w' (some ⟨g, 0, none⟩) (List.replicate s 0) ∧ FGoes base w Y.f X w' X' ∧ X'.view = X.view ∧ PlAt w' q Y
set_option maxRecDepth 100000 in
/-- A page that was never written. -/
theorem Get_zero {base : Nat} {X : FtM} (h : PlAt w q Y) (hF : FtAt base w Y.f X) (hx : X.Fit) (hdis : ∀ n, Y.foot q n → ¬ X.foot Y.f n) (m : Nat) (hm : m < 4294967296) (ht : Y.there m = true) (hd : MP.has Y.D m = false) (s : Nat) (hs : Y.sz = s) (hsl : s ≤ 1000000)
    (hr : X.view.read m = (([], 60), X.view)) : Calls Tryz.prog 33 #[ptr q, vi m] w (GetZ base w q Y X s) := by
  have HA := Lib.hid (asked_any h m)
  rw [ht] at HA
  have e7 : w.cell? ⟨q, 7, none⟩ = some (.map (some Y.bd)) := h.obj.cell 7
  have e0 : w.cell? ⟨q, 0, none⟩ = some (ptr Y.f) := h.obj.cell 0
  have L := h.lookD m
  rw [hd] at L
  have HRD := Lib.hid (ft.Read_any hF hx m hm)
  rw [hr] at HRD
  have H := Lib.hid h
  have HDIS := Lib.hid hdis
  have HSZ := Lib.hid hs
  have hmk := make_bytes s hsl
  have w1 : IntKind.u32.wrap (m : Int) = m := by simp only [IntKind.wrap, IntKind.bits, IntKind.signed]; simp; omega
  clear h hF ht hd hr hdis hs
  generalize ((MP.get Y.D m).map fun v => v).getD (.slice none 0 0) = v0 at *
  go_enter Tryz.func33, Tryz.ntmps33
  go_wp2_with fail
  refine HA.out.mono ?_
  rintro e w' ⟨rfl, rfl⟩
  go_wp2_with fail
  refine HRD.out.mono ?_
  rintro e w2 ⟨va, X', rfl, _, hrd, hv⟩
  have HG := Lib.hid hrd.goes
  have HV := Lib.hid hv
  have H2 := Lib.hid (H.out.chg hrd.goes.chg HDIS.out)
  have d5 : w2.cell? ⟨q, 5, none⟩ = some (.int .i64 (s : Int)) := by
    have h := H2.out.obj.cell 5
    change w2.cell? ⟨q, 5, none⟩ = some (vi Y.sz) at h
    rwa [HSZ.out] at h
  clear hrd hv e7 e0 L
  go_wp2_with fail
  go_ret2
  have hb : Below w2.heap.size w2 (w2.alloc (.cells (madeCells #[vb 0] s) 5)) := (Below.refl _ _).alloc (Nat.le_refl _) _
  exact ⟨w2.heap.size, X', rfl, (zero_row (base := 0) w2 s).row, HG.out.old hb, HV.out, H2.out.old hb⟩
end
end Go.Proofs.YtnfhlocflpdlcaaGreat.pl

/-
  A pool is opened on a translation, of which nothing is used yet. Conditions: a translation told by FtAt, a right layout.
-/
namespace Go.Proofs.YtnfhlocflpdlcaaGreat.pl
open Go.RowKit Go.Proofs.YtnfhlocflpdlcaaGreat.mgr Go.Proofs.YtnfhlocflpdlcaaGreat.ft
section
variable {base : Nat} {w : World} {f : Nat} {X : FtM}
theorem made2 {α : Type} (w : World) (K : IntKind) (enc : α → Value) : MpAt ((w.alloc (.map #[] 0)).alloc (.map #[] 0)) (w.heap.size + 1) K enc [] := by
  have := MpAt.made (w.alloc (.map #[] 0)) K enc
  rwa [size_alloc] at this
theorem pl_made (W : World) (g f : Nat) (T F P I s : Int) (bu bd : Nat) (hg : g = W.heap.size) (hu : MpAt W bu .i64 encI []) (hd : MpAt W bd .i64 (fun v : Value => v) []) (ne : bu ≠ bd) :
    PlAt (W.alloc (.cells #[ptr f, vi T, vi F, vi P, vi I, vi s, .map (some bu), .map (some bd)] 137)) g ⟨f, T, F, P, I, s, bu, bd, [], []⟩ := by
  subst hg
  exact ⟨Blk.new _ _ _, hu.alloc _, hd.alloc _, ne⟩
theorem MpAt.drw {α : Type} {w : World} {b : Nat} {K : IntKind} {enc : α → Value} {m : Mp α} (h : MpAt w b K enc m) : MpAt w.drew b K enc m := h.of_heap rfl
def OpPost (w : World) (f : Nat) (T F P I s : Int) (e : Ending) (w' : World) : Prop :=
  ∃ q bu bd, e = .returned (.tuple #[ptr q, vi 0]) ∧ PlAt w' q ⟨f, T, F, P, I, s, bu, bd, [], []⟩ ∧ (w.heap.size ≤ q ∧ w.heap.size ≤ bu ∧ w.heap.size ≤ bd) ∧ Below w.heap.size w w'
set_option maxRecDepth 100000 in
set_option maxHeartbeats 2000000 in
theorem Open_any (h : FtAt base w f X) (hx : X.Fit) (T F P I : Int) (hT : 1 ≤ T ∧ T ≤ 8192) (hF : F = T + 1) (hP : 1 ≤ P ∧ P ≤ X.view.cap - F) (hc : X.view.cap ≤ 100000) :
    Calls Tryz.prog 67 #[ptr f, .agg #[vi T, vi F, vi P, vi I], .slice none 0 0] w (OpPost w f T F P I (X.tx.length + 8)) := by
  have H := Lib.hid h
  have HX := Lib.hid hx
  have htl := hx.tlen
  have l1 : IntKind.i64.wrap (T + 1) = F := by rw [hF]; exact IntWalk.i64_in _ (by omega)
  have l2 : IntKind.i64.wrap (X.view.cap - F) = X.view.cap - F := IntWalk.i64_in _ (by omega)
  have l3 : IntKind.i64.wrap ((X.tx.length : Int) + 8) = (X.tx.length : Int) + 8 := IntWalk.i64_in _ (by omega)
  have q1 : ¬ T < 1 := by omega
  have q2 : ¬ P < 1 := by omega
  have q3 : (F != F) = false := by simp
  have q4 : ¬ 8192 < T := by omega
  have q5 : ¬ X.view.cap - F < P := by omega
  clear h hx hF
  go_enter Tryz.func67, Tryz.ntmps67
  go_upto_region 3 with fail
  have HB1 : Hid (Below w.heap.size w (w.alloc (.cells #[vi T, vi F, vi P, vi I] 99))) := Lib.hid ((Below.refl _ _).alloc (Nat.le_refl _) _)
  have G1 := Lib.hid (Blk.new w 99 #[vi T, vi F, vi P, vi I])
  change Code.wp _ _ _ _ (w.alloc (.cells #[vi T, vi F, vi P, vi I] 99))
  obtain ⟨gl, hgl⟩ : ∃ gl, gl = w.heap.size := ⟨_, rfl⟩
  rw [← hgl] at G1 ⊢
  clear hgl
  generalize w.alloc (.cells #[vi T, vi F, vi P, vi I] 99) = w1 at *
  have H1 := Lib.hid (H.out.old HB1.out)
  have HCP : Hid (∀ n : Sub w1, Calls Tryz.prog 118 #[ptr f] n.w fun e w' => e = .returned (vi X.view.cap) ∧ Below n.w.heap.size n.w w') := Lib.hid (fun n => Capacity_any (H1.out.old n.below) HX.out)
  have g0 : w1.cell? ⟨gl, 0, none⟩ = some (vi T) := G1.out.cell 0
  have g1 : w1.cell? ⟨gl, 1, none⟩ = some (vi F) := G1.out.cell 1
  have g2 : w1.cell? ⟨gl, 2, none⟩ = some (vi P) := G1.out.cell 2
  have g0 := Sub.cell g0
  have g1 := Sub.cell g1
  have g2 := Sub.cell g2
  generalize X.view.cap = cap at *
  refine wp_region_sub (by kernel_rfl) (by kernel_rfl) ?_
  repeat (go_big_quiet_step (exact ext_of (HCP.out _)))
  refine wpQuiet_nil ?_
  rintro _ ⟨nq, rfl⟩
  have HB3 := Lib.hid (HB1.out.trans (nq.below.mono HB1.out.size))
  have H3 := Lib.hid (H1.out.old nq.below)
  have G3 := Lib.hid (G1.out.old nq.below)
  clear g0 g1 g2 HCP G1 H1 HB1 q1 q2 q3 q4 q5 l1 l2
  generalize nq.w = w3 at *
  go_upto_region 5 with fail
  have hmm := @run_makeMap Tryz.prog
  have HK : Hid (∀ W : World, Below w3.heap.size w3 W → (W.cell? ⟨gl, 0, none⟩ = some (vi T) ∧ W.cell? ⟨gl, 1, none⟩ = some (vi F) ∧ W.cell? ⟨gl, 2, none⟩ = some (vi P) ∧ W.cell? ⟨gl, 3, none⟩ = some (vi I))) :=
    Lib.hid (fun W hb => ⟨(G3.out.old hb).cell 0, (G3.out.old hb).cell 1, (G3.out.old hb).cell 2, (G3.out.old hb).cell 3⟩)
  have HA1 : Hid (∀ (W : World) o, Below w3.heap.size w3 W → Below w3.heap.size w3 (W.alloc o)) := Lib.hid (fun W o h => h.alloc h.size o)
  have HA2 : Hid (∀ W : World, Below w3.heap.size w3 W → Below w3.heap.size w3 W.drew) := Lib.hid (fun W h => h.drew)
  have HA3 : Hid (∀ W W' : World, Below W.heap.size W W' → Below w3.heap.size w3 W → Below w3.heap.size w3 W') := Lib.hid (fun W W' q h => h.trans (q.mono h.size))
  have HA0 : Hid (Below w3.heap.size w3 w3) := Lib.hid (Below.refl _ _)
  have HSM : Hid (∀ y ∈ X.tx, y < 256) := Lib.hid H3.out.text.row.small
  have HTX : Hid (∀ W : World, Below w3.heap.size w3 W → Calls Tryz.prog 119 #[ptr f] W fun e w' => ∃ v, e = .returned v ∧ Own w' W.heap.size v X.tx ∧ Below W.heap.size W w') := Lib.hid (fun W hb => Text_any (H3.out.old hb) HX.out)
  go_cut [8] from 46 to 55 (fun v8 wx => ∃ q bu bd, v8 = ptr q ∧ Hid (PlAt wx q ⟨f, T, F, P, I, X.tx.length + 8, bu, bd, [], []⟩) ∧ Hid (w3.heap.size ≤ q ∧ w3.heap.size ≤ bu ∧ w3.heap.size ≤ bd) ∧ Hid (Below w3.heap.size w3 wx))
  case first =>
    go_region_held3 (fun W => W.cell? ⟨gl, 0, none⟩ = some (vi T) ∧ W.cell? ⟨gl, 1, none⟩ = some (vi F) ∧ W.cell? ⟨gl, 2, none⟩ = some (vi P) ∧ W.cell? ⟨gl, 3, none⟩ = some (vi I))
      (exact HK.out _ (by repeat first | exact HA0.out | (refine HA3.out _ _ (by assumption) ?_) | (refine HA1.out _ _ ?_) | (refine HA2.out _ ?_)))
      (first | (go_at_call 119; refine (HTX.out _ (by repeat first | exact HA0.out | (refine HA1.out _ _ ?_) | (refine HA2.out _ ?_))).mono ?_; rintro e w5 ⟨v5, rfl, ho5, hb5⟩; obtain ⟨a5, k5, rfl, _, _, _, _⟩ := ho5.srow (base := 0) HSM.out))
    all_goals
      have hsz := hb5.size
      simp at hsz
      go_wp2_with fail
      go_meet
      refine ⟨_, _, _, rfl, Lib.hid (pl_made _ _ _ _ _ _ _ _ _ _ (by simp) ?_ ?_ ?_), Lib.hid ⟨?_, ?_, ?_⟩, Lib.hid ?_⟩
      · first
          | exact MpAt.made _ _ _
          | exact (MpAt.made _ _ _).alloc _
          | exact made2 _ _ _
          | exact (MpAt.drw (MpAt.made w3 _ _)).old hb5
          | exact ((MpAt.drw (MpAt.made w3 _ _)).old hb5).alloc _
          | exact (MpAt.drw ((MpAt.made w3 _ _).alloc _)).old hb5
          | exact (MpAt.drw (made2 w3 _ _)).old hb5
      · first
          | exact MpAt.made _ _ _
          | exact (MpAt.made _ _ _).alloc _
          | exact made2 _ _ _
          | exact (MpAt.drw (MpAt.made w3 _ _)).old hb5
          | exact ((MpAt.drw (MpAt.made w3 _ _)).old hb5).alloc _
          | exact (MpAt.drw ((MpAt.made w3 _ _).alloc _)).old hb5
          | exact (MpAt.drw (made2 w3 _ _)).old hb5
      · omega
      · omega
      · omega
      · omega
      · repeat first | exact HA0.out | (refine HA3.out _ _ (by assumption) ?_) | (refine HA1.out _ _ ?_) | (refine HA2.out _ ?_)
  case rest =>
    obtain ⟨q, bu, bd, rfl, hpl, hsz, hbl⟩ := hcut
    clear HK HA1 HA2 HA3 HA0 HSM HTX hmm
    have HPL := Lib.hid hpl.out
    have HSZ := Lib.hid hsz.out
    have HBL := Lib.hid (HB3.out.trans (hbl.out.mono HB3.out.size))
    clear hpl hsz hbl
    go_wp2_with fail
    go_loopw [58] (fun i wr => i = vi 0 ∧ wr = wc) (fun _ _ => 0)
    case atStart => exact ⟨rfl, rfl⟩
    case round =>
      obtain ⟨rfl, rfl⟩ := hrel
      go_wp2_with fail
      go_ret2
      have h1 := HB3.out.size
      have h2 := HSZ.out
      exact ⟨q, bu, bd, rfl, HPL.out, ⟨by omega, by omega, by omega⟩, HBL.out⟩
end
end Go.Proofs.YtnfhlocflpdlcaaGreat.pl

