/-
  Lemmas for a law's proof, put together from several texts: each part says what it shows, and its conditions.
-/
import Derived.Test.YtnfhlocflpdlcaaGreatZT38
import Derived.WalkMore
import Derived.RangeFuncNested
import Derived.RangeFuncBound
import Derived.RangeFuncCalls
import Derived.RangeFuncLeaves
import Derived.OwnWalkIn
import Derived.TacticsInMore
import Derived.LoopNIn
import Derived.LoopIn
import Derived.BigRegionIn
/-
  A directory's entries told, and an entry found. Conditions: no slot, or the one slot of the name "a" and the inode 2.
-/
namespace Go.Proofs.YtnfhlocflpdlcaaGreat.di
open Go.RowKit Go.Proofs.YtnfhlocflpdlcaaGreat.mgr Go.Proofs.YtnfhlocflpdlcaaGreat.ft Go.Proofs.YtnfhlocflpdlcaaGreat.pl Go.Proofs.YtnfhlocflpdlcaaGreat.ino
attribute [local go_sem] Oper.semAt_some
section
variable {w w' : World}
theorem All_any (a : Option Addr) (n c : Nat) : Calls Tryz.prog 31 #[.slice a n c] w fun e w' => e = .returned (.func (.func 68) #[] #[.pointer (some ⟨w.heap.size, 0, none⟩)]) ∧ w' = w.alloc (.cells #[.slice a n c] 56) := by
  go_enter Tryz.func31, Tryz.ntmps31
  go_wp2_with fail
  go_ret
  exact ⟨rfl, rfl⟩
theorem eql_seqE (w : World) (f : Fn) (a b : Array Value) : (binOp .eql 36 (.func f a b) .nilFunc).run Tryz.prog w = .ok (.bool false) w := by
  have h : ∀ d : Nat, (Op.equalIn (d + 1) 36 (.func f a b) .nilFunc).run Tryz.prog w = .ok false w := fun d => by
    simp [Op.equalIn, run_underlying Tryz.underlying36]
  simp only [binOp]
  simp [Op.equal, Op.maxDepth, h 9999]
theorem All1_none (n b1 : Nat) (h1 : w.cell? ⟨b1, 0, none⟩ = some (.slice none 0 0)) (Kp : World → World → Prop) :
    SeqStopsK Fence.wide n Tryz.prog 68 #[.pointer (some ⟨b1, 0, none⟩)] noEncs Kp (fun xs => xs = []) (fun _ => False) 0 w := by
  intro l J Jx W hW hJ hJx hY h0
  refine callsIn_wide.2 ?_
  have c1 := cell_below h1 hW
  clear hY hJ hJx h1
  have H0 := Lib.hid h0
  clear h0
  go_enter Tryz.func68, Tryz.ntmps68
  go_wp2_with fail
  refine (slots_any none 0 0 0 (by decide) rfl).mono ?_
  rintro e w' ⟨rfl, rfl⟩
  go_wp2_with fail
  go_loopw [9] (fun i wr => i = vi 0 ∧ wr = w') (fun _ _ => 0)
  case atStart => exact ⟨rfl, rfl⟩
  case round =>
    obtain ⟨rfl, rfl⟩ := hrel
    go_wp2_with fail
    go_end0
    exact ⟨⟨_, rfl⟩, .inl ⟨[], rfl, H0.out⟩⟩
/-- What is told of the one entry. -/
abbrev oneEncs : Unit → Array Value := fun _ => #[vi 0, .agg #[vi 2, sa]]
theorem abidesE {β : Type} {B : Nat} {J : β → World → Prop} (hJ : AbidesFrom B J) {s : β} (hs : J s w) (h : Below w.heap.size w w') : J s w' :=
  hJ s w w' none hs ⟨h.os, h.tape, h.output, h.size, fun k hk _ => h.block k hk⟩ (fun r e => by cases e)
set_option maxRecDepth 100000 in
set_option maxHeartbeats 4000000 in
theorem All1_one (n : Nat) (hn : 1 ≤ n) (b1 b o c : Nat) (hc : 16 ≤ c) (h1 : w.cell? ⟨b1, 0, none⟩ = some (.slice (some ⟨b, o, none⟩) 16 c)) (hr : BRow w (some ⟨b, o, none⟩) sl) :
    SeqStopsK Fence.wide n Tryz.prog 68 #[.pointer (some ⟨b1, 0, none⟩)] oneEncs (fun _ _ => True) (fun xs => xs = [()]) (fun xs => xs = [()]) 1 w := by
  intro l J Jx W hW hJ hJx hY h0
  have c1 := cell_below h1 hW
  have HR := Lib.hid (hr.below hW)
  have HC1 := Lib.hid c1
  have HY := Lib.hid hY
  have HJ := Lib.hid hJ
  have HJ0 := Lib.hid h0
  clear hY hJ hJx h1 h0 hr hW
  refine callsIn_of_wp Tryz.func68 rfl trivial ?_ rfl
  simp only [Tryz.ntmps68, List.size_toArray, List.length_cons, List.length_nil, Nat.reduceAdd, Nat.reduceSub, Array.replicate_succ, Array.replicate_zero, List.push_toArray, List.append_toArray, List.nil_append, List.cons_append]
  gi_wp2
  refine ⟨trivial, ?_⟩
  refine (callsIn_wide.2 (slots_any (some ⟨b, o, none⟩) 16 c 1 (by decide) rfl)).mono ?_
  rintro e w' ⟨rfl, rfl⟩
  gi_wp2
  clear c1
  gi_loopw [9] (fun v wr => (v = vi 0 ∧ Hid (J [] wr) ∧ Hid (Below w'.heap.size w' wr)) ∨ (v = vi 1 ∧ Hid (J [()] wr))) (fun v _ => 1 - (intOf v).toNat)
  case atStart => exact .inl ⟨rfl, HJ0, Lib.hid (Below.refl _ _)⟩
  case round =>
    clear HJ0
    rcases hrel with ⟨rfl, hJs, hb⟩ | ⟨rfl, hJs⟩
    · have c1 := cell_below HC1.out hb.out
      have HR1 := Lib.hid (HR.out.below hb.out)
      gi_wp2
      refine ⟨trivial, ?_⟩
      refine (callsIn_wide.2 (slot_0 b o c hc)).mono ?_
      rintro e w2 ⟨rfl, rfl⟩
      gi_wp2
      refine ⟨trivial, ?_⟩
      refine (callsIn_wide.2 (DRead_a b o c hc HR1.out)).mono ?_
      rintro e w3 ⟨rfl, hb3⟩
      have HJ3 := abidesE HJ.out hJs.out (w' := w3.alloc (.cells #[vi 2, sa] 39)) (hb3.trans (((Below.refl _ _).alloc (Nat.le_refl _) _).mono hb3.size))
      obtain ⟨fn, tmps, assign, body, hy, hR⟩ := HY.out [] () _ HJ3 (by decide)
      have HRR := Lib.hid hR
      change (Instr.yield l #[vi 0, .agg #[vi 2, sa]]).run Tryz.prog (w3.alloc (.cells #[vi 2, sa] 39)) = _ at hy
      clear HJ3 hR hJs hb hb3 c1 HR1
      gi_wp2
      refine HRR.out.mono ?_
      rintro e W4 (⟨rfl, hJ4, _⟩ | ⟨rfl, hJx4⟩)
      · have HJ4 : Hid (J [()] W4) := Lib.hid hJ4
        clear hJ4 hy
        gi_wp2
        go_roundw
        case rel => exact .inr ⟨rfl, HJ4⟩
        case measure => simp [intOf]
      · have HJX : Hid (Jx [()] W4) := Lib.hid hJx4
        clear hJx4 hy
        gi_wp2
        refine bodyPost_ret (results_none rfl _ _ _) rfl ?_
        exact ⟨⟨_, rfl⟩, .inr ⟨_, rfl, HJX.out⟩⟩
    · gi_wp2
      go_end0
      exact ⟨⟨_, rfl⟩, .inl ⟨_, rfl, hJs.out⟩⟩
theorem find_result {w' : World} {g h : Nat} {v0 v1 : Value} (hb : Blk w' g 3 #[v0]) (hb' : Blk w' h 3 #[v1]) (tmps : Array Value) (h2 : tmps[4]? = some (.pointer (some ⟨g, 0, none⟩))) (h3 : tmps[5]? = some (.pointer (some ⟨h, 0, none⟩))) :
    (results Tryz.f37 tmps).run Tryz.prog w' = .ok (.tuple #[v0, v1]) w' := by
  have g0 : w'.cell? ⟨g, 0, none⟩ = some v0 := hb.cell 0
  have g1 : w'.cell? ⟨h, 0, none⟩ = some v1 := hb'.cell 0
  simp only [results, Tryz.results37]
  simp [go_sem, h2, h3, g0, g1]
/-- A function that holds one range over a function returns, its results read in memory. -/
theorem marksC_ret {n : Nat} {fn : Func} {R : Ending → World → Prop} {tmps : Array Value} {D : Nat} {v : Value} (hK : w.heap[D]? = some (.deferred (some []))) (hres : (results fn tmps).run Tryz.prog (w.putObj D (.deferred none)) = .ok v (w.putObj D (.deferred none)))
    (h : R (.returned v) (w.putObj D (.deferred none))) : bodyPostM Fence.wide n Tryz.prog fn R .ret { tmps, defers := [{ target := .collected D, args := #[] }] } w :=
  ⟨by simp, .inl ⟨_, _, rfl, run_takeDeferred hK, ⟨_, hres, h⟩⟩⟩
theorem blk_put {g D : Nat} {t : TypeId} {cs : Array Value} (h : Blk w g t cs) (hK : w.heap[D]? = some (.deferred (some []))) (o : Obj) : Blk (w.putObj D o) g t cs := by
  unfold Blk
  rw [World.putObj_heap_other]
  · exact h
  · intro e
    subst e
    unfold Blk at h
    rw [h] at hK
    cases hK
theorem def_set {g D : Nat} {t : TypeId} {cs : Array Value} (h : Blk w g t cs) (hK : w.heap[D]? = some (.deferred (some []))) (i : Nat) (u : Value) : (w.setCell ⟨g, i, none⟩ u).heap[D]? = some (.deferred (some [])) := by
  rw [Below.heap_setCell]
  · exact hK
  · intro e
    subst e
    unfold Blk at h
    rw [h] at hK
    cases hK
/-- The two results written, and the function returns. -/
theorem find_end {fn : Func} {w0 W : World} {r D : Nat} {u0 u1 : Value} (v0 v1 : Value) {R : Ending → World → Prop} {tmps : Array Value} (hB : Below w0.heap.size w0 W) (hr : w0.heap.size ≤ r) (h1 : Blk W r 3 #[u0]) (h2 : Blk W (r + 1) 3 #[u1]) (hK : W.heap[D]? = some (.deferred (some []))) (hD : w0.heap.size ≤ D)
    (hres : ∀ W', Blk W' r 3 #[v0] → Blk W' (r + 1) 3 #[v1] → (results fn tmps).run Tryz.prog W' = .ok (.tuple #[v0, v1]) W') (h : ∀ W', Below w0.heap.size w0 W' → R (.returned (.tuple #[v0, v1])) W') {n : Nat} :
    bodyPostM Fence.wide n Tryz.prog fn R .ret { tmps, defers := [{ target := .collected D, args := #[] }] } ((W.setCell ⟨r, 0, none⟩ v0).setCell ⟨r + 1, 0, none⟩ v1) := by
  have k1 := def_set h1 hK 0 v0
  have a2 : Blk (W.setCell ⟨r, 0, none⟩ v0) (r + 1) 3 #[u1] := h2.far (by simp) _
  have k2 := def_set a2 k1 0 v1
  have b1 : Blk ((W.setCell ⟨r, 0, none⟩ v0).setCell ⟨r + 1, 0, none⟩ v1) r 3 #[v0] := (h1.set_ 0 v0).far (by simp) _
  have b2 : Blk ((W.setCell ⟨r, 0, none⟩ v0).setCell ⟨r + 1, 0, none⟩ v1) (r + 1) 3 #[v1] := a2.set_ 0 v1
  have hw := (hB.setCell (p := ⟨r, 0, none⟩) hr v0).setCell (p := ⟨r + 1, 0, none⟩) (by dsimp only; omega) v1
  exact marksC_ret k2 (hres _ (blk_put b1 k2 _) (blk_put b2 k2 _)) (h _ (below_taken hw hD))
/-- The three boxes at a find's start. -/
theorem find_start (w : World) (s : ByteArray) : Below w.heap.size w (((w.alloc (.cells #[.string s] 9)).alloc (.cells #[vi 0] 3)).alloc (.cells #[vi 0] 3)) ∧
    Blk (((w.alloc (.cells #[.string s] 9)).alloc (.cells #[vi 0] 3)).alloc (.cells #[vi 0] 3)) w.heap.size 9 #[.string s] ∧
    Blk (((w.alloc (.cells #[.string s] 9)).alloc (.cells #[vi 0] 3)).alloc (.cells #[vi 0] 3)) (w.heap.size + 1) 3 #[vi 0] ∧
    Blk (((w.alloc (.cells #[.string s] 9)).alloc (.cells #[vi 0] 3)).alloc (.cells #[vi 0] 3)) (w.heap.size + 1 + 1) 3 #[vi 0] := by
  refine ⟨?_, ?_, ?_, ?_⟩
  · exact (((Below.refl _ _).alloc (Nat.le_refl _) _).alloc (by simp) _).alloc (by simp; omega) _
  · exact ((Blk.new w 9 #[.string s]).alloc _).alloc _
  · have := (Blk.new (w.alloc (.cells #[.string s] 9)) 3 #[vi 0]).alloc (.cells #[vi 0] 3)
    rwa [size_alloc] at this
  · have := Blk.new ((w.alloc (.cells #[.string s] 9)).alloc (.cells #[vi 0] 3)) 3 #[vi 0]
    rwa [size_alloc, size_alloc] at this
set_option maxRecDepth 100000 in
set_option maxHeartbeats 4000000 in
theorem Find_none (s : ByteArray) : Calls Tryz.prog 37 #[.slice none 0 0, .string s] w fun e w' => e = .returned (.tuple #[vi (-1), vi 0]) ∧ Below w.heap.size w w' := by
  refine callsIn_wide.1 (callsIn_of_wp_marks (F := Fence.wide) (n := 6) Tryz.func37 rfl trivial (wpIn_wide.2 ?_) rfl)
  simp only [Tryz.ntmps37, List.size_toArray, List.length_cons, List.length_nil, Nat.reduceAdd, Nat.reduceSub, Array.replicate_succ, Array.replicate_zero, List.push_toArray, List.append_toArray, List.nil_append, List.cons_append]
  go_upto_region 1 with fail
  obtain ⟨hb, h0, h1, h2⟩ := find_start w s
  have HB := Lib.hid hb
  have H1 := Lib.hid h1
  have H2 := Lib.hid h2
  clear hb h0 h1 h2
  change Code.wp _ _ _ _ (((w.alloc (.cells #[.string s] 9)).alloc (.cells #[vi 0] 3)).alloc (.cells #[vi 0] 3))
  generalize (((w.alloc (.cells #[.string s] 9)).alloc (.cells #[vi 0] 3)).alloc (.cells #[vi 0] 3)) = w1 at *
  obtain ⟨r, hr⟩ : ∃ r, r = w.heap.size + 1 := ⟨_, rfl⟩
  have HR : Hid (w.heap.size ≤ r) := Lib.hid (by omega)
  rw [← hr] at H1 H2 ⊢
  clear hr
  go_wp2_with fail
  refine (All_any none 0 0).mono ?_
  rintro e w2 ⟨rfl, rfl⟩
  have heq := eql_seqE
  go_wp2_with fail
  clear heq
  have HB2 : Hid (Below w.heap.size w (w1.alloc (.cells #[.slice none 0 0] 56))) := Lib.hid (HB.out.alloc HB.out.size _)
  have G1 := Lib.hid (H1.out.alloc (.cells #[.slice none 0 0] 56))
  have G2 := Lib.hid (H2.out.alloc (.cells #[.slice none 0 0] 56))
  have GB := Lib.hid (Blk.new w1 56 #[.slice none 0 0])
  refine wp_rangeFunc_empty rfl (enter_of Tryz.func68 (by kernel_rfl) rfl) (All1_none 5 w1.heap.size (GB.out.cell 0) _) ?_
  generalize w1.alloc (.cells #[.slice none 0 0] 56) = w3 at *
  generalize w1.heap.size = b1 at *
  intro D W hD hW hK
  have HBW := Lib.hid (HB2.out.trans (hW.mono HB2.out.size))
  have F1 := Lib.hid (G1.out.old hW)
  have F2 := Lib.hid (G2.out.old hW)
  have HK := Lib.hid hK
  have HD := Lib.hid hD
  have HS3 := Lib.hid HB2.out.size
  clear hW hK hD HB H1 H2 HB2 G1 G2 GB
  have r1 : W.cell? ⟨r, 0, none⟩ = some (vi 0) := F1.out.cell 0
  have f1 := F1.out.frozen 0
  have r2 : W.cell? ⟨r + 1, 0, none⟩ = some (vi 0) := F2.out.cell 0
  have f2 := F2.out.frozen 0
  go_wp2_with fail
  exact find_end (vi (-1)) (vi 0) HBW.out HR.out F1.out F2.out HK.out (by have := HD.out; have := HS3.out; omega) (fun W' h1 h2 => find_result h1 h2 _ rfl rfl) (fun W' h => ⟨rfl, h⟩)
end
end Go.Proofs.YtnfhlocflpdlcaaGreat.di

/-
  The one entry found. Conditions: the one slot of the name "a" and the inode 2.
-/
namespace Go.Proofs.YtnfhlocflpdlcaaGreat.di
open Go.RowKit Go.Proofs.YtnfhlocflpdlcaaGreat.mgr Go.Proofs.YtnfhlocflpdlcaaGreat.ft Go.Proofs.YtnfhlocflpdlcaaGreat.pl Go.Proofs.YtnfhlocflpdlcaaGreat.ino
attribute [local go_sem] Oper.semAt_some
section
variable {w w' : World}
theorem keepsE {B : Nat} {W W' : World} {row : Option Nat} (hg : W.grownBy W' row) (hr : ∀ r, row = some r → ∃ t cur, Blk W r t cur) : KeepsFrom B W W' :=
  ⟨hg.size, fun k o _ hk ho => (hg.block k (Array.getElem?_eq_some_iff.1 hk).1 (fun e => by
    obtain ⟨t, cur, hb⟩ := hr k e.symm
    unfold Blk at hb
    rw [hb] at hk
    cases hk
    cases ho)).trans hk⟩
theorem keeps_set {B r : Nat} {W : World} {t : TypeId} {cs : Array Value} (h : Blk W r t cs) (i : Nat) (u : Value) : KeepsFrom B W (W.setCell ⟨r, i, none⟩ u) :=
  keepsE (row := some r) (Lib.grownBy_setCell W r i u) (fun k e => by cases e; exact ⟨_, _, h⟩)
theorem keeps_drew {B : Nat} {W W' : World} (h : KeepsFrom B W W') : KeepsFrom B W W'.drew := ⟨h.1, h.2⟩
/-- A round has found the entry. -/
def FoundSt (w : World) (r : Nat) (c : Code) (pre : List Unit) (W : World) : Prop := c = .ret ∧ pre = [()] ∧ Below w.heap.size w W ∧ Blk W r 3 #[vi 0] ∧ Blk W (r + 1) 3 #[vi 2]
theorem blk_own {g : Nat} {t : TypeId} {cs : Array Value} {W W' : World} {row : Option Nat} (h : Blk W g t cs) (hg : W.grownBy W' row) (hr : ∀ r, row = some r → ∃ o : Obj, W.heap[r]? = some o ∧ o.isCells = false) : Blk W' g t cs := by
  refine (hg.block g h.lt (fun e => ?_)).trans h
  obtain ⟨o, ho, hc⟩ := hr g e.symm
  unfold Blk at h
  rw [h] at ho
  cases ho
  cases hc
theorem found_own (w : World) (B r : Nat) (hB : w.heap.size ≤ B) (c : Code) : OwnFrom B (FoundSt w r c) := by
  intro s W W' row hs hg hr
  obtain ⟨h1, h2, h3, h4, h5⟩ := hs
  exact ⟨h1, h2, h3.grown hg h3.size (fun k e => Nat.le_trans hB (hr k e).1), blk_own h4 hg (fun k e => (hr k e).2), blk_own h5 hg (fun k e => (hr k e).2)⟩
/-- No round was yet. -/
def BeginSt (w1 : World) (pre : List Unit) (W : World) : Prop := pre = [] ∧ Below w1.heap.size w1 W
theorem begin_own (w1 : World) : OwnFrom w1.heap.size (BeginSt w1) := by
  intro s W W' row hs hg hr
  exact ⟨hs.1, hs.2.grown hg hs.2.size (fun k e => (hr k e).1)⟩
set_option maxRecDepth 100000 in
set_option maxHeartbeats 4000000 in
theorem Find_one (b o c : Nat) (hc : 16 ≤ c) (hrow : BRow w (some ⟨b, o, none⟩) sl) : Calls Tryz.prog 37 #[.slice (some ⟨b, o, none⟩) 16 c, sa] w fun e w' => e = .returned (.tuple #[vi 0, vi 2]) ∧ Below w.heap.size w w' := by
  refine callsIn_wide.1 (callsIn_of_wp_marks (F := Fence.wide) (n := 6) Tryz.func37 rfl trivial (wpIn_wide.2 ?_) rfl)
  simp only [Tryz.ntmps37, List.size_toArray, List.length_cons, List.length_nil, Nat.reduceAdd, Nat.reduceSub, Array.replicate_succ, Array.replicate_zero, List.push_toArray, List.append_toArray, List.nil_append, List.cons_append]
  go_upto_region 1 with fail
  obtain ⟨hb, h0, h1, h2⟩ := find_start w ⟨#[97]⟩
  have HB := Lib.hid hb
  have H0 := Lib.hid h0
  have H1 := Lib.hid h1
  have H2 := Lib.hid h2
  have HRW := Lib.hid (hrow.below hb)
  clear hb h0 h1 h2 hrow
  change Code.wp _ _ _ _ (((w.alloc (.cells #[.string ⟨#[97]⟩] 9)).alloc (.cells #[vi 0] 3)).alloc (.cells #[vi 0] 3))
  generalize (((w.alloc (.cells #[.string ⟨#[97]⟩] 9)).alloc (.cells #[vi 0] 3)).alloc (.cells #[vi 0] 3)) = w1 at *
  obtain ⟨r, hr⟩ : ∃ r, r = w.heap.size + 1 := ⟨_, rfl⟩
  have HR : Hid (w.heap.size ≤ r) := Lib.hid (by omega)
  rw [← hr] at H1 H2 ⊢
  clear hr
  go_wp2_with fail
  refine (All_any (some ⟨b, o, none⟩) 16 c).mono ?_
  rintro e w2 ⟨rfl, rfl⟩
  have heq := eql_seqE
  go_wp2_with fail
  clear heq
  have HB2 : Hid (Below w.heap.size w (w1.alloc (.cells #[.slice (some ⟨b, o, none⟩) 16 c] 56))) := Lib.hid (HB.out.alloc HB.out.size _)
  have G0 := Lib.hid (H0.out.alloc (.cells #[.slice (some ⟨b, o, none⟩) 16 c] 56))
  have G1 := Lib.hid (H1.out.alloc (.cells #[.slice (some ⟨b, o, none⟩) 16 c] 56))
  have G2 := Lib.hid (H2.out.alloc (.cells #[.slice (some ⟨b, o, none⟩) 16 c] 56))
  have GB := Lib.hid (Blk.new w1 56 #[.slice (some ⟨b, o, none⟩) 16 c])
  have GR : Hid (BRow (w1.alloc (.cells #[.slice (some ⟨b, o, none⟩) 16 c] 56)) (some ⟨b, o, none⟩) sl) := Lib.hid (HRW.out.below ((Below.refl _ _).alloc (Nat.le_refl _) _))
  clear HB H0 H1 H2 HRW
  change Code.wp _ _ _ _ (w1.alloc (.cells #[.slice (some ⟨b, o, none⟩) 16 c] 56))
  generalize w1.alloc (.cells #[.slice (some ⟨b, o, none⟩) 16 c] 56) = w3 at *
  generalize w1.heap.size = b1 at *
  generalize w.heap.size = x at G0
  have HS3 : Hid (w.heap.size ≤ w3.heap.size) := Lib.hid HB2.out.size
  refine wpIn_wide.1 (wpIn_rangeFunc_ownH (F := Fence.wide) (n := 6) rfl (by omega) (gf := 68) (lb := #[.pointer (some ⟨b1, 0, none⟩)]) rfl trivial (enter_of Tryz.func68 (by kernel_rfl) rfl)
    (All1_one 5 (by decide) b1 b o c hc (GB.out.cell 0) GR.out)
    (fun _ _ => trivial) (fun _ _ _ _ _ _ _ _ => trivial) (Below.refl _ _) (fun _ => rfl)
    (BeginSt w3) (FoundSt w r) (begin_own w3) (fun c => found_own w _ r HS3.out c) ⟨rfl, Below.refl _ _⟩
    (fun _ a' W => ∃ g, a' = ({ tmps := #[.slice (some ⟨b, o, none⟩) 16 c, sa, undef, .pointer (some ⟨x, 0, none⟩), .pointer (some ⟨r, 0, none⟩), .pointer (some ⟨r + 1, 0, none⟩), vi 0, .pointer (some ⟨g, 0, none⟩), .slice (some ⟨b, o, none⟩) 16 c, .func (.func 68) #[] #[.pointer (some ⟨b1, 0, none⟩)], vi 0, .agg #[vi 2, sa], undef, undef, undef, undef, undef, undef, undef], defers := [] } : Act) ∧ Blk W g 39 #[vi 2, sa]) ?_ ?_ ?_ ?_ ?_)
  · intro _ a' s W W' row hs hg hr
    obtain ⟨g, e, hb⟩ := hs
    exact ⟨g, e, blk_own hb hg (fun k e => (hr k e).2)⟩
  · rintro l pre ⟨⟩ W K hI hK
    have HI := Lib.hid hI
    have HK := Lib.hid hK
    clear hI hK
    dsimp only
    gi_wp2
    exact HK.out _ _ (keepsE (World.grownBy_alloc W _ none) (fun r e => by cases e)) trivial ⟨HI.out.1, HI.out.2.alloc HI.out.2.size _⟩ ⟨W.heap.size, rfl, Blk.new W _ _⟩
  · rintro l pre ⟨⟩ a' W hlw hrec ⟨rfl, hB⟩ ⟨g, rfl, hg⟩ hlen
    have g0 : W.cell? ⟨g, 0, none⟩ = some (vi 2) := hg.cell 0
    have g1 : W.cell? ⟨g, 1, none⟩ = some sa := hg.cell 1
    have F0 := Lib.hid (G0.out.old hB)
    have F1 := Lib.hid (G1.out.old hB)
    have F2 := Lib.hid (G2.out.old hB)
    have HBW := Lib.hid (HB2.out.trans (hB.mono HB2.out.size))
    have x0 : W.cell? ⟨x, 0, none⟩ = some sa := F0.out.cell 0
    have r0 : W.cell? ⟨r, 0, none⟩ = some (vi 0) := F1.out.cell 0
    have f0 := F1.out.frozen 0
    have r1 : W.cell? ⟨r + 1, 0, none⟩ = some (vi 0) := F2.out.cell 0
    have f1 := F2.out.frozen 0
    have ne : r ≠ g := fun e => by
      subst e
      exact absurd (blk_type hg F1.out) (by decide)
    have ne' : r + 1 ≠ g := fun e => by
      subst e
      exact absurd (blk_type hg F2.out) (by decide)
    clear hrec hB hlen hg
    gi_wp2
    gi_region
    all_goals
      gi_wp2
      have a1 : Blk (W.setCell ⟨r, 0, none⟩ (vi 0)) r 3 #[vi 0] := F1.out.set_ 0 (vi 0)
      have a2 : Blk (W.setCell ⟨r, 0, none⟩ (vi 0)) (r + 1) 3 #[vi 0] := F2.out.far (by simp) _
      have b1 : Blk ((W.setCell ⟨r, 0, none⟩ (vi 0)).setCell ⟨r + 1, 0, none⟩ (vi 2)) r 3 #[vi 0] := a1.far (by simp) _
      have b2 : Blk ((W.setCell ⟨r, 0, none⟩ (vi 0)).setCell ⟨r + 1, 0, none⟩ (vi 2)) (r + 1) 3 #[vi 2] := a2.set_ 0 (vi 2)
      have hr := HR.out
      exact ⟨keeps_drew ((keeps_set F1.out 0 (vi 0)).trans (keeps_set a2 0 (vi 2))), rfl, rfl,
        ((HBW.out.setCell (p := ⟨r, 0, none⟩) hr _).setCell (p := ⟨r + 1, 0, none⟩) (by dsimp only; omega) _).drew, b1, b2⟩
  · rintro D xs W hD rfl ⟨h, _⟩ hK
    cases h
  · rintro D c' pre W hD hS ⟨rfl, _, hB, h1, h2⟩ hK
    gi_wp2
    exact marksC_ret hK (find_result (blk_put h1 hK _) (blk_put h2 hK _) _ rfl rfl) ⟨rfl, below_taken hB (Nat.le_trans HS3.out hD)⟩
end
end Go.Proofs.YtnfhlocflpdlcaaGreat.di

