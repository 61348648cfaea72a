/-
  Lemmas for a law's proof, put together from several texts: each part says what it shows, and its conditions.
-/
import Derived.Test.YtpggkehfbhffbaaZC15
import Derived.Test.YtpggkehfbhffbaaZC14
import Derived.Deep.RegionLaw
import Derived.Test.YtpggkehfbhffbaaZC05
/-
  A manager of a chip's blocks, opened. Conditions: a chip told by ChipAt; rows that can be read.
-/
namespace Go.Proofs.Ytpggkehfbhffbaa.mgr
open Go.RowKit

/-! In plain words. -/
def firstB (c : NP.Chp) (f : Bool) (n : Int) (k : Nat) : gcs.Blk :=
  if NP.badAt c k then ⟨4, 0, NP.wearAt c k, 0⟩ else if f then ⟨0, 0, NP.wearAt c k, 0⟩ else if 0 < n then ⟨2, n, NP.wearAt c k, 0⟩ else ⟨3, 0, NP.wearAt c k, 0⟩
def wrongB (P : Int) (f : Bool) (n : Int) : Bool := decide (n < 0) || decide (P < n) || (f && decide (0 < n))
def firstL (c : NP.Chp) (fresh : List Bool) (live : List Int) (n : Nat) : List gcs.Blk := (List.range n).map fun k => firstB c (fresh.getD k false) (live.getD k 0) k
def evenB (l : List gcs.Blk) : Bool := decide (4 < wrap64 (gcs.greatestL l - gcs.leastL l))
def openG (c : NP.Chp) (fresh : List Bool) (live : List Int) (reserve bad : Int) : Int × Option Mg :=
  if c.down then (4, none)
  else if fresh.length ≠ c.B ∨ live.length ≠ c.B ∨ reserve < 0 ∨ bad < 0 then (1, none)
  else if (List.range c.B).all (fun k => !wrongB c.P (fresh.getD k false) (live.getD k 0)) then (0, some ⟨firstL c fresh live c.B, -1, reserve, bad, evenB (firstL c fresh live c.B)⟩)
  else (1, none)
theorem firstL_length (c : NP.Chp) (fresh : List Bool) (live : List Int) (n : Nat) : (firstL c fresh live n).length = n := by simp [firstL]
theorem firstL_succ (c : NP.Chp) (fresh : List Bool) (live : List Int) (n : Nat) : firstL c fresh live (n + 1) = firstL c fresh live n ++ [firstB c (fresh.getD n false) (live.getD n 0) n] := by
  simp [firstL, List.range_succ]
theorem all_range_succ (f : Nat → Bool) (n : Nat) : (List.range (n + 1)).all f = ((List.range n).all f && f n) := by
  simp [List.range_succ]
theorem all_range_not {f : Nat → Bool} {n B : Nat} (h : n < B) (hf : f n = false) : (List.range B).all f = false := by
  rw [List.all_eq_false]
  exact ⟨n, List.mem_range.2 h, by simp [hf]⟩
theorem openG_ok {c : NP.Chp} {fresh : List Bool} {live : List Int} {reserve bad : Int} {e : Int} {g : Mg} (h : openG c fresh live reserve bad = (e, some g)) : g.ok c ∧ e = 0 ∧ g.at_ = -1 := by
  unfold openG at h
  split at h
  · simp at h
  · split at h
    · simp at h
    · split at h
      · rename_i h1 h2 h3
        injection h with h4 h5
        injection h5 with h5
        subst h5
        have hw : ∀ k, k < c.B → wrongB c.P (fresh.getD k false) (live.getD k 0) = false := by
          intro k hk
          have := List.all_eq_true.1 h3 k (List.mem_range.2 hk)
          simpa using this
        have hP : (0 : Int) ≤ c.P := by omega
        have hx : ∀ x ∈ firstL c fresh live c.B, ∃ k, k < c.B ∧ x = firstB c (fresh.getD k false) (live.getD k 0) k := by
          intro x hx
          obtain ⟨k, hk, rfl⟩ := List.mem_map.1 hx
          exact ⟨k, List.mem_range.1 hk, rfl⟩
        have hr : ∀ x ∈ firstL c fresh live c.B, 0 ≤ x.s ∧ x.s ≤ 4 ∧ 0 ≤ x.l ∧ x.l ≤ c.P ∧ x.n = 0 ∧ x.s ≠ 1 ∧ (x.s ≠ 2 → x.l = 0) := by
          intro x hx'
          obtain ⟨k, hk, rfl⟩ := hx x hx'
          have := hw k hk
          unfold wrongB at this
          simp only [Bool.or_eq_false_iff, decide_eq_false_iff_not] at this
          unfold firstB
          generalize live.getD k 0 = n at *
          split
          · dsimp only; omega
          · split
            · dsimp only; omega
            · split
              · dsimp only; omega
              · dsimp only; omega
        refine ⟨⟨firstL_length _ _ _ _, ?_, ?_, ?_, .inl rfl, ?_⟩, h4.symm, rfl⟩
        · intro x hx'; have := hr x hx'; omega
        · intro x hx' a b; exact (hr x hx').2.2.2.2.2.2 b
        · intro x hx' a; exact absurd a (hr x hx').2.2.2.2.2.1
        · intro i hi hs
          exact absurd hs (hr _ (blk_mem hi)).2.2.2.2.2.1
      · simp at h

/-! In memory. -/
theorem block_info : (Try.prog.info? 121).map (fun i => (i.zero, i.size, i.bytes)) = some (some (.agg #[vi 0, vi 0, vi 0, vi 0]), 4, 32) := by kernel_rfl
def GOwn (w : World) (b0 : Nat) (v : Value) (l : List gcs.Blk) : Prop := w.ownsRow b0 121 4 v l.length (l.flatMap gcells)
section
variable {w w' : World} {b0 : Nat} {v : Value} {l : List gcs.Blk}
theorem GOwn.grown (h : GOwn w b0 v l) {row : Option Nat} (q : w.grownBy w' row) (hne : v.ownBlock = none ∨ v.ownBlock ≠ row) : GOwn w' b0 v l := World.ownsRow.kept h q hne
theorem GOwn.old (h : GOwn w b0 v l) (hb : Below w.heap.size w w') : GOwn w' b0 v l :=
  h.grown (row := none) ⟨hb.os, hb.tape, hb.output, hb.size, fun k hk _ => hb.block k hk⟩ (by cases hv : v.ownBlock <;> simp)
theorem GOwn.form (h : GOwn w b0 v l) : ∃ a c, v = .slice a l.length c := by
  rcases h.2 with ⟨rfl, h0⟩ | ⟨g, cap, cur, rfl, _⟩
  · exact ⟨none, 0, by rw [h0]⟩
  · exact ⟨_, _, rfl⟩
theorem GOwn.row (h : GOwn w b0 v l) : ∀ b, v.ownBlock = some b → b0 ≤ b ∧ ∃ cur, Blk w b 121 cur := by
  intro b hb
  rcases h.2 with ⟨rfl, _⟩ | ⟨g, cap, cur, rfl, hg, hh, _⟩
  · simp [Value.ownBlock] at hb
  · simp [Value.ownBlock] at hb
    subst hb
    exact ⟨hg, cur, hh⟩
theorem append_block (hown : GOwn w b0 v l) (x : gcs.Blk) (hn : l.length + 1 ≤ 1000000) (hb : b0 ≤ w.heap.size) :
    ∃ v' w', AppRun 76 76 76 v (.slice (some ⟨w.heap.size, 0, none⟩) 1 1) (w.alloc (.cells #[vi x.s, vi x.l, vi x.r, vi x.n] 121)) v' w' ∧ GOwn w' b0 v' (l ++ [x]) ∧ (w.alloc (.cells #[vi x.s, vi x.l, vi x.r, vi x.n] 121)).grownBy w' v.ownBlock := by
  obtain ⟨i0, hi, hz0, hz1, hz2⟩ := info_parts block_info
  have hown' := hown.old ((Below.refl _ w).alloc (Nat.le_refl _) (.cells #[vi x.s, vi x.l, vi x.r, vi x.n] 121))
  obtain ⟨v', w', h1, h2, h3, _⟩ := run_append_own_at (P := Try.prog) (w.alloc (.cells #[vi x.s, vi x.l, vi x.r, vi x.n] 121)) b0 76 76 121 i0 _ 4 32 Try.underlying76 hi hz0 hz1 hz2 rfl (by omega) v l.length (l.flatMap gcells) hown'
    ⟨w.heap.size, 0, none⟩ 1 1 (gcells x) rfl (fun j u hu => by
      rw [add_plain, Nat.zero_add, (Blk.new w 121 #[vi x.s, vi x.l, vi x.r, vi x.n]).cell]
      simpa [gcells] using hu) (by intro u hu; simp [gcells] at hu; rcases hu with rfl | rfl | rfl | rfl <;> rfl)
      (by unfold maxLen; omega) (by omega) (by simp; omega)
  refine ⟨v', w', ⟨h1⟩, ?_, h3⟩
  unfold GOwn
  rw [List.length_append, List.flatMap_append]
  simpa using h2
end

/-- A manager while its blocks are laid. -/
structure OpenSt (w : World) (k m : Nat) (reserve bad : Int) (l : List gcs.Blk) (v : Value) (wr : World) : Prop where
  below : Below w.heap.size w wr
  mgr : Blk wr m 118 #[ptr k, v, vi (-1), vi reserve, vi bad, .bool false]
  own : GOwn wr w.heap.size v l
  low : w.heap.size ≤ m
section
variable {w wr w' : World} {k m : Nat} {reserve bad : Int} {l : List gcs.Blk} {v : Value}
theorem OpenSt.old (h : OpenSt w k m reserve bad l v wr) (q : Below wr.heap.size wr w') : OpenSt w k m reserve bad l v w' := ⟨h.below.trans (q.mono h.below.size), h.mgr.old q, h.own.old q, h.low⟩
/-- A variable of this loop's is laid. -/
theorem OpenSt.var (h : OpenSt w k m reserve bad l v wr) {g j : Nat} (hw : w.heap.size ≤ g) (ho : v.ownBlock ≠ some g) (hk : g ≠ m) (u : Value) : OpenSt w k m reserve bad l v (wr.setCell ⟨g, j, none⟩ u) :=
  ⟨h.below.setCell (p := ⟨g, j, none⟩) hw u, h.mgr.far (p := ⟨g, j, none⟩) hk.symm u, h.own.grown (row := some g) (set_grown wr g j u) (.inr ho), h.low⟩
theorem OpenSt.next (h : OpenSt w k m reserve bad l v wr) {w5 : World} {v' : Value} {x : gcs.Blk} (ho : GOwn w5 w.heap.size v' (l ++ [x])) (hgr : (wr.alloc (.cells #[vi x.s, vi x.l, vi x.r, vi x.n] 121)).grownBy w5 v.ownBlock) :
    OpenSt w k m reserve bad (l ++ [x]) v' (w5.setCell ⟨m, 1, none⟩ v') := by
  have hoa := h.own.old ((Below.refl _ wr).alloc (Nat.le_refl _) (.cells #[vi x.s, vi x.l, vi x.r, vi x.n] 121))
  have hc5 : Blk w5 m 118 _ := (h.mgr.alloc (.cells #[vi x.s, vi x.l, vi x.r, vi x.n] 121)).grown hgr (own_blk_ne hoa (h.mgr.alloc _) (by decide))
  have hk5 : some m ≠ v'.ownBlock := own_blk_ne ho hc5 (by decide)
  refine ⟨?_, hc5.set_ 1 v', ho.grown (row := some m) (set_grown w5 m 1 v') (.inr (fun e => hk5 e.symm)), h.low⟩
  exact ((h.below.alloc h.below.size _).grown hgr (h.below.alloc h.below.size _).size (fun b e => (hoa.row b e).1)).setCell (p := ⟨m, 1, none⟩) h.low _
end
end Go.Proofs.Ytpggkehfbhffbaa.mgr

/-
  The document's manager: all its blocks told. Conditions: a manager told by R6At.
-/
namespace Go.Proofs.Ytpggkehfbhffbaa.mgr
open Go.RowKit

section
variable {base : Nat} {w w' : World} {r : Nat} {G : R6} {R : RefM}
/-- Blocks laid so far. -/
structure AllSt (w : World) (n : Nat) (v : Value) (l : List gcs.Blk) (wr : World) : Prop where
  below : Below w.heap.size w wr
  own : GOwn wr w.heap.size v l
  len : l.length = n
theorem AllSt.next {n : Nat} {v v' : Value} {l : List gcs.Blk} {x : gcs.Blk} {wr w5 : World} (h : AllSt w n v l wr) (ho : GOwn w5 w.heap.size v' (l ++ [x])) (hgr : (wr.alloc (.cells #[vi x.s, vi x.l, vi x.r, vi x.n] 121)).grownBy w5 v.ownBlock) : AllSt w (n + 1) v' (l ++ [x]) w5 := by
  have hoa := h.own.old ((Below.refl _ wr).alloc (Nat.le_refl _) (.cells #[vi x.s, vi x.l, vi x.r, vi x.n] 121))
  exact ⟨(h.below.alloc h.below.size _).grown hgr (h.below.alloc h.below.size _).size (fun b e => (hoa.row b e).1), ho, by rw [List.length_append, h.len]; rfl⟩
set_option maxRecDepth 100000 in
set_option maxHeartbeats 2000000 in
theorem rAll_any (h : R6At base w r G R) : Calls Try.prog 122 #[ptr r] w fun e w' => ∃ v l, e = .returned v ∧ AllSt w G.st.length v l w' := by
  have H := Lib.hid h
  have hlen := h.small
  have ST : Hid (AllSt w 0 (.slice none 0 0) [] w) := Lib.hid ⟨Below.refl _ _, World.ownsRow_nil _ _ _ _, rfl⟩
  have c1 := h.cell.2.1
  clear h
  go_enter Try.func122, Try.ntmps122
  go_wp2_with fail
  go_loopw [3, 4] (fun u i wr => ∃ (k : Nat) (v : Value) (l : List gcs.Blk), k ≤ G.st.length ∧ v = u ∧ i = vi k ∧ Hid (AllSt w k v l wr)) (fun _ i _ => G.st.length - (intOf i).toNat)
  case atStart => exact ⟨0, _, [], Nat.zero_le _, rfl, rfl, ST⟩
  case round =>
    clear ST c1
    obtain ⟨k, v, l, hk, rfl, rfl, st⟩ := hrel
    have H1 := Lib.hid (H.out.old st.out.below)
    have c1 := H1.out.cell.2.1
    clear H1
    by_cases hlt : k < G.st.length
    · have c0 := H.out.cell.1
      have c1' := H.out.cell.2.1
      obtain ⟨c2, c3, c7, -⟩ := H.out.rows
      have ds := H.out.scell hlt
      have dl := H.out.lcell hlt
      have dx := H.out.xcell hlt
      have dw := H.out.wcell hlt
      have h0 : (0 : Int) ≤ (k : Int) := by omega
      have h1 : (k : Int) < (G.st.length : Int) := by omega
      generalize G.st.getD k 0 = s at *
      generalize G.lv.getD k 0 = y at *
      generalize G.nx.getD k 0 = x at *
      generalize R.wr.getD k 0 = z at *
      have hsd : AllSt w k v l wr.drew := ⟨below_drewN st.out.below 1, st.out.own.old (Below.refl _ _).drew, st.out.len⟩
      obtain ⟨v5, w5, hrun, ho5, hg5⟩ := append_block hsd.own ⟨s, y, z, x⟩ (by rw [st.out.len]; omega) hsd.below.size
      have RA : AppRun 76 76 76 v (.slice (some ⟨wr.drew.heap.size, 0, none⟩) 1 1) (wr.drew.alloc (.cells #[vi s, vi y, vi z, vi x] 121)) v5 w5 := hrun
      have S5 := Lib.hid (hsd.next (x := ⟨s, y, z, x⟩) ho5 hg5)
      obtain ⟨av, cv, hv⟩ := st.out.own.form
      subst hv
      have HS : Hid (∀ w', Below w.heap.size w w' → w'.cell? ⟨r, 0, none⟩ = some (ptr G.q) ∧ w'.cell? ⟨r, 1, none⟩ = some (.slice (some ⟨G.gs, 0, none⟩) G.st.length G.cs) ∧ w'.cell? ⟨r, 2, none⟩ = some (.slice (some ⟨G.gl, 0, none⟩) G.st.length G.cl) ∧ w'.cell? ⟨r, 3, none⟩ = some (.slice (some ⟨G.gx, 0, none⟩) G.st.length G.cx) ∧ w'.cell? ⟨G.q, 7, none⟩ = some (.slice (some ⟨R.gw, 0, none⟩) G.st.length R.cw) ∧ w'.cell? ⟨G.gs, k, none⟩ = some (vi s) ∧ w'.cell? ⟨G.gl, k, none⟩ = some (vi y) ∧ w'.cell? ⟨G.gx, k, none⟩ = some (vi x) ∧ w'.cell? ⟨R.gw, k, none⟩ = some (vi z)) := Lib.hid (fun w' b => ⟨cell_below c0 b, cell_below c1' b, cell_below c2 b, cell_below c3 b, cell_below c7 b, cell_below ds b, cell_below dl b, cell_below dx b, cell_below dw b⟩)
      have B1 : Hid (Below w.heap.size w wr.drew) := Lib.hid hsd.below
      have B2 : Hid (Below w.heap.size w (wr.drew.alloc (.cells #[vi s, vi y, vi z, vi x] 121))) := Lib.hid (hsd.below.alloc hsd.below.size _)
      clear hsd hrun ho5 hg5 st c0 c1' c2 c3 c7 ds dl dx dw
      go_upto_region 5 with fail
      clear c1
      refine wp_region_held_drew (S := fun w' => w'.cell? ⟨r, 0, none⟩ = some (ptr G.q) ∧ w'.cell? ⟨r, 1, none⟩ = some (.slice (some ⟨G.gs, 0, none⟩) G.st.length G.cs) ∧ w'.cell? ⟨r, 2, none⟩ = some (.slice (some ⟨G.gl, 0, none⟩) G.st.length G.cl) ∧ w'.cell? ⟨r, 3, none⟩ = some (.slice (some ⟨G.gx, 0, none⟩) G.st.length G.cx) ∧ w'.cell? ⟨G.q, 7, none⟩ = some (.slice (some ⟨R.gw, 0, none⟩) G.st.length R.cw) ∧ w'.cell? ⟨G.gs, k, none⟩ = some (vi s) ∧ w'.cell? ⟨G.gl, k, none⟩ = some (vi y) ∧ w'.cell? ⟨G.gx, k, none⟩ = some (vi x) ∧ w'.cell? ⟨R.gw, k, none⟩ = some (vi z)) (by kernel_rfl) (HS.out _ B1.out) (fun hHeld => ?_)
      generalize wr.drew = wd at *
      change wpAnyH _ _ _ _ _ 36 #[false, false, false, false, false, false, false, false, false, false, false, false, false, false, false, false, false, false, false, false, false, false, false, false, false, false, false, false, false, false, false, false, false, false, false, false] _ _
      refine wpAnyH_take (i := 0) (oi := ⟨some 14, _, _, _, _, _⟩) (v := ?_) rfl (by kernel_rfl) (by kernel_rfl) (by kernel_rfl) (fun _ _ _ h => h) (Or.inl ⟨by rfl, ?_⟩) (by assumption) ?_
      rotate_left
      · intro w hSw; (try dsimp only at hSw); go_simp; (try with_reducible rfl)
      simp only [Act.put, List.setIfInBounds_toArray, List.set_cons_zero, List.set_cons_succ]
      refine wpAnyH_take (i := 1) (oi := ⟨some 15, _, _, _, _, _⟩) (v := ?_) rfl (by kernel_rfl) (by kernel_rfl) (by kernel_rfl) (fun _ _ _ h => h) (Or.inl ⟨by rfl, ?_⟩) (by assumption) ?_
      rotate_left
      · intro w hSw; (try dsimp only at hSw); go_simp; (try with_reducible rfl)
      simp only [Act.put, List.setIfInBounds_toArray, List.set_cons_zero, List.set_cons_succ]
      refine wpAnyH_take (i := 2) (oi := ⟨some 16, _, _, _, _, _⟩) (v := ?_) rfl (by kernel_rfl) (by kernel_rfl) (by kernel_rfl) (fun _ _ _ h => h) (Or.inl ⟨by rfl, ?_⟩) (by assumption) ?_
      rotate_left
      · intro w hSw; (try dsimp only at hSw); go_simp; (try with_reducible rfl)
      simp only [Act.put, List.setIfInBounds_toArray, List.set_cons_zero, List.set_cons_succ]
      refine wpAnyH_take (i := 3) (oi := ⟨some 17, _, _, _, _, _⟩) (v := ?_) rfl (by kernel_rfl) (by kernel_rfl) (by kernel_rfl) (fun _ _ _ h => h) (Or.inl ⟨by rfl, ?_⟩) (by assumption) ?_
      rotate_left
      · intro w hSw; (try dsimp only at hSw); go_simp; (try with_reducible rfl)
      simp only [Act.put, List.setIfInBounds_toArray, List.set_cons_zero, List.set_cons_succ]
      refine wpAnyH_take (i := 4) (oi := ⟨some 18, _, _, _, _, _⟩) (v := ?_) rfl (by kernel_rfl) (by kernel_rfl) (by kernel_rfl) (fun _ _ _ h => h) (Or.inl ⟨by rfl, ?_⟩) (by assumption) ?_
      rotate_left
      · intro w hSw; (try dsimp only at hSw); go_simp; (try with_reducible rfl)
      simp only [Act.put, List.setIfInBounds_toArray, List.set_cons_zero, List.set_cons_succ]
      refine wpAnyH_take (i := 5) (oi := ⟨some 19, _, _, _, _, _⟩) (v := ?_) rfl (by kernel_rfl) (by kernel_rfl) (by kernel_rfl) (fun _ _ _ h => h) (Or.inl ⟨by rfl, ?_⟩) (by assumption) ?_
      rotate_left
      · intro w hSw; (try dsimp only at hSw); go_simp; (try with_reducible rfl)
      simp only [Act.put, List.setIfInBounds_toArray, List.set_cons_zero, List.set_cons_succ]
      refine wpAnyH_take (i := 6) (oi := ⟨some 20, _, _, _, _, _⟩) (v := ?_) rfl (by kernel_rfl) (by kernel_rfl) (by kernel_rfl) (fun _ _ _ h => h) (Or.inl ⟨by rfl, ?_⟩) (by assumption) ?_
      rotate_left
      · intro w hSw; (try dsimp only at hSw); go_simp; (try with_reducible rfl)
      simp only [Act.put, List.setIfInBounds_toArray, List.set_cons_zero, List.set_cons_succ]
      refine wpAnyH_take (i := 7) (oi := ⟨some 21, _, _, _, _, _⟩) (v := ?_) rfl (by kernel_rfl) (by kernel_rfl) (by kernel_rfl) (fun _ _ _ h => h) (Or.inl ⟨by rfl, ?_⟩) (by assumption) ?_
      rotate_left
      · intro w hSw; (try dsimp only at hSw); go_simp; (try with_reducible rfl)
      simp only [Act.put, List.setIfInBounds_toArray, List.set_cons_zero, List.set_cons_succ]
      refine wpAnyH_take (i := 8) (oi := ⟨some 22, _, _, _, _, _⟩) (v := ?_) rfl (by kernel_rfl) (by kernel_rfl) (by kernel_rfl) (fun _ _ _ h => h) (Or.inl ⟨by rfl, ?_⟩) (by assumption) ?_
      rotate_left
      · intro w hSw; (try dsimp only at hSw); go_simp; (try with_reducible rfl)
      simp only [Act.put, List.setIfInBounds_toArray, List.set_cons_zero, List.set_cons_succ]
      refine wpAnyH_take (i := 9) (oi := ⟨some 23, _, _, _, _, _⟩) (v := ?_) rfl (by kernel_rfl) (by kernel_rfl) (by kernel_rfl) (fun _ _ _ h => h) (Or.inl ⟨by rfl, ?_⟩) (by assumption) ?_
      rotate_left
      · intro w hSw; (try dsimp only at hSw); go_simp; (try with_reducible rfl)
      simp only [Act.put, List.setIfInBounds_toArray, List.set_cons_zero, List.set_cons_succ]
      refine wpAnyH_take (i := 10) (oi := ⟨some 24, _, _, _, _, _⟩) (v := ?_) rfl (by kernel_rfl) (by kernel_rfl) (by kernel_rfl) (fun _ _ _ h => h) (Or.inl ⟨by rfl, ?_⟩) (by assumption) ?_
      rotate_left
      · intro w hSw; (try dsimp only at hSw); go_simp; (try with_reducible rfl)
      simp only [Act.put, List.setIfInBounds_toArray, List.set_cons_zero, List.set_cons_succ]
      refine wpAnyH_take (i := 11) (oi := ⟨some 25, _, _, _, _, _⟩) (v := ?_) rfl (by kernel_rfl) (by kernel_rfl) (by kernel_rfl) (fun _ _ _ h => h) (Or.inl ⟨by rfl, ?_⟩) (by assumption) ?_
      rotate_left
      · intro w hSw; (try dsimp only at hSw); go_simp; (try with_reducible rfl)
      simp only [Act.put, List.setIfInBounds_toArray, List.set_cons_zero, List.set_cons_succ]
      refine wpAnyH_take (i := 12) (oi := ⟨some 26, _, _, _, _, _⟩) (v := ?_) rfl (by kernel_rfl) (by kernel_rfl) (by kernel_rfl) (fun _ _ _ h => h) (Or.inl ⟨by rfl, ?_⟩) (by assumption) ?_
      rotate_left
      · intro w hSw; (try dsimp only at hSw); go_simp; (try with_reducible rfl)
      simp only [Act.put, List.setIfInBounds_toArray, List.set_cons_zero, List.set_cons_succ]
      refine wpAnyH_take (i := 13) (oi := ⟨some 27, _, _, _, _, _⟩) (v := ?_) rfl (by kernel_rfl) (by kernel_rfl) (by kernel_rfl) (fun _ _ _ h => h) (Or.inl ⟨by rfl, ?_⟩) (by assumption) ?_
      rotate_left
      · intro w hSw; (try dsimp only at hSw); go_simp; (try with_reducible rfl)
      simp only [Act.put, List.setIfInBounds_toArray, List.set_cons_zero, List.set_cons_succ]
      refine wpAnyH_take (i := 14) (oi := ⟨some 28, _, _, _, _, _⟩) (v := ?_) rfl (by kernel_rfl) (by kernel_rfl) (by kernel_rfl) (fun _ _ _ h => h) (Or.inl ⟨by rfl, ?_⟩) (by assumption) ?_
      rotate_left
      · intro w hSw; (try dsimp only at hSw); go_simp; (try with_reducible rfl)
      simp only [Act.put, List.setIfInBounds_toArray, List.set_cons_zero, List.set_cons_succ]
      refine wpAnyH_take (i := 15) (oi := ⟨some 29, _, _, _, _, _⟩) (v := ?_) rfl (by kernel_rfl) (by kernel_rfl) (by kernel_rfl) (fun _ _ _ h => h) (Or.inl ⟨by rfl, ?_⟩) (by assumption) ?_
      rotate_left
      · intro w hSw; (try dsimp only at hSw); go_simp; (try with_reducible rfl)
      simp only [Act.put, List.setIfInBounds_toArray, List.set_cons_zero, List.set_cons_succ]
      refine wpAnyH_take (i := 16) (oi := ⟨some 30, _, _, _, _, _⟩) (v := ?_) rfl (by kernel_rfl) (by kernel_rfl) (by kernel_rfl) (fun _ _ _ h => h) (Or.inl ⟨by rfl, ?_⟩) (by assumption) ?_
      rotate_left
      · intro w hSw; (try dsimp only at hSw); go_simp; (try with_reducible rfl)
      simp only [Act.put, List.setIfInBounds_toArray, List.set_cons_zero, List.set_cons_succ]
      refine wpAnyH_take (i := 17) (oi := ⟨some 31, _, _, _, _, _⟩) (v := ?_) rfl (by kernel_rfl) (by kernel_rfl) (by kernel_rfl) (fun _ _ _ h => h) (Or.inl ⟨by rfl, ?_⟩) (by assumption) ?_
      rotate_left
      · intro w hSw; (try dsimp only at hSw); go_simp; (try with_reducible rfl)
      simp only [Act.put, List.setIfInBounds_toArray, List.set_cons_zero, List.set_cons_succ]
      refine wpAnyH_take (i := 18) (oi := ⟨some 32, _, _, _, _, _⟩) (v := ?_) rfl (by kernel_rfl) (by kernel_rfl) (by kernel_rfl) (fun _ _ _ h => h) (Or.inl ⟨by rfl, ?_⟩) (by assumption) ?_
      rotate_left
      · intro w hSw; (try dsimp only at hSw); go_simp; (try with_reducible rfl)
      simp only [Act.put, List.setIfInBounds_toArray, List.set_cons_zero, List.set_cons_succ]
      refine wpAnyH_take (i := 19) (oi := ⟨some 33, _, _, _, _, _⟩) (v := ?_) rfl (by kernel_rfl) (by kernel_rfl) (by kernel_rfl) (fun _ _ _ h => h) (Or.inl ⟨by rfl, ?_⟩) (by assumption) ?_
      rotate_left
      · intro w hSw; (try dsimp only at hSw); go_simp; (try with_reducible rfl)
      simp only [Act.put, List.setIfInBounds_toArray, List.set_cons_zero, List.set_cons_succ]
      refine wpAnyH_take (i := 20) (oi := ⟨some 34, _, _, _, _, _⟩) (v := ?_) rfl (by kernel_rfl) (by kernel_rfl) (by kernel_rfl) (fun _ _ _ h => h) (Or.inl ⟨by rfl, ?_⟩) (by assumption) ?_
      rotate_left
      · intro w hSw; (try dsimp only at hSw); go_simp; (try with_reducible rfl)
      simp only [Act.put, List.setIfInBounds_toArray, List.set_cons_zero, List.set_cons_succ]
      refine wpAnyH_take (i := 21) (oi := ⟨some 35, _, _, _, _, _⟩) (v := ?_) rfl (by kernel_rfl) (by kernel_rfl) (by kernel_rfl) (fun _ _ _ h => h) (Or.inl ⟨by rfl, ?_⟩) (by assumption) ?_
      rotate_left
      · intro w hSw; (try dsimp only at hSw); go_simp; (try with_reducible rfl)
      simp only [Act.put, List.setIfInBounds_toArray, List.set_cons_zero, List.set_cons_succ]
      refine wpAnyH_take (i := 22) (oi := ⟨some 36, _, _, _, _, _⟩) (v := ?_) rfl (by kernel_rfl) (by kernel_rfl) (by kernel_rfl) (fun _ _ _ h => h) (Or.inl ⟨by rfl, ?_⟩) (by assumption) ?_
      rotate_left
      · intro w hSw; (try dsimp only at hSw); go_simp; (try with_reducible rfl)
      simp only [Act.put, List.setIfInBounds_toArray, List.set_cons_zero, List.set_cons_succ]
      refine wpAnyH_take (i := 23) (oi := ⟨some 37, _, _, _, _, _⟩) (v := ?_) rfl (by kernel_rfl) (by kernel_rfl) (by kernel_rfl) (fun _ _ _ h => h) (Or.inl ⟨by rfl, ?_⟩) (by assumption) ?_
      rotate_left
      · intro w hSw; (try dsimp only at hSw); go_simp; (try with_reducible rfl)
      simp only [Act.put, List.setIfInBounds_toArray, List.set_cons_zero, List.set_cons_succ]
      refine wpAnyH_take (i := 24) (oi := ⟨some 38, _, _, _, _, _⟩) (v := ?_) rfl (by kernel_rfl) (by kernel_rfl) (by kernel_rfl) (fun _ _ _ h => h) (Or.inl ⟨by rfl, ?_⟩) (by assumption) ?_
      rotate_left
      · intro w hSw; (try dsimp only at hSw); go_simp; (try with_reducible rfl)
      simp only [Act.put, List.setIfInBounds_toArray, List.set_cons_zero, List.set_cons_succ]
      refine wpAnyH_take (i := 25) (oi := ⟨some 39, _, _, _, _, _⟩) (v := ?_) rfl (by kernel_rfl) (by kernel_rfl) (by kernel_rfl) (fun _ _ _ h => h) (Or.inl ⟨by rfl, ?_⟩) (by assumption) ?_
      rotate_left
      · intro w hSw; (try dsimp only at hSw); go_simp; (try with_reducible rfl)
      simp only [Act.put, List.setIfInBounds_toArray, List.set_cons_zero, List.set_cons_succ]
      refine wpAnyH_take (i := 26) (oi := ⟨some 40, _, _, _, _, _⟩) (v := ?_) rfl (by kernel_rfl) (by kernel_rfl) (by kernel_rfl) (fun _ _ _ h => h) (Or.inl ⟨by rfl, ?_⟩) (by assumption) ?_
      rotate_left
      · intro w hSw; (try dsimp only at hSw); go_simp; (try with_reducible rfl)
      simp only [Act.put, List.setIfInBounds_toArray, List.set_cons_zero, List.set_cons_succ]
      refine wpAnyH_take (i := 27) (oi := ⟨some 41, _, _, _, _, _⟩) (v := ?_) rfl (by kernel_rfl) (by kernel_rfl) (by kernel_rfl) (fun _ _ _ h => h) (Or.inl ⟨by rfl, ?_⟩) (by assumption) ?_
      rotate_left
      · intro w hSw; (try dsimp only at hSw); go_simp; (try with_reducible rfl)
      simp only [Act.put, List.setIfInBounds_toArray, List.set_cons_zero, List.set_cons_succ]
      refine wpAnyH_take (i := 28) (oi := ⟨some 42, _, _, _, _, _⟩) (v := ?_) rfl (by kernel_rfl) (by kernel_rfl) (by kernel_rfl) (fun _ _ _ h => h) (Or.inl ⟨by rfl, ?_⟩) (by assumption) ?_
      rotate_left
      · intro w hSw; (try dsimp only at hSw); go_simp; (try with_reducible rfl)
      simp only [Act.put, List.setIfInBounds_toArray, List.set_cons_zero, List.set_cons_succ]
      refine wpAnyH_take (i := 29) (oi := ⟨some 43, _, _, _, _, _⟩) (v := ?_) rfl (by kernel_rfl) (by kernel_rfl) (by kernel_rfl) (fun _ _ _ h => h) (Or.inl ⟨by rfl, ?_⟩) (by assumption) ?_
      rotate_left
      · intro w hSw; (try dsimp only at hSw); go_simp; (try with_reducible rfl)
      simp only [Act.put, List.setIfInBounds_toArray, List.set_cons_zero, List.set_cons_succ]
      refine wpAnyH_take (i := 30) (oi := ⟨some 44, _, _, _, _, _⟩) (v := ?_) rfl (by kernel_rfl) (by kernel_rfl) (by kernel_rfl) (fun _ _ _ h => h) (Or.inl ⟨by rfl, ?_⟩) (by assumption) ?_
      rotate_left
      · intro w hSw; (try dsimp only at hSw); go_simp; (try with_reducible rfl)
      simp only [Act.put, List.setIfInBounds_toArray, List.set_cons_zero, List.set_cons_succ]
      refine wpAnyH_take (i := 31) (oi := ⟨some 45, _, _, _, _, _⟩) (v := ?_) rfl (by kernel_rfl) (by kernel_rfl) (by kernel_rfl) (fun _ _ _ h => h) (Or.inl ⟨by rfl, ?_⟩) (by assumption) ?_
      rotate_left
      · intro w hSw; (try dsimp only at hSw); go_simp; (try with_reducible rfl)
      simp only [Act.put, List.setIfInBounds_toArray, List.set_cons_zero, List.set_cons_succ]
      refine wpAnyH_take (i := 32) (oi := ⟨some 46, _, _, _, _, _⟩) (v := ?_) rfl (by kernel_rfl) (by kernel_rfl) (by kernel_rfl) (fun _ _ _ h => h) (Or.inl ⟨by rfl, ?_⟩) (by assumption) ?_
      rotate_left
      · intro w hSw; (try dsimp only at hSw); go_simp; (try with_reducible rfl)
      simp only [Act.put, List.setIfInBounds_toArray, List.set_cons_zero, List.set_cons_succ]
      refine wpAnyH_ready (rs := [33]) (by kernel_rfl) (by simp) ?_
      refine AllReadyH.cons rfl (fun K hK => ?_) AllReadyH.nil
      go_simp
      refine hK.out _ _ (HS.out _ B2.out) (fun _ => ?_)
      clear hK K
      refine wpAnyH_ready (rs := [34]) (by kernel_rfl) (by simp) ?_
      refine AllReadyH.cons rfl (fun K hK => ?_) AllReadyH.nil
      refine step_append_run rfl (.tmp 14) (.tmp 47) rfl rfl rfl RA.run ?_
      refine hK.out _ _ (HS.out _ S5.out.below) (fun _ => ?_)
      clear hK K
      simp only [Act.put, List.setIfInBounds_toArray, List.set_cons_zero, List.set_cons_succ]
      refine wpAnyH_ready (rs := [35]) (by kernel_rfl) (by simp) ?_
      refine AllReadyH.cons rfl (fun K hK => ?_) AllReadyH.nil
      go_simp
      refine hK.out _ _ (HS.out _ S5.out.below) (fun _ => ?_)
      clear hK K
      refine wpAnyH_done (by kernel_rfl) ?_ _
      clear hHeld
      go_wp2_with fail
      go_roundw
      case rel => exact ⟨k + 1, _, _, by omega, rfl, by go_num, S5⟩
      case measure => simp [intOf]; omega
    · have h1 : ¬ (k : Int) < (G.st.length : Int) := by omega
      go_wp2_with fail
      go_ret
      obtain rfl : k = G.st.length := by omega
      exact ⟨v, rfl, l, st.out⟩
end

end Go.Proofs.Ytpggkehfbhffbaa.mgr

/-
  The document's count, sum, least and greatest Wear, and what is right: for every row of blocks that is read.
-/
namespace Go.Proofs.Ytpggkehfbhffbaa.gcs
open Go.RowKit Go.Proofs.Ytpggkehfbhffbaa.mgr

theorem rightB_iff (p : Int) (x : Blk) : rightB p x = true ↔ (0 ≤ x.s ∧ x.s ≤ 4 ∧ 0 ≤ x.l ∧ x.l ≤ p ∧ 0 ≤ x.n ∧ x.n ≤ p ∧ 0 ≤ x.r ∧ x.r ≤ 1099511627776 ∧ (x.l = 0 ∨ x.s = 1 ∨ x.s = 2)) := by
  simp only [rightB]
  simp
  omega

/-- The references' least Wear, as they find it. -/
def rLeastTo (bs : List Blk) : Nat → Int × Bool
  | 0 => (0, false)
  | k + 1 => if goodB (bs.getD k default) && (!(rLeastTo bs k).2 || decide ((bs.getD k default).r < (rLeastTo bs k).1)) then ((bs.getD k default).r, true) else rLeastTo bs k
def rLeast (bs : List Blk) : Int := (rLeastTo bs bs.length).1
theorem rLeastTo_eq (bs : List Blk) (k : Nat) : rLeastTo bs k = if bestTo goodB wornB bs k < 0 then (0, false) else ((bs.getD (bestTo goodB wornB bs k).toNat default).r, true) := by
  induction k with
  | zero => rfl
  | succ k ih =>
    have hb := bestTo_bd goodB wornB bs k
    unfold rLeastTo bestTo
    rw [ih]
    by_cases h0 : bestTo goodB wornB bs k < 0
    · cases hg : goodB (bs.getD k default)
      · simp [h0]
      · simp [h0]
    · cases hg : goodB (bs.getD k default)
      · simp [h0]
      · simp only [h0, if_false, Bool.not_true, Bool.false_or, Bool.true_and, decide_false, wornB]
        split
        · rw [if_neg (by omega)]; simp
        · rfl
theorem rLeast_eq (bs : List Blk) : rLeast bs = leastL bs := by
  unfold rLeast leastL wearAt best
  rw [rLeastTo_eq]
  split <;> rfl

set_option maxHeartbeats 1000000 in
theorem RLeast_any (v : Value) (bs : List Blk) (w : World) (hrow : Row w v bs) :
    Calls Try.prog 124 #[v] w fun e w' => e = .returned (vi (leastL bs)) ∧ Below w.heap.size w w' := by
  have HR := Lib.hid hrow
  obtain ⟨hlen, a, cap, rfl, -⟩ := hrow
  go_enter Try.func124, Try.ntmps124
  go_wp2_with fail
  go_loop [3, 4, 5] (fun n f i => ∃ k : Nat, k ≤ bs.length ∧ i = vi k ∧ n = vi (rLeastTo bs k).1 ∧ f = .bool (rLeastTo bs k).2) (fun _ _ i => bs.length - (intOf i).toNat)
  case atStart => exact ⟨0, Nat.zero_le _, rfl, rfl, rfl⟩
  case round =>
    obtain ⟨k, hk, rfl, rfl, rfl⟩ := hrel
    by_cases hlt : k < bs.length
    · obtain ⟨b, o, rfl, hx⟩ := HR.out.lookup hlt
      have hd : rLeastTo bs (k + 1) = if goodB (bs.getD k default) && (!(rLeastTo bs k).2 || decide ((bs.getD k default).r < (rLeastTo bs k).1)) then ((bs.getD k default).r, true) else rLeastTo bs k := rfl
      generalize bs.getD k default = x at hx hd
      generalize rLeastTo bs k = q at hd ⊢
      obtain ⟨q, f⟩ := q
      dsimp only at hd ⊢
      obtain ⟨g0, g1, g2, g3⟩ := hx
      have Hd := Lib.hid hd
      clear hd g1 g3
      by_cases h1 : (x.s != 4) = true
      · cases f
        · go_wp2_with fail
          go_round
          case rel => exact ⟨k + 1, by omega, by go_num, by rw [Hd.out]; simp [goodB, h1], by rw [Hd.out]; simp [goodB, h1]⟩
          case measure => simp [intOf]; omega
        · by_cases h2 : x.r < q
          · go_wp2_with fail
            go_round
            case rel => exact ⟨k + 1, by omega, by go_num, by rw [Hd.out]; simp [goodB, h1, h2], by rw [Hd.out]; simp [goodB, h1, h2]⟩
            case measure => simp [intOf]; omega
          · go_wp2_with fail
            go_round
            case rel => exact ⟨k + 1, by omega, by go_num, by rw [Hd.out]; simp [goodB, h1, h2], by rw [Hd.out]; simp [goodB, h1, h2]⟩
            case measure => simp [intOf]; omega
      · have h1' : (x.s != 4) = false := by simpa using h1
        go_wp2_with fail
        go_round
        case rel => exact ⟨k + 1, by omega, by go_num, by rw [Hd.out]; simp [goodB, h1'], by rw [Hd.out]; simp [goodB, h1']⟩
        case measure => simp [intOf]; omega
    · go_wp2_with fail
      go_ret
      obtain rfl : k = bs.length := by omega
      exact ⟨ret_int (rLeast_eq bs), Below.refl _ _⟩


set_option maxHeartbeats 2000000 in
theorem RRight_any (v : Value) (bs : List Blk) (p : Int) (w : World) (hrow : Row w v bs) :
    Calls Try.prog 55 #[v, vi p] w fun e w' => e = .returned (.bool (RightL p bs)) ∧ Below w.heap.size w w' := by
  have HR := Lib.hid hrow
  obtain ⟨hlen, a, cap, rfl, -⟩ := hrow
  go_enter Try.func55, Try.ntmps55
  by_cases h1 : p < 1
  · go_wp2_with fail
    go_ret
    exact ⟨ret_bool (by simp [RightL, h1]), Below.refl _ _⟩
  by_cases h2 : 32 < p
  · go_wp2_with fail
    go_ret
    exact ⟨ret_bool (by simp [RightL, h2]), Below.refl _ _⟩
  go_wp2_with fail
  go_loopw [5] (fun i wr => ∃ k : Nat, k ≤ bs.length ∧ i = vi k ∧ (bs.take k).all (rightB p) = true ∧ Below w.heap.size w wr) (fun i _ => bs.length - (intOf i).toNat)
  case atStart => exact ⟨0, Nat.zero_le _, rfl, by simp, Below.refl _ _⟩
  case round =>
    obtain ⟨k, hk, rfl, hall, hb⟩ := hrel
    by_cases hlt : k < bs.length
    · obtain ⟨b, o, rfl, hx⟩ := (HR.out.below hb).lookup hlt
      have hst := all_take_succ (rightB p) bs default k hlt
      rw [hall] at hst
      have hno := all_of_not (rightB p) bs default k hlt
      clear hall
      generalize bs.getD k default = x at hx hst hno
      obtain ⟨g0, g1, g2, g3⟩ := hx
      have Hst := Lib.hid hst
      have Hno := Lib.hid hno
      clear hst hno
      have Hx := Lib.hid (rightB_iff p x)
      go_wp2_with fail
      all_goals first
        | (go_ret; exact ⟨ret_bool (by rw [RightL, Hno.out (by rw [Bool.eq_false_iff, ne_eq, Hx.out]; (try simp only [bne_iff_ne, ne_eq] at *); omega)]; simp), hb.alloc hb.size _⟩)
        | (go_roundw
           case rel => exact ⟨k + 1, by omega, by go_num, by rw [Hst.out, Bool.true_and, Hx.out]; (try simp only [bne_eq_false_iff_eq] at *); omega, hb.alloc hb.size _⟩
           case measure => simp [intOf]; omega)
    · go_wp2_with fail
      go_ret
      obtain rfl : k = bs.length := by omega
      rw [List.take_length] at hall
      exact ⟨ret_bool (by simp [RightL, h1, h2, hall]), hb⟩

def rmayB (least : Int) (x : Blk) : Bool := x.s != 4 && decide (x.r < least + 4)

/-- The sum of Live as it comes: wrapped at each step. -/
def liveTo (bs : List Blk) : Nat → Int
  | 0 => 0
  | k + 1 => wrap64 (liveTo bs k + (bs.getD k default).l)
def liveL (bs : List Blk) : Int := liveTo bs bs.length


set_option maxHeartbeats 1000000 in
theorem RCount_any (v : Value) (bs : List Blk) (state : Int) (w : World) (hrow : Row w v bs) :
    Calls Try.prog 54 #[v, vi state] w fun e w' => e = .returned (vi (countL state bs)) ∧ Below w.heap.size w w' := by
  have HR := Lib.hid hrow
  obtain ⟨hlen, a, cap, rfl, -⟩ := hrow
  go_enter Try.func54, Try.ntmps54
  go_wp2_with fail
  go_loop [5, 6] (fun n i => ∃ k : Nat, k ≤ bs.length ∧ i = vi k ∧ n = vi (countL state (bs.take k))) (fun _ i => bs.length - (intOf i).toNat)
  case atStart => exact ⟨0, Nat.zero_le _, rfl, rfl⟩
  case round =>
    obtain ⟨k, hk, rfl, rfl⟩ := hrel
    by_cases hlt : k < bs.length
    · obtain ⟨b, o, rfl, hx⟩ := HR.out.lookup hlt
      have hst := countL_take state bs k hlt
      have hle : countL state (bs.take k) ≤ k := Nat.le_trans (countL_le _ _) (by simp; omega)
      generalize bs.getD k default = x at hx hst
      generalize countL state (bs.take k) = c at hst hle ⊢
      obtain ⟨g0, g1, g2, g3⟩ := hx
      have Hst := Lib.hid hst
      clear hst
      cases hs : (x.s == state)
      all_goals
        go_wp2_with fail
        go_round
        case rel => exact ⟨k + 1, by omega, by go_num, by rw [Hst.out, hs]; simp⟩
        case measure => simp [intOf]; omega
    · go_wp2_with fail
      go_ret
      obtain rfl : k = bs.length := by omega
      exact ⟨ret_int (by rw [List.take_length]), Below.refl _ _⟩

set_option maxHeartbeats 1000000 in
theorem RLive_any (v : Value) (bs : List Blk) (w : World) (hrow : Row w v bs) :
    Calls Try.prog 52 #[v] w fun e w' => e = .returned (vi (liveL bs)) ∧ Below w.heap.size w w' := by
  have HR := Lib.hid hrow
  obtain ⟨hlen, a, cap, rfl, -⟩ := hrow
  go_enter Try.func52, Try.ntmps52
  go_wp2_with fail
  go_loop [3, 4] (fun n i => ∃ k : Nat, k ≤ bs.length ∧ i = vi k ∧ n = vi (liveTo bs k)) (fun _ i => bs.length - (intOf i).toNat)
  case atStart => exact ⟨0, Nat.zero_le _, rfl, rfl⟩
  case round =>
    obtain ⟨k, hk, rfl, rfl⟩ := hrel
    by_cases hlt : k < bs.length
    · obtain ⟨b, o, rfl, hx⟩ := HR.out.lookup hlt
      have Hst := Lib.hid (show liveTo bs (k + 1) = wrap64 (liveTo bs k + (bs.getD k default).l) from rfl)
      generalize bs.getD k default = x at hx Hst
      generalize liveTo bs k = c at Hst ⊢
      obtain ⟨g0, g1, g2, g3⟩ := hx
      go_wp2_with fail
      go_round
      case rel => exact ⟨k + 1, by omega, by go_num, by rw [Hst.out]⟩
      case measure => simp [intOf]; omega
    · go_wp2_with fail
      go_ret
      obtain rfl : k = bs.length := by omega
      exact ⟨rfl, Below.refl _ _⟩

/-- The references' greatest Wear, as they find it. -/
def rGreatTo (bs : List Blk) : Nat → Int × Bool
  | 0 => (0, false)
  | k + 1 => if goodB (bs.getD k default) && (!(rGreatTo bs k).2 || decide ((rGreatTo bs k).1 < (bs.getD k default).r)) then ((bs.getD k default).r, true) else rGreatTo bs k
theorem rGreatTo_eq (bs : List Blk) (k : Nat) : rGreatTo bs k = if bestTo goodB moreB bs k < 0 then (0, false) else ((bs.getD (bestTo goodB moreB bs k).toNat default).r, true) := by
  induction k with
  | zero => rfl
  | succ k ih =>
    have hb := bestTo_bd goodB moreB bs k
    unfold rGreatTo bestTo
    rw [ih]
    by_cases h0 : bestTo goodB moreB bs k < 0
    · cases hg : goodB (bs.getD k default)
      · simp [h0]
      · simp [h0]
    · cases hg : goodB (bs.getD k default)
      · simp [h0]
      · simp only [h0, if_false, Bool.not_true, Bool.false_or, Bool.true_and, decide_false, moreB]
        split
        · rw [if_neg (by omega)]; simp
        · rfl
theorem rGreat_eq (bs : List Blk) : (rGreatTo bs bs.length).1 = greatestL bs := by
  unfold greatestL wearAt best
  rw [rGreatTo_eq]
  split <;> rfl

set_option maxHeartbeats 1000000 in
theorem RGreatest_any (v : Value) (bs : List Blk) (w : World) (hrow : Row w v bs) :
    Calls Try.prog 123 #[v] w fun e w' => e = .returned (vi (greatestL bs)) ∧ Below w.heap.size w w' := by
  have HR := Lib.hid hrow
  obtain ⟨hlen, a, cap, rfl, -⟩ := hrow
  go_enter Try.func123, Try.ntmps123
  go_wp2_with fail
  go_loop [3, 4, 5] (fun n f i => ∃ k : Nat, k ≤ bs.length ∧ i = vi k ∧ n = vi (rGreatTo bs k).1 ∧ f = .bool (rGreatTo bs k).2) (fun _ _ i => bs.length - (intOf i).toNat)
  case atStart => exact ⟨0, Nat.zero_le _, rfl, rfl, rfl⟩
  case round =>
    obtain ⟨k, hk, rfl, rfl, rfl⟩ := hrel
    by_cases hlt : k < bs.length
    · obtain ⟨b, o, rfl, hx⟩ := HR.out.lookup hlt
      have hd : rGreatTo bs (k + 1) = if goodB (bs.getD k default) && (!(rGreatTo bs k).2 || decide ((rGreatTo bs k).1 < (bs.getD k default).r)) then ((bs.getD k default).r, true) else rGreatTo bs k := rfl
      generalize bs.getD k default = x at hx hd
      generalize rGreatTo bs k = q at hd ⊢
      obtain ⟨q, f⟩ := q
      dsimp only at hd ⊢
      obtain ⟨g0, g1, g2, g3⟩ := hx
      have Hd := Lib.hid hd
      clear hd g1 g3
      by_cases h1 : (x.s != 4) = true
      · cases f
        · go_wp2_with fail
          go_round
          case rel => exact ⟨k + 1, by omega, by go_num, by rw [Hd.out]; simp [goodB, h1], by rw [Hd.out]; simp [goodB, h1]⟩
          case measure => simp [intOf]; omega
        · by_cases h2 : q < x.r
          all_goals
            go_wp2_with fail
            go_round
            case rel => exact ⟨k + 1, by omega, by go_num, by rw [Hd.out]; simp [goodB, h1, h2], by rw [Hd.out]; simp [goodB, h1, h2]⟩
            case measure => simp [intOf]; omega
      · have h1' : (x.s != 4) = false := by simpa using h1
        go_wp2_with fail
        go_round
        case rel => exact ⟨k + 1, by omega, by go_num, by rw [Hd.out]; simp [goodB, h1'], by rw [Hd.out]; simp [goodB, h1']⟩
        case measure => simp [intOf]; omega
    · go_wp2_with fail
      go_ret
      obtain rfl : k = bs.length := by omega
      exact ⟨ret_int (rGreat_eq bs), Below.refl _ _⟩


end Go.Proofs.Ytpggkehfbhffbaa.gcs

