/-
  Lemmas for a law's proof, put together from several texts: each part says what it shows, and its conditions.
-/
import Derived.Test.YtpggkehfbhffbaaZC16
import Derived.Test.YtpggkehfbhffbaaZC10
/-
  The document's manager opened: it is refused as the plain law says, or is there. Conditions: a chip of the document's told by RefAt, right; rows that can be read.
-/
namespace Go.Proofs.Ytpggkehfbhffbaa.mgr
open Go.RowKit

/-- One number appended to a row of the call's own. -/
theorem append_int {w : World} {b0 : Nat} {v : Value} {l : List Int} (hown : w.ownsRow b0 3 1 v l.length (l.map vi)) (x : Int) (hn : l.length + 1 ≤ 1000000) (hb : b0 ≤ w.heap.size) :
    ∃ v' w', AppRun 24 24 24 v (.slice (some ⟨w.heap.size, 0, none⟩) 1 1) (w.alloc (.cells #[vi x] 3)) v' w' ∧ w'.ownsRow b0 3 1 v' (l ++ [x]).length ((l ++ [x]).map vi) ∧ (w.alloc (.cells #[vi x] 3)).grownBy w' v.ownBlock ∧
      (v'.ownBlock = v.ownBlock ∨ v'.ownBlock = some (w.heap.size + 1)) := by
  obtain ⟨i0, hi, hz0, hz1, hz2⟩ := info_parts mgr.int_info
  have hown' := own_old hown ((Below.refl _ w).alloc (Nat.le_refl _) (.cells #[vi x] 3))
  obtain ⟨v', w', h1, h2, h3, _, h5⟩ := run_append_own_at (P := Try.prog) (w.alloc (.cells #[vi x] 3)) b0 24 24 3 i0 _ 1 8 Try.underlying24 hi hz0 hz1 hz2 rfl (by omega) v l.length (l.map vi) hown'
    ⟨w.heap.size, 0, none⟩ 1 1 [vi x] rfl (fun j u hu => by
      have hj : j = 0 := by
        have := (List.getElem?_eq_some_iff.1 hu).1
        simpa using this
      subst hj
      rw [add_plain, Nat.zero_add, (Blk.new w 3 #[vi x]).cell]
      exact hu) (by intro u hu; simp at hu; rw [hu]; rfl)
      (by unfold maxLen; omega) (by omega) (by simp; omega)
  refine ⟨v', w', ⟨h1⟩, ?_, h3, by rw [size_alloc] at h5; exact h5⟩
  rw [List.length_append, List.map_append]
  simpa using h2
/-- The manager while its rows are laid. -/
structure O6 (w : World) (r q gx : Nat) (reserve bad : Int) (B : Nat) (vs : Value) (ss : List Int) (vl : Value) (ls : List Int) (wr : World) : Prop where
  below : Below w.heap.size w wr
  mgr : Blk wr r 131 #[ptr q, vs, vl, .slice (some ⟨gx, 0, none⟩) B B, vi reserve, vi bad, .bool false]
  os : wr.ownsRow w.heap.size 3 1 vs ss.length (ss.map vi)
  ol : wr.ownsRow w.heap.size 3 1 vl ls.length (ls.map vi)
  ox : Arr wr 3 1 gx B B ((List.replicate B (0 : Int)).map vi)
  d1 : ∀ b, vs.ownBlock = some b → vl.ownBlock ≠ some b
  d2 : vs.ownBlock ≠ some gx
  d3 : vl.ownBlock ≠ some gx
  low : w.heap.size ≤ r
  lox : w.heap.size ≤ gx
section
variable {w w' wr : World} {r q gx B : Nat} {reserve bad : Int} {vs vl : Value} {ss ls : List Int}
theorem own_none {v : Value} {row : Option Nat} (h : ∀ b, v.ownBlock = some b → row ≠ some b) : v.ownBlock = none ∨ v.ownBlock ≠ row := by
  cases hv : v.ownBlock with
  | none => exact .inl rfl
  | some b => exact .inr (fun e => h b hv e.symm)
theorem O6.old (h : O6 w r q gx reserve bad B vs ss vl ls wr) (b : Below wr.heap.size wr w') : O6 w r q gx reserve bad B vs ss vl ls w' :=
  ⟨h.below.trans (b.mono h.below.size), h.mgr.old b, own_old h.os b, own_old h.ol b, h.ox.old b, h.d1, h.d2, h.d3, h.low, h.lox⟩
theorem O6.addS (h : O6 w r q gx reserve bad B vs ss vl ls wr) (x : Int) (hn : ss.length + 1 ≤ 1000000) :
    ∃ v' w', AppRun 24 24 24 vs (.slice (some ⟨wr.heap.size, 0, none⟩) 1 1) (wr.alloc (.cells #[vi x] 3)) v' w' ∧ Blk w' r 131 #[ptr q, vs, vl, .slice (some ⟨gx, 0, none⟩) B B, vi reserve, vi bad, .bool false] ∧
      O6 w r q gx reserve bad B v' (ss ++ [x]) vl ls (w'.setCell ⟨r, 1, none⟩ v') := by
  obtain ⟨v', w', hr, ho, hg, hb⟩ := append_int h.os x hn h.below.size
  have hA := h.old ((Below.refl _ wr).alloc (Nat.le_refl _) (.cells #[vi x] 3))
  have hm : Blk w' r 131 _ := hA.mgr.grown hg (own_blk_ne hA.os hA.mgr (by decide))
  have hk : some r ≠ v'.ownBlock := own_blk_ne ho hm (by decide)
  have hl : some r ≠ vl.ownBlock := own_blk_ne hA.ol hA.mgr (by decide)
  have hx : gx ≠ r := hA.ox.ne_blk hA.mgr (by decide)
  have hol := World.ownsRow.kept hA.ol hg (own_none (fun b e e2 => hA.d1 b e2 e))
  have hox : Arr w' 3 1 gx B B ((List.replicate B (0 : Int)).map vi) := World.ownsRow.kept hA.ox hg (.inr (fun e => hA.d2 e.symm))
  have hsz : ∀ b, vl.ownBlock = some b → b < wr.heap.size + 1 := fun b e => by
    obtain ⟨_, cur, hb⟩ := own_row hA.ol b e
    have := hb.lt
    rwa [size_alloc] at this
  have hgx : gx < wr.heap.size + 1 := by have := hA.ox.lt; rwa [size_alloc] at this
  refine ⟨v', w', hr, hm, (hA.below.grown hg hA.below.size (fun b e => (own_row hA.os b e).1)).setCell (p := ⟨r, 1, none⟩) h.low _, hm.set_ 1 v', World.ownsRow.kept ho (set_grown w' r 1 v') (.inr (fun e => hk e.symm)),
    World.ownsRow.kept hol (set_grown w' r 1 v') (.inr (fun e => hl e.symm)), hox.far (p := ⟨r, 1, none⟩) hx v', ?_, ?_, h.d3, h.low, h.lox⟩
  · intro b e e2
    rcases hb with hb | hb
    · exact h.d1 b (hb.symm.trans e) e2
    · rw [hb] at e
      injection e with e
      have := hsz b e2
      omega
  · intro e
    rcases hb with hb | hb
    · exact h.d2 (hb.symm.trans e)
    · rw [hb] at e
      injection e with e
      omega
theorem O6.addL (h : O6 w r q gx reserve bad B vs ss vl ls wr) (x : Int) (hn : ls.length + 1 ≤ 1000000) :
    ∃ v' w', AppRun 24 24 24 vl (.slice (some ⟨wr.heap.size, 0, none⟩) 1 1) (wr.alloc (.cells #[vi x] 3)) v' w' ∧ Blk w' r 131 #[ptr q, vs, vl, .slice (some ⟨gx, 0, none⟩) B B, vi reserve, vi bad, .bool false] ∧
      O6 w r q gx reserve bad B vs ss v' (ls ++ [x]) (w'.setCell ⟨r, 2, none⟩ v') := by
  obtain ⟨v', w', hr, ho, hg, hb⟩ := append_int h.ol x hn h.below.size
  have hA := h.old ((Below.refl _ wr).alloc (Nat.le_refl _) (.cells #[vi x] 3))
  have hm : Blk w' r 131 _ := hA.mgr.grown hg (own_blk_ne hA.ol hA.mgr (by decide))
  have hk : some r ≠ v'.ownBlock := own_blk_ne ho hm (by decide)
  have hl : some r ≠ vs.ownBlock := own_blk_ne hA.os hA.mgr (by decide)
  have hx : gx ≠ r := hA.ox.ne_blk hA.mgr (by decide)
  have hos := World.ownsRow.kept hA.os hg (own_none (fun b e e2 => hA.d1 b e e2))
  have hox : Arr w' 3 1 gx B B ((List.replicate B (0 : Int)).map vi) := World.ownsRow.kept hA.ox hg (.inr (fun e => hA.d3 e.symm))
  have hsz : ∀ b, vs.ownBlock = some b → b < wr.heap.size + 1 := fun b e => by
    obtain ⟨_, cur, hb⟩ := own_row hA.os b e
    have := hb.lt
    rwa [size_alloc] at this
  have hgx : gx < wr.heap.size + 1 := by have := hA.ox.lt; rwa [size_alloc] at this
  refine ⟨v', w', hr, hm, (hA.below.grown hg hA.below.size (fun b e => (own_row hA.ol b e).1)).setCell (p := ⟨r, 2, none⟩) h.low _, hm.set_ 2 v', World.ownsRow.kept hos (set_grown w' r 2 v') (.inr (fun e => hl e.symm)),
    World.ownsRow.kept ho (set_grown w' r 2 v') (.inr (fun e => hk e.symm)), hox.far (p := ⟨r, 2, none⟩) hx v', ?_, h.d2, ?_, h.low, h.lox⟩
  · intro b e e2
    rcases hb with hb | hb
    · exact h.d1 b e (hb.symm.trans e2)
    · rw [hb] at e2
      injection e2 with e2
      have := hsz b e
      omega
  · intro e
    rcases hb with hb | hb
    · exact h.d3 (hb.symm.trans e)
    · rw [hb] at e
      injection e with e
      omega
/-- The rows are laid: the manager is there. -/
theorem O6.done {base : Nat} {R : RefM} (h : O6 w r q gx reserve bad B vs ss vl ls wr) (hc : RefAt base w q R) (hok : R.view.ok) (hbase : base ≤ w.heap.size) (hB : R.B = B) (h0 : 0 < B) (hs : ss.length = B) (hl : ls.length = B) :
    ∃ G : R6, R6At base wr r G R ∧ G.q = q ∧ ∀ n, G.foot r n → w.heap.size ≤ n := by
  obtain ⟨gs, cs, rfl, hgs, lgs⟩ := Arr.of_own h.os (by omega)
  obtain ⟨gl, cl, rfl, hgl, lgl⟩ := Arr.of_own h.ol (by omega)
  have hm : Blk wr r 131 #[ptr q, .slice (some ⟨gs, 0, none⟩) ss.length cs, .slice (some ⟨gl, 0, none⟩) ls.length cl, .slice (some ⟨gx, 0, none⟩) (List.replicate B (0 : Int)).length B, vi reserve, vi bad, .bool false] := by
    rw [List.length_replicate]; exact h.mgr
  refine ⟨⟨q, gs, cs, ss, gl, cl, ls, gx, B, List.replicate B 0, reserve, bad, false⟩, ⟨hm, hgs, hgl, ?_, ?_, ?_, ?_, ?_, hc.old h.below, hok, ?_, by rw [hB]; exact hs, by rw [hB]; exact hl, by rw [hB]; simp⟩, rfl, ?_⟩
  · dsimp only
    rw [List.length_replicate]
    exact h.ox
  · exact fun e => h.d1 gs rfl (by rw [show gs = gl from e]; rfl)
  · exact fun e => h.d2 (by rw [← show gs = gx from e]; rfl)
  · exact fun e => h.d3 (by rw [← show gl = gx from e]; rfl)
  · intro n hn
    rcases hn with rfl | rfl | rfl | rfl
    · exact Nat.le_trans hbase h.low
    · exact Nat.le_trans hbase lgs
    · exact Nat.le_trans hbase lgl
    · exact Nat.le_trans hbase h.lox
  · intro n hn e
    have h1 := hc.lt n e
    have h2 := h.low
    have h3 := h.lox
    rcases hn with rfl | rfl | rfl | rfl
    · omega
    · have := lgs; omega
    · have := lgl; omega
    · omega
  · intro n hn
    rcases hn with rfl | rfl | rfl | rfl
    · exact h.low
    · exact lgs
    · exact lgl
    · exact h.lox
end
theorem R6At.setE {base : Nat} {w : World} {r : Nat} {G : R6} {R : RefM} (h : R6At base w r G R) (b : Bool) : R6At base (w.setCell ⟨r, 6, none⟩ (.bool b)) r { G with even := b } R := by
  have hc : Chg (fun n => n = r) w (w.setCell ⟨r, 6, none⟩ (.bool b)) := Chg.set (F := fun n => n = r) w (p := ⟨r, 6, none⟩) rfl _
  obtain ⟨h1, h2, h3⟩ := h.ne
  exact ⟨h.mgr.set_ 6 (.bool b), h.st.chg hc h1, h.lv.chg hc h2, h.nx.chg hc h3, h.ne1, h.ne2, h.ne3, h.low, h.chip.chg hc (fun n e => h.own n (.inl e)) (fun n hn e => h.apart n (.inl e) hn), h.ok, h.apart, h.ls, h.ll, h.ln⟩
/-- A row of blocks of the call's own, read. -/
theorem GOwn.read {w : World} {b0 : Nat} {v : Value} {l : List gcs.Blk} (h : GOwn w b0 v l) (hn : l.length ≤ 1000000) : gcs.Row w v l := by
  by_cases h0 : l = []
  · subst h0
    obtain ⟨a, c, rfl⟩ := h.form
    exact ⟨by simp, a, c, rfl, .inl rfl⟩
  · have hp : 0 < l.length := by cases l with | nil => exact absurd rfl h0 | cons _ _ => simp
    obtain ⟨gl, cl, rfl, ha, _⟩ := Arr.of_own h hp
    refine ⟨by omega, _, _, rfl, .inr ⟨gl, 0, rfl, fun i hi => ?_⟩⟩
    have hc : ∀ j, j < 4 → w.cell? ⟨gl, i * 4 + j, none⟩ = (gcells (l.getD i default))[j]? := fun j hj => by
      rw [ha.cell (by omega), flat_get gcells_len default _ _ _ hi hj]
    rw [Nat.zero_add]
    exact ⟨hc 0 (by decide), hc 1 (by decide), hc 2 (by decide), hc 3 (by decide)⟩
/-- What an opening leaves. -/
def ROpen (base : Nat) (w : World) (q : Nat) (R : RefM) (n : Int) (e : Ending) (w' : World) : Prop :=
  Below w.heap.size w w' ∧ ((n ≠ 0 ∧ e = .returned (.tuple #[.pointer none, vi n])) ∨ (n = 0 ∧ ∃ r G, e = .returned (.tuple #[ptr r, vi 0]) ∧ R6At base w' r G R ∧ G.q = q ∧ ∀ n, G.foot r n → w.heap.size ≤ n))
section
variable {base : Nat} {w : World} {q : Nat} {R : RefM}
set_option maxRecDepth 100000 in
set_option maxHeartbeats 8000000 in
theorem rOpen_any (h : RefAt base w q R) (hok : R.view.ok) (hbase : base ≤ w.heap.size) (fa : Option Addr) (fresh : List Bool) (fc : Nat) (hf : BoRow w fa fresh) (la : Option Addr) (live : List Int) (lc : Nat) (hl : IRow w la live) (reserve bad : Int) :
    Calls Try.prog 92 #[ptr q, .slice fa fresh.length fc, .slice la live.length lc, vi reserve, vi bad] w (ROpen base w q R (openG R.view fresh live reserve bad).1) := by
  have HDEF : Hid ((openG R.view fresh live reserve bad).1 = if R.down then 4
    else if fresh.length ≠ R.B ∨ live.length ≠ R.B ∨ reserve < 0 ∨ bad < 0 then 1
    else if (List.range R.B).all (fun k => !wrongB R.P (fresh.getD k false) (live.getD k 0)) then 0
    else 1) := Lib.hid (by
      have e : openG R.view fresh live reserve bad = (if R.down then (4, none)
        else if fresh.length ≠ R.B ∨ live.length ≠ R.B ∨ reserve < 0 ∨ bad < 0 then (1, none)
        else if (List.range R.B).all (fun k => !wrongB R.P (fresh.getD k false) (live.getD k 0)) then (0, some ⟨firstL R.view fresh live R.B, -1, reserve, bad, evenB (firstL R.view fresh live R.B)⟩)
        else (1, none)) := rfl
      rw [e]
      repeat (first | rfl | split))
  have HC := Lib.hid h
  have HOK := Lib.hid hok
  have HF := Lib.hid hf
  have HL := Lib.hid hl
  have hB : Hid (8 ≤ R.B ∧ R.B ≤ 128 ∧ R.P ≤ 32) := Lib.hid (by
    have : NP.rightB R.B R.P R.S = true := hok.right
    unfold NP.rightB at this
    simp only [Bool.and_eq_true, decide_eq_true_eq] at this
    omega)
  have k0 : w.cell? ⟨q, 0, none⟩ = some (vi R.B) := h.chip.cell 0
  have k10 : w.cell? ⟨q, 10, none⟩ = some (.bool R.down) := h.chip.cell 10
  clear h hok hf hl
  generalize (openG R.view fresh live reserve bad).1 = e0 at *
  by_cases hd : R.down = true
  · rw [hd] at k10
    rw [hd, if_pos rfl] at HDEF
    go_enter Try.func92, Try.ntmps92
    go_wp2_with fail
    go_ret2
    exact ⟨Below.refl _ _, .inl ⟨by rw [HDEF.out]; decide, by rw [HDEF.out]; rfl⟩⟩
  have hd' : R.down = false := by simpa using hd
  rw [hd', if_neg (by decide)] at HDEF
  rw [hd'] at k10
  clear hd hd'
  by_cases hbad : fresh.length ≠ R.B ∨ live.length ≠ R.B ∨ reserve < 0 ∨ bad < 0
  · rw [if_pos hbad] at HDEF
    have hp : ((fresh.length : Int) != (R.B : Int)) = true ∨ (((fresh.length : Int) != (R.B : Int)) = false ∧ ((live.length : Int) != (R.B : Int)) = true) ∨ (((fresh.length : Int) != (R.B : Int)) = false ∧ ((live.length : Int) != (R.B : Int)) = false ∧ reserve < 0) ∨ (((fresh.length : Int) != (R.B : Int)) = false ∧ ((live.length : Int) != (R.B : Int)) = false ∧ ¬ reserve < 0 ∧ bad < 0) := by
      by_cases h1 : fresh.length = R.B
      · have e1 : ((fresh.length : Int) != (R.B : Int)) = false := by rw [h1]; simp
        by_cases h2 : live.length = R.B
        · have e2 : ((live.length : Int) != (R.B : Int)) = false := by rw [h2]; simp
          by_cases h3 : reserve < 0
          · exact .inr (.inr (.inl ⟨e1, e2, h3⟩))
          · exact .inr (.inr (.inr ⟨e1, e2, h3, by omega⟩))
        · exact .inr (.inl ⟨e1, by simp only [bne_iff_ne, ne_eq]; omega⟩)
      · exact .inl (by simp only [bne_iff_ne, ne_eq]; omega)
    have HPP := Lib.hid hp
    clear hbad hp
    go_enter Try.func92, Try.ntmps92
    rcases HPP.out with e1 | ⟨e1, e2⟩ | ⟨e1, e2, e3⟩ | ⟨e1, e2, e3, e4⟩
    all_goals
      go_wp2_with fail
      go_ret2
      exact ⟨Below.refl _ _, .inl ⟨by rw [HDEF.out]; decide, by rw [HDEF.out]; rfl⟩⟩
  rw [if_neg hbad] at HDEF
  have h1 : fresh.length = R.B := by omega
  have h2 : live.length = R.B := by omega
  have h3 : ¬ reserve < 0 := by omega
  have h4 : ¬ bad < 0 := by omega
  have H1 := Lib.hid h1
  have H2 := Lib.hid h2
  have q1 : ((fresh.length : Int) != (R.B : Int)) = false := by rw [h1]; simp
  have q2 : ((live.length : Int) != (R.B : Int)) = false := by rw [h2]; simp
  have hmk := make_ints R.B (by have := hB.out; omega)
  clear hbad h1 h2
  go_enter Try.func92, Try.ntmps92
  go_wp2_with fail
  have ST : Hid (O6 w (w.heap.size + 1) q w.heap.size reserve bad R.B (.slice none 0 0) [] (.slice none 0 0) [] ((w.alloc (.cells (madeCells #[vi 0] R.B) 3)).alloc (.cells #[ptr q, .slice none 0 0, .slice none 0 0, .slice (some ⟨w.heap.size, 0, none⟩) R.B R.B, vi reserve, vi bad, .bool false] 131))) := Lib.hid (by
    have ha := Arr.lit w 3 1 R.B (madeCells #[vi 0] R.B) (by unfold maxLen; have := hB.out; omega) (by rw [← Array.length_toList, toList_madeCells_one]; simp)
    rw [toList_madeCells_one] at ha
    have hb : Below (w.alloc (.cells (madeCells #[vi 0] R.B) 3)).heap.size _ ((w.alloc (.cells (madeCells #[vi 0] R.B) 3)).alloc (.cells #[ptr q, .slice none 0 0, .slice none 0 0, .slice (some ⟨w.heap.size, 0, none⟩) R.B R.B, vi reserve, vi bad, .bool false] 131)) := (Below.refl _ _).alloc (Nat.le_refl _) _
    have hm := Blk.new (w.alloc (.cells (madeCells #[vi 0] R.B) 3)) 131 #[ptr q, .slice none 0 0, .slice none 0 0, .slice (some ⟨w.heap.size, 0, none⟩) R.B R.B, vi reserve, vi bad, .bool false]
    rw [size_alloc] at hm
    refine ⟨((Below.refl _ w).alloc (Nat.le_refl _) _).trans (hb.mono (by rw [size_alloc]; omega)), hm, World.ownsRow_nil _ _ _ _, World.ownsRow_nil _ _ _ _, ?_, ?_, ?_, ?_, by omega, Nat.le_refl _⟩
    · rw [List.map_replicate]; exact ha.old hb
    · intro b e; simp [Value.ownBlock] at e
    · simp [Value.ownBlock]
    · simp [Value.ownBlock])
  generalize (w.alloc (.cells (madeCells #[vi 0] R.B) 3)).alloc (.cells #[ptr q, .slice none 0 0, .slice none 0 0, .slice (some ⟨w.heap.size, 0, none⟩) R.B R.B, vi reserve, vi bad, .bool false] 131) = w0 at *
  have HR : Hid (w.heap.size + 1 = w.heap.size + 1 ∧ w.heap.size = w.heap.size) := Lib.hid ⟨rfl, rfl⟩
  clear HR hmk q1 q2 h3 h4
  generalize w.heap.size + 1 = r at *
  generalize hgx : w.heap.size = gx at ST
  clear hgx
  go_loopw [14] (fun i wr => ∃ (k : Nat) (vs vl : Value) (ss ls : List Int), k ≤ R.B ∧ i = vi k ∧ ss.length = k ∧ ls.length = k ∧ Hid (O6 w r q gx reserve bad R.B vs ss vl ls wr) ∧ Hid ((List.range k).all (fun k => !wrongB R.P (fresh.getD k false) (live.getD k 0)) = true)) (fun i _ => R.B - (intOf i).toNat)
  case atStart => exact ⟨0, _, _, [], [], Nat.zero_le _, rfl, rfl, rfl, ST, Lib.hid rfl⟩
  case round =>
    clear ST k0 k10
    obtain ⟨k, vs, vl, ss, ls, hk, rfl, hss, hls, st, hall⟩ := hrel
    by_cases hlt : k < R.B
    · obtain ⟨lb, lo, rfl, hlc⟩ := (HL.out.below st.out.below).lookup (i := k) (by rw [H2.out]; exact hlt)
      obtain ⟨fb, fo, rfl, hfc⟩ := (HF.out.old st.out.below).lookup (i := k) (by rw [H1.out]; exact hlt)
      have HC1 := Lib.hid (HC.out.old st.out.below)
      have k1 : wr.cell? ⟨q, 1, none⟩ = some (vi R.P) := HC1.out.chip.cell 1
      have k6 : wr.cell? ⟨q, 6, none⟩ = some (.slice (some ⟨R.gd, 0, none⟩) R.bd.length R.cd) := HC1.out.chip.cell 6
      rw [HC1.out.ld] at k6
      have kd := HC1.out.dcell (i := k) (by rw [HC1.out.ld]; exact hlt)
      have q3 : (0 : Int) ≤ (k : Int) := by omega
      have q4 : (k : Int) < (R.B : Int) := by omega
      have q5 : (k : Int) < (fresh.length : Int) := by rw [H1.out]; omega
      have q6 : (k : Int) < (live.length : Int) := by rw [H2.out]; omega
      have HNO : Hid (wrongB R.P (fresh.getD k false) (live.getD k 0) = true → e0 = 1) := Lib.hid (fun hw => by
        rw [HDEF.out, if_neg]
        have := all_range_not (f := fun k => !wrongB R.P (fresh.getD k false) (live.getD k 0)) (n := k) (B := R.B) hlt (by simp only [hw]; rfl)
        rw [this]; decide)
      have HNX : Hid (wrongB R.P (fresh.getD k false) (live.getD k 0) = false → (List.range (k + 1)).all (fun k => !wrongB R.P (fresh.getD k false) (live.getD k 0)) = true) := Lib.hid (fun hw => by
        rw [all_range_succ, hall.out]; simp only [hw]; rfl)
      have HWR : Hid (wrongB R.P (fresh.getD k false) (live.getD k 0) = (decide ((live.getD k 0) < 0) || decide ((R.P : Int) < (live.getD k 0)) || ((fresh.getD k false) && decide (0 < (live.getD k 0))))) := Lib.hid rfl
      generalize live.getD k 0 = x at *
      generalize fresh.getD k false = f at *
      generalize R.bd.getD k false = d at *
      have HSL := Lib.hid hss
      have HLL := Lib.hid hls
      clear hss hls
      by_cases hw : wrongB R.P f x = true
      · have HQ := Lib.hid (HNO.out hw)
        rw [HWR.out] at hw
        have hp : x < 0 ∨ (¬ x < 0 ∧ (R.P : Int) < x) ∨ (¬ x < 0 ∧ ¬ (R.P : Int) < x ∧ f = true ∧ 0 < x) := by
          simp only [Bool.or_eq_true, Bool.and_eq_true, decide_eq_true_eq] at hw
          rcases hw with (hw | hw) | hw
          · exact .inl hw
          · by_cases e : x < 0
            · exact .inl e
            · exact .inr (.inl ⟨e, hw⟩)
          · by_cases e : x < 0
            · exact .inl e
            · by_cases e2 : (R.P : Int) < x
              · exact .inr (.inl ⟨e, e2⟩)
              · exact .inr (.inr ⟨e, e2, hw⟩)
        have HBW := Lib.hid st.out.below
        clear hw HNO HNX HWR hall HC1 st k6 kd
        rcases hp with e | ⟨e, e2⟩ | ⟨e, e2, rfl, e4⟩
        all_goals
          go_upto_region 10 with fail
          go_quiet (fail)
          go_wp2_with fail
          go_ret2
          exact ⟨below_drewN HBW.out _, .inl ⟨by rw [HQ.out]; decide, by rw [HQ.out]; rfl⟩⟩
      · have hw' : wrongB R.P f x = false := by simpa using hw
        have HALL := Lib.hid (HNX.out hw')
        rw [HWR.out] at hw'
        simp only [Bool.or_eq_false_iff, Bool.and_eq_false_iff, decide_eq_false_iff_not] at hw'
        obtain ⟨⟨e1, e2⟩, e3⟩ := hw'
        have E3 := Lib.hid e3
        clear hw HNO HNX HWR hall e3
        go_upto_region 10 with fail
        go_cut [86] from 57 to 123 (fun v wx => v = .bool false ∧ Below wr.heap.size wr wx)
        case first =>
          rcases E3.out with rfl | e3
          · go_quiet (fail)
            go_wp2_with fail
            go_meet
            exact ⟨rfl, below_drewN (Below.refl _ _) _⟩
          · cases f
            · go_quiet (fail)
              go_wp2_with fail
              go_meet
              exact ⟨rfl, below_drewN (Below.refl _ _) _⟩
            · have e4 : decide (0 < x) = false := decide_eq_false e3
              go_quiet (fail)
              go_wp2_with fail
              go_meet
              exact ⟨rfl, below_drewN (Below.refl _ _) _⟩
        case rest =>
        obtain ⟨rfl, hbc⟩ := hcut
        have S1 := Lib.hid (st.out.old hbc)
        have hlc1 := cell_below hlc hbc
        have hfc1 := cell_below hfc hbc
        have k61 := cell_below k6 hbc
        have kd1 := cell_below kd hbc
        clear st hlc hfc k6 kd k1 e1 e2 HC1
        go_upto_region 12 with fail
        go_quiet (fail)
        have S2 := Lib.hid (S1.out.old (below_drewN (Below.refl _ _) nq))
        have hfc2 := cell_below hfc1 (below_drewN (Below.refl _ _) nq)
        have k62 := cell_below k61 (below_drewN (Below.refl _ _) nq)
        have kd2 := cell_below kd1 (below_drewN (Below.refl _ _) nq)
        clear S1 hlc1 hfc1 k61 kd1
        generalize wc.drewN nq = wd at *
        go_upto_if 92 with fail
        generalize decide (0 < x) = b1
        go_cut [15] from 93 to 123 (fun v wx => (∃ s, v = vi s) ∧ wd = wx)
        case first =>
          cases b1
          · go_wp2_with fail
            go_meet
            exact ⟨⟨_, rfl⟩, rfl⟩
          · go_wp2_with fail
            go_meet
            exact ⟨⟨_, rfl⟩, rfl⟩
        case rest =>
        obtain ⟨⟨s1, rfl⟩, rfl⟩ := hcut
        go_upto_if 96 with fail
        go_cut [15] from 97 to 123 (fun v wx => (∃ s, v = vi s) ∧ wd = wx)
        case first =>
          cases f
          · go_wp2_with fail
            go_meet
            exact ⟨⟨_, rfl⟩, rfl⟩
          · go_wp2_with fail
            go_meet
            exact ⟨⟨_, rfl⟩, rfl⟩
        case rest =>
        obtain ⟨⟨s2, rfl⟩, rfl⟩ := hcut
        go_upto_if 103 with fail
        go_cut [15, 16] from 104 to 123 (fun v u wx => (∃ s, v = vi s) ∧ (∃ n, u = vi n) ∧ wd = wx)
        case first =>
          cases d
          · go_wp2_with fail
            go_meet
            exact ⟨⟨_, rfl⟩, ⟨_, rfl⟩, rfl⟩
          · go_wp2_with fail
            go_meet
            exact ⟨⟨_, rfl⟩, ⟨_, rfl⟩, rfl⟩
        case rest =>
        obtain ⟨⟨s3, rfl⟩, ⟨n3, rfl⟩, rfl⟩ := hcut
        clear hfc2 k62 kd2
        obtain ⟨v1, w1, RA1, hm1, S3⟩ := S2.out.addS s3 (by rw [HSL.out]; have := hB.out; omega)
        obtain ⟨a1, c1, ha1⟩ := own_form S2.out.os
        obtain ⟨a2, c2, ha2⟩ := own_form S2.out.ol
        obtain ⟨a3, c3, ha3⟩ := own_form S3.os
        have hb3 : v1 = .slice a3 (ss.length + 1) c3 := by rw [ha3]; simp
        subst ha1 ha2 hb3
        have m1 : wd.cell? ⟨r, 1, none⟩ = some (.slice a1 ss.length c1) := S2.out.mgr.cell 1
        have n1 : w1.cell? ⟨r, 1, none⟩ = some (.slice a1 ss.length c1) := hm1.cell 1
        have z1 := hm1.frozen 1
        have hrl : r < wd.heap.size := S2.out.mgr.lt
        have HS3 := Lib.hid S3
        clear S3 S2 hm1 ha3
        go_upto_region 21 with (at_builtin; refine wpList_append_run rfl (.tmp 108) (.tmp 110) rfl rfl rfl RA1.run ?_)
        generalize w1.setCell ⟨r, 1, none⟩ (.slice a3 (ss.length + 1) c3) = w2 at *
        clear m1 n1 z1 RA1 hrl
        obtain ⟨v3, w3, RA3, hm3, S4⟩ := HS3.out.addL n3 (by rw [HLL.out]; have := hB.out; omega)
        obtain ⟨a4, c4, ha4⟩ := own_form S4.ol
        have hb4 : v3 = .slice a4 (ls.length + 1) c4 := by rw [ha4]; simp
        subst hb4
        have m1 : w2.cell? ⟨r, 2, none⟩ = some (.slice a2 ls.length c2) := HS3.out.mgr.cell 2
        have n1 : w3.cell? ⟨r, 2, none⟩ = some (.slice a2 ls.length c2) := hm3.cell 2
        have z1 := hm3.frozen 2
        have hrl : r < w2.heap.size := HS3.out.mgr.lt
        have HS4 := Lib.hid S4
        clear S4 HS3 hm3 ha4
        have hB1 : R.B ≤ 128 := hB.out.2.1
        go_wp2_with (at_builtin; refine wpList_append_run rfl (.tmp 118) (.tmp 120) rfl rfl rfl RA3.run ?_)
        go_roundw
        case rel => exact ⟨k + 1, _, _, _, _, by omega, by go_num, by rw [List.length_append, HSL.out]; rfl, by rw [List.length_append, HLL.out]; rfl, HS4, HALL⟩
        case measure => simp [intOf]; omega
    · obtain rfl : k = R.B := by omega
      have HZ : Hid (e0 = 0) := Lib.hid (by rw [HDEF.out, if_pos hall.out])
      obtain ⟨G, hG, hq, hfo⟩ := st.out.done HC.out HOK.out hbase rfl (by have := hB.out; omega) hss hls
      have HG := Lib.hid hG
      have HQ := Lib.hid hq
      have HFO := Lib.hid hfo
      have HBL := Lib.hid st.out.below
      have q4 : ¬ (R.B : Int) < (R.B : Int) := by omega
      have HLOW := Lib.hid st.out.low
      clear hG hq hfo st hss hls hall HDEF
      go_wp2_with fail
      refine (rAll_any HG.out).mono ?_
      rintro e w2 ⟨v, l, rfl, hst⟩
      have HST := Lib.hid hst
      have HR := Lib.hid (hst.own.read (by rw [hst.len]; have := HG.out.small; omega))
      have HG2 := Lib.hid (HG.out.old hst.below)
      have HB2 := Lib.hid (HBL.out.trans (hst.below.mono HBL.out.size))
      clear hst
      go_wp2_with fail
      refine (gcs.RGreatest_any v l w2 HR.out).mono ?_
      rintro e w3 ⟨rfl, hb3⟩
      have HR3 := Lib.hid (HR.out.below hb3)
      have HG3 := Lib.hid (HG2.out.old hb3)
      have HB3 := Lib.hid (HB2.out.trans (hb3.mono HB2.out.size))
      clear hb3 HR HG2 HB2 HST
      go_wp2_with fail
      refine (gcs.RLeast_any v l w3 HR3.out).mono ?_
      rintro e w4 ⟨rfl, hb4⟩
      have HG4 := Lib.hid (HG3.out.old hb4)
      have HB4 := Lib.hid (HB3.out.trans (hb4.mono HB3.out.size))
      clear hb4 HR3 HG3 HB3
      have c6 := HG4.out.cell.2.2.2.2.2.2
      have z6 := HG4.out.mgr.frozen 6
      generalize gcs.greatestL l = xg at *
      generalize gcs.leastL l = xl at *
      go_wp2_with fail
      have HM : Hid (R6At base (w4.setCell ⟨r, 6, none⟩ (.bool (decide (4 < wrap64 (xg - xl))))) r { G with even := decide (4 < wrap64 (xg - xl)) } R) := Lib.hid (HG4.out.setE _)
      have HBF := Lib.hid (HB4.out.setCell (p := ⟨r, 6, none⟩) HLOW.out (.bool (decide (4 < wrap64 (xg - xl)))))
      generalize w4.setCell ⟨r, 6, none⟩ (.bool (decide (4 < wrap64 (xg - xl)))) = w5 at *
      go_ret2
      exact ⟨HBF.out, .inr ⟨HZ.out, r, _, rfl, HM.out, HQ.out, HFO.out⟩⟩
end

end Go.Proofs.Ytpggkehfbhffbaa.mgr

