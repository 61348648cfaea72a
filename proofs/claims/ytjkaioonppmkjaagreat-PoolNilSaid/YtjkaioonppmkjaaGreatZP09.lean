/-
  Lemmas for a law's proof, put together from several texts: each part says what it shows, and its conditions.
-/
import Derived.Test.YtjkaioonppmkjaaGreatZP08
/-
  A manager of a chip's blocks: what it does in plain words; a manager and its chip in memory, and single steps on them. Conditions: a manager told by MgrAt, of a chip told by ChipAt.
-/
namespace Go.Proofs.YtjkaioonppmkjaaGreat.mgr
open Go.RowKit

/-! In plain words. -/
structure Mg where
  l : List gcs.Blk
  at_ : Int
  reserve : Int
  bad : Int
  even : Bool
abbrev Mg.blk (g : Mg) (i : Nat) : gcs.Blk := g.l.getD i default
def closeB (x : gcs.Blk) : gcs.Blk := { x with s := if x.l = 0 then 3 else 2 }
def Mg.shut (g : Mg) (i : Nat) : Mg := { g with at_ := if (i : Int) = g.at_ then -1 else g.at_ }
def Mg.put (g : Mg) (i : Nat) (x : gcs.Blk) : Mg := { g with l := g.l.set i x }
def Mg.close (g : Mg) (i : Nat) : Mg := (g.put i (closeB (g.blk i))).shut i
def freeB (x : gcs.Blk) : Bool := x.s == 0
def Mg.freeI (g : Mg) : Int := gcs.best freeB gcs.wornB g.l
def Mg.openAt (g : Mg) (i : Nat) : Mg := { g.put i ⟨1, 0, (g.blk i).r, 0⟩ with at_ := i }
def Mg.begun (g : Mg) : Mg := if g.freeI < 0 then g else g.openAt g.freeI.toNat
def Mg.there (g : Mg) (k : Int) : Bool := decide (0 ≤ k) && decide (k < g.l.length) && (g.blk k.toNat).s != 4
def Mg.drop (g : Mg) (k : Int) : Int × Mg :=
  if g.there k = false ∨ (g.blk k.toNat).l = 0 then (1, g)
  else
    let x := g.blk k.toNat
    (0, g.put k.toNat { x with l := x.l - 1, s := if x.s = 2 ∧ x.l - 1 = 0 then 3 else x.s })
/-- Programs a page: so many blocks may be shut ahead. -/
def Mg.progTo (b : List Nat) : Nat → NP.Chp → Mg → (Int × Int × Int) × NP.Chp × Mg
  | 0, c, g => ((0, 0, 40), c, g)
  | n + 1, c, g0 =>
    let g := if g0.at_ = -1 then g0.begun else g0
    if g.at_ = -1 then ((0, 0, 40), c, g)
    else
      let i := g.at_.toNat
      let x := g.blk i
      let r := NP.program c i x.n b
      if r.1 = 10 then Mg.progTo b n r.2 (g.close i)
      else if r.1 = 0 then
        let g1 := g.put i { x with n := x.n + 1, l := x.l + 1 }
        ((i, x.n, 0), r.2, if x.n + 1 = c.P then g1.close i else g1)
      else if r.1 = 11 then ((i, x.n, 11), r.2, g.close i)
      else ((0, 0, r.1), r.2, g)
def Mg.program (b : List Nat) (c : NP.Chp) (g : Mg) : (Int × Int × Int) × NP.Chp × Mg :=
  if c.down then ((0, 0, 4), c, g)
  else if b.length ≠ c.full then ((0, 0, 1), c, g)
  else Mg.progTo b (countL 0 g.l + 2) c g
def Mg.idle (c : NP.Chp) (g : Mg) (k : Int) : Int := if c.down then 4 else if g.there k = false ∨ 0 < (g.blk k.toNat).l then 1 else 0
def Mg.gone (c : NP.Chp) (g : Mg) (k : Nat) : Int × NP.Chp × Mg :=
  let r := NP.mark c k
  if r.1 = 0 then (0, r.2, (g.put k ⟨4, 0, NP.wearAt r.2 k, 0⟩).shut k) else (r.1, r.2, g)
def Mg.erase (c : NP.Chp) (g : Mg) (k : Int) : Int × NP.Chp × Mg :=
  let e := g.idle c k
  if e ≠ 0 then (e, c, g)
  else
    let i := k.toNat
    let x := g.blk i
    if x.s = 1 ∧ 0 < x.n then (1, c, g)
    else
      let r := NP.erase c k
      let g1 := g.put i { x with r := NP.wearAt r.2 k }
      if r.1 = 0 then (0, r.2, (g1.put i ⟨0, 0, NP.wearAt r.2 k, 0⟩).shut i)
      else if r.1 = 11 then (11, (Mg.gone r.2 g1 i).2)
      else (r.1, r.2, g1)
def Mg.retire (c : NP.Chp) (g : Mg) (k : Int) : Int × NP.Chp × Mg :=
  let e := g.idle c k
  if e ≠ 0 then (e, c, g) else Mg.gone c g k.toNat
/-- What holds of every manager. -/
structure Mg.ok (c : NP.Chp) (g : Mg) : Prop where
  len : g.l.length = c.B
  rng : ∀ x ∈ g.l, 0 ≤ x.s ∧ x.s ≤ 4 ∧ 0 ≤ x.l ∧ x.l ≤ c.P ∧ 0 ≤ x.n ∧ x.n ≤ c.P
  none_ : ∀ x ∈ g.l, x.s ≠ 1 → x.s ≠ 2 → x.l = 0
  open_ : ∀ x ∈ g.l, x.s = 1 → x.l ≤ x.n ∧ x.n < c.P
  at1 : g.at_ = -1 ∨ ∃ i : Nat, g.at_ = i ∧ i < g.l.length ∧ (g.blk i).s = 1
  at2 : ∀ i : Nat, i < g.l.length → (g.blk i).s = 1 → g.at_ = i

section
variable {c c' : NP.Chp} {g : Mg}
theorem blk_mem {l : List gcs.Blk} {i : Nat} (h : i < l.length) : l.getD i default ∈ l := NP.getD_mem h
theorem blk_set (l : List gcs.Blk) (i j : Nat) (x : gcs.Blk) (h : i < l.length) : (l.set i x).getD j default = if i = j then x else l.getD j default := NP.getD_set l default x i j h
theorem Mg.ok.chip (h : g.ok c) (h1 : c'.B = c.B) (h2 : c'.P = c.P) : g.ok c' :=
  ⟨by rw [h1]; exact h.len, by rw [h2]; exact h.rng, h.none_, by rw [h2]; exact h.open_, h.at1, h.at2⟩
/-- One block is laid anew, and none, or it, is the open one then. -/
theorem Mg.ok.lay (h : g.ok c) {i : Nat} (hi : i < g.l.length) (x : gcs.Blk) (h1 : 0 ≤ x.s ∧ x.s ≤ 4 ∧ 0 ≤ x.l ∧ x.l ≤ c.P ∧ 0 ≤ x.n ∧ x.n ≤ c.P) (h2 : x.s ≠ 1 → x.s ≠ 2 → x.l = 0) (h3 : x.s = 1 → x.l ≤ x.n ∧ x.n < c.P)
    (a : Int) (h4 : x.s = 1 → (g.at_ = -1 ∨ g.at_ = i) ∧ a = i) (h5 : x.s ≠ 1 → a = if (i : Int) = g.at_ then -1 else g.at_) : ({ g with l := g.l.set i x, at_ := a } : Mg).ok c := by
  have hm : ∀ y ∈ g.l.set i x, y = x ∨ y ∈ g.l := fun y hy => (List.mem_or_eq_of_mem_set hy).symm
  refine ⟨(List.length_set ..).trans h.len, ?_, ?_, ?_, ?_, ?_⟩
  · intro y hy; rcases hm y hy with rfl | hy
    · exact h1
    · exact h.rng y hy
  · intro y hy; rcases hm y hy with rfl | hy
    · exact h2
    · exact h.none_ y hy
  · intro y hy; rcases hm y hy with rfl | hy
    · exact h3
    · exact h.open_ y hy
  · dsimp only [Mg.blk]
    by_cases e : x.s = 1
    · exact .inr ⟨i, (h4 e).2, by rw [List.length_set]; exact hi, by rw [blk_set _ _ _ _ hi, if_pos rfl]; exact e⟩
    · rw [h5 e]
      by_cases e2 : (i : Int) = g.at_
      · rw [if_pos e2]; exact .inl rfl
      · rw [if_neg e2]
        rcases h.at1 with e3 | ⟨j, e3, hj, hs⟩
        · exact .inl e3
        · exact .inr ⟨j, e3, by rw [List.length_set]; exact hj, by rw [blk_set _ _ _ _ hi, if_neg (by intro e4; subst e4; exact e2 e3.symm)]; exact hs⟩
  · dsimp only [Mg.blk]
    intro j hj hs
    rw [List.length_set] at hj
    rw [blk_set _ _ _ _ hi] at hs
    by_cases e : i = j
    · subst e
      rw [if_pos rfl] at hs
      exact (h4 hs).2
    · rw [if_neg e] at hs
      have e3 := h.at2 j hj hs
      by_cases e1 : x.s = 1
      · rcases (h4 e1).1 with e4 | e4 <;> omega
      · rw [h5 e1, if_neg (by omega)]; exact e3
theorem Mg.ok.close (h : g.ok c) {i : Nat} (hi : i < g.l.length) : (g.close i).ok c := by
  obtain ⟨h1, h2, h3, h4, h5, h6⟩ := h.rng (g.blk i) (blk_mem hi)
  refine h.lay hi (closeB (g.blk i)) ?_ ?_ ?_ _ ?_ (fun _ => rfl)
  · unfold closeB; dsimp only; split <;> omega
  · unfold closeB; dsimp only; split <;> omega
  · unfold closeB; dsimp only; split <;> omega
  · unfold closeB; dsimp only; split <;> omega
theorem Mg.ok.openAt (h : g.ok c) {i : Nat} (hi : i < g.l.length) (hP : 0 < c.P) (ha : g.at_ = -1) : (g.openAt i).ok c :=
  h.lay hi ⟨1, 0, (g.blk i).r, 0⟩ (by dsimp only; omega) (by dsimp only; omega) (by dsimp only; omega) _ (fun _ => ⟨.inl ha, rfl⟩) (fun e => (e rfl).elim)
theorem Mg.freeI_lt (g : Mg) : g.freeI < g.l.length := (gcs.best_bd _ _ _).2
theorem Mg.ok.begun (h : g.ok c) (hP : 0 < c.P) (ha : g.at_ = -1) : g.begun.ok c := by
  unfold Mg.begun
  split
  · exact h
  · exact h.openAt (by have := g.freeI_lt; omega) hP ha
theorem best_has (P : gcs.Blk → Bool) (Q : gcs.Blk → gcs.Blk → Bool) (bs : List gcs.Blk) : ∀ k : Nat, 0 ≤ gcs.bestTo P Q bs k → P (bs.getD (gcs.bestTo P Q bs k).toNat default) = true
  | 0, h => by simp [gcs.bestTo] at h
  | k + 1, h => by
    unfold gcs.bestTo at h ⊢
    split
    · rename_i hc
      simp only [Bool.and_eq_true] at hc
      exact hc.1
    · rename_i hc
      rw [if_neg hc] at h
      exact best_has P Q bs k h
theorem Mg.freeI_free (h : 0 ≤ g.freeI) : (g.blk g.freeI.toNat).s = 0 := by
  have := best_has freeB gcs.wornB g.l g.l.length h
  exact of_decide_eq_true this
end

/-! In memory. -/
abbrev MgM.view (G : MgM) : Mg := ⟨G.l, G.at_, G.reserve, G.bad, G.even⟩
/-- A manager of this layout. -/
abbrev MgM.lay (G : MgM) (g : Mg) : MgM := { G with l := g.l, at_ := g.at_, reserve := g.reserve, bad := g.bad, even := g.even }
theorem MgM.lay_view (G : MgM) : G.lay G.view = G := rfl
theorem MgM.view_lay (G : MgM) (g : Mg) : (G.lay g).view = g := rfl
/-- The blocks of memory of a manager and its chip. -/
def foot1 (m : Nat) (G : MgM) (M : ChM) (n : Nat) : Prop := G.foot m n ∨ M.foot G.k n
structure Held (base : Nat) (w : World) (m : Nat) (G : MgM) (M : ChM) : Prop where
  mgr : MgrAt base w m G
  chip : ChipAt base w G.k M
structure HGoes (base : Nat) (w : World) (m : Nat) (G : MgM) (M : ChM) (w' : World) (g' : Mg) (M' : ChM) : Prop where
  at_ : Held base w' m (G.lay g') M'
  chg : Chg (foot1 m G M) w w'
  foot : ∀ n, M'.foot G.k n → M.foot G.k n ∨ w.heap.size ≤ n
section
variable {base : Nat} {w w' w'' : World} {m : Nat} {G : MgM} {M M' M'' : ChM} {g' g'' : Mg}
theorem Held.apart (h : Held base w m G M) : ∀ n, G.foot m n → ¬ M.foot G.k n := by
  have hm := h.mgr.mgr
  obtain ⟨cur, hr, _⟩ := h.mgr.row.blk
  intro n hn hc
  have key : ∀ t cs, Blk w n t cs → t = 170 ∨ t = 173 → False := by
    intro t cs hb ht
    have hT : ∀ t' cs', Blk w n t' cs' → t' = t := by
      intro t' cs' hb'
      unfold Blk at hb hb'
      rw [hb] at hb'
      injection hb' with hb'
      injection hb' with _ hb'
      exact hb'.symm
    rcases hc with rfl | rfl | hc
    · have := hT _ _ h.chip.chip
      rcases ht with rfl | rfl <;> exact absurd this (by decide)
    · obtain ⟨cur', hb', _⟩ := h.chip.blocks.blk
      have := hT _ _ hb'
      rcases ht with rfl | rfl <;> exact absurd this (by decide)
    · obtain ⟨x, hx, rfl⟩ := List.mem_map.1 hc
      obtain ⟨cur', hb', _⟩ := (h.chip.pages x hx).blk
      have := hT _ _ hb'
      rcases ht with rfl | rfl <;> exact absurd this (by decide)
  rcases hn with rfl | rfl
  · exact key _ _ hm (.inl rfl)
  · exact key _ _ hr (.inr rfl)
theorem Held.ne (h : Held base w m G M) : m ≠ G.gl := by
  intro e
  exact h.mgr.row.ne_blk h.mgr.mgr (by decide) e.symm
theorem Held.mine (h : Held base w m G M) : ∀ n, foot1 m G M n → Mine base w n := by
  intro n hn
  rcases hn with hn | hn
  · exact h.mgr.mine n hn
  · exact h.chip.mine n hn
theorem Held.lt (h : Held base w m G M) : ∀ n, foot1 m G M n → n < w.heap.size := by
  intro n hn
  obtain ⟨_, t, cs, _, hb⟩ := h.mine n hn
  exact hb.lt
theorem Held.low (h : Held base w m G M) : ∀ n, foot1 m G M n → base ≤ n := fun n hn => (h.mine n hn).1
theorem Held.old (h : Held base w m G M) (q : Below w.heap.size w w') : Held base w' m G M := ⟨h.mgr.old q, h.chip.old q⟩
theorem Held.chg {F : Nat → Prop} (h : Held base w m G M) (q : Chg F w w') (hF : ∀ n, F n → Mine base w n) (hn : ∀ n, foot1 m G M n → ¬ F n) : Held base w' m G M :=
  ⟨h.mgr.chg q (fun n e => hn n (.inl e)), h.chip.chg q hF (fun n e => hn n (.inr e))⟩
theorem HGoes.refl (h : Held base w m G M) : HGoes base w m G M w G.view M := ⟨h, Chg.refl _ _, fun _ e => .inl e⟩
theorem HGoes.trans (h : HGoes base w m G M w' g' M') (q : HGoes base w' m (G.lay g') M' w'' g'' M'') : HGoes base w m G M w'' g'' M'' := by
  refine ⟨q.at_, h.chg.trans q.chg fun n hn e => ?_, fun n hn => ?_⟩
  · rcases e with e | e
    · exact .inl e
    · rcases h.foot n e with h1 | h1
      · exact .inr h1
      · omega
  · rcases q.foot n hn with h1 | h1
    · exact h.foot n h1
    · exact .inr (Nat.le_trans h.chg.size h1)
theorem HGoes.old (h : HGoes base w m G M w' g' M') (q : Below w'.heap.size w' w'') : HGoes base w m G M w'' g' M' := ⟨h.at_.old q, h.chg.below q, h.foot⟩
theorem HGoes.of_old (h : Held base w m G M) (q : Below w.heap.size w w') : HGoes base w m G M w' G.view M := (HGoes.refl h).old q
/-- The chip goes. -/
theorem Held.chipGoes (h : Held base w m G M) (q : Goes base w G.k M w' M') : HGoes base w m G M w' G.view M' := by
  refine ⟨⟨?_, q.at_⟩, q.chg.mono (fun n _ e => .inr e), q.foot⟩
  exact h.mgr.chg q.chg (fun n e => h.apart n e)
/-- A field of the manager is laid. -/
theorem Held.field (h : Held base w m G M) (j : Nat) (v : Value) (g' : Mg) (hc : (G.lay g').cs = G.cs.setIfInBounds j v) (hl : g'.l = G.l) : HGoes base w m G M (w.setCell ⟨m, j, none⟩ v) g' M := by
  have hq : Chg (fun n => n = m) w (w.setCell ⟨m, j, none⟩ v) := Chg.set (F := fun n => n = m) w (p := ⟨m, j, none⟩) rfl v
  refine ⟨⟨⟨?_, ?_, ?_⟩, ?_⟩, hq.mono (fun n _ e => .inl (.inl e)), fun n e => .inl e⟩
  · rw [hc]; exact h.mgr.mgr.set_ j v
  · dsimp only [MgM.lay]; rw [hl]; exact h.mgr.row.chg hq (fun e => h.ne e.symm)
  · exact fun n hn => h.mgr.low n hn
  · exact h.chip.chg hq (fun n e => h.mgr.mine n (.inl e)) (fun n hn e => h.apart n (.inl e) hn)
/-- A field of a block is laid. -/
theorem Held.cell (h : Held base w m G M) {i j : Nat} (hi : i < G.l.length) (hj : j < 4) (v : Value) (y : gcs.Blk) (hy : gcells y = (gcells (G.l.getD i default)).set j v) : HGoes base w m G M (w.setCell ⟨G.gl, i * 4 + j, none⟩ v) (G.view.put i y) M := by
  have hq : Chg (fun n => n = G.gl) w (w.setCell ⟨G.gl, i * 4 + j, none⟩ v) := Chg.set (F := fun n => n = G.gl) w (p := ⟨G.gl, i * 4 + j, none⟩) rfl v
  refine ⟨⟨⟨?_, ?_, ?_⟩, ?_⟩, hq.mono (fun n _ e => .inl (.inr e)), fun n e => .inl e⟩
  · have := h.mgr.mgr.chg hq (fun e => h.ne e)
    simpa [MgM.cs, Mg.put] using this
  · dsimp only [MgM.lay, Mg.put, MgM.view]
    rw [List.length_set, ← flat_set gcells_len default _ _ _ y v hi hj hy]
    exact h.mgr.row.set _ v
  · exact fun n hn => h.mgr.low n hn
  · exact h.chip.chg hq (fun n e => h.mgr.mine n (.inr e)) (fun n hn e => h.apart n (.inr e) hn)
/-- A block is laid. -/
theorem Held.block (h : Held base w m G M) {i : Nat} (hi : i < G.l.length) (y : gcs.Blk) :
    HGoes base w m G M ((((w.setCell ⟨G.gl, i * 4, none⟩ (vi y.s)).setCell ⟨G.gl, i * 4 + 1, none⟩ (vi y.l)).setCell ⟨G.gl, i * 4 + 2, none⟩ (vi y.r)).setCell ⟨G.gl, i * 4 + 3, none⟩ (vi y.n)) (G.view.put i y) M := by
  have e : ∀ z, (G.l.set i z).getD i default = z := fun z => by rw [blk_set _ _ _ _ hi, if_pos rfl]
  have h1 := h.cell hi (j := 0) (by decide) (vi y.s) { G.l.getD i default with s := y.s } rfl
  have h2 := h1.trans (h1.at_.cell (i := i) (j := 1) (by simpa [Mg.put] using hi) (by decide) (vi y.l) { G.l.getD i default with s := y.s, l := y.l } (by dsimp only [MgM.lay, Mg.put, MgM.view]; rw [e]; rfl))
  have h3 := h2.trans (h2.at_.cell (i := i) (j := 2) (by simpa [Mg.put] using hi) (by decide) (vi y.r) { G.l.getD i default with s := y.s, l := y.l, r := y.r } (by dsimp only [MgM.lay, Mg.put, MgM.view]; rw [List.set_set, e]; rfl))
  have h4 := h3.trans (h3.at_.cell (i := i) (j := 3) (by simpa [Mg.put] using hi) (by decide) (vi y.n) y (by dsimp only [MgM.lay, Mg.put, MgM.view]; rw [List.set_set, List.set_set, e]; rfl))
  simpa only [MgM.lay, Mg.put, MgM.view, List.set_set, Nat.add_zero] using h4
theorem Held.cells (h : Held base w m G M) : w.cell? ⟨m, 0, none⟩ = some (ptr G.k) ∧ w.cell? ⟨m, 1, none⟩ = some (.slice (some ⟨G.gl, 0, none⟩) G.l.length G.cl) ∧ w.cell? ⟨m, 2, none⟩ = some (vi G.at_) ∧ w.cell? ⟨m, 3, none⟩ = some (vi G.reserve) ∧ w.cell? ⟨m, 4, none⟩ = some (vi G.bad) ∧ w.cell? ⟨m, 5, none⟩ = some (.bool G.even) :=
  ⟨h.mgr.mgr.cell 0, h.mgr.mgr.cell 1, h.mgr.mgr.cell 2, h.mgr.mgr.cell 3, h.mgr.mgr.cell 4, h.mgr.mgr.cell 5⟩
theorem Held.bcells (h : Held base w m G M) {i : Nat} (hi : i < G.l.length) : w.cell? ⟨G.gl, i * 4, none⟩ = some (vi (G.l.getD i default).s) ∧ w.cell? ⟨G.gl, i * 4 + 1, none⟩ = some (vi (G.l.getD i default).l) ∧ w.cell? ⟨G.gl, i * 4 + 2, none⟩ = some (vi (G.l.getD i default).r) ∧ w.cell? ⟨G.gl, i * 4 + 3, none⟩ = some (vi (G.l.getD i default).n) :=
  ⟨h.mgr.cell hi (j := 0) (by decide), h.mgr.cell hi (j := 1) (by decide), h.mgr.cell hi (j := 2) (by decide), h.mgr.cell hi (j := 3) (by decide)⟩
end

end Go.Proofs.YtjkaioonppmkjaaGreat.mgr

