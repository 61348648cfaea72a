/-
  The document's chip in memory: what it holds, which blocks of memory are its own, what a step may change. No conditions of its own.
-/
import Derived.Test.YtpggkehfbhffbaaNM
namespace Go.Proofs.Ytpggkehfbhffbaa
open Go.RowKit

/-- The document's chip. -/
structure RefM where
  B : Nat
  P : Nat
  S : Nat
  gp : Nat
  cp : Nat
  ps : List PgM
  gn : Nat
  cn : Nat
  nx : List Nat
  gb : Nat
  cb : Nat
  br : List Bool
  gd : Nat
  cd : Nat
  bd : List Bool
  gw : Nat
  cw : Nat
  wr : List Int
  fa : Option Addr
  fs : List FltM
  fc : Nat
  since : Int
  down : Bool
  strokes : Int
  reads : Int
abbrev RefM.cs (R : RefM) : Array Value := #[vi R.B, vi R.P, vi R.S, .slice (some ⟨R.gp, 0, none⟩) R.ps.length R.cp, .slice (some ⟨R.gn, 0, none⟩) R.nx.length R.cn, .slice (some ⟨R.gb, 0, none⟩) R.br.length R.cb, .slice (some ⟨R.gd, 0, none⟩) R.bd.length R.cd, .slice (some ⟨R.gw, 0, none⟩) R.wr.length R.cw, .slice R.fa R.fs.length R.fc, vi R.since, .bool R.down, vi R.strokes, vi R.reads]
/-- One block of it. -/
def RefM.blo (R : RefM) (i : Nat) : NP.Blo := ⟨(List.range R.P).map (fun p => (R.ps.getD (i * R.P + p) default).l), R.nx.getD i 0, R.br.getD i false, R.bd.getD i false, R.wr.getD i 0⟩
def RefM.view (R : RefM) : NP.Chp := ⟨R.B, R.P, R.S, (List.range R.B).map R.blo, R.fs.map (·.view), R.since, R.down, R.strokes, R.reads⟩
/-- The blocks of memory that are its own. -/
def RefM.foot (R : RefM) (k n : Nat) : Prop := n = k ∨ n = R.gp ∨ n = R.gn ∨ n = R.gb ∨ n = R.gd ∨ n = R.gw
structure RefAt (base : Nat) (w : World) (k : Nat) (R : RefM) : Prop where
  chip : Blk w k 107 R.cs
  ps : Arr w 32 1 R.gp R.ps.length R.cp (R.ps.map (·.v))
  nx : Arr w 3 1 R.gn R.nx.length R.cn (R.nx.map (fun (n : Nat) => vi n))
  br : Arr w 4 1 R.gb R.br.length R.cb (R.br.map Value.bool)
  bd : Arr w 4 1 R.gd R.bd.length R.cd (R.bd.map Value.bool)
  wr : Arr w 3 1 R.gw R.wr.length R.cw (R.wr.map vi)
  ne1 : R.gb ≠ R.gd
  ne2 : R.gn ≠ R.gw
  rows : ∀ p ∈ R.ps, p.ok base w
  faults : FRow base w R.fa R.fs
  low : ∀ n, R.foot k n → base ≤ n
  lp : R.ps.length = R.B * R.P
  ln : R.nx.length = R.B
  lb : R.br.length = R.B
  ld : R.bd.length = R.B
  lw : R.wr.length = R.B

section
variable {base : Nat} {w w' : World} {k : Nat} {R R' : RefM}
theorem RefAt.mine (h : RefAt base w k R) : ∀ n, R.foot k n → Mine base w n := by
  intro n hn
  refine ⟨h.low n hn, ?_⟩
  rcases hn with rfl | rfl | rfl | rfl | rfl | rfl
  · exact ⟨_, _, by decide, h.chip⟩
  · obtain ⟨cur, hb, _⟩ := h.ps.blk; exact ⟨_, cur, by decide, hb⟩
  · obtain ⟨cur, hb, _⟩ := h.nx.blk; exact ⟨_, cur, by decide, hb⟩
  · obtain ⟨cur, hb, _⟩ := h.br.blk; exact ⟨_, cur, by decide, hb⟩
  · obtain ⟨cur, hb, _⟩ := h.bd.blk; exact ⟨_, cur, by decide, hb⟩
  · obtain ⟨cur, hb, _⟩ := h.wr.blk; exact ⟨_, cur, by decide, hb⟩
theorem RefAt.lt (h : RefAt base w k R) : ∀ n, R.foot k n → n < w.heap.size := by
  intro n hn
  obtain ⟨_, t, cur, _, hb⟩ := h.mine n hn
  exact hb.lt
/-- It stands where none of its own blocks changes. -/
theorem RefAt.chg {F : Nat → Prop} (h : RefAt base w k R) (q : Chg F w w') (hF : ∀ n, F n → Mine base w n) (hn : ∀ n, R.foot k n → ¬ F n) : RefAt base w' k R :=
  ⟨h.chip.chg q (hn _ (.inl rfl)), h.ps.chg q (hn _ (.inr (.inl rfl))), h.nx.chg q (hn _ (.inr (.inr (.inl rfl)))), h.br.chg q (hn _ (.inr (.inr (.inr (.inl rfl))))), h.bd.chg q (hn _ (.inr (.inr (.inr (.inr (.inl rfl)))))), h.wr.chg q (hn _ (.inr (.inr (.inr (.inr (.inr rfl)))))),
    h.ne1, h.ne2, fun p hp => (h.rows p hp).chg q hF, h.faults.chg q hF, h.low, h.lp, h.ln, h.lb, h.ld, h.lw⟩
theorem RefAt.old (h : RefAt base w k R) (q : Below w.heap.size w w') : RefAt base w' k R := h.chg (F := fun _ => False) (Chg.of_below q) (fun _ e => e.elim) (fun _ _ e => e)

/-- From a chip to what it is behind a step. -/
structure RGoes (base : Nat) (w : World) (k : Nat) (R : RefM) (w' : World) (R' : RefM) : Prop where
  at_ : RefAt base w' k R'
  chg : Chg (R.foot k) w w'
  foot : ∀ n, R'.foot k n → R.foot k n ∨ w.heap.size ≤ n
theorem RGoes.refl (h : RefAt base w k R) : RGoes base w k R w R := ⟨h, Chg.refl _ _, fun _ h => .inl h⟩
theorem RGoes.trans {w'' : World} {R' R'' : RefM} (h : RGoes base w k R w' R') (q : RGoes base w' k R' w'' R'') : RGoes base w k R w'' R'' := by
  refine ⟨q.at_, h.chg.trans q.chg fun n hn e => ?_, fun n hn => ?_⟩
  · rcases h.foot n e with h1 | h1
    · exact h1
    · omega
  · rcases q.foot n hn with h1 | h1
    · exact h.foot n h1
    · exact .inr (Nat.le_trans h.chg.size h1)
theorem RGoes.old {w'' : World} (h : RGoes base w k R w' R') (q : Below w'.heap.size w' w'') : RGoes base w k R w'' R' := ⟨h.at_.old q, h.chg.below q, h.foot⟩
theorem RGoes.of_old (h : RefAt base w k R) (q : Below w.heap.size w w') : RGoes base w k R w' R := (RGoes.refl h).old q
theorem RGoes.size (h : RGoes base w k R w' R') : w.heap.size ≤ w'.heap.size := h.chg.size

theorem RefAt.k_ne (h : RefAt base w k R) : R.gp ≠ k ∧ R.gn ≠ k ∧ R.gb ≠ k ∧ R.gd ≠ k ∧ R.gw ≠ k :=
  ⟨h.ps.ne_blk h.chip (by decide), h.nx.ne_blk h.chip (by decide), h.br.ne_blk h.chip (by decide), h.bd.ne_blk h.chip (by decide), h.wr.ne_blk h.chip (by decide)⟩
/-- Fields of the chip are laid, and memory is made: told from the world at first. -/
theorem RefAt.fields (h : RefAt base w k R) (q : Chg (fun n => n = k) w w') (hb : Blk w' k 107 R'.cs)
    (he : R' = { R with since := R'.since, down := R'.down, strokes := R'.strokes, reads := R'.reads }) : RGoes base w k R w' R' := by
  have hF : ∀ n, n = k → Mine base w n := fun n e => h.mine n (.inl e)
  obtain ⟨h1, h2, h3, h4, h5⟩ := h.k_ne
  rw [he] at hb ⊢
  exact ⟨⟨hb, h.ps.chg q h1, h.nx.chg q h2, h.br.chg q h3, h.bd.chg q h4, h.wr.chg q h5, h.ne1, h.ne2, fun p hp => (h.rows p hp).chg q hF, h.faults.chg q hF, h.low, h.lp, h.ln, h.lb, h.ld, h.lw⟩, q.mono (fun n _ e => .inl e), fun n hn => .inl hn⟩
theorem RefAt.field (h : RefAt base w k R) (j : Nat) (v : Value) (hc : R'.cs = R.cs.setIfInBounds j v) (he : R' = { R with since := R'.since, down := R'.down, strokes := R'.strokes, reads := R'.reads }) : RGoes base w k R (w.setCell ⟨k, j, none⟩ v) R' :=
  h.fields (Chg.set (F := fun n => n = k) w (p := ⟨k, j, none⟩) rfl v) (by rw [hc]; exact h.chip.set_ j v) he
theorem RefAt.pcell (h : RefAt base w k R) {i : Nat} (hi : i < R.ps.length) : w.cell? ⟨R.gp, i, none⟩ = some (R.ps.getD i default).v := by
  rw [h.ps.cell (by omega), List.getElem?_map, List.getD_eq_getElem?_getD, List.getElem?_eq_getElem hi]; rfl
theorem RefAt.ncell (h : RefAt base w k R) {i : Nat} (hi : i < R.nx.length) : w.cell? ⟨R.gn, i, none⟩ = some (vi (R.nx.getD i 0 : Nat)) := by
  rw [h.nx.cell (by omega), List.getElem?_map, List.getD_eq_getElem?_getD, List.getElem?_eq_getElem hi]; rfl
theorem RefAt.bcell (h : RefAt base w k R) {i : Nat} (hi : i < R.br.length) : w.cell? ⟨R.gb, i, none⟩ = some (.bool (R.br.getD i false)) := by
  rw [h.br.cell (by omega), List.getElem?_map, List.getD_eq_getElem?_getD, List.getElem?_eq_getElem hi]; rfl
theorem RefAt.dcell (h : RefAt base w k R) {i : Nat} (hi : i < R.bd.length) : w.cell? ⟨R.gd, i, none⟩ = some (.bool (R.bd.getD i false)) := by
  rw [h.bd.cell (by omega), List.getElem?_map, List.getD_eq_getElem?_getD, List.getElem?_eq_getElem hi]; rfl
theorem RefAt.wcell (h : RefAt base w k R) {i : Nat} (hi : i < R.wr.length) : w.cell? ⟨R.gw, i, none⟩ = some (vi (R.wr.getD i 0)) := by
  rw [h.wr.cell (by omega), List.getElem?_map, List.getD_eq_getElem?_getD, List.getElem?_eq_getElem hi]; rfl

/-! A row's element is laid. -/
theorem RefAt.setP (h : RefAt base w k R) (i : Nat) (q : PgM) (hq : q.ok base w) : RGoes base w k R (w.setCell ⟨R.gp, i, none⟩ q.v) { R with ps := R.ps.set i q } := by
  have hc : Chg (R.foot k) w (w.setCell ⟨R.gp, i, none⟩ q.v) := Chg.set w (p := ⟨R.gp, i, none⟩) (.inr (.inl rfl)) _
  obtain ⟨h1, h2, h3, h4, h5⟩ := h.k_ne
  refine ⟨⟨?_, ?_, h.nx.far (p := ⟨R.gp, i, none⟩) (h.nx.ne h.ps (by decide)) _, h.br.far (p := ⟨R.gp, i, none⟩) (h.br.ne h.ps (by decide)) _, h.bd.far (p := ⟨R.gp, i, none⟩) (h.bd.ne h.ps (by decide)) _, h.wr.far (p := ⟨R.gp, i, none⟩) (h.wr.ne h.ps (by decide)) _, h.ne1, h.ne2, ?_, h.faults.chg hc h.mine, h.low, by simpa using h.lp, h.ln, h.lb, h.ld, h.lw⟩, hc, fun n hn => .inl hn⟩
  · have := h.chip.far (p := ⟨R.gp, i, none⟩) h1.symm q.v
    simpa [RefM.cs] using this
  · dsimp only
    rw [List.length_set, List.map_set]
    exact h.ps.set i q.v
  · intro p hp
    rcases List.mem_or_eq_of_mem_set hp with hp | rfl
    · exact (h.rows p hp).chg hc h.mine
    · exact hq.chg hc h.mine
theorem RefAt.setN (h : RefAt base w k R) (i n : Nat) : RGoes base w k R (w.setCell ⟨R.gn, i, none⟩ (vi n)) { R with nx := R.nx.set i n } := by
  have hc : Chg (R.foot k) w (w.setCell ⟨R.gn, i, none⟩ (vi n)) := Chg.set w (p := ⟨R.gn, i, none⟩) (.inr (.inr (.inl rfl))) _
  obtain ⟨h1, h2, h3, h4, h5⟩ := h.k_ne
  refine ⟨⟨?_, h.ps.far (p := ⟨R.gn, i, none⟩) (h.ps.ne h.nx (by decide)) _, ?_, h.br.far (p := ⟨R.gn, i, none⟩) (h.br.ne h.nx (by decide)) _, h.bd.far (p := ⟨R.gn, i, none⟩) (h.bd.ne h.nx (by decide)) _, h.wr.far (p := ⟨R.gn, i, none⟩) h.ne2.symm _, h.ne1, h.ne2, fun p hp => (h.rows p hp).chg hc h.mine, h.faults.chg hc h.mine, h.low, h.lp, by simpa using h.ln, h.lb, h.ld, h.lw⟩, hc, fun n hn => .inl hn⟩
  · have := h.chip.far (p := ⟨R.gn, i, none⟩) h2.symm (vi n)
    simpa [RefM.cs] using this
  · dsimp only
    rw [List.length_set, List.map_set]
    exact h.nx.set i (vi n)
theorem RefAt.setB (h : RefAt base w k R) (i : Nat) (b : Bool) : RGoes base w k R (w.setCell ⟨R.gb, i, none⟩ (.bool b)) { R with br := R.br.set i b } := by
  have hc : Chg (R.foot k) w (w.setCell ⟨R.gb, i, none⟩ (.bool b)) := Chg.set w (p := ⟨R.gb, i, none⟩) (.inr (.inr (.inr (.inl rfl)))) _
  obtain ⟨h1, h2, h3, h4, h5⟩ := h.k_ne
  refine ⟨⟨?_, h.ps.far (p := ⟨R.gb, i, none⟩) (h.ps.ne h.br (by decide)) _, h.nx.far (p := ⟨R.gb, i, none⟩) (h.nx.ne h.br (by decide)) _, ?_, h.bd.far (p := ⟨R.gb, i, none⟩) h.ne1.symm _, h.wr.far (p := ⟨R.gb, i, none⟩) (h.wr.ne h.br (by decide)) _, h.ne1, h.ne2, fun p hp => (h.rows p hp).chg hc h.mine, h.faults.chg hc h.mine, h.low, h.lp, h.ln, by simpa using h.lb, h.ld, h.lw⟩, hc, fun n hn => .inl hn⟩
  · have := h.chip.far (p := ⟨R.gb, i, none⟩) h3.symm (.bool b)
    simpa [RefM.cs] using this
  · dsimp only
    rw [List.length_set, List.map_set]
    exact h.br.set i (.bool b)
theorem RefAt.setD (h : RefAt base w k R) (i : Nat) (b : Bool) : RGoes base w k R (w.setCell ⟨R.gd, i, none⟩ (.bool b)) { R with bd := R.bd.set i b } := by
  have hc : Chg (R.foot k) w (w.setCell ⟨R.gd, i, none⟩ (.bool b)) := Chg.set w (p := ⟨R.gd, i, none⟩) (.inr (.inr (.inr (.inr (.inl rfl))))) _
  obtain ⟨h1, h2, h3, h4, h5⟩ := h.k_ne
  refine ⟨⟨?_, h.ps.far (p := ⟨R.gd, i, none⟩) (h.ps.ne h.bd (by decide)) _, h.nx.far (p := ⟨R.gd, i, none⟩) (h.nx.ne h.bd (by decide)) _, h.br.far (p := ⟨R.gd, i, none⟩) h.ne1 _, ?_, h.wr.far (p := ⟨R.gd, i, none⟩) (h.wr.ne h.bd (by decide)) _, h.ne1, h.ne2, fun p hp => (h.rows p hp).chg hc h.mine, h.faults.chg hc h.mine, h.low, h.lp, h.ln, h.lb, by simpa using h.ld, h.lw⟩, hc, fun n hn => .inl hn⟩
  · have := h.chip.far (p := ⟨R.gd, i, none⟩) h4.symm (.bool b)
    simpa [RefM.cs] using this
  · dsimp only
    rw [List.length_set, List.map_set]
    exact h.bd.set i (.bool b)
theorem RefAt.setW (h : RefAt base w k R) (i : Nat) (n : Int) : RGoes base w k R (w.setCell ⟨R.gw, i, none⟩ (vi n)) { R with wr := R.wr.set i n } := by
  have hc : Chg (R.foot k) w (w.setCell ⟨R.gw, i, none⟩ (vi n)) := Chg.set w (p := ⟨R.gw, i, none⟩) (.inr (.inr (.inr (.inr (.inr rfl))))) _
  obtain ⟨h1, h2, h3, h4, h5⟩ := h.k_ne
  refine ⟨⟨?_, h.ps.far (p := ⟨R.gw, i, none⟩) (h.ps.ne h.wr (by decide)) _, h.nx.far (p := ⟨R.gw, i, none⟩) h.ne2 _, h.br.far (p := ⟨R.gw, i, none⟩) (h.br.ne h.wr (by decide)) _, h.bd.far (p := ⟨R.gw, i, none⟩) (h.bd.ne h.wr (by decide)) _, ?_, h.ne1, h.ne2, fun p hp => (h.rows p hp).chg hc h.mine, h.faults.chg hc h.mine, h.low, h.lp, h.ln, h.lb, h.ld, by simpa using h.lw⟩, hc, fun n hn => .inl hn⟩
  · have := h.chip.far (p := ⟨R.gw, i, none⟩) h5.symm (vi n)
    simpa [RefM.cs] using this
  · dsimp only
    rw [List.length_set, List.map_set]
    exact h.wr.set i (vi n)

/-! What it is, in plain words. -/
theorem range_map_getD {α : Type} (n : Nat) (f : Nat → α) (d : α) {i : Nat} (hi : i < n) : ((List.range n).map f).getD i d = f i := by
  rw [List.getD_eq_getElem?_getD, List.getElem?_map, List.getElem?_range hi]; rfl
theorem range_map_set {α : Type} (n : Nat) (f g : Nat → α) (i : Nat) (y : α) (hg : ∀ j, j < n → g j = if j = i then y else f j) : ((List.range n).map f).set i y = (List.range n).map g := by
  apply List.ext_getElem?
  intro j
  rw [List.getElem?_set]
  by_cases hj : j < n
  · rw [List.getElem?_map, List.getElem?_map, List.getElem?_range hj]
    simp only [List.length_map, List.length_range, Option.map_some]
    rw [hg j hj]
    by_cases e : i = j
    · subst e; simp [hj]
    · rw [if_neg e, if_neg (fun h => e h.symm)]
  · rw [List.getElem?_eq_none (by simp; omega), List.getElem?_eq_none (by simp; omega)]
    simp only [List.length_map, List.length_range]
    split
    · rename_i e; subst e; rw [if_neg hj]
    · rfl
theorem RefM.blk (R : RefM) {i : Nat} (hi : i < R.B) : R.view.blk i = R.blo i := range_map_getD _ _ _ hi
theorem RefM.page (R : RefM) {i p : Nat} (hi : i < R.B) (hp : p < R.P) : (R.view.blk i).page p = (R.ps.getD (i * R.P + p) default).l := by
  rw [R.blk hi]
  exact range_map_getD _ _ _ hp
/-- A block of it turned. -/
theorem RefM.view_set (R R' : RefM) {i : Nat} (y : NP.Blo) (h : ∀ j, j < R.B → R'.blo j = if j = i then y else R.blo j) (hB : R'.B = R.B) : (List.range R'.B).map R'.blo = ((List.range R.B).map R.blo).set i y := by
  rw [hB]
  exact (range_map_set _ _ _ _ _ h).symm
theorem getD_set' {α : Type} (l : List α) (d x : α) (i j : Nat) (hi : i < l.length) : (l.set i x).getD j d = if j = i then x else l.getD j d := by
  rw [NP.getD_set l d x i j hi]
  by_cases e : i = j
  · rw [if_pos e, if_pos e.symm]
  · rw [if_neg e, if_neg (fun h => e h.symm)]
theorem at_inj {P i j p q : Nat} (hp : p < P) (hq : q < P) : i * P + p = j * P + q ↔ i = j ∧ p = q := by
  constructor
  · intro h
    have h1 : (i * P + p) / P = i := by rw [Nat.mul_comm, Nat.mul_add_div (by omega), Nat.div_eq_of_lt hp]; omega
    have h2 : (j * P + q) / P = j := by rw [Nat.mul_comm, Nat.mul_add_div (by omega), Nat.div_eq_of_lt hq]; omega
    rw [h] at h1
    have : i = j := h1.symm.trans h2
    subst this
    exact ⟨rfl, by omega⟩
  · rintro ⟨rfl, rfl⟩; rfl
theorem at_lt {B P i p : Nat} (hi : i < B) (hp : p < P) : i * P + p < B * P := by
  have := Nat.mul_le_mul_right P (show i + 1 ≤ B by omega)
  rw [Nat.add_mul] at this
  omega
end

end Go.Proofs.Ytpggkehfbhffbaa
