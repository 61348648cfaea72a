/-
  Small facts for the laws of chapter 2: rows that were dumped, two chips side by side, one operation as a row. No conditions of their own.
-/
import Derived.Test.YtpggkehfbhffbaaNP
import Derived.Test.YtpggkehfbhffbaaQD
namespace Go.Proofs.Ytpggkehfbhffbaa
open Go.RowKit

section
variable {base base' : Nat} {w w' w'' wr : World} {k q : Nat} {M M' N : ChM}
theorem irow_own {v : Value} {l : List Int} (h : w.ownsRow base 3 1 v l.length (l.map vi)) : ∃ a c, v = .slice a l.length c ∧ IRow w a l := by
  have h' := h
  rcases h'.2 with ⟨rfl, h0⟩ | ⟨g, cap, cur, rfl, _⟩
  · have : l = [] := List.eq_nil_of_length_eq_zero h0
    subst this
    exact ⟨none, 0, rfl, .inl rfl⟩
  · refine ⟨_, cap, rfl, .inr ⟨g, 0, rfl, fun i hi => ?_⟩⟩
    rw [Nat.zero_add, World.ownsRow.cellAt h i (by omega), List.getElem?_map, List.getElem?_eq_getElem hi, List.getD_eq_getElem?_getD, List.getElem?_eq_getElem hi]
    rfl
theorem prow_own {v : Value} {ps : List PgM} (h : w.ownsRow base 32 1 v ps.length (ps.map (·.v))) (hd : ∀ p ∈ ps, BRow w p.a p.l) (hl : ps.length ≤ 140737488355328) : ∃ a c, v = .slice a ps.length c ∧ PRow w a ps := by
  have h' := h
  rcases h'.2 with ⟨rfl, h0⟩ | ⟨g, cap, cur, rfl, _⟩
  · have : ps = [] := List.eq_nil_of_length_eq_zero h0
    subst this
    exact ⟨none, 0, rfl, .inl rfl, hd, hl⟩
  · refine ⟨_, cap, rfl, .inr ⟨g, 0, rfl, fun i hi => ?_⟩, hd, hl⟩
    rw [Nat.zero_add, World.ownsRow.cellAt h i (by omega), List.getElem?_map, List.getElem?_eq_getElem hi, List.getD_eq_getElem?_getD, List.getElem?_eq_getElem hi]
    rfl
theorem PRow.old {a : Option Addr} {ps : List PgM} (h : PRow w a ps) (b : Below w.heap.size w w') : PRow w' a ps := by
  refine ⟨?_, fun p hp => (h.rows p hp).below b, h.len⟩
  rcases h.at_ with h0 | ⟨g, o, rfl, hc⟩
  · exact .inl h0
  · exact .inr ⟨g, o, rfl, fun i hi => cell_below (hc i hi) b⟩
theorem flat_le {α β : Type} (f : α → List β) (n : Nat) : ∀ (l : List α), (∀ x ∈ l, (f x).length ≤ n) → (l.flatMap f).length ≤ l.length * n
  | [], _ => by simp
  | x :: l, h => by
    have h1 := h x (by simp)
    have h2 := flat_le f n l (fun y hy => h y (by simp [hy]))
    rw [List.flatMap_cons, List.length_append, List.length_cons, Nat.add_mul]
    omega
theorem pages_few {c : NP.Chp} (h : c.ok) : (c.bs.flatMap (·.ps)).length ≤ 4096 := by
  have hr := h.right
  simp only [NP.rightB, Bool.and_eq_true, decide_eq_true_eq, Bool.or_eq_true, beq_iff_eq] at hr
  have h1 := flat_le (·.ps) 32 c.bs (fun x hx => by rw [h.pages x hx]; omega)
  rw [h.blocks] at h1
  omega
/-- What was dumped, read. -/
theorem dump_rows {vp vb vw : Value} {ps : List PgM} {bl : List Bool} {wl : List Int} (h : DmpSt base w vp ps vb bl vw wl wr) (hl : ps.length ≤ 140737488355328) :
    (∃ a c, vp = .slice a ps.length c ∧ PRow wr a ps) ∧ (∃ a c, vb = .slice a bl.length c) ∧ (∃ a c, vw = .slice a wl.length c ∧ IRow wr a wl) :=
  ⟨prow_own h.rp (fun p hp => (h.data p hp).1.row) hl, own_form h.rb, irow_own h.rw_⟩
theorem bad_view (M : ChM) (j : Int) (hB : M.bs.length = M.B) : badM M j = NP.badAt M.view j := by
  have hB' : (M.view.B : Int) = M.bs.length := by rw [hB]; rfl
  unfold badM NP.badAt
  rw [hB']
  by_cases h : 0 ≤ j ∧ j < M.bs.length
  · rw [if_pos h, if_pos h, view_blk (by omega)]
    rfl
  · rw [if_neg h, if_neg h]
/-- Two chips side by side. -/
structure Dup (base : Nat) (w : World) (k : Nat) (M : ChM) (q : Nat) (N : ChM) : Prop where
  a : ChipAt base w k M
  b : ChipAt base w q N
  apart : ∀ n, M.foot k n → ¬ N.foot q n
theorem Dup.left (h : Dup base w k M q N) (g : Goes base w k M w' M') : Dup base w' k M' q N :=
  ⟨g.at_, h.b.chg g.chg h.a.mine (fun n hn hm => h.apart n hm hn), fun n hn hm => by
    rcases g.foot n hn with h1 | h1
    · exact h.apart n h1 hm
    · have := h.b.lt n hm; omega⟩
theorem Dup.old (h : Dup base w k M q N) (b : Below w.heap.size w w') : Dup base w' k M q N := ⟨h.a.old b, h.b.old b, h.apart⟩
theorem Dup.made (h : ChipAt base w k M) (m : MadeAt base w q N w') : Dup base w' k M q N := ⟨h.old m.below, m.at_, fun n hn hm => by have h1 := h.lt n hn; have h2 := m.own n hm; omega⟩

theorem SRow.mono {a : Option Addr} {l : List Nat} (h : SRow base w a l) (hb : base ≤ base') : SRow base' w a l := by
  refine ⟨h.row, ?_⟩
  rcases h.safe with h0 | ⟨b, o, rfl, hs⟩
  · exact .inl h0
  · exact .inr ⟨b, o, rfl, hs.imp (fun h => Nat.lt_of_lt_of_le h hb) id⟩
theorem FRow.mono {a : Option Addr} {fs : List FltM} (h : FRow base w a fs) (hb : base ≤ base') : FRow base' w a fs := by
  refine ⟨?_, fun f hf => ⟨(h.data f hf).1.mono hb, (h.data f hf).2⟩, h.len⟩
  rcases h.at_ with h0 | ⟨b, o, rfl, hs, hc⟩
  · exact .inl h0
  · exact .inr ⟨b, o, rfl, hs.imp (fun h => Nat.lt_of_lt_of_le h hb) id, hc⟩
theorem OpM.ok.mono {o : OpM} (h : o.ok base w) (hb : base ≤ base') : o.ok base' w := ⟨h.bytes.mono hb, h.lenb, h.faults.mono hb, h.small⟩
theorem OpM.ok.old {o : OpM} (h : o.ok base w) (b : Below w.heap.size w w') : o.ok base w' := h.chg (F := fun _ => False) (Chg.of_below b) (fun _ e => e.elim)
/-- One operation, laid as a row. -/
theorem oprow_one {o : OpM} (h : o.ok base w) {g : Nat} (hg : Blk w g 43 o.cs) (hb : base ≤ w.heap.size) : OpRow w.heap.size w (some ⟨g, 0, none⟩) [o] := by
  refine ⟨.inr ⟨g, 0, rfl, hg.lt, fun i hi j u hu => ?_⟩, fun x hx => ?_, by simp⟩
  · have : i = 0 := by simpa using hi
    subst this
    have e : w.cell? ⟨g, j, none⟩ = o.cs[j]? := hg.cell j
    simp only [Nat.zero_mul, Nat.zero_add]
    exact e.trans hu
  · rw [List.mem_singleton] at hx
    subst hx
    exact h.mono hb
theorem owt_one (o : OpM) : owt [o] = 1 + o.b.length + fwt o.fs := by simp [owt]
theorem IRow.old {a : Option Addr} {l : List Int} (h : IRow w a l) (b : Below w.heap.size w w') : IRow w' a l := h.below b
end

end Go.Proofs.Ytpggkehfbhffbaa
