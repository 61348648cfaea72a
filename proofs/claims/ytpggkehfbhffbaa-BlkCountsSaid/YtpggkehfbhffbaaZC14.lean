/-
  Lemmas for a law's proof, put together from several texts: each part says what it shows, and its conditions.
-/
import Derived.Test.YtpggkehfbhffbaaZC05
import Derived.Test.YtpggkehfbhffbaaZC13
import Derived.Deep.QuietTactic
import Derived.Deep.DeepCutAuto
import Derived.BigQuiet
/-
  The document's manager in memory: its cells and rows, and single steps on them. Conditions: a manager told by R6At.
-/
namespace Go.Proofs.Ytpggkehfbhffbaa.mgr
open Go.RowKit

/-- The document's manager. -/
structure R6 where
  q : Nat
  gs : Nat
  cs : Nat
  st : List Int
  gl : Nat
  cl : Nat
  lv : List Int
  gx : Nat
  cx : Nat
  nx : List Int
  reserve : Int
  bad : Int
  even : Bool
abbrev R6.cells (G : R6) : Array Value := #[ptr G.q, .slice (some ⟨G.gs, 0, none⟩) G.st.length G.cs, .slice (some ⟨G.gl, 0, none⟩) G.lv.length G.cl, .slice (some ⟨G.gx, 0, none⟩) G.nx.length G.cx, vi G.reserve, vi G.bad, .bool G.even]
def R6.foot (G : R6) (r n : Nat) : Prop := n = r ∨ n = G.gs ∨ n = G.gl ∨ n = G.gx
/-- Its own blocks, and its chip's. -/
def foot6 (r : Nat) (G : R6) (R : RefM) (n : Nat) : Prop := G.foot r n ∨ R.foot G.q n
structure R6At (base : Nat) (w : World) (r : Nat) (G : R6) (R : RefM) : Prop where
  mgr : Blk w r 131 G.cells
  st : Arr w 3 1 G.gs G.st.length G.cs (G.st.map vi)
  lv : Arr w 3 1 G.gl G.lv.length G.cl (G.lv.map vi)
  nx : Arr w 3 1 G.gx G.nx.length G.cx (G.nx.map vi)
  ne1 : G.gs ≠ G.gl
  ne2 : G.gs ≠ G.gx
  ne3 : G.gl ≠ G.gx
  low : ∀ n, G.foot r n → base ≤ n
  chip : RefAt base w G.q R
  ok : R.view.ok
  apart : ∀ n, G.foot r n → ¬ R.foot G.q n
  ls : G.st.length = R.B
  ll : G.lv.length = R.B
  ln : G.nx.length = R.B
structure R6Goes (base : Nat) (w : World) (r : Nat) (G : R6) (R : RefM) (w' : World) (G' : R6) (R' : RefM) : Prop where
  at_ : R6At base w' r G' R'
  q : G'.q = G.q
  B : R'.B = R.B
  chg : Chg (foot6 r G R) w w'
  foot : ∀ n, foot6 r G' R' n → foot6 r G R n ∨ w.heap.size ≤ n
section
variable {base : Nat} {w w' w'' : World} {r : Nat} {G G' G'' : R6} {R R' R'' : RefM}
theorem R6At.own (h : R6At base w r G R) : ∀ n, G.foot r n → Mine base w n := by
  intro n hn
  refine ⟨h.low n hn, ?_⟩
  rcases hn with rfl | rfl | rfl | rfl
  · exact ⟨_, _, by decide, h.mgr⟩
  · obtain ⟨cur, hb, _⟩ := h.st.blk; exact ⟨_, cur, by decide, hb⟩
  · obtain ⟨cur, hb, _⟩ := h.lv.blk; exact ⟨_, cur, by decide, hb⟩
  · obtain ⟨cur, hb, _⟩ := h.nx.blk; exact ⟨_, cur, by decide, hb⟩
theorem R6At.mine (h : R6At base w r G R) : ∀ n, foot6 r G R n → Mine base w n := fun n hn => hn.elim (h.own n) (h.chip.mine n)
theorem R6At.lt (h : R6At base w r G R) : ∀ n, foot6 r G R n → n < w.heap.size := by
  intro n hn
  obtain ⟨_, t, cur, _, hb⟩ := h.mine n hn
  exact hb.lt
theorem R6At.lows (h : R6At base w r G R) : ∀ n, foot6 r G R n → base ≤ n := fun n hn => (h.mine n hn).1
theorem R6At.chg {F : Nat → Prop} (h : R6At base w r G R) (q : Chg F w w') (hF : ∀ n, F n → Mine base w n) (hn : ∀ n, foot6 r G R n → ¬ F n) : R6At base w' r G R :=
  ⟨h.mgr.chg q (hn _ (.inl (.inl rfl))), h.st.chg q (hn _ (.inl (.inr (.inl rfl)))), h.lv.chg q (hn _ (.inl (.inr (.inr (.inl rfl))))), h.nx.chg q (hn _ (.inl (.inr (.inr (.inr rfl))))),
    h.ne1, h.ne2, h.ne3, h.low, h.chip.chg q hF (fun n e => hn n (.inr e)), h.ok, h.apart, h.ls, h.ll, h.ln⟩
theorem R6At.old (h : R6At base w r G R) (q : Below w.heap.size w w') : R6At base w' r G R := h.chg (F := fun _ => False) (Chg.of_below q) (fun _ e => e.elim) (fun _ _ e => e)
theorem R6Goes.refl (h : R6At base w r G R) : R6Goes base w r G R w G R := ⟨h, rfl, rfl, Chg.refl _ _, fun _ h => .inl h⟩
theorem R6Goes.trans (h : R6Goes base w r G R w' G' R') (q : R6Goes base w' r G' R' w'' G'' R'') : R6Goes base w r G R w'' G'' R'' := by
  refine ⟨q.at_, q.q.trans h.q, q.B.trans h.B, h.chg.trans q.chg fun n hn e => ?_, fun n hn => ?_⟩
  · rcases h.foot n e with h1 | h1
    · exact h1
    · omega
  · rcases q.foot n hn with h1 | h1
    · exact h.foot n h1
    · exact .inr (Nat.le_trans h.chg.size h1)
theorem R6Goes.old (h : R6Goes base w r G R w' G' R') (q : Below w'.heap.size w' w'') : R6Goes base w r G R w'' G' R' := ⟨h.at_.old q, h.q, h.B, h.chg.below q, h.foot⟩
theorem R6Goes.of_old (h : R6At base w r G R) (q : Below w.heap.size w w') : R6Goes base w r G R w' G R := (R6Goes.refl h).old q
/-- The chip goes. -/
theorem R6At.chipGoes (h : R6At base w r G R) (g : RGoes base w G.q R w' R') (hok : R'.view.ok) (hB : R'.B = R.B) : R6Goes base w r G R w' G R' := by
  have hn : ∀ n, G.foot r n → ¬ R.foot G.q n := h.apart
  refine ⟨⟨h.mgr.chg g.chg (hn _ (.inl rfl)), h.st.chg g.chg (hn _ (.inr (.inl rfl))), h.lv.chg g.chg (hn _ (.inr (.inr (.inl rfl)))), h.nx.chg g.chg (hn _ (.inr (.inr (.inr rfl)))), h.ne1, h.ne2, h.ne3, h.low, g.at_, hok, ?_, by rw [hB]; exact h.ls, by rw [hB]; exact h.ll, by rw [hB]; exact h.ln⟩, rfl, hB, g.chg.mono (fun n _ e => .inr e), ?_⟩
  · intro n hn hr
    rcases g.foot n hr with h1 | h1
    · exact h.apart n hn h1
    · obtain ⟨_, t, cur, _, hb⟩ := h.own n hn
      have := hb.lt
      omega
  · intro n hn
    rcases hn with hn | hn
    · exact .inl (.inl hn)
    · rcases g.foot n hn with h1 | h1
      · exact .inl (.inr h1)
      · exact .inr h1
theorem R6At.ne (h : R6At base w r G R) : G.gs ≠ r ∧ G.gl ≠ r ∧ G.gx ≠ r := ⟨h.st.ne_blk h.mgr (by decide), h.lv.ne_blk h.mgr (by decide), h.nx.ne_blk h.mgr (by decide)⟩
theorem R6At.setS (h : R6At base w r G R) (i : Nat) (n : Int) : R6Goes base w r G R (w.setCell ⟨G.gs, i, none⟩ (vi n)) { G with st := G.st.set i n } R := by
  have hc : Chg (fun n => n = G.gs) w (w.setCell ⟨G.gs, i, none⟩ (vi n)) := Chg.set (F := fun n => n = G.gs) w (p := ⟨G.gs, i, none⟩) rfl _
  obtain ⟨h1, h2, h3⟩ := h.ne
  refine ⟨⟨?_, ?_, h.lv.chg hc h.ne1.symm, h.nx.chg hc h.ne2.symm, h.ne1, h.ne2, h.ne3, h.low, ?_, h.ok, h.apart, by simpa using h.ls, h.ll, h.ln⟩, rfl, rfl, hc.mono (fun n _ e => .inl (.inr (.inl e))), fun n e => .inl e⟩
  · have := h.mgr.chg hc h1.symm
    simpa [R6.cells] using this
  · dsimp only
    rw [List.length_set, List.map_set]
    exact h.st.set i (vi n)
  · exact h.chip.chg hc (fun n e => h.own n (.inr (.inl e))) (fun n hn e => h.apart n (.inr (.inl e)) hn)
theorem R6At.setL (h : R6At base w r G R) (i : Nat) (n : Int) : R6Goes base w r G R (w.setCell ⟨G.gl, i, none⟩ (vi n)) { G with lv := G.lv.set i n } R := by
  have hc : Chg (fun n => n = G.gl) w (w.setCell ⟨G.gl, i, none⟩ (vi n)) := Chg.set (F := fun n => n = G.gl) w (p := ⟨G.gl, i, none⟩) rfl _
  obtain ⟨h1, h2, h3⟩ := h.ne
  refine ⟨⟨?_, h.st.chg hc h.ne1, ?_, h.nx.chg hc h.ne3.symm, h.ne1, h.ne2, h.ne3, h.low, ?_, h.ok, h.apart, h.ls, by simpa using h.ll, h.ln⟩, rfl, rfl, hc.mono (fun n _ e => .inl (.inr (.inr (.inl e)))), fun n e => .inl e⟩
  · have := h.mgr.chg hc h2.symm
    simpa [R6.cells] using this
  · dsimp only
    rw [List.length_set, List.map_set]
    exact h.lv.set i (vi n)
  · exact h.chip.chg hc (fun n e => h.own n (.inr (.inr (.inl e)))) (fun n hn e => h.apart n (.inr (.inr (.inl e))) hn)
theorem R6At.setN (h : R6At base w r G R) (i : Nat) (n : Int) : R6Goes base w r G R (w.setCell ⟨G.gx, i, none⟩ (vi n)) { G with nx := G.nx.set i n } R := by
  have hc : Chg (fun n => n = G.gx) w (w.setCell ⟨G.gx, i, none⟩ (vi n)) := Chg.set (F := fun n => n = G.gx) w (p := ⟨G.gx, i, none⟩) rfl _
  obtain ⟨h1, h2, h3⟩ := h.ne
  refine ⟨⟨?_, h.st.chg hc h.ne2, h.lv.chg hc h.ne3, ?_, h.ne1, h.ne2, h.ne3, h.low, ?_, h.ok, h.apart, h.ls, h.ll, by simpa using h.ln⟩, rfl, rfl, hc.mono (fun n _ e => .inl (.inr (.inr (.inr e)))), fun n e => .inl e⟩
  · have := h.mgr.chg hc h3.symm
    simpa [R6.cells] using this
  · dsimp only
    rw [List.length_set, List.map_set]
    exact h.nx.set i (vi n)
  · exact h.chip.chg hc (fun n e => h.own n (.inr (.inr (.inr e)))) (fun n hn e => h.apart n (.inr (.inr (.inr e))) hn)
theorem R6At.cell (h : R6At base w r G R) : w.cell? ⟨r, 0, none⟩ = some (ptr G.q) ∧ w.cell? ⟨r, 1, none⟩ = some (.slice (some ⟨G.gs, 0, none⟩) G.st.length G.cs) ∧ w.cell? ⟨r, 2, none⟩ = some (.slice (some ⟨G.gl, 0, none⟩) G.lv.length G.cl) ∧ w.cell? ⟨r, 3, none⟩ = some (.slice (some ⟨G.gx, 0, none⟩) G.nx.length G.cx) ∧ w.cell? ⟨r, 4, none⟩ = some (vi G.reserve) ∧ w.cell? ⟨r, 5, none⟩ = some (vi G.bad) ∧ w.cell? ⟨r, 6, none⟩ = some (.bool G.even) :=
  ⟨h.mgr.cell 0, h.mgr.cell 1, h.mgr.cell 2, h.mgr.cell 3, h.mgr.cell 4, h.mgr.cell 5, h.mgr.cell 6⟩
theorem arr_int {g n c : Nat} {l : List Int} (h : Arr w 3 1 g n c (l.map vi)) (hn : n = l.length) {i : Nat} (hi : i < l.length) : w.cell? ⟨g, i, none⟩ = some (vi (l.getD i 0)) := by
  rw [h.cell (by omega), List.getElem?_map, List.getD_eq_getElem?_getD, List.getElem?_eq_getElem hi]; rfl
theorem R6At.scell (h : R6At base w r G R) {i : Nat} (hi : i < G.st.length) : w.cell? ⟨G.gs, i, none⟩ = some (vi (G.st.getD i 0)) := arr_int h.st rfl hi
theorem R6At.lcell (h : R6At base w r G R) {i : Nat} (hi : i < G.st.length) : w.cell? ⟨G.gl, i, none⟩ = some (vi (G.lv.getD i 0)) := arr_int h.lv rfl (by rw [h.ll, ← h.ls]; exact hi)
theorem R6At.xcell (h : R6At base w r G R) {i : Nat} (hi : i < G.st.length) : w.cell? ⟨G.gx, i, none⟩ = some (vi (G.nx.getD i 0)) := arr_int h.nx rfl (by rw [h.ln, ← h.ls]; exact hi)
theorem R6At.wcell (h : R6At base w r G R) {i : Nat} (hi : i < G.st.length) : w.cell? ⟨R.gw, i, none⟩ = some (vi (R.wr.getD i 0)) := h.chip.wcell (by rw [h.chip.lw, ← h.ls]; exact hi)
/-- All rows are of one length; the cells that tell of them. -/
theorem R6At.rows (h : R6At base w r G R) : w.cell? ⟨r, 2, none⟩ = some (.slice (some ⟨G.gl, 0, none⟩) G.st.length G.cl) ∧ w.cell? ⟨r, 3, none⟩ = some (.slice (some ⟨G.gx, 0, none⟩) G.st.length G.cx) ∧ w.cell? ⟨G.q, 7, none⟩ = some (.slice (some ⟨R.gw, 0, none⟩) G.st.length R.cw) ∧ w.cell? ⟨G.q, 6, none⟩ = some (.slice (some ⟨R.gd, 0, none⟩) G.st.length R.cd) := by
  obtain ⟨_, _, c2, c3, _⟩ := h.cell
  have c7 : w.cell? ⟨G.q, 7, none⟩ = some (.slice (some ⟨R.gw, 0, none⟩) R.wr.length R.cw) := h.chip.chip.cell 7
  have c6 : w.cell? ⟨G.q, 6, none⟩ = some (.slice (some ⟨R.gd, 0, none⟩) R.bd.length R.cd) := h.chip.chip.cell 6
  rw [h.ll, ← h.ls] at c2
  rw [h.ln, ← h.ls] at c3
  rw [h.chip.lw, ← h.ls] at c7
  rw [h.chip.ld, ← h.ls] at c6
  exact ⟨c2, c3, c7, c6⟩
end

end Go.Proofs.Ytpggkehfbhffbaa.mgr

/-
  The document's manager: the open block, a block closed, opened, there, gone. Conditions: a manager told by R6At.
-/
namespace Go.Proofs.Ytpggkehfbhffbaa.mgr
open Go.RowKit

section
variable {base : Nat} {w w' : World} {r : Nat} {G : R6} {R : RefM}
/-- The number of a block, or none. -/
def one6 (n : Int) (B : Nat) : Prop := n = -1 ∨ ∃ i : Nat, n = i ∧ i < B
theorem ok_B {c : NP.Chp} (h : c.ok) : c.B ≤ 128 := by
  have : NP.rightB c.B c.P c.S = true := h.right
  unfold NP.rightB at this
  simp only [Bool.and_eq_true, decide_eq_true_eq] at this
  omega
theorem R6At.small (h : R6At base w r G R) : G.st.length ≤ 128 := by
  rw [h.ls]
  exact ok_B h.ok
set_option maxRecDepth 100000 in
set_option maxHeartbeats 1000000 in
theorem rOpened_any (h : R6At base w r G R) : Calls Try.prog 93 #[ptr r] w fun e w' => ∃ n, e = .returned (vi n) ∧ one6 n G.st.length ∧ w' = w := by
  obtain ⟨c0, c1, -, -, -, -, -⟩ := h.cell
  have hlen := h.small
  have H := Lib.hid h
  clear c0 h
  go_enter Try.func93, Try.ntmps93
  go_wp2_with fail
  go_loopw [3] (fun i wr => ∃ k : Nat, k ≤ G.st.length ∧ i = vi k ∧ wr = w) (fun i _ => G.st.length - (intOf i).toNat)
  case atStart => exact ⟨0, Nat.zero_le _, rfl, rfl⟩
  case round =>
    obtain ⟨k, hk, rfl, rfl⟩ := hrel
    by_cases hlt : k < G.st.length
    · have d := H.out.scell hlt
      have h0 : (0 : Int) ≤ (k : Int) := by omega
      have h1 : (k : Int) < (G.st.length : Int) := by omega
      generalize G.st.getD k 0 = s at *
      cases hs : (s == 1)
      · go_wp2_with fail
        go_roundw
        case rel => exact ⟨k + 1, by omega, by go_num, by first | trivial | rfl⟩
        case measure => simp [intOf]; omega
      · go_wp2_with fail
        go_ret
        exact ⟨k, rfl, .inr ⟨k, rfl, hlt⟩, rfl⟩
    · have h1 : ¬ (k : Int) < (G.st.length : Int) := by omega
      go_wp2_with fail
      go_ret
      exact ⟨-1, rfl, .inl rfl, rfl⟩
set_option maxRecDepth 100000 in
set_option maxHeartbeats 1000000 in
theorem rclose_any (h : R6At base w r G R) (i : Nat) (hi : i < G.st.length) : Calls Try.prog 95 #[ptr r, vi i] w fun e w' => e = .returned (.tuple #[]) ∧ ∃ G' R', R6Goes base w r G R w' G' R' := by
  obtain ⟨c0, c1, -, -, -, -, -⟩ := h.cell
  obtain ⟨c2, c3, c7, c8⟩ := h.rows
  have d := h.scell hi
  have dl := h.lcell hi
  have z := h.st.frozen i
  obtain ⟨e1, e2, e3⟩ := h.ne
  have n1 : ¬ G.gs = r := e1
  have n2 : ¬ G.gs = G.gl := h.ne1
  have h0 : (0 : Int) ≤ (i : Int) := by omega
  have h1 : (i : Int) < (G.st.length : Int) := by omega
  have H1 := Lib.hid (h.setS i 3)
  have H2 := Lib.hid (H1.out.trans (H1.out.at_.setS i 2))
  generalize G.st.getD i 0 = s at *
  generalize G.lv.getD i 0 = l at *
  clear h hi e1 e2 e3 c0 c3 c7 c8
  by_cases hl : 0 < l
  · have hd : decide (0 < l) = true := decide_eq_true hl
    go_enter Try.func95, Try.ntmps95
    go_wp2_with fail
    go_end0
    exact ⟨rfl, _, _, H2.out⟩
  · have hd : decide (0 < l) = false := decide_eq_false hl
    go_enter Try.func95, Try.ntmps95
    go_wp2_with fail
    go_end0
    exact ⟨rfl, _, _, H1.out⟩
def There6 (G : R6) (k : Int) (w : World) (e : Ending) (w' : World) : Prop := ∃ b, e = .returned (.bool b) ∧ (b = true → ∃ i : Nat, k = i ∧ i < G.st.length) ∧ w' = w
set_option maxRecDepth 100000 in
set_option maxHeartbeats 1000000 in
theorem rthere_any (h : R6At base w r G R) (k : Int) : Calls Try.prog 98 #[ptr r, vi k] w (There6 G k w) := by
  obtain ⟨c0, c1, -, -, -, -, -⟩ := h.cell
  by_cases h0 : 0 ≤ k
  · obtain ⟨i, rfl⟩ : ∃ i : Nat, k = i := ⟨k.toNat, by omega⟩
    by_cases h1 : (i : Int) < (G.st.length : Int)
    · have hi : i < G.st.length := by omega
      have d := h.scell hi
      generalize G.st.getD i 0 = s at *
      clear h c0
      have HI := Lib.hid hi
      clear hi
      go_enter Try.func98, Try.ntmps98
      go_wp2_with fail
      go_ret
      exact ⟨_, rfl, fun _ => ⟨i, rfl, HI.out⟩, rfl⟩
    · have h2 : ¬ (i : Int) < (G.st.length : Int) := h1
      clear h c0
      go_enter Try.func98, Try.ntmps98
      go_wp2_with fail
      go_ret
      exact ⟨_, rfl, fun e => by simp at e, rfl⟩
  · clear h c0
    go_enter Try.func98, Try.ntmps98
    go_wp2_with fail
    go_ret
    exact ⟨_, rfl, fun e => by simp at e, rfl⟩
/-- Its chip's block is marked. -/
theorem R6At.setBad (h : R6At base w r G R) (i : Nat) (hi : i < G.st.length) : R6Goes base w r G R (w.setCell ⟨R.gd, i, none⟩ (.bool true)) G { R with bd := R.bd.set i true } := by
  refine h.chipGoes (h.chip.setD i true) ?_ rfl
  rw [rmark_view h.chip (by rw [← h.ls]; exact hi)]
  have hb : i < R.B := by rw [← h.ls]; exact hi
  have hm := h.ok.mem (k := i) hb
  exact h.ok.set (h.ok.pages (R.view.blk i) hm) (h.ok.full (R.view.blk i) hm) (h.ok.small (R.view.blk i) hm) (h.ok.next (R.view.blk i) hm)
set_option maxRecDepth 100000 in
set_option maxHeartbeats 1000000 in
theorem rgone_any (h : R6At base w r G R) (i : Nat) (hi : i < G.st.length) : Calls Try.prog 125 #[ptr r, vi i] w fun e w' => e = .returned (.tuple #[]) ∧ ∃ G' R', R6Goes base w r G R w' G' R' := by
  obtain ⟨c0, c1, -, -, -, -, -⟩ := h.cell
  obtain ⟨c2, c3, c7, c8⟩ := h.rows
  have d := h.scell hi
  have dl := h.lcell hi
  have dx := h.xcell hi
  have dd := h.chip.dcell (i := i) (by rw [h.chip.ld, ← h.ls]; exact hi)
  have z := h.st.frozen i
  have zl := h.lv.frozen i
  have zx := h.nx.frozen i
  have zd := h.chip.bd.frozen i
  obtain ⟨e1, e2, e3⟩ := h.ne
  have n1 : ¬ G.gs = r := e1
  have n1' : ¬ G.gl = r := e2
  have n1'' : ¬ G.gx = r := e3
  have n2 : ¬ G.gs = G.gl := h.ne1
  have n3 : ¬ G.gs = G.gx := h.ne2
  have n4 : ¬ G.gl = G.gx := h.ne3
  have m0 : ¬ R.gd = r := fun e => h.apart _ (.inl rfl) (.inr (.inr (.inr (.inr (.inl e.symm)))))
  have m1 : ¬ R.gd = G.gs := fun e => h.apart _ (.inr (.inl rfl)) (.inr (.inr (.inr (.inr (.inl e.symm)))))
  have m2 : ¬ R.gd = G.gl := fun e => h.apart _ (.inr (.inr (.inl rfl))) (.inr (.inr (.inr (.inr (.inl e.symm)))))
  have m3 : ¬ R.gd = G.gx := fun e => h.apart _ (.inr (.inr (.inr rfl))) (.inr (.inr (.inr (.inr (.inl e.symm)))))
  have m4 : ¬ R.gd = G.q := h.chip.k_ne.2.2.2.1
  have h0 : (0 : Int) ≤ (i : Int) := by omega
  have h1 : (i : Int) < (G.st.length : Int) := by omega
  have H1 := Lib.hid (h.setBad i hi)
  have H2 := Lib.hid (H1.out.trans (H1.out.at_.setS i 4))
  have H3 := Lib.hid (H2.out.trans (H2.out.at_.setL i 0))
  have H4 := Lib.hid (H3.out.trans (H3.out.at_.setN i 0))
  generalize G.st.getD i 0 = s at *
  generalize G.lv.getD i 0 = l at *
  generalize G.nx.getD i 0 = x at *
  generalize R.bd.getD i false = b at *
  clear h hi e1 e2 e3 c7
  go_enter Try.func125, Try.ntmps125
  go_wp2_with fail
  go_end0
  exact ⟨rfl, _, _, H4.out⟩
def Begin6 (base : Nat) (w : World) (r : Nat) (G : R6) (R : RefM) (e : Ending) (w' : World) : Prop := ∃ n G' R', e = .returned (vi n) ∧ one6 n G.st.length ∧ R6Goes base w r G R w' G' R'
set_option maxRecDepth 100000 in
set_option maxHeartbeats 2000000 in
theorem rbegin_any (h : R6At base w r G R) : Calls Try.prog 94 #[ptr r] w (Begin6 base w r G R) := by
  obtain ⟨c0, c1, -, -, -, -, -⟩ := h.cell
  obtain ⟨c2, c3, c7, c8⟩ := h.rows
  have hlen := h.small
  have H := Lib.hid h
  clear c0 c2 c3 c7 c8 h
  go_enter Try.func94, Try.ntmps94
  go_wp2_with fail
  go_loopw [3, 4] (fun at_ i wr => ∃ (k : Nat) (n : Int), k ≤ G.st.length ∧ i = vi k ∧ at_ = vi n ∧ one6 n G.st.length ∧ Below w.heap.size w wr) (fun _ i _ => G.st.length - (intOf i).toNat)
  case atStart => exact ⟨0, -1, Nat.zero_le _, rfl, rfl, .inl rfl, Below.refl _ _⟩
  case round =>
    obtain ⟨k, n, hk, rfl, rfl, hn, hb⟩ := hrel
    have HB := Lib.hid hb
    have H1 := Lib.hid (H.out.old hb)
    clear hb
    obtain ⟨c0, c1, -, -, -, -, -⟩ := H1.out.cell
    obtain ⟨c2, c3, c7, c8⟩ := H1.out.rows
    clear c8
    by_cases hlt : k < G.st.length
    · have d := H1.out.scell hlt
      have dw := H1.out.wcell hlt
      have h0 : (0 : Int) ≤ (k : Int) := by omega
      have h1 : (k : Int) < (G.st.length : Int) := by omega
      generalize G.st.getD k 0 = s at *
      generalize R.wr.getD k 0 = x at *
      have HK := Lib.hid hlt
      by_cases hs : s = 0
      · have hsq : (s == 0) = true := beq_iff_eq.2 hs
        rcases hn with rfl | ⟨j, rfl, hj⟩
        · clear hs
          go_upto_region 5 with fail
          go_quiet (fail)
          go_wp2_with fail
          go_roundw
          case rel => exact ⟨k + 1, k, by omega, by go_num, rfl, .inr ⟨k, rfl, HK.out⟩, below_drewN HB.out _⟩
          case measure => simp [intOf]; omega
        · have dj := H1.out.wcell hj
          have j0 : ¬ (j : Int) < 0 := by omega
          have j0' : (0 : Int) ≤ (j : Int) := by omega
          have j1 : (j : Int) < (G.st.length : Int) := by omega
          generalize R.wr.getD j 0 = y at *
          have HJ := Lib.hid hj
          clear hs hj
          by_cases hy : x < y
          · have hyd : decide (x < y) = true := decide_eq_true hy
            go_upto_region 5 with fail
            go_quiet (fail)
            go_wp2_with fail
            go_roundw
            case rel => exact ⟨k + 1, k, by omega, by go_num, rfl, .inr ⟨k, rfl, HK.out⟩, below_drewN HB.out _⟩
            case measure => simp [intOf]; omega
          · have hyd : decide (x < y) = false := decide_eq_false hy
            go_upto_region 5 with fail
            go_quiet (fail)
            go_wp2_with fail
            go_roundw
            case rel => exact ⟨k + 1, j, by omega, by go_num, rfl, .inr ⟨j, rfl, HJ.out⟩, below_drewN HB.out _⟩
            case measure => simp [intOf]; omega
      · have hsq : (s == 0) = false := beq_eq_false_iff_ne.2 hs
        have HN := Lib.hid hn
        clear hs hn
        go_upto_region 5 with fail
        go_quiet (fail)
        go_wp2_with fail
        go_roundw
        case rel => exact ⟨k + 1, n, by omega, by go_num, rfl, HN.out, below_drewN HB.out _⟩
        case measure => simp [intOf]; omega
    · have h1 : ¬ (k : Int) < (G.st.length : Int) := by omega
      rcases hn with rfl | ⟨j, rfl, hj⟩
      · go_wp2_with fail
        go_ret
        exact ⟨-1, _, _, rfl, .inl rfl, R6Goes.of_old H.out HB.out⟩
      · have z := H1.out.st.frozen j
        have zl := H1.out.lv.frozen j
        have zx := H1.out.nx.frozen j
        have d := H1.out.scell hj
        have dl := H1.out.lcell hj
        have dx := H1.out.xcell hj
        obtain ⟨e1, e2, e3⟩ := H1.out.ne
        have n1 : ¬ G.gs = r := e1
        have n1' : ¬ G.gl = r := e2
        have n1'' : ¬ G.gx = r := e3
        have n2 : ¬ G.gs = G.gl := H1.out.ne1
        have n3 : ¬ G.gs = G.gx := H1.out.ne2
        have n4 : ¬ G.gl = G.gx := H1.out.ne3
        have j0 : (0 : Int) ≤ (j : Int) := by omega
        have j1 : (j : Int) < (G.st.length : Int) := by omega
        have S0 := Lib.hid (R6Goes.of_old H.out HB.out)
        have S1 := Lib.hid (S0.out.trans (S0.out.at_.setS j 1))
        have S2 := Lib.hid (S1.out.trans (S1.out.at_.setL j 0))
        have S3 := Lib.hid (S2.out.trans (S2.out.at_.setN j 0))
        generalize G.st.getD j 0 = s at *
        generalize G.lv.getD j 0 = l at *
        generalize G.nx.getD j 0 = x at *
        have HJ := Lib.hid hj
        clear hj e1 e2 e3
        go_wp2_with fail
        go_ret
        exact ⟨j, _, _, rfl, .inr ⟨j, rfl, HJ.out⟩, S3.out⟩
end

end Go.Proofs.Ytpggkehfbhffbaa.mgr

/-
  A manager of a chip's blocks: what it does in plain words; a manager and its chip in memory, and single steps on them. Conditions: a manager told by MgrAt, of a chip told by ChipAt.
-/
namespace Go.Proofs.Ytpggkehfbhffbaa.mgr
open Go.RowKit

/-! In plain words. -/
structure Mg where
  l : List gcs.Blk
  at_ : Int
  reserve : Int
  bad : Int
  even : Bool
abbrev Mg.blk (g : Mg) (i : Nat) : gcs.Blk := g.l.getD i default
def closeB (x : gcs.Blk) : gcs.Blk := { x with s := if x.l = 0 then 3 else 2 }
def Mg.shut (g : Mg) (i : Nat) : Mg := { g with at_ := if (i : Int) = g.at_ then -1 else g.at_ }
def Mg.put (g : Mg) (i : Nat) (x : gcs.Blk) : Mg := { g with l := g.l.set i x }
def Mg.close (g : Mg) (i : Nat) : Mg := (g.put i (closeB (g.blk i))).shut i
def freeB (x : gcs.Blk) : Bool := x.s == 0
def Mg.freeI (g : Mg) : Int := gcs.best freeB gcs.wornB g.l
def Mg.openAt (g : Mg) (i : Nat) : Mg := { g.put i ⟨1, 0, (g.blk i).r, 0⟩ with at_ := i }
def Mg.begun (g : Mg) : Mg := if g.freeI < 0 then g else g.openAt g.freeI.toNat
def Mg.there (g : Mg) (k : Int) : Bool := decide (0 ≤ k) && decide (k < g.l.length) && (g.blk k.toNat).s != 4
def Mg.drop (g : Mg) (k : Int) : Int × Mg :=
  if g.there k = false ∨ (g.blk k.toNat).l = 0 then (1, g)
  else
    let x := g.blk k.toNat
    (0, g.put k.toNat { x with l := x.l - 1, s := if x.s = 2 ∧ x.l - 1 = 0 then 3 else x.s })
/-- Programs a page: so many blocks may be shut ahead. -/
def Mg.progTo (b : List Nat) : Nat → NP.Chp → Mg → (Int × Int × Int) × NP.Chp × Mg
  | 0, c, g => ((0, 0, 40), c, g)
  | n + 1, c, g0 =>
    let g := if g0.at_ = -1 then g0.begun else g0
    if g.at_ = -1 then ((0, 0, 40), c, g)
    else
      let i := g.at_.toNat
      let x := g.blk i
      let r := NP.program c i x.n b
      if r.1 = 10 then Mg.progTo b n r.2 (g.close i)
      else if r.1 = 0 then
        let g1 := g.put i { x with n := x.n + 1, l := x.l + 1 }
        ((i, x.n, 0), r.2, if x.n + 1 = c.P then g1.close i else g1)
      else if r.1 = 11 then ((i, x.n, 11), r.2, g.close i)
      else ((0, 0, r.1), r.2, g)
def Mg.program (b : List Nat) (c : NP.Chp) (g : Mg) : (Int × Int × Int) × NP.Chp × Mg :=
  if c.down then ((0, 0, 4), c, g)
  else if b.length ≠ c.full then ((0, 0, 1), c, g)
  else Mg.progTo b (countL 0 g.l + 2) c g
def Mg.idle (c : NP.Chp) (g : Mg) (k : Int) : Int := if c.down then 4 else if g.there k = false ∨ 0 < (g.blk k.toNat).l then 1 else 0
def Mg.gone (c : NP.Chp) (g : Mg) (k : Nat) : Int × NP.Chp × Mg :=
  let r := NP.mark c k
  if r.1 = 0 then (0, r.2, (g.put k ⟨4, 0, NP.wearAt r.2 k, 0⟩).shut k) else (r.1, r.2, g)
def Mg.erase (c : NP.Chp) (g : Mg) (k : Int) : Int × NP.Chp × Mg :=
  let e := g.idle c k
  if e ≠ 0 then (e, c, g)
  else
    let i := k.toNat
    let x := g.blk i
    if x.s = 1 ∧ 0 < x.n then (1, c, g)
    else
      let r := NP.erase c k
      let g1 := g.put i { x with r := NP.wearAt r.2 k }
      if r.1 = 0 then (0, r.2, (g1.put i ⟨0, 0, NP.wearAt r.2 k, 0⟩).shut i)
      else if r.1 = 11 then (11, (Mg.gone r.2 g1 i).2)
      else (r.1, r.2, g1)
def Mg.retire (c : NP.Chp) (g : Mg) (k : Int) : Int × NP.Chp × Mg :=
  let e := g.idle c k
  if e ≠ 0 then (e, c, g) else Mg.gone c g k.toNat
/-- What holds of every manager. -/
structure Mg.ok (c : NP.Chp) (g : Mg) : Prop where
  len : g.l.length = c.B
  rng : ∀ x ∈ g.l, 0 ≤ x.s ∧ x.s ≤ 4 ∧ 0 ≤ x.l ∧ x.l ≤ c.P ∧ 0 ≤ x.n ∧ x.n ≤ c.P
  none_ : ∀ x ∈ g.l, x.s ≠ 1 → x.s ≠ 2 → x.l = 0
  open_ : ∀ x ∈ g.l, x.s = 1 → x.l ≤ x.n ∧ x.n < c.P
  at1 : g.at_ = -1 ∨ ∃ i : Nat, g.at_ = i ∧ i < g.l.length ∧ (g.blk i).s = 1
  at2 : ∀ i : Nat, i < g.l.length → (g.blk i).s = 1 → g.at_ = i

section
variable {c c' : NP.Chp} {g : Mg}
theorem blk_mem {l : List gcs.Blk} {i : Nat} (h : i < l.length) : l.getD i default ∈ l := NP.getD_mem h
theorem blk_set (l : List gcs.Blk) (i j : Nat) (x : gcs.Blk) (h : i < l.length) : (l.set i x).getD j default = if i = j then x else l.getD j default := NP.getD_set l default x i j h
theorem Mg.ok.chip (h : g.ok c) (h1 : c'.B = c.B) (h2 : c'.P = c.P) : g.ok c' :=
  ⟨by rw [h1]; exact h.len, by rw [h2]; exact h.rng, h.none_, by rw [h2]; exact h.open_, h.at1, h.at2⟩
/-- One block is laid anew, and none, or it, is the open one then. -/
theorem Mg.ok.lay (h : g.ok c) {i : Nat} (hi : i < g.l.length) (x : gcs.Blk) (h1 : 0 ≤ x.s ∧ x.s ≤ 4 ∧ 0 ≤ x.l ∧ x.l ≤ c.P ∧ 0 ≤ x.n ∧ x.n ≤ c.P) (h2 : x.s ≠ 1 → x.s ≠ 2 → x.l = 0) (h3 : x.s = 1 → x.l ≤ x.n ∧ x.n < c.P)
    (a : Int) (h4 : x.s = 1 → (g.at_ = -1 ∨ g.at_ = i) ∧ a = i) (h5 : x.s ≠ 1 → a = if (i : Int) = g.at_ then -1 else g.at_) : ({ g with l := g.l.set i x, at_ := a } : Mg).ok c := by
  have hm : ∀ y ∈ g.l.set i x, y = x ∨ y ∈ g.l := fun y hy => (List.mem_or_eq_of_mem_set hy).symm
  refine ⟨(List.length_set ..).trans h.len, ?_, ?_, ?_, ?_, ?_⟩
  · intro y hy; rcases hm y hy with rfl | hy
    · exact h1
    · exact h.rng y hy
  · intro y hy; rcases hm y hy with rfl | hy
    · exact h2
    · exact h.none_ y hy
  · intro y hy; rcases hm y hy with rfl | hy
    · exact h3
    · exact h.open_ y hy
  · dsimp only [Mg.blk]
    by_cases e : x.s = 1
    · exact .inr ⟨i, (h4 e).2, by rw [List.length_set]; exact hi, by rw [blk_set _ _ _ _ hi, if_pos rfl]; exact e⟩
    · rw [h5 e]
      by_cases e2 : (i : Int) = g.at_
      · rw [if_pos e2]; exact .inl rfl
      · rw [if_neg e2]
        rcases h.at1 with e3 | ⟨j, e3, hj, hs⟩
        · exact .inl e3
        · exact .inr ⟨j, e3, by rw [List.length_set]; exact hj, by rw [blk_set _ _ _ _ hi, if_neg (by intro e4; subst e4; exact e2 e3.symm)]; exact hs⟩
  · dsimp only [Mg.blk]
    intro j hj hs
    rw [List.length_set] at hj
    rw [blk_set _ _ _ _ hi] at hs
    by_cases e : i = j
    · subst e
      rw [if_pos rfl] at hs
      exact (h4 hs).2
    · rw [if_neg e] at hs
      have e3 := h.at2 j hj hs
      by_cases e1 : x.s = 1
      · rcases (h4 e1).1 with e4 | e4 <;> omega
      · rw [h5 e1, if_neg (by omega)]; exact e3
theorem Mg.ok.close (h : g.ok c) {i : Nat} (hi : i < g.l.length) : (g.close i).ok c := by
  obtain ⟨h1, h2, h3, h4, h5, h6⟩ := h.rng (g.blk i) (blk_mem hi)
  refine h.lay hi (closeB (g.blk i)) ?_ ?_ ?_ _ ?_ (fun _ => rfl)
  · unfold closeB; dsimp only; split <;> omega
  · unfold closeB; dsimp only; split <;> omega
  · unfold closeB; dsimp only; split <;> omega
  · unfold closeB; dsimp only; split <;> omega
theorem Mg.ok.openAt (h : g.ok c) {i : Nat} (hi : i < g.l.length) (hP : 0 < c.P) (ha : g.at_ = -1) : (g.openAt i).ok c :=
  h.lay hi ⟨1, 0, (g.blk i).r, 0⟩ (by dsimp only; omega) (by dsimp only; omega) (by dsimp only; omega) _ (fun _ => ⟨.inl ha, rfl⟩) (fun e => (e rfl).elim)
theorem Mg.freeI_lt (g : Mg) : g.freeI < g.l.length := (gcs.best_bd _ _ _).2
theorem Mg.ok.begun (h : g.ok c) (hP : 0 < c.P) (ha : g.at_ = -1) : g.begun.ok c := by
  unfold Mg.begun
  split
  · exact h
  · exact h.openAt (by have := g.freeI_lt; omega) hP ha
theorem best_has (P : gcs.Blk → Bool) (Q : gcs.Blk → gcs.Blk → Bool) (bs : List gcs.Blk) : ∀ k : Nat, 0 ≤ gcs.bestTo P Q bs k → P (bs.getD (gcs.bestTo P Q bs k).toNat default) = true
  | 0, h => by simp [gcs.bestTo] at h
  | k + 1, h => by
    unfold gcs.bestTo at h ⊢
    split
    · rename_i hc
      simp only [Bool.and_eq_true] at hc
      exact hc.1
    · rename_i hc
      rw [if_neg hc] at h
      exact best_has P Q bs k h
theorem Mg.freeI_free (h : 0 ≤ g.freeI) : (g.blk g.freeI.toNat).s = 0 := by
  have := best_has freeB gcs.wornB g.l g.l.length h
  exact of_decide_eq_true this
end

/-! In memory. -/
abbrev MgM.view (G : MgM) : Mg := ⟨G.l, G.at_, G.reserve, G.bad, G.even⟩
/-- A manager of this layout. -/
abbrev MgM.lay (G : MgM) (g : Mg) : MgM := { G with l := g.l, at_ := g.at_, reserve := g.reserve, bad := g.bad, even := g.even }
theorem MgM.lay_view (G : MgM) : G.lay G.view = G := rfl
theorem MgM.view_lay (G : MgM) (g : Mg) : (G.lay g).view = g := rfl
/-- The blocks of memory of a manager and its chip. -/
def foot1 (m : Nat) (G : MgM) (M : ChM) (n : Nat) : Prop := G.foot m n ∨ M.foot G.k n
structure Held (base : Nat) (w : World) (m : Nat) (G : MgM) (M : ChM) : Prop where
  mgr : MgrAt base w m G
  chip : ChipAt base w G.k M
structure HGoes (base : Nat) (w : World) (m : Nat) (G : MgM) (M : ChM) (w' : World) (g' : Mg) (M' : ChM) : Prop where
  at_ : Held base w' m (G.lay g') M'
  chg : Chg (foot1 m G M) w w'
  foot : ∀ n, M'.foot G.k n → M.foot G.k n ∨ w.heap.size ≤ n
section
variable {base : Nat} {w w' w'' : World} {m : Nat} {G : MgM} {M M' M'' : ChM} {g' g'' : Mg}
theorem Held.apart (h : Held base w m G M) : ∀ n, G.foot m n → ¬ M.foot G.k n := by
  have hm := h.mgr.mgr
  obtain ⟨cur, hr, _⟩ := h.mgr.row.blk
  intro n hn hc
  have key : ∀ t cs, Blk w n t cs → t = 118 ∨ t = 121 → False := by
    intro t cs hb ht
    have hT : ∀ t' cs', Blk w n t' cs' → t' = t := by
      intro t' cs' hb'
      unfold Blk at hb hb'
      rw [hb] at hb'
      injection hb' with hb'
      injection hb' with _ hb'
      exact hb'.symm
    rcases hc with rfl | rfl | hc
    · have := hT _ _ h.chip.chip
      rcases ht with rfl | rfl <;> exact absurd this (by decide)
    · obtain ⟨cur', hb', _⟩ := h.chip.blocks.blk
      have := hT _ _ hb'
      rcases ht with rfl | rfl <;> exact absurd this (by decide)
    · obtain ⟨x, hx, rfl⟩ := List.mem_map.1 hc
      obtain ⟨cur', hb', _⟩ := (h.chip.pages x hx).blk
      have := hT _ _ hb'
      rcases ht with rfl | rfl <;> exact absurd this (by decide)
  rcases hn with rfl | rfl
  · exact key _ _ hm (.inl rfl)
  · exact key _ _ hr (.inr rfl)
theorem Held.ne (h : Held base w m G M) : m ≠ G.gl := by
  intro e
  exact h.mgr.row.ne_blk h.mgr.mgr (by decide) e.symm
theorem Held.mine (h : Held base w m G M) : ∀ n, foot1 m G M n → Mine base w n := by
  intro n hn
  rcases hn with hn | hn
  · exact h.mgr.mine n hn
  · exact h.chip.mine n hn
theorem Held.lt (h : Held base w m G M) : ∀ n, foot1 m G M n → n < w.heap.size := by
  intro n hn
  obtain ⟨_, t, cs, _, hb⟩ := h.mine n hn
  exact hb.lt
theorem Held.low (h : Held base w m G M) : ∀ n, foot1 m G M n → base ≤ n := fun n hn => (h.mine n hn).1
theorem Held.old (h : Held base w m G M) (q : Below w.heap.size w w') : Held base w' m G M := ⟨h.mgr.old q, h.chip.old q⟩
theorem Held.chg {F : Nat → Prop} (h : Held base w m G M) (q : Chg F w w') (hF : ∀ n, F n → Mine base w n) (hn : ∀ n, foot1 m G M n → ¬ F n) : Held base w' m G M :=
  ⟨h.mgr.chg q (fun n e => hn n (.inl e)), h.chip.chg q hF (fun n e => hn n (.inr e))⟩
theorem HGoes.refl (h : Held base w m G M) : HGoes base w m G M w G.view M := ⟨h, Chg.refl _ _, fun _ e => .inl e⟩
theorem HGoes.trans (h : HGoes base w m G M w' g' M') (q : HGoes base w' m (G.lay g') M' w'' g'' M'') : HGoes base w m G M w'' g'' M'' := by
  refine ⟨q.at_, h.chg.trans q.chg fun n hn e => ?_, fun n hn => ?_⟩
  · rcases e with e | e
    · exact .inl e
    · rcases h.foot n e with h1 | h1
      · exact .inr h1
      · omega
  · rcases q.foot n hn with h1 | h1
    · exact h.foot n h1
    · exact .inr (Nat.le_trans h.chg.size h1)
theorem HGoes.old (h : HGoes base w m G M w' g' M') (q : Below w'.heap.size w' w'') : HGoes base w m G M w'' g' M' := ⟨h.at_.old q, h.chg.below q, h.foot⟩
theorem HGoes.of_old (h : Held base w m G M) (q : Below w.heap.size w w') : HGoes base w m G M w' G.view M := (HGoes.refl h).old q
/-- The chip goes. -/
theorem Held.chipGoes (h : Held base w m G M) (q : Goes base w G.k M w' M') : HGoes base w m G M w' G.view M' := by
  refine ⟨⟨?_, q.at_⟩, q.chg.mono (fun n _ e => .inr e), q.foot⟩
  exact h.mgr.chg q.chg (fun n e => h.apart n e)
/-- A field of the manager is laid. -/
theorem Held.field (h : Held base w m G M) (j : Nat) (v : Value) (g' : Mg) (hc : (G.lay g').cs = G.cs.setIfInBounds j v) (hl : g'.l = G.l) : HGoes base w m G M (w.setCell ⟨m, j, none⟩ v) g' M := by
  have hq : Chg (fun n => n = m) w (w.setCell ⟨m, j, none⟩ v) := Chg.set (F := fun n => n = m) w (p := ⟨m, j, none⟩) rfl v
  refine ⟨⟨⟨?_, ?_, ?_⟩, ?_⟩, hq.mono (fun n _ e => .inl (.inl e)), fun n e => .inl e⟩
  · rw [hc]; exact h.mgr.mgr.set_ j v
  · dsimp only [MgM.lay]; rw [hl]; exact h.mgr.row.chg hq (fun e => h.ne e.symm)
  · exact fun n hn => h.mgr.low n hn
  · exact h.chip.chg hq (fun n e => h.mgr.mine n (.inl e)) (fun n hn e => h.apart n (.inl e) hn)
/-- A field of a block is laid. -/
theorem Held.cell (h : Held base w m G M) {i j : Nat} (hi : i < G.l.length) (hj : j < 4) (v : Value) (y : gcs.Blk) (hy : gcells y = (gcells (G.l.getD i default)).set j v) : HGoes base w m G M (w.setCell ⟨G.gl, i * 4 + j, none⟩ v) (G.view.put i y) M := by
  have hq : Chg (fun n => n = G.gl) w (w.setCell ⟨G.gl, i * 4 + j, none⟩ v) := Chg.set (F := fun n => n = G.gl) w (p := ⟨G.gl, i * 4 + j, none⟩) rfl v
  refine ⟨⟨⟨?_, ?_, ?_⟩, ?_⟩, hq.mono (fun n _ e => .inl (.inr e)), fun n e => .inl e⟩
  · have := h.mgr.mgr.chg hq (fun e => h.ne e)
    simpa [MgM.cs, Mg.put] using this
  · dsimp only [MgM.lay, Mg.put, MgM.view]
    rw [List.length_set, ← flat_set gcells_len default _ _ _ y v hi hj hy]
    exact h.mgr.row.set _ v
  · exact fun n hn => h.mgr.low n hn
  · exact h.chip.chg hq (fun n e => h.mgr.mine n (.inr e)) (fun n hn e => h.apart n (.inr e) hn)
/-- A block is laid. -/
theorem Held.block (h : Held base w m G M) {i : Nat} (hi : i < G.l.length) (y : gcs.Blk) :
    HGoes base w m G M ((((w.setCell ⟨G.gl, i * 4, none⟩ (vi y.s)).setCell ⟨G.gl, i * 4 + 1, none⟩ (vi y.l)).setCell ⟨G.gl, i * 4 + 2, none⟩ (vi y.r)).setCell ⟨G.gl, i * 4 + 3, none⟩ (vi y.n)) (G.view.put i y) M := by
  have e : ∀ z, (G.l.set i z).getD i default = z := fun z => by rw [blk_set _ _ _ _ hi, if_pos rfl]
  have h1 := h.cell hi (j := 0) (by decide) (vi y.s) { G.l.getD i default with s := y.s } rfl
  have h2 := h1.trans (h1.at_.cell (i := i) (j := 1) (by simpa [Mg.put] using hi) (by decide) (vi y.l) { G.l.getD i default with s := y.s, l := y.l } (by dsimp only [MgM.lay, Mg.put, MgM.view]; rw [e]; rfl))
  have h3 := h2.trans (h2.at_.cell (i := i) (j := 2) (by simpa [Mg.put] using hi) (by decide) (vi y.r) { G.l.getD i default with s := y.s, l := y.l, r := y.r } (by dsimp only [MgM.lay, Mg.put, MgM.view]; rw [List.set_set, e]; rfl))
  have h4 := h3.trans (h3.at_.cell (i := i) (j := 3) (by simpa [Mg.put] using hi) (by decide) (vi y.n) y (by dsimp only [MgM.lay, Mg.put, MgM.view]; rw [List.set_set, List.set_set, e]; rfl))
  simpa only [MgM.lay, Mg.put, MgM.view, List.set_set, Nat.add_zero] using h4
theorem Held.cells (h : Held base w m G M) : w.cell? ⟨m, 0, none⟩ = some (ptr G.k) ∧ w.cell? ⟨m, 1, none⟩ = some (.slice (some ⟨G.gl, 0, none⟩) G.l.length G.cl) ∧ w.cell? ⟨m, 2, none⟩ = some (vi G.at_) ∧ w.cell? ⟨m, 3, none⟩ = some (vi G.reserve) ∧ w.cell? ⟨m, 4, none⟩ = some (vi G.bad) ∧ w.cell? ⟨m, 5, none⟩ = some (.bool G.even) :=
  ⟨h.mgr.mgr.cell 0, h.mgr.mgr.cell 1, h.mgr.mgr.cell 2, h.mgr.mgr.cell 3, h.mgr.mgr.cell 4, h.mgr.mgr.cell 5⟩
theorem Held.bcells (h : Held base w m G M) {i : Nat} (hi : i < G.l.length) : w.cell? ⟨G.gl, i * 4, none⟩ = some (vi (G.l.getD i default).s) ∧ w.cell? ⟨G.gl, i * 4 + 1, none⟩ = some (vi (G.l.getD i default).l) ∧ w.cell? ⟨G.gl, i * 4 + 2, none⟩ = some (vi (G.l.getD i default).r) ∧ w.cell? ⟨G.gl, i * 4 + 3, none⟩ = some (vi (G.l.getD i default).n) :=
  ⟨h.mgr.cell hi (j := 0) (by decide), h.mgr.cell hi (j := 1) (by decide), h.mgr.cell hi (j := 2) (by decide), h.mgr.cell hi (j := 3) (by decide)⟩
end

end Go.Proofs.Ytpggkehfbhffbaa.mgr

