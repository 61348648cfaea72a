/-
  Lemmas for a law's proof, put together from several texts: each part says what it shows, and its conditions.
-/
import Derived.Test.YtpggkehfbhffbaaZC02
import Derived.Test.YtpggkehfbhffbaaZC04
import Derived.Deep.QuietTactic
import Derived.Deep.DeepCutAuto
import Derived.BigQuiet
import Derived.Laws.CopyOwn
import Derived.Deep.OwnRows
import Derived.Laws.Bits64b
import Derived.StillTailTactics
import Derived.Deep.RegionLaw
/-
  A manager of a chip's blocks in memory, and what it tells of itself. Conditions: a manager that is told by MgrAt, of a chip that is told by ChipAt.
-/
namespace Go.Proofs.Ytpggkehfbhffbaa.mgr
open Go.RowKit

def countL (state : Int) (bs : List gcs.Blk) : Nat := (bs.filter (fun x => x.s == state)).length
theorem countL_le (state : Int) (bs : List gcs.Blk) : countL state bs ≤ bs.length := List.length_filter_le _ _
theorem countL_take (state : Int) (bs : List gcs.Blk) (k : Nat) (h : k < bs.length) : countL state (bs.take (k + 1)) = countL state (bs.take k) + (if (bs.getD k default).s == state then 1 else 0) := by
  unfold countL
  rw [List.take_succ_eq_append_getElem h, List.filter_append, List.length_append, List.getD_eq_getElem?_getD, List.getElem?_eq_getElem h]
  cases hs : (bs[k].s == state) <;> simp [hs]
set_option maxHeartbeats 1000000 in
theorem Count_any (v : Value) (bs : List gcs.Blk) (state : Int) (w : World) (hrow : gcs.Row w v bs) :
    Calls Try.prog 90 #[v, vi state] w fun e w' => e = .returned (vi (countL state bs)) ∧ Below w.heap.size w w' := by
  have HR := Lib.hid hrow
  obtain ⟨hlen, a, cap, rfl, -⟩ := hrow
  go_enter Try.func90, Try.ntmps90
  go_wp2_with fail
  go_loopw [5, 10] (fun n i wr => ∃ k : Nat, k ≤ bs.length ∧ i = vi k ∧ n = vi (countL state (bs.take k)) ∧ Below w.heap.size w wr) (fun _ i _ => bs.length - (intOf i).toNat)
  case atStart => exact ⟨0, Nat.zero_le _, rfl, rfl, Below.refl _ _⟩
  case round =>
    obtain ⟨k, hk, rfl, rfl, hb⟩ := hrel
    by_cases hlt : k < bs.length
    · obtain ⟨b, o, rfl, hx⟩ := (HR.out.below hb).lookup hlt
      have hst := countL_take state bs k hlt
      have hle : countL state (bs.take k) ≤ k := Nat.le_trans (countL_le _ _) (by simp; omega)
      generalize bs.getD k default = x at hx hst
      generalize countL state (bs.take k) = c at hst hle ⊢
      obtain ⟨g0, g1, g2, g3⟩ := hx
      have Hst := Lib.hid hst
      clear hst
      cases hs : (x.s == state)
      all_goals
        go_wp2_with fail
        go_roundw
        case rel => exact ⟨k + 1, by omega, by go_num, by rw [Hst.out, hs]; simp, hb.alloc hb.size _⟩
        case measure => simp [intOf]; omega
    · go_wp2_with fail
      go_ret
      obtain rfl : k = bs.length := by omega
      exact ⟨ret_int (by rw [List.take_length]), hb⟩

/-- A manager. -/
structure MgM where
  k : Nat
  l : List gcs.Blk
  gl : Nat
  cl : Nat
  at_ : Int
  reserve : Int
  bad : Int
  even : Bool
abbrev MgM.cs (G : MgM) : Array Value := #[ptr G.k, .slice (some ⟨G.gl, 0, none⟩) G.l.length G.cl, vi G.at_, vi G.reserve, vi G.bad, .bool G.even]
abbrev gcells (b : gcs.Blk) : List Value := [vi b.s, vi b.l, vi b.r, vi b.n]
theorem gcells_len (b : gcs.Blk) : (gcells b).length = 4 := rfl
def MgM.foot (G : MgM) (m n : Nat) : Prop := n = m ∨ n = G.gl
structure MgrAt (base : Nat) (w : World) (m : Nat) (G : MgM) : Prop where
  mgr : Blk w m 118 G.cs
  row : Arr w 121 4 G.gl G.l.length G.cl (G.l.flatMap gcells)
  low : ∀ n, G.foot m n → base ≤ n
section
variable {base : Nat} {w w' : World} {m : Nat} {G : MgM} {M : ChM}
theorem MgrAt.mine (h : MgrAt base w m G) : ∀ n, G.foot m n → Mine base w n := by
  intro n hn
  refine ⟨h.low n hn, ?_⟩
  rcases hn with rfl | rfl
  · exact ⟨_, _, by decide, h.mgr⟩
  · obtain ⟨cur, hb, _⟩ := h.row.blk
    exact ⟨_, _, by decide, hb⟩
theorem MgrAt.chg {F : Nat → Prop} (h : MgrAt base w m G) (q : Chg F w w') (hn : ∀ n, G.foot m n → ¬ F n) : MgrAt base w' m G :=
  ⟨h.mgr.chg q (hn _ (.inl rfl)), h.row.chg q (hn _ (.inr rfl)), h.low⟩
theorem MgrAt.old (h : MgrAt base w m G) (q : Below w.heap.size w w') : MgrAt base w' m G := h.chg (F := fun _ => False) (Chg.of_below q) (fun _ _ e => e)
theorem MgrAt.cell (h : MgrAt base w m G) {i j : Nat} (hi : i < G.l.length) (hj : j < 4) : w.cell? ⟨G.gl, i * 4 + j, none⟩ = (gcells (G.l.getD i default))[j]? := by
  rw [h.row.cell (by omega)]
  exact flat_get gcells_len default _ _ _ hi hj
theorem MgrAt.grow (h : MgrAt base w m G) : gcs.Row w (.slice (some ⟨G.gl, 0, none⟩) G.l.length G.cl) G.l := by
  obtain ⟨cur, _, h1, h2, _⟩ := h.row.blk
  refine ⟨by unfold maxLen at h2; omega, _, _, rfl, .inr ⟨G.gl, 0, rfl, fun i hi => ?_⟩⟩
  have h0 := h.cell hi (j := 0) (by decide)
  have h1 := h.cell hi (j := 1) (by decide)
  have h2 := h.cell hi (j := 2) (by decide)
  have h3 := h.cell hi (j := 3) (by decide)
  rw [Nat.zero_add]
  exact ⟨h0, h1, h2, h3⟩
theorem field_g1 (x y z : Int) (w : World) : (Instr.field 23 (.agg #[vi x, vi y, vi z]) 1).run Try.prog w = .ok (vi y) w := by kernel_rfl
set_option maxRecDepth 100000 in
theorem pages_any (h : MgrAt base w m G) (hc : ChipAt base w G.k M) : Calls Try.prog 82 #[ptr m] w fun e w' => e = .returned (vi M.P) ∧ Below w.heap.size w w' := by
  have c0 : w.cell? ⟨m, 0, none⟩ = some (ptr G.k) := h.mgr.cell 0
  have HC := Lib.hid hc
  clear h hc
  go_enter Try.func82, Try.ntmps82
  go_wp2_with fail
  refine (Geo_any HC.out).mono ?_
  rintro e w' ⟨rfl, hb⟩
  have HB := Lib.hid hb
  have hf := field_g1
  clear hb c0
  go_wp2_with fail
  go_ret
  exact ⟨rfl, HB.out⟩
set_option maxRecDepth 100000 in
theorem Free_any (h : MgrAt base w m G) : Calls Try.prog 44 #[ptr m] w fun e w' => e = .returned (vi (countL 0 G.l)) ∧ Below w.heap.size w w' := by
  have c1 : w.cell? ⟨m, 1, none⟩ = some (.slice (some ⟨G.gl, 0, none⟩) G.l.length G.cl) := h.mgr.cell 1
  have H := Lib.hid h
  clear h
  go_enter Try.func44, Try.ntmps44
  go_wp2_with fail
  refine (Count_any _ _ 0 w H.out.grow).mono ?_
  rintro e w' ⟨rfl, hb⟩
  have HB := Lib.hid hb
  clear hb c1
  go_wp2_with fail
  go_ret
  exact ⟨rfl, HB.out⟩
set_option maxRecDepth 100000 in
set_option maxHeartbeats 1000000 in
theorem Left_any (h : MgrAt base w m G) : Calls Try.prog 45 #[ptr m] w fun e w' => e = .returned (vi (wrap64 (G.reserve - wrap64 ((countL 4 G.l : Nat) - G.bad)))) ∧ Below w.heap.size w w' := by
  have c1 := Sub.cell (show w.cell? ⟨m, 1, none⟩ = some (.slice (some ⟨G.gl, 0, none⟩) G.l.length G.cl) from h.mgr.cell 1)
  have c3 := Sub.cell (show w.cell? ⟨m, 3, none⟩ = some (vi G.reserve) from h.mgr.cell 3)
  have c4 := Sub.cell (show w.cell? ⟨m, 4, none⟩ = some (vi G.bad) from h.mgr.cell 4)
  have HCO : Hid (∀ n : Sub w, Calls Try.prog 90 #[.slice (some ⟨G.gl, 0, none⟩) G.l.length G.cl, vi 4] n.w fun e w' => e = .returned (vi (countL 4 G.l)) ∧ Below n.w.heap.size n.w w') := Lib.hid (fun n => Count_any _ _ 4 n.w (h.old n.below).grow)
  clear h
  go_enter Try.func45, Try.ntmps45
  go_upto_region 3 with fail
  refine wp_region_sub (by kernel_rfl) (by kernel_rfl) ?_
  repeat (go_big_quiet_step (exact ext_of (HCO.out _)))
  refine wpQuiet_nil ?_
  rintro _ ⟨nq, rfl⟩
  have HBN := Lib.hid nq.below
  go_wp2_with fail
  go_ret
  exact ⟨by simp, HBN.out⟩
/-- How many pages can be programmed. -/
def roomL (G : MgM) (P : Nat) : Int := (countL 0 G.l : Nat) * (P : Int) + (if G.at_ = -1 then 0 else (P : Int) - (G.l.getD G.at_.toNat default).n)
/-- The open block is one of the blocks. -/
def MgM.fit (G : MgM) (P : Nat) : Prop := G.l.length ≤ 128 ∧ P ≤ 32 ∧ (G.at_ = -1 ∨ ∃ i : Nat, G.at_ = i ∧ i < G.l.length ∧ 0 ≤ (G.l.getD i default).n ∧ (G.l.getD i default).n ≤ P)
set_option maxRecDepth 100000 in
set_option maxHeartbeats 2000000 in
theorem Room_any (h : MgrAt base w m G) (hc : ChipAt base w G.k M) (hf : G.fit M.P) : Calls Try.prog 43 #[ptr m] w fun e w' => e = .returned (vi (roomL G M.P)) ∧ Below w.heap.size w w' := by
  obtain ⟨hl, hP, hat⟩ := hf
  have H := Lib.hid h
  have HC := Lib.hid hc
  have hcl := countL_le 0 G.l
  have HQ : Hid (roomL G M.P = (countL 0 G.l : Nat) * (M.P : Int) + (if G.at_ = -1 then 0 else (M.P : Int) - (G.l.getD G.at_.toNat default).n)) := Lib.hid rfl
  have HAT := Lib.hid hat
  have hmul : countL 0 G.l * M.P ≤ 4096 := Nat.le_trans (Nat.mul_le_mul (Nat.le_trans hcl hl) hP) (by decide)
  have hmc : ((countL 0 G.l : Nat) : Int) * (M.P : Int) = ((countL 0 G.l * M.P : Nat) : Int) := by rw [Int.natCast_mul]
  have q1 : IntKind.i64.wrap (((countL 0 G.l : Nat) : Int) * (M.P : Int)) = ((countL 0 G.l : Nat) : Int) * (M.P : Int) := IntWalk.i64_in _ (by rw [hmc]; omega)
  have HMC := Lib.hid hmc
  clear h hc hat hmc
  go_enter Try.func43, Try.ntmps43
  go_wp2_with fail
  refine (Free_any H.out).mono ?_
  rintro e w1 ⟨rfl, hb1⟩
  have H1 := Lib.hid (H.out.old hb1)
  have HC1 := Lib.hid (HC.out.old hb1)
  have HB1 := Lib.hid hb1
  clear hb1
  go_wp2_with fail
  refine (pages_any H1.out HC1.out).mono ?_
  rintro e w2 ⟨rfl, hb2⟩
  have H2 := Lib.hid (H1.out.old hb2)
  have HC2 := Lib.hid (HC1.out.old hb2)
  have HB2 := Lib.hid (HB1.out.trans (hb2.mono HB1.out.size))
  have c2 : w2.cell? ⟨m, 2, none⟩ = some (vi G.at_) := H2.out.mgr.cell 2
  clear hb2
  generalize countL 0 G.l = c at *
  rcases HAT.out with e0 | ⟨i, e0, hi, hn0, hn1⟩
  · rw [if_pos e0, Int.add_zero] at HQ
    rw [e0] at c2
    have hne : ((-1 : Int) != -1) = false := by decide
    go_wp2_with fail
    go_ret
    exact ⟨ret_int HQ.out.symm, HB2.out⟩
  · have hne : ((i : Int) != -1) = true := by simp only [bne_iff_ne, ne_eq]; omega
    rw [if_neg (by omega), e0, Int.toNat_natCast] at HQ
    rw [e0] at c2
    have d3 : w2.cell? ⟨G.gl, i * 4 + 3, none⟩ = some (vi (G.l.getD i default).n) := H2.out.cell hi (j := 3) (by decide)
    have c1 : w2.cell? ⟨m, 1, none⟩ = some (.slice (some ⟨G.gl, 0, none⟩) G.l.length G.cl) := H2.out.mgr.cell 1
    generalize (G.l.getD i default).n = nx at *
    have hi0 : (0 : Int) ≤ (i : Int) := by omega
    have hi1 : (i : Int) < (G.l.length : Int) := by omega
    have q2 : IntKind.i64.wrap ((M.P : Int) - nx) = (M.P : Int) - nx := IntWalk.i64_in _ (by omega)
    have q3 : IntKind.i64.wrap ((c : Int) * (M.P : Int) + ((M.P : Int) - nx)) = (c : Int) * (M.P : Int) + ((M.P : Int) - nx) := IntWalk.i64_in _ (by rw [HMC.out]; omega)
    have HPA : Hid (∀ n : Sub w2, Calls Try.prog 82 #[ptr m] n.w fun e w' => e = .returned (vi M.P) ∧ Below n.w.heap.size n.w w') := Lib.hid (fun n => pages_any (H2.out.old n.below) (HC2.out.old n.below))
    go_upto_region 5 with fail
    have c1 := Sub.cell c1
    have c2 := Sub.cell c2
    have d3 := Sub.cell d3
    refine wp_region_sub (by kernel_rfl) (by kernel_rfl) ?_
    repeat (go_big_quiet_step (exact ext_of (HPA.out _)))
    refine wpQuiet_nil ?_
    rintro _ ⟨nq, rfl⟩
    have HBN := Lib.hid (HB2.out.trans (nq.below.mono HB2.out.size))
    go_wp2_with fail
    go_ret
    exact ⟨ret_int HQ.out.symm, HBN.out⟩
end

end Go.Proofs.Ytpggkehfbhffbaa.mgr

/-
  Rows of bytes that are made: bytes 255, bytes that are torn, one byte many times, bytes again. Conditions: fewer than 900000 bytes.
-/
namespace Go.Proofs.Ytpggkehfbhffbaa
open Go.RowKit

/-- An append's, a copy's run. -/
structure AppRun (t u ty : TypeId) (v src : Value) (w : World) (v' : Value) (w' : World) : Prop where
  run : (Builtin.append_ #[t, u] ty #[v, src]).run Try.prog w = .ok v' w'
structure CopyRun (t u ty : TypeId) (v src : Value) (w : World) (v' : Value) (w' : World) : Prop where
  run : (Builtin.copy_ #[t, u] ty #[v, src]).run Try.prog w = .ok v' w'
theorem wpList_copy_run {w w' : World} {ops : Array Oper} {rest : List Oper} {o : Oper} {a : Act} {Q : Exit → Act → World → Prop} (hgd : o.guard = none) (s x : Operand) {t u : TypeId}
    (ho : o.op = .call { callee := .builtin .copy, args := #[s, x], argTypes := #[t, u] }) {v src v' : Value} (hs : a.eval s = v) (hx : a.eval x = src)
    (hrun : CopyRun t u o.type v src w v' w') (h : wpList Try.prog ops Q rest (a.put o.dst v') w') : wpList Try.prog ops Q (o :: rest) a w := by
  refine wpList_plain hgd fun K hK => ?_
  unfold Oper.wp execOp
  simp only [ho, resolve, invoke, builtin, Sem.run_bind, Sem.run_pure, Result.andThen_ok, List.map_toArray, List.map_cons, List.map_nil, hs, hx, hrun.run]
  exact hK _ _ h

/-- A byte stored into a row of the call's own. -/
theorem own_set {w : World} {base g n c : Nat} {l : List Nat} (h : Own w base (.slice (some ⟨g, 0, none⟩) n c) l) (hn : n = l.length) (j x : Nat) :
    Own (w.setCell ⟨g, j, none⟩ (vb x)) base (.slice (some ⟨g, 0, none⟩) n c) (l.set j x) := by
  subst hn
  have := (World.ownsRow.stored h j (vb x)).1
  unfold Own bv
  rw [List.length_set, List.map_set]
  exact this
theorem own_frozen {w : World} {base g n c : Nat} {l : List Nat} (h : Own w base (.slice (some ⟨g, 0, none⟩) n c) l) (hn : n = l.length) (j : Nat) : w.frozen? ⟨g, j, none⟩ = false := by
  subst hn
  exact World.ownsRow.frozenAt h j
theorem own_cell {w : World} {base g n c : Nat} {l : List Nat} (h : Own w base (.slice (some ⟨g, 0, none⟩) n c) l) (hn : n = l.length) {j : Nat} (hj : j < n) : w.cell? ⟨g, j, none⟩ = some (vb (l.getD j 0)) := by
  subst hn
  rw [World.ownsRow.cellAt h j (by omega), bv_get hj]
/-- Zeros. -/
theorem own_zeros (w : World) (n : Nat) (hn : n ≤ 1000000) : Own (w.alloc (.cells (madeCells #[vb 0] n) 5)) w.heap.size (.slice (some ⟨w.heap.size, 0, none⟩) n n) (List.replicate n 0) := by
  have := World.ownsRow_lit (base := w.heap.size) (size := 1) (e := 5) w (madeCells #[vb 0] n) n (Nat.le_refl _) (by unfold maxLen; omega) (by simp [madeCells])
  rw [toList_madeCells_one] at this
  unfold Own bv
  rw [List.length_replicate, List.map_replicate]
  exact this
theorem make_bytes (n : Nat) (hn : n ≤ 1000000) (w : World) : (Instr.makeSlice 32 (.int .i64 (n : Int)) (.int .i64 (n : Int))).run Try.prog w = .ok (.slice (some ⟨w.heap.size, 0, none⟩) n n) (w.alloc (.cells (madeCells #[vb 0] n) 5)) :=
  run_make_row' 32 5 (vb 0) 1 Try.underlying32 byte_info rfl .i64 .i64 n (by omega) (by omega) w
/-- A copy into a row of the call's own. -/
theorem copy_bytes {w : World} {base g n c : Nat} {l m : List Nat} (h : Own w base (.slice (some ⟨g, 0, none⟩) n c) l) (hn : n = l.length) (j : Nat) (hj : j ≤ n) {a : Option Addr} (hr : BRow w a m) (cm : Nat) (cj : Nat) :
    ∃ w', CopyRun 32 32 3 (.slice (some ⟨g, j, none⟩) (n - j) cj) (.slice a m.length cm) w (vi (min m.length (n - j) : Nat)) w' ∧
      Own w' base (.slice (some ⟨g, 0, none⟩) n c) (l.take j ++ m.take (n - j) ++ l.drop (j + min m.length (n - j))) ∧ w.grownBy w' (some g) := by
  subst hn
  obtain ⟨h1, h2⟩ := h
  rcases h2 with ⟨h2, _⟩ | ⟨g', cap, cur, hv, hb, hg, hnc, hcm, hcs, htk⟩
  · cases h2
  injection hv with hv _ hc
  injection hv with hv
  injection hv with hv
  subst hv hc
  have hcs' : (bv (m.take (l.length - j))).length = min m.length (l.length - j) := by rw [bv_length, List.length_take]; omega
  have hlen : (l.take j ++ m.take (l.length - j) ++ l.drop (j + min m.length (l.length - j))).length = l.length := by
    simp only [List.length_append, List.length_take, List.length_drop]; omega
  by_cases hz : min m.length (l.length - j) = 0
  · have hrun := run_copy_none (P := Try.prog) w 32 32 3 5 (some ⟨g, j, none⟩) a (l.length - j) cj m.length cm Try.underlying32 (by
      have := byte_info
      cases hq : Try.prog.info? 5 with
      | none => rw [hq] at this; cases this
      | some i => rw [hq] at this; simp at this; simp [this]) hz
    refine ⟨w, ⟨by rw [hrun, hz]; rfl⟩, ?_, World.grownBy.refl w _⟩
    have e : l.take j ++ m.take (l.length - j) ++ l.drop (j + min m.length (l.length - j)) = l := by
      have : m.take (l.length - j) = [] := List.eq_nil_of_length_eq_zero (by rw [List.length_take]; omega)
      rw [this, hz, List.append_nil, Nat.add_zero, List.take_append_drop]
    rw [e]
    exact ⟨h1, .inr ⟨g, c, cur, rfl, hb, hg, hnc, hcm, hcs, htk⟩⟩
  · obtain ⟨b, o, rfl, _⟩ := hr.lookup (k := 0) (by omega)
    have hrun := run_copy_row (P := Try.prog) w 32 32 3 5 g j (l.length - j) cj ⟨b, o, none⟩ m.length cm cur 5 (bv (m.take (l.length - j))) Try.underlying32 (by
      have := byte_info
      cases hq : Try.prog.info? 5 with
      | none => rw [hq] at this; cases this
      | some i => rw [hq] at this; simp at this; simp [this]) hg hcs' ((hr.take _).news) (by rw [hcs']; omega) (bv_one _)
    rw [hcs'] at hrun
    refine ⟨_, ⟨hrun⟩, ⟨by rw [hlen, bv_length, hlen, Nat.mul_one], .inr ⟨g, c, _, by rw [hlen], hb, setRow_heap w g _ _ _ _ hg, by rw [hlen]; exact hnc, hcm, ?_, ?_⟩⟩, ⟨rfl, rfl, rfl, by simp [World.setRow], fun k _ hne => setRow_other w g k _ (fun e => hne (by rw [e]))⟩⟩
    · simp only [List.size_toArray, List.length_append, List.length_take, List.length_drop, hcs', Array.length_toList]
      omega
    · rw [hlen, Nat.mul_one]
      rw [Nat.mul_one] at htk
      have hcl : cur.toList.length = c := by rw [Array.length_toList, hcs, Nat.mul_one]
      have e1 : cur.toList.take j = bv (l.take j) := by
        have := congrArg (List.take j) htk
        rw [List.take_take, Nat.min_eq_left hj] at this
        rw [this]
        exact (List.map_take ..).symm
      have e2 : (cur.toList.drop (j + min m.length (l.length - j))).take (l.length - (j + min m.length (l.length - j))) = bv (l.drop (j + min m.length (l.length - j))) := by
        have := congrArg (List.drop (j + min m.length (l.length - j))) htk
        rw [List.drop_take] at this
        rw [this]
        exact (List.map_drop ..).symm
      rw [List.toList_toArray, bv_append, bv_append, ← e1, ← e2, List.take_append, List.length_append, hcs', List.length_take, hcl, Nat.min_eq_left (by omega), List.take_of_length_le (by rw [List.length_append, List.length_take, hcs', hcl]; omega)]

set_option maxHeartbeats 1000000 in
theorem ones_any (n : Nat) (w : World) (hn : n ≤ 900000) : Calls Try.prog 58 #[vi n] w fun e w' => ∃ v', e = .returned v' ∧ Own w' w.heap.size v' (List.replicate n 255) ∧ Below w.heap.size w w' := by
  have hmk := make_bytes n (by omega)
  have HO := Lib.hid (own_zeros w n (by omega))
  have HB := Lib.hid ((Below.refl w.heap.size w).alloc (Nat.le_refl _) (.cells (madeCells #[vb 0] n) 5))
  go_enter Try.func58, Try.ntmps58
  go_wp2_with fail
  clear hmk
  generalize w.alloc (.cells (madeCells #[vb 0] n) 5) = w1 at *
  generalize hg : w.heap.size = g at *
  have HG := Lib.hid hg
  clear hg
  go_loopw [9] (fun i wr => ∃ k : Nat, k ≤ n ∧ i = vi k ∧ Hid (Own wr g (.slice (some ⟨g, 0, none⟩) n n) (List.replicate k 255 ++ List.replicate (n - k) 0)) ∧ Hid (Below g w wr)) (fun i _ => n - (intOf i).toNat)
  case atStart => exact ⟨0, Nat.zero_le _, rfl, HO, HB⟩
  case round =>
    obtain ⟨k, hk, rfl, ho, hb⟩ := hrel
    by_cases hlt : k < n
    · have hl : n = (List.replicate k 255 ++ List.replicate (n - k) 0).length := by simp; omega
      have hc := own_cell ho.out hl hlt
      have hf := own_frozen ho.out hl k
      have HS : Hid (Own (wr.setCell ⟨g, k, none⟩ (vb 255)) g (.slice (some ⟨g, 0, none⟩) n n) (List.replicate (k + 1) 255 ++ List.replicate (n - (k + 1)) 0)) := Lib.hid (by
        have := own_set ho.out hl k 255
        rw [List.set_append_right _ _ (by simp), List.length_replicate, Nat.sub_self, show n - k = (n - (k + 1)) + 1 by omega, List.replicate_succ, List.set_cons_zero] at this
        rw [List.replicate_succ', List.append_assoc]
        exact this)
      have HL := Lib.hid hl
      clear hl ho
      go_wp2_with fail
      go_roundw
      case rel => exact ⟨k + 1, by omega, by go_num, HS, Lib.hid (hb.out.setCell (Nat.le_refl _) _)⟩
      case measure => simp [intOf]; omega
    · obtain rfl : k = n := by omega
      have ho' := ho.out
      rw [Nat.sub_self, List.replicate_zero, List.append_nil] at ho'
      have HO' := Lib.hid ho'
      clear ho ho'
      go_wp2_with fail
      go_ret
      exact ⟨_, rfl, by rw [HG.out]; exact HO'.out, by rw [HG.out]; exact hb.out⟩

set_option maxHeartbeats 1000000 in
theorem Clone_any (a : Option Addr) (l : List Nat) (c : Nat) (w : World) (h : BRow w a l) (hl : l.length ≤ 900000) :
    Calls Try.prog 60 #[.slice a l.length c] w fun e w' => ∃ v', e = .returned v' ∧ Own w' w.heap.size v' l ∧ Below w.heap.size w w' := by
  have hen := fun (w : World) (a : Option Addr) (n c : Nat) => Lib.run_eql_slice_nil (P := Try.prog) w 32 5 a n c 0 0 Try.underlying32
  cases a with
  | none =>
    have h0 : l = [] := by
      rcases h.at_ with h | ⟨b, o, he, _⟩
      · exact h
      · cases he
    subst h0
    go_enter Try.func60, Try.ntmps60
    go_wp2_with fail
    go_ret
    exact ⟨_, rfl, Own.nil _ _, Below.refl _ _⟩
  | some ad =>
    obtain ⟨v', w', hrun, ho, hs⟩ := append_bytes (c := c) (Own.lit (Nat.le_refl w.heap.size) [] (by simp) (cs := #[]) rfl) (h.below ((Below.refl _ w).alloc (Nat.le_refl _) _)) (by simp; omega) (by simp)
    have R : AppRun 32 32 32 (.slice (some ⟨w.heap.size, 0, none⟩) 0 0) (.slice (some ad) l.length c) (w.alloc (.cells #[] 5)) v' w' := ⟨hrun⟩
    have HB := Lib.hid (((Below.refl w.heap.size w).alloc (Nat.le_refl _) (.cells #[] 5)).trans hs.below)
    have HO := Lib.hid ho
    clear hrun ho hs
    go_enter Try.func60, Try.ntmps60
    go_wp2_with (at_builtin; refine wpList_append_run rfl (.tmp 5) (.tmp 6) rfl rfl rfl R.run ?_)
    go_ret
    exact ⟨_, rfl, HO.out, HB.out⟩

set_option maxHeartbeats 1000000 in
theorem torn_any {base k : Nat} {M : ChM} {w : World} (h : ChipAt base w k M) (hS : M.S ≤ 512) (a : Option Addr) (l : List Nat) (c : Nat) (hr : BRow w a l) :
    Calls Try.prog 75 #[ptr k, .slice a l.length c] w fun e w' => ∃ v', e = .returned v' ∧ Own w' w.heap.size v' (NP.torn (M.S + 32) l) ∧ Below w.heap.size w w' := by
  have HC := Lib.hid h
  have HR := Lib.hid hr
  clear h hr
  go_enter Try.func75, Try.ntmps75
  go_wp2_with fail
  refine (full_any HC.out hS).mono ?_
  rintro e w' ⟨rfl, rfl⟩
  go_wp2_with fail
  refine (ones_any (M.S + 32) _ (by omega)).mono ?_
  rintro e w2 ⟨v2, rfl, ho2, hb2⟩
  rcases ho2.2 with ⟨_, h0⟩ | ⟨g, cap, cur, hv, hg, _⟩
  · simp at h0
  rw [List.length_replicate] at hv
  subst hv
  obtain ⟨w3, hrun, ho3, hg3⟩ := copy_bytes ho2 (List.length_replicate ..).symm 0 (Nat.zero_le _) (HR.out.below hb2) c cap
  have HRun := Lib.hid hrun
  have HO3 : Hid (Own w3 w'.heap.size (.slice (some ⟨g, 0, none⟩) (M.S + 32) cap) (NP.torn (M.S + 32) l)) := Lib.hid (by
    have e : NP.torn (M.S + 32) l = (List.replicate (M.S + 32) 255).take 0 ++ l.take (M.S + 32 - 0) ++ (List.replicate (M.S + 32) 255).drop (0 + min l.length (M.S + 32 - 0)) := by
      simp only [NP.torn, List.take_zero, List.nil_append, Nat.sub_zero, Nat.zero_add, List.drop_replicate]
      congr 2
      omega
    rw [e]
    exact ho3)
  have HB3 := Lib.hid (hb2.grown hg3 hb2.size (fun x hx => by injection hx with hx; omega))
  clear hrun ho3 hg3 ho2
  go_wp2_with (refine wpList_copy_run rfl (.tmp 9) (.tmp 10) rfl rfl rfl HRun.out ?_)
  go_ret
  exact ⟨_, rfl, HO3.out, HB3.out⟩

end Go.Proofs.Ytpggkehfbhffbaa

/-
  One byte many times; a page put; is a block bad, how often was it erased. Conditions: fewer than 900000 bytes.
-/
namespace Go.Proofs.Ytpggkehfbhffbaa
open Go.RowKit

theorem and_one : bits .and .u64 (1 : Int) 4294967295 = 1 := by kernel_rfl
theorem and_low (n : Nat) (h : n ≤ 900000) : bits .and .u64 (n : Int) 4294967295 = (n : Int) := by
  have h1 := bits_and_u64_nat n 4294967295 (by omega) (by omega)
  rw [show n &&& 4294967295 = n by
    have := Nat.and_two_pow_sub_one_eq_mod n 32
    rw [show (2 : Nat) ^ 32 - 1 = 4294967295 by decide] at this
    rw [this]
    exact Nat.mod_eq_of_lt (by omega)] at h1
  exact h1
set_option maxHeartbeats 1000000 in
theorem Mul64_one (n : Nat) (w : World) (hn : n ≤ 900000) : Calls Try.prog 130 #[vq 1, vq n] w fun e w' => e = .returned (.tuple #[vq 0, vq n]) ∧ w' = w := by
  have h1 := and_one
  have h2 := and_low n hn
  have h3 : bits .and .u64 (0 : Int) 4294967295 = 0 := by kernel_rfl
  have h4 : (n : Int) / 4294967296 = 0 := by omega
  go_enter Try.func130, Try.ntmps130
  go_wp2_with fail
  go_ret2
  simp

theorem Mul_one (n : Nat) (w : World) (hn : n ≤ 900000) : Calls Try.prog 126 #[vq 1, vq n] w fun e w' => e = .returned (.tuple #[vq 0, vq n]) ∧ w' = w := by
  go_enter Try.func126, Try.ntmps126
  go_wp2_with fail
  refine (Mul64_one n w hn).mono ?_
  rintro e w' ⟨rfl, rfl⟩
  go_wp2_with fail
  go_ret2
  exact ⟨rfl, rfl⟩

theorem step_copy {w w' : World} {ops : Array Oper} {o : Oper} {a : Act} {K : Act → World → Prop} {Q : Exit → Act → World → Prop} {E : Prop} (s x : Operand) {t u : TypeId} {v src v' : Value}
    (hrun : CopyRun t u o.type v src w v' w') (hgd : o.guard = none) (ho : o.op = .call { callee := .builtin .copy, args := #[s, x], argTypes := #[t, u] }) (hs : a.eval s = v) (hx : a.eval x = src) (h : K (a.put o.dst v') w') : if Region.wanted o (yielded ops a.tmps) = true then Oper.wp Try.prog o a w K Q else E := by
  have hw : Region.wanted o (yielded ops a.tmps) = true := by simp [Region.wanted, hgd]
  rw [if_pos hw]
  unfold Oper.wp execOp
  simp only [ho, resolve, invoke, builtin, Sem.run_bind, Sem.run_pure, Result.andThen_ok, List.map_toArray, List.map_cons, List.map_nil, hs, hx, hrun.run]
  exact h

theorem rep_step (n q y : Nat) (hq : q ≤ n) : (List.replicate q y ++ List.replicate (n - q) 0).take q ++ (List.replicate q y).take (n - q) ++ (List.replicate q y ++ List.replicate (n - q) 0).drop (q + min q (n - q)) = List.replicate (q + min q (n - q)) y ++ List.replicate (n - (q + min q (n - q))) 0 := by
  have e1 : (List.replicate q y ++ List.replicate (n - q) 0).take q = List.replicate q y := by
    rw [List.take_append_of_le_length (by simp), List.take_of_length_le (by simp)]
  have e2 : (List.replicate q y).take (n - q) = List.replicate (min q (n - q)) y := by
    rw [List.take_replicate, Nat.min_comm]
  have e3 : (List.replicate q y ++ List.replicate (n - q) 0).drop (q + min q (n - q)) = List.replicate (n - (q + min q (n - q))) 0 := by
    rw [List.drop_append, List.drop_eq_nil_of_le (by simp), List.nil_append, List.length_replicate, List.drop_replicate]
    congr 1
    omega
  rw [e1, e2, e3, ← List.replicate_append_replicate]

set_option maxRecDepth 100000 in
set_option maxHeartbeats 2000000 in
theorem Repeat_any (a : Option Addr) (y n c : Nat) (w : World) (h : BRow w a [y]) (hn : n ≤ 900000) (hn1 : 1 ≤ n) :
    Calls Try.prog 102 #[.slice a 1 c, vi n] w fun e w' => ∃ v', e = .returned v' ∧ Own w' w.heap.size v' (List.replicate n y) ∧ Below w.heap.size w w' := by
  have hmk := make_bytes n (by omega)
  have HO := Lib.hid (own_zeros w n (by omega))
  have HB := Lib.hid ((Below.refl w.heap.size w).alloc (Nat.le_refl _) (.cells (madeCells #[vb 0] n) 5))
  have HR := Lib.hid (h.below ((Below.refl w.heap.size w).alloc (Nat.le_refl _) (.cells (madeCells #[vb 0] n) 5)))
  have HR0 := Lib.hid (h.small y (by simp))
  clear h
  go_enter Try.func102, Try.ntmps102
  go_wp2_with fail
  refine (Mul_one n w hn).mono ?_
  rintro e w' ⟨rfl, rfl⟩
  obtain ⟨w2, hrun, ho, hg⟩ := copy_bytes HO.out (List.length_replicate ..).symm 0 (Nat.zero_le _) HR.out c n
  rw [show min [y].length (n - 0) = 1 by simp; omega] at hrun
  have HRun := Lib.hid hrun
  have HO2 : Hid (Own w2 w'.heap.size (.slice (some ⟨w'.heap.size, 0, none⟩) n n) (List.replicate 1 y ++ List.replicate (n - 1) 0)) := Lib.hid (by
    have e : List.replicate 1 y ++ List.replicate (n - 1) 0 = (List.replicate n 0).take 0 ++ [y].take (n - 0) ++ (List.replicate n 0).drop (0 + min [y].length (n - 0)) := by
      rw [show min [y].length (n - 0) = 1 by simp; omega, List.take_of_length_le (l := [y]) (by simp; omega), List.take_zero, List.drop_replicate]
      rfl
    rw [e]
    exact ho)
  have HB2 := Lib.hid (HB.out.grown hg (by simp) (fun x hx => by injection hx with hx; omega))
  clear hrun ho hg
  go_wp2_with (refine wpList_copy_run rfl (.tmp 31) (.tmp 32) rfl rfl rfl HRun.out ?_)
  clear hmk HRun HO HB HR
  generalize hgg : w'.heap.size = g at *
  have HG := Lib.hid hgg
  clear hgg
  go_loopw [8] (fun i wr => ∃ q : Nat, 1 ≤ q ∧ q ≤ n ∧ i = vi q ∧ Hid (Own wr g (.slice (some ⟨g, 0, none⟩) n n) (List.replicate q y ++ List.replicate (n - q) 0)) ∧ Hid (Below g w' wr)) (fun i _ => n - (intOf i).toNat)
  case atStart => exact ⟨1, Nat.le_refl _, hn1, rfl, HO2, HB2⟩
  case round =>
    obtain ⟨q, hq1, hq, rfl, ho, hb⟩ := hrel
    by_cases hlt : q < n
    · have hl : n = (List.replicate q y ++ List.replicate (n - q) 0).length := by simp; omega
      obtain ⟨ar, cr, hv, hrow, -⟩ := ho.out.drew.row (by
        have hy := ho.out
        intro x hx
        rcases List.mem_append.1 hx with hx | hx
        · rw [(List.mem_replicate.1 hx).2]
          exact HR0.out
        · rw [(List.mem_replicate.1 hx).2]; omega)
      rw [← hl] at hv
      injection hv with hv _ hv2
      subst hv hv2
      have hrq := hrow.take q
      rw [List.take_append_of_le_length (by simp), List.take_of_length_le (by simp)] at hrq
      obtain ⟨w3, hrun, ho3, hg3⟩ := copy_bytes ho.out.drew hl q hq hrq n (n - q)
      rw [List.length_replicate] at hrun ho3
      rw [rep_step n q y hq] at ho3
      have RC : CopyRun 32 32 3 (.slice (some ⟨g, q, none⟩) (n - q) (n - q)) (.slice (some ⟨g, 0, none⟩) q n) wr.drew (vi (min q (n - q) : Nat)) w3 := hrun
      generalize hmm : min q (n - q) = mm at *
      have hmm1 : 1 ≤ mm ∧ mm ≤ n - q := by omega
      clear hmm
      have hws : IntKind.i64.wrap ((q : Int) + (mm : Int)) = (q : Int) + (mm : Int) := IntWalk.i64_in _ (by omega)
      have HO3 := Lib.hid ho3
      have HB3 := Lib.hid (hb.out.drew.grown hg3 (show g ≤ wr.heap.size by have := hb.out.size; have := HG.out; omega) (fun x hx => by injection hx with hx; omega))
      have hs1 : (0 : Int) ≤ (q : Int) := by omega
      have hs2 : (q : Int) ≤ (n : Int) := by omega
      have hs3 : ¬ n = q := by omega
      clear hrun ho3 hg3 hrow hrq ho hb hl
      go_wp2_with fail
      go_region_law (refine step_copy (.tmp 41) (.tmp 44) RC (by rfl) (by rfl) (by go_simp) (by go_simp) ?_)
      all_goals
        go_simp
        go_roundw
        case rel => exact ⟨_, _, _, _, _, _, _, _, _, _, _, _, _, _, ⟨q + mm, by omega, by omega, by go_num, HO3, HB3⟩, rfl⟩
        case measure => simp [intOf]; omega
    · obtain rfl : q = n := by omega
      have ho' := ho.out
      rw [Nat.sub_self, List.replicate_zero, List.append_nil] at ho'
      have HO' := Lib.hid ho'
      clear ho ho'
      go_wp2_with fail
      go_ret
      exact ⟨_, rfl, by rw [HG.out]; exact HO'.out, by rw [HG.out]; exact hb.out⟩

section
variable {base : Nat} {w : World} {k : Nat} {M : ChM}
def badM (M : ChM) (j : Int) : Bool := if 0 ≤ j ∧ j < M.bs.length then (M.bs.getD j.toNat default).bad else true
def wearM (M : ChM) (j : Int) : Int := if 0 ≤ j ∧ j < M.bs.length then (M.bs.getD j.toNat default).wear else 0
theorem Bad_any (h : ChipAt base w k M) (j : Int) : Calls Try.prog 26 #[ptr k, vi j] w fun e w' => e = .returned (.bool (badM M j)) ∧ w' = w := by
  obtain ⟨c0, c1, c2, c3, c4, c5, c6, c7, c8⟩ := h.cells
  by_cases hj : 0 ≤ j ∧ j < M.bs.length
  · obtain ⟨i, rfl⟩ : ∃ i : Nat, j = i := ⟨j.toNat, by omega⟩
    have hi : i < M.bs.length := by omega
    have ht := Lib.hid (show thereB M i = true by simp [thereB]; omega)
    have hc : w.cell? ⟨M.kb, i * 5 + 3, none⟩ = some (.bool (M.bs.getD i default).bad) := h.bcell hi (j := 3) (by decide)
    have HC := Lib.hid h
    have HJ := Lib.hid hj
    generalize hb : (M.bs.getD i default).bad = b at *
    have HB := Lib.hid hb
    clear h c0 c1 c2 c4 c5 c6 c7 c8 hj hb
    go_enter Try.func26, Try.ntmps26
    go_wp2_with fail
    refine (there_any HC.out i).mono ?_
    rintro e w' ⟨rfl, rfl⟩
    rw [ht.out]
    go_wp2_with fail
    go_ret
    exact ⟨ret_bool (by rw [badM, if_pos HJ.out, Int.toNat_natCast, HB.out]), rfl⟩
  · have ht := Lib.hid (show thereB M j = false by simp [thereB]; omega)
    have HC := Lib.hid h
    have HJ := Lib.hid hj
    clear h c0 c1 c2 c3 c4 c5 c6 c7 c8 hj
    go_enter Try.func26, Try.ntmps26
    go_wp2_with fail
    refine (there_any HC.out j).mono ?_
    rintro e w' ⟨rfl, rfl⟩
    rw [ht.out]
    go_wp2_with fail
    go_ret
    exact ⟨ret_bool (by rw [badM, if_neg HJ.out]), rfl⟩
theorem Wear_any (h : ChipAt base w k M) (j : Int) : Calls Try.prog 34 #[ptr k, vi j] w fun e w' => e = .returned (vi (wearM M j)) ∧ w' = w := by
  obtain ⟨c0, c1, c2, c3, c4, c5, c6, c7, c8⟩ := h.cells
  by_cases hj : 0 ≤ j ∧ j < M.bs.length
  · obtain ⟨i, rfl⟩ : ∃ i : Nat, j = i := ⟨j.toNat, by omega⟩
    have hi : i < M.bs.length := by omega
    have ht := Lib.hid (show thereB M i = true by simp [thereB]; omega)
    have hc : w.cell? ⟨M.kb, i * 5 + 4, none⟩ = some (vi (M.bs.getD i default).wear) := h.bcell hi (j := 4) (by decide)
    have HC := Lib.hid h
    have HJ := Lib.hid hj
    generalize hb : (M.bs.getD i default).wear = b at *
    have HB := Lib.hid hb
    clear h c0 c1 c2 c4 c5 c6 c7 c8 hj hb
    go_enter Try.func34, Try.ntmps34
    go_wp2_with fail
    refine (there_any HC.out i).mono ?_
    rintro e w' ⟨rfl, rfl⟩
    rw [ht.out]
    go_wp2_with fail
    go_ret
    exact ⟨ret_int (by rw [wearM, if_pos HJ.out, Int.toNat_natCast, HB.out]), rfl⟩
  · have ht := Lib.hid (show thereB M j = false by simp [thereB]; omega)
    have HC := Lib.hid h
    have HJ := Lib.hid hj
    clear h c0 c1 c2 c3 c4 c5 c6 c7 c8 hj
    go_enter Try.func34, Try.ntmps34
    go_wp2_with fail
    refine (there_any HC.out j).mono ?_
    rintro e w' ⟨rfl, rfl⟩
    rw [ht.out]
    go_wp2_with fail
    go_ret
    exact ⟨ret_int (by rw [wearM, if_neg HJ.out]), rfl⟩

/-- A chip whose block's next page is put. -/
def putM (M : ChM) (i : Nat) (q : PgM) : ChM := { M with bs := M.bs.set i { M.bs.getD i default with ps := (M.bs.getD i default).ps.set (M.bs.getD i default).next q, next := (M.bs.getD i default).next + 1 } }
theorem getD_map {α β : Type} {f : α → β} {l : List α} {i : Nat} {d : α} {d' : β} (h : i < l.length) : (l.map f).getD i d' = f (l.getD i d) := by
  simp [List.getD_eq_getElem?_getD, List.getElem?_eq_getElem h]
theorem view_blk {M : ChM} {i : Nat} (h : i < M.bs.length) : M.view.blk i = (M.bs.getD i default).view := getD_map h
theorem putM_view {M : ChM} {i : Nat} {q : PgM} (h : i < M.bs.length) : (putM M i q).view = NP.putP M.view i q.l := by
  unfold putM NP.putP NP.setBlk
  dsimp only
  rw [view_blk h]
  simp [ChM.view, BloM.view, List.map_set]
set_option maxRecDepth 100000 in
set_option maxHeartbeats 1000000 in
theorem put_any (h : ChipAt base w k M) (i : Nat) (hi : i < M.bs.length) (hn : (M.bs.getD i default).next < (M.bs.getD i default).ps.length) (hp : (M.bs.getD i default).ps.length ≤ 32) (q : PgM) (hq : q.ok base w) :
    Calls Try.prog 74 #[.pointer (some ⟨M.kb, i * 5, none⟩), q.v] w fun e w' => e = .returned (.tuple #[]) ∧ Goes base w k M w' (putM M i q) := by
  have hD := getD_mem (d := default) hi
  have c0 : w.cell? ⟨M.kb, i * 5, none⟩ = _ := h.bcell hi (j := 0) (by decide)
  have c1 : w.cell? ⟨M.kb, i * 5 + 1, none⟩ = some (vi (M.bs.getD i default).next) := h.bcell hi (j := 1) (by decide)
  have cp := h.pcell hi hn
  have z1 := h.blocks.frozen (i * 5 + 1)
  have zp := (h.pages _ hD).frozen (M.bs.getD i default).next
  have hne := (h.g_ne hD).2
  have G1 := (h.old (Below.refl _ _).drew).page hi (p := (M.bs.getD i default).next) q (hq.chg (F := fun _ => False) (Chg.of_below (Below.refl _ _).drew) (fun _ e => e.elim))
  have hi1 : i < (M.bs.set i { M.bs.getD i default with ps := (M.bs.getD i default).ps.set (M.bs.getD i default).next q }).length := by simpa using hi
  have hg1 : (M.bs.set i { M.bs.getD i default with ps := (M.bs.getD i default).ps.set (M.bs.getD i default).next q }).getD i default = { M.bs.getD i default with ps := (M.bs.getD i default).ps.set (M.bs.getD i default).next q } := by
    rw [NP.getD_set _ _ _ _ _ hi, if_pos rfl]
  have G2 := G1.at_.bfield (i := i) (j := 1) hi1 (by decide) (vi ((M.bs.getD i default).next + 1 : Nat)) { M.bs.getD i default with ps := (M.bs.getD i default).ps.set (M.bs.getD i default).next q, next := (M.bs.getD i default).next + 1 } (by dsimp only; rw [hg1]; rfl) (by dsimp only; rw [hg1]) (by dsimp only; rw [hg1]) (by dsimp only; rw [hg1])
  have HG : Hid (Goes base w k M _ (putM M i q)) := Lib.hid (by
    have := (Goes.of_old h (Below.refl _ _).drew).trans (G1.trans G2)
    dsimp only at this
    rw [List.set_set] at this
    exact this)
  simp only [BloM.cells, List.getElem?_cons_zero] at c0
  clear G1 G2 hi1 hg1 hD h hq
  generalize M.bs.getD i default = x at *
  obtain ⟨xg, xc, xps, xn, xb, xd, xw⟩ := x
  dsimp only at *
  go_enter Try.func74, Try.ntmps74
  have hs1 : (0 : Int) ≤ (xn : Int) := by omega
  have hs2 : (xn : Int) < (xps.length : Int) := by omega
  have hne' : ¬ M.kb = xg := fun e => hne e.symm
  go_wp2_with fail
  go_still_tail 10, (by kernel_rfl)
  change wpList _ _ _ _ _ w.drew
  go_wp2_with fail
  go_end0
  exact ⟨rfl, HG.out⟩
end

end Go.Proofs.Ytpggkehfbhffbaa

