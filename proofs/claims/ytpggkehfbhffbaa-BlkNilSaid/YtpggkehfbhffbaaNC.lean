/-
  Rows of bytes that are made: bytes 255, bytes that are torn, one byte many times, bytes again. Conditions: fewer than 900000 bytes.
-/
import Derived.Test.YtpggkehfbhffbaaNB
import Derived.Laws.CopyOwn
import Derived.Deep.OwnRows
import Derived.Laws.Bits64b
import Derived.StillTailTactics
namespace Go.Proofs.Ytpggkehfbhffbaa
open Go.RowKit

/-- An append's, a copy's run. -/
structure AppRun (t u ty : TypeId) (v src : Value) (w : World) (v' : Value) (w' : World) : Prop where
  run : (Builtin.append_ #[t, u] ty #[v, src]).run Try.prog w = .ok v' w'
structure CopyRun (t u ty : TypeId) (v src : Value) (w : World) (v' : Value) (w' : World) : Prop where
  run : (Builtin.copy_ #[t, u] ty #[v, src]).run Try.prog w = .ok v' w'
theorem wpList_copy_run {w w' : World} {ops : Array Oper} {rest : List Oper} {o : Oper} {a : Act} {Q : Exit → Act → World → Prop} (hgd : o.guard = none) (s x : Operand) {t u : TypeId}
    (ho : o.op = .call { callee := .builtin .copy, args := #[s, x], argTypes := #[t, u] }) {v src v' : Value} (hs : a.eval s = v) (hx : a.eval x = src)
    (hrun : CopyRun t u o.type v src w v' w') (h : wpList Try.prog ops Q rest (a.put o.dst v') w') : wpList Try.prog ops Q (o :: rest) a w := by
  refine wpList_plain hgd fun K hK => ?_
  unfold Oper.wp execOp
  simp only [ho, resolve, invoke, builtin, Sem.run_bind, Sem.run_pure, Result.andThen_ok, List.map_toArray, List.map_cons, List.map_nil, hs, hx, hrun.run]
  exact hK _ _ h

/-- A byte stored into a row of the call's own. -/
theorem own_set {w : World} {base g n c : Nat} {l : List Nat} (h : Own w base (.slice (some ⟨g, 0, none⟩) n c) l) (hn : n = l.length) (j x : Nat) :
    Own (w.setCell ⟨g, j, none⟩ (vb x)) base (.slice (some ⟨g, 0, none⟩) n c) (l.set j x) := by
  subst hn
  have := (World.ownsRow.stored h j (vb x)).1
  unfold Own bv
  rw [List.length_set, List.map_set]
  exact this
theorem own_frozen {w : World} {base g n c : Nat} {l : List Nat} (h : Own w base (.slice (some ⟨g, 0, none⟩) n c) l) (hn : n = l.length) (j : Nat) : w.frozen? ⟨g, j, none⟩ = false := by
  subst hn
  exact World.ownsRow.frozenAt h j
theorem own_cell {w : World} {base g n c : Nat} {l : List Nat} (h : Own w base (.slice (some ⟨g, 0, none⟩) n c) l) (hn : n = l.length) {j : Nat} (hj : j < n) : w.cell? ⟨g, j, none⟩ = some (vb (l.getD j 0)) := by
  subst hn
  rw [World.ownsRow.cellAt h j (by omega), bv_get hj]
/-- Zeros. -/
theorem own_zeros (w : World) (n : Nat) (hn : n ≤ 1000000) : Own (w.alloc (.cells (madeCells #[vb 0] n) 5)) w.heap.size (.slice (some ⟨w.heap.size, 0, none⟩) n n) (List.replicate n 0) := by
  have := World.ownsRow_lit (base := w.heap.size) (size := 1) (e := 5) w (madeCells #[vb 0] n) n (Nat.le_refl _) (by unfold maxLen; omega) (by simp [madeCells])
  rw [toList_madeCells_one] at this
  unfold Own bv
  rw [List.length_replicate, List.map_replicate]
  exact this
theorem make_bytes (n : Nat) (hn : n ≤ 1000000) (w : World) : (Instr.makeSlice 32 (.int .i64 (n : Int)) (.int .i64 (n : Int))).run Try.prog w = .ok (.slice (some ⟨w.heap.size, 0, none⟩) n n) (w.alloc (.cells (madeCells #[vb 0] n) 5)) :=
  run_make_row' 32 5 (vb 0) 1 Try.underlying32 byte_info rfl .i64 .i64 n (by omega) (by omega) w
/-- A copy into a row of the call's own. -/
theorem copy_bytes {w : World} {base g n c : Nat} {l m : List Nat} (h : Own w base (.slice (some ⟨g, 0, none⟩) n c) l) (hn : n = l.length) (j : Nat) (hj : j ≤ n) {a : Option Addr} (hr : BRow w a m) (cm : Nat) (cj : Nat) :
    ∃ w', CopyRun 32 32 3 (.slice (some ⟨g, j, none⟩) (n - j) cj) (.slice a m.length cm) w (vi (min m.length (n - j) : Nat)) w' ∧
      Own w' base (.slice (some ⟨g, 0, none⟩) n c) (l.take j ++ m.take (n - j) ++ l.drop (j + min m.length (n - j))) ∧ w.grownBy w' (some g) := by
  subst hn
  obtain ⟨h1, h2⟩ := h
  rcases h2 with ⟨h2, _⟩ | ⟨g', cap, cur, hv, hb, hg, hnc, hcm, hcs, htk⟩
  · cases h2
  injection hv with hv _ hc
  injection hv with hv
  injection hv with hv
  subst hv hc
  have hcs' : (bv (m.take (l.length - j))).length = min m.length (l.length - j) := by rw [bv_length, List.length_take]; omega
  have hlen : (l.take j ++ m.take (l.length - j) ++ l.drop (j + min m.length (l.length - j))).length = l.length := by
    simp only [List.length_append, List.length_take, List.length_drop]; omega
  by_cases hz : min m.length (l.length - j) = 0
  · have hrun := run_copy_none (P := Try.prog) w 32 32 3 5 (some ⟨g, j, none⟩) a (l.length - j) cj m.length cm Try.underlying32 (by
      have := byte_info
      cases hq : Try.prog.info? 5 with
      | none => rw [hq] at this; cases this
      | some i => rw [hq] at this; simp at this; simp [this]) hz
    refine ⟨w, ⟨by rw [hrun, hz]; rfl⟩, ?_, World.grownBy.refl w _⟩
    have e : l.take j ++ m.take (l.length - j) ++ l.drop (j + min m.length (l.length - j)) = l := by
      have : m.take (l.length - j) = [] := List.eq_nil_of_length_eq_zero (by rw [List.length_take]; omega)
      rw [this, hz, List.append_nil, Nat.add_zero, List.take_append_drop]
    rw [e]
    exact ⟨h1, .inr ⟨g, c, cur, rfl, hb, hg, hnc, hcm, hcs, htk⟩⟩
  · obtain ⟨b, o, rfl, _⟩ := hr.lookup (k := 0) (by omega)
    have hrun := run_copy_row (P := Try.prog) w 32 32 3 5 g j (l.length - j) cj ⟨b, o, none⟩ m.length cm cur 5 (bv (m.take (l.length - j))) Try.underlying32 (by
      have := byte_info
      cases hq : Try.prog.info? 5 with
      | none => rw [hq] at this; cases this
      | some i => rw [hq] at this; simp at this; simp [this]) hg hcs' ((hr.take _).news) (by rw [hcs']; omega) (bv_one _)
    rw [hcs'] at hrun
    refine ⟨_, ⟨hrun⟩, ⟨by rw [hlen, bv_length, hlen, Nat.mul_one], .inr ⟨g, c, _, by rw [hlen], hb, setRow_heap w g _ _ _ _ hg, by rw [hlen]; exact hnc, hcm, ?_, ?_⟩⟩, ⟨rfl, rfl, rfl, by simp [World.setRow], fun k _ hne => setRow_other w g k _ (fun e => hne (by rw [e]))⟩⟩
    · simp only [List.size_toArray, List.length_append, List.length_take, List.length_drop, hcs', Array.length_toList]
      omega
    · rw [hlen, Nat.mul_one]
      rw [Nat.mul_one] at htk
      have hcl : cur.toList.length = c := by rw [Array.length_toList, hcs, Nat.mul_one]
      have e1 : cur.toList.take j = bv (l.take j) := by
        have := congrArg (List.take j) htk
        rw [List.take_take, Nat.min_eq_left hj] at this
        rw [this]
        exact (List.map_take ..).symm
      have e2 : (cur.toList.drop (j + min m.length (l.length - j))).take (l.length - (j + min m.length (l.length - j))) = bv (l.drop (j + min m.length (l.length - j))) := by
        have := congrArg (List.drop (j + min m.length (l.length - j))) htk
        rw [List.drop_take] at this
        rw [this]
        exact (List.map_drop ..).symm
      rw [List.toList_toArray, bv_append, bv_append, ← e1, ← e2, List.take_append, List.length_append, hcs', List.length_take, hcl, Nat.min_eq_left (by omega), List.take_of_length_le (by rw [List.length_append, List.length_take, hcs', hcl]; omega)]

set_option maxHeartbeats 1000000 in
theorem ones_any (n : Nat) (w : World) (hn : n ≤ 900000) : Calls Try.prog 58 #[vi n] w fun e w' => ∃ v', e = .returned v' ∧ Own w' w.heap.size v' (List.replicate n 255) ∧ Below w.heap.size w w' := by
  have hmk := make_bytes n (by omega)
  have HO := Lib.hid (own_zeros w n (by omega))
  have HB := Lib.hid ((Below.refl w.heap.size w).alloc (Nat.le_refl _) (.cells (madeCells #[vb 0] n) 5))
  go_enter Try.func58, Try.ntmps58
  go_wp2_with fail
  clear hmk
  generalize w.alloc (.cells (madeCells #[vb 0] n) 5) = w1 at *
  generalize hg : w.heap.size = g at *
  have HG := Lib.hid hg
  clear hg
  go_loopw [9] (fun i wr => ∃ k : Nat, k ≤ n ∧ i = vi k ∧ Hid (Own wr g (.slice (some ⟨g, 0, none⟩) n n) (List.replicate k 255 ++ List.replicate (n - k) 0)) ∧ Hid (Below g w wr)) (fun i _ => n - (intOf i).toNat)
  case atStart => exact ⟨0, Nat.zero_le _, rfl, HO, HB⟩
  case round =>
    obtain ⟨k, hk, rfl, ho, hb⟩ := hrel
    by_cases hlt : k < n
    · have hl : n = (List.replicate k 255 ++ List.replicate (n - k) 0).length := by simp; omega
      have hc := own_cell ho.out hl hlt
      have hf := own_frozen ho.out hl k
      have HS : Hid (Own (wr.setCell ⟨g, k, none⟩ (vb 255)) g (.slice (some ⟨g, 0, none⟩) n n) (List.replicate (k + 1) 255 ++ List.replicate (n - (k + 1)) 0)) := Lib.hid (by
        have := own_set ho.out hl k 255
        rw [List.set_append_right _ _ (by simp), List.length_replicate, Nat.sub_self, show n - k = (n - (k + 1)) + 1 by omega, List.replicate_succ, List.set_cons_zero] at this
        rw [List.replicate_succ', List.append_assoc]
        exact this)
      have HL := Lib.hid hl
      clear hl ho
      go_wp2_with fail
      go_roundw
      case rel => exact ⟨k + 1, by omega, by go_num, HS, Lib.hid (hb.out.setCell (Nat.le_refl _) _)⟩
      case measure => simp [intOf]; omega
    · obtain rfl : k = n := by omega
      have ho' := ho.out
      rw [Nat.sub_self, List.replicate_zero, List.append_nil] at ho'
      have HO' := Lib.hid ho'
      clear ho ho'
      go_wp2_with fail
      go_ret
      exact ⟨_, rfl, by rw [HG.out]; exact HO'.out, by rw [HG.out]; exact hb.out⟩

set_option maxHeartbeats 1000000 in
theorem Clone_any (a : Option Addr) (l : List Nat) (c : Nat) (w : World) (h : BRow w a l) (hl : l.length ≤ 900000) :
    Calls Try.prog 60 #[.slice a l.length c] w fun e w' => ∃ v', e = .returned v' ∧ Own w' w.heap.size v' l ∧ Below w.heap.size w w' := by
  have hen := fun (w : World) (a : Option Addr) (n c : Nat) => Lib.run_eql_slice_nil (P := Try.prog) w 32 5 a n c 0 0 Try.underlying32
  cases a with
  | none =>
    have h0 : l = [] := by
      rcases h.at_ with h | ⟨b, o, he, _⟩
      · exact h
      · cases he
    subst h0
    go_enter Try.func60, Try.ntmps60
    go_wp2_with fail
    go_ret
    exact ⟨_, rfl, Own.nil _ _, Below.refl _ _⟩
  | some ad =>
    obtain ⟨v', w', hrun, ho, hs⟩ := append_bytes (c := c) (Own.lit (Nat.le_refl w.heap.size) [] (by simp) (cs := #[]) rfl) (h.below ((Below.refl _ w).alloc (Nat.le_refl _) _)) (by simp; omega) (by simp)
    have R : AppRun 32 32 32 (.slice (some ⟨w.heap.size, 0, none⟩) 0 0) (.slice (some ad) l.length c) (w.alloc (.cells #[] 5)) v' w' := ⟨hrun⟩
    have HB := Lib.hid (((Below.refl w.heap.size w).alloc (Nat.le_refl _) (.cells #[] 5)).trans hs.below)
    have HO := Lib.hid ho
    clear hrun ho hs
    go_enter Try.func60, Try.ntmps60
    go_wp2_with (at_builtin; refine wpList_append_run rfl (.tmp 5) (.tmp 6) rfl rfl rfl R.run ?_)
    go_ret
    exact ⟨_, rfl, HO.out, HB.out⟩

set_option maxHeartbeats 1000000 in
theorem torn_any {base k : Nat} {M : ChM} {w : World} (h : ChipAt base w k M) (hS : M.S ≤ 512) (a : Option Addr) (l : List Nat) (c : Nat) (hr : BRow w a l) :
    Calls Try.prog 75 #[ptr k, .slice a l.length c] w fun e w' => ∃ v', e = .returned v' ∧ Own w' w.heap.size v' (NP.torn (M.S + 32) l) ∧ Below w.heap.size w w' := by
  have HC := Lib.hid h
  have HR := Lib.hid hr
  clear h hr
  go_enter Try.func75, Try.ntmps75
  go_wp2_with fail
  refine (full_any HC.out hS).mono ?_
  rintro e w' ⟨rfl, rfl⟩
  go_wp2_with fail
  refine (ones_any (M.S + 32) _ (by omega)).mono ?_
  rintro e w2 ⟨v2, rfl, ho2, hb2⟩
  rcases ho2.2 with ⟨_, h0⟩ | ⟨g, cap, cur, hv, hg, _⟩
  · simp at h0
  rw [List.length_replicate] at hv
  subst hv
  obtain ⟨w3, hrun, ho3, hg3⟩ := copy_bytes ho2 (List.length_replicate ..).symm 0 (Nat.zero_le _) (HR.out.below hb2) c cap
  have HRun := Lib.hid hrun
  have HO3 : Hid (Own w3 w'.heap.size (.slice (some ⟨g, 0, none⟩) (M.S + 32) cap) (NP.torn (M.S + 32) l)) := Lib.hid (by
    have e : NP.torn (M.S + 32) l = (List.replicate (M.S + 32) 255).take 0 ++ l.take (M.S + 32 - 0) ++ (List.replicate (M.S + 32) 255).drop (0 + min l.length (M.S + 32 - 0)) := by
      simp only [NP.torn, List.take_zero, List.nil_append, Nat.sub_zero, Nat.zero_add, List.drop_replicate]
      congr 2
      omega
    rw [e]
    exact ho3)
  have HB3 := Lib.hid (hb2.grown hg3 hb2.size (fun x hx => by injection hx with hx; omega))
  clear hrun ho3 hg3 ho2
  go_wp2_with (refine wpList_copy_run rfl (.tmp 9) (.tmp 10) rfl rfl rfl HRun.out ?_)
  go_ret
  exact ⟨_, rfl, HO3.out, HB3.out⟩

end Go.Proofs.Ytpggkehfbhffbaa
