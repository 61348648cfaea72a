/-
  Lemmas for a law's proof, put together from several texts: each part says what it shows, and its conditions.
-/
import Derived.Test.YtnfhlocflpdlcaaGreatZT06
import Derived.Deep.RegionLaw
import Derived.Deep.DeepCutAuto
import Derived.Outline
/-
  One byte many times; a page put; is a block bad, how often was it erased. Conditions: fewer than 900000 bytes.
-/
namespace Go.Proofs.YtnfhlocflpdlcaaGreat
open Go.RowKit

theorem and_one : bits .and .u64 (1 : Int) 4294967295 = 1 := by kernel_rfl
theorem and_low (n : Nat) (h : n ≤ 900000) : bits .and .u64 (n : Int) 4294967295 = (n : Int) := by
  have h1 := bits_and_u64_nat n 4294967295 (by omega) (by omega)
  rw [show n &&& 4294967295 = n by
    have := Nat.and_two_pow_sub_one_eq_mod n 32
    rw [show (2 : Nat) ^ 32 - 1 = 4294967295 by decide] at this
    rw [this]
    exact Nat.mod_eq_of_lt (by omega)] at h1
  exact h1
set_option maxHeartbeats 1000000 in
theorem Mul64_one (n : Nat) (w : World) (hn : n ≤ 900000) : Calls Tryz.prog 216 #[vq 1, vq n] w fun e w' => e = .returned (.tuple #[vq 0, vq n]) ∧ w' = w := by
  have h1 := and_one
  have h2 := and_low n hn
  have h3 : bits .and .u64 (0 : Int) 4294967295 = 0 := by kernel_rfl
  have h4 : (n : Int) / 4294967296 = 0 := by omega
  go_enter Tryz.func216, Tryz.ntmps216
  go_wp2_with fail
  go_ret2
  simp

theorem Mul_one (n : Nat) (w : World) (hn : n ≤ 900000) : Calls Tryz.prog 201 #[vq 1, vq n] w fun e w' => e = .returned (.tuple #[vq 0, vq n]) ∧ w' = w := by
  go_enter Tryz.func201, Tryz.ntmps201
  go_wp2_with fail
  refine (Mul64_one n w hn).mono ?_
  rintro e w' ⟨rfl, rfl⟩
  go_wp2_with fail
  go_ret2
  exact ⟨rfl, rfl⟩

theorem step_copy {w w' : World} {ops : Array Oper} {o : Oper} {a : Act} {K : Act → World → Prop} {Q : Exit → Act → World → Prop} {E : Prop} (s x : Operand) {t u : TypeId} {v src v' : Value}
    (hrun : CopyRun t u o.type v src w v' w') (hgd : o.guard = none) (ho : o.op = .call { callee := .builtin .copy, args := #[s, x], argTypes := #[t, u] }) (hs : a.eval s = v) (hx : a.eval x = src) (h : K (a.put o.dst v') w') : if Region.wanted o (yielded ops a.tmps) = true then Oper.wp Tryz.prog o a w K Q else E := by
  have hw : Region.wanted o (yielded ops a.tmps) = true := by simp [Region.wanted, hgd]
  rw [if_pos hw]
  unfold Oper.wp execOp
  simp only [ho, resolve, invoke, builtin, Sem.run_bind, Sem.run_pure, Result.andThen_ok, List.map_toArray, List.map_cons, List.map_nil, hs, hx, hrun.run]
  exact h

theorem rep_step (n q y : Nat) (hq : q ≤ n) : (List.replicate q y ++ List.replicate (n - q) 0).take q ++ (List.replicate q y).take (n - q) ++ (List.replicate q y ++ List.replicate (n - q) 0).drop (q + min q (n - q)) = List.replicate (q + min q (n - q)) y ++ List.replicate (n - (q + min q (n - q))) 0 := by
  have e1 : (List.replicate q y ++ List.replicate (n - q) 0).take q = List.replicate q y := by
    rw [List.take_append_of_le_length (by simp), List.take_of_length_le (by simp)]
  have e2 : (List.replicate q y).take (n - q) = List.replicate (min q (n - q)) y := by
    rw [List.take_replicate, Nat.min_comm]
  have e3 : (List.replicate q y ++ List.replicate (n - q) 0).drop (q + min q (n - q)) = List.replicate (n - (q + min q (n - q))) 0 := by
    rw [List.drop_append, List.drop_eq_nil_of_le (by simp), List.nil_append, List.length_replicate, List.drop_replicate]
    congr 1
    omega
  rw [e1, e2, e3, ← List.replicate_append_replicate]

set_option maxRecDepth 100000 in
set_option maxHeartbeats 2000000 in
theorem Repeat_any (a : Option Addr) (y n c : Nat) (w : World) (h : BRow w a [y]) (hn : n ≤ 900000) (hn1 : 1 ≤ n) :
    Calls Tryz.prog 183 #[.slice a 1 c, vi n] w fun e w' => ∃ v', e = .returned v' ∧ Own w' w.heap.size v' (List.replicate n y) ∧ Below w.heap.size w w' := by
  have hmk := make_bytes n (by omega)
  have HO := Lib.hid (own_zeros w n (by omega))
  have HB := Lib.hid ((Below.refl w.heap.size w).alloc (Nat.le_refl _) (.cells (madeCells #[vb 0] n) 5))
  have HR := Lib.hid (h.below ((Below.refl w.heap.size w).alloc (Nat.le_refl _) (.cells (madeCells #[vb 0] n) 5)))
  have HR0 := Lib.hid (h.small y (by simp))
  clear h
  go_enter Tryz.func183, Tryz.ntmps183
  go_wp2_with fail
  refine (Mul_one n w hn).mono ?_
  rintro e w' ⟨rfl, rfl⟩
  obtain ⟨w2, hrun, ho, hg⟩ := copy_bytes HO.out (List.length_replicate ..).symm 0 (Nat.zero_le _) HR.out c n
  rw [show min [y].length (n - 0) = 1 by simp; omega] at hrun
  have HRun := Lib.hid hrun
  have HO2 : Hid (Own w2 w'.heap.size (.slice (some ⟨w'.heap.size, 0, none⟩) n n) (List.replicate 1 y ++ List.replicate (n - 1) 0)) := Lib.hid (by
    have e : List.replicate 1 y ++ List.replicate (n - 1) 0 = (List.replicate n 0).take 0 ++ [y].take (n - 0) ++ (List.replicate n 0).drop (0 + min [y].length (n - 0)) := by
      rw [show min [y].length (n - 0) = 1 by simp; omega, List.take_of_length_le (l := [y]) (by simp; omega), List.take_zero, List.drop_replicate]
      rfl
    rw [e]
    exact ho)
  have HB2 := Lib.hid (HB.out.grown hg (by simp) (fun x hx => by injection hx with hx; omega))
  clear hrun ho hg
  go_wp2_with (refine wpList_copy_run rfl (.tmp 31) (.tmp 32) rfl rfl rfl HRun.out ?_)
  clear hmk HRun HO HB HR
  generalize hgg : w'.heap.size = g at *
  have HG := Lib.hid hgg
  clear hgg
  go_loopw [8] (fun i wr => ∃ q : Nat, 1 ≤ q ∧ q ≤ n ∧ i = vi q ∧ Hid (Own wr g (.slice (some ⟨g, 0, none⟩) n n) (List.replicate q y ++ List.replicate (n - q) 0)) ∧ Hid (Below g w' wr)) (fun i _ => n - (intOf i).toNat)
  case atStart => exact ⟨1, Nat.le_refl _, hn1, rfl, HO2, HB2⟩
  case round =>
    obtain ⟨q, hq1, hq, rfl, ho, hb⟩ := hrel
    by_cases hlt : q < n
    · have hl : n = (List.replicate q y ++ List.replicate (n - q) 0).length := by simp; omega
      obtain ⟨ar, cr, hv, hrow, -⟩ := ho.out.drew.row (by
        have hy := ho.out
        intro x hx
        rcases List.mem_append.1 hx with hx | hx
        · rw [(List.mem_replicate.1 hx).2]
          exact HR0.out
        · rw [(List.mem_replicate.1 hx).2]; omega)
      rw [← hl] at hv
      injection hv with hv _ hv2
      subst hv hv2
      have hrq := hrow.take q
      rw [List.take_append_of_le_length (by simp), List.take_of_length_le (by simp)] at hrq
      obtain ⟨w3, hrun, ho3, hg3⟩ := copy_bytes ho.out.drew hl q hq hrq n (n - q)
      rw [List.length_replicate] at hrun ho3
      rw [rep_step n q y hq] at ho3
      have RC : CopyRun 56 56 3 (.slice (some ⟨g, q, none⟩) (n - q) (n - q)) (.slice (some ⟨g, 0, none⟩) q n) wr.drew (vi (min q (n - q) : Nat)) w3 := hrun
      generalize hmm : min q (n - q) = mm at *
      have hmm1 : 1 ≤ mm ∧ mm ≤ n - q := by omega
      clear hmm
      have hws : IntKind.i64.wrap ((q : Int) + (mm : Int)) = (q : Int) + (mm : Int) := IntWalk.i64_in _ (by omega)
      have HO3 := Lib.hid ho3
      have HB3 := Lib.hid (hb.out.drew.grown hg3 (show g ≤ wr.heap.size by have := hb.out.size; have := HG.out; omega) (fun x hx => by injection hx with hx; omega))
      have hs1 : (0 : Int) ≤ (q : Int) := by omega
      have hs2 : (q : Int) ≤ (n : Int) := by omega
      have hs3 : ¬ n = q := by omega
      clear hrun ho3 hg3 hrow hrq ho hb hl
      go_wp2_with fail
      go_region_law (refine step_copy (.tmp 41) (.tmp 44) RC (by rfl) (by rfl) (by go_simp) (by go_simp) ?_)
      all_goals
        go_simp
        go_roundw
        case rel => exact ⟨_, _, _, _, _, _, _, _, _, _, _, _, _, _, ⟨q + mm, by omega, by omega, by go_num, HO3, HB3⟩, rfl⟩
        case measure => simp [intOf]; omega
    · obtain rfl : q = n := by omega
      have ho' := ho.out
      rw [Nat.sub_self, List.replicate_zero, List.append_nil] at ho'
      have HO' := Lib.hid ho'
      clear ho ho'
      go_wp2_with fail
      go_ret
      exact ⟨_, rfl, by rw [HG.out]; exact HO'.out, by rw [HG.out]; exact hb.out⟩

section
variable {base : Nat} {w : World} {k : Nat} {M : ChM}
def badM (M : ChM) (j : Int) : Bool := if 0 ≤ j ∧ j < M.bs.length then (M.bs.getD j.toNat default).bad else true
def wearM (M : ChM) (j : Int) : Int := if 0 ≤ j ∧ j < M.bs.length then (M.bs.getD j.toNat default).wear else 0
theorem Bad_any (h : ChipAt base w k M) (j : Int) : Calls Tryz.prog 113 #[ptr k, vi j] w fun e w' => e = .returned (.bool (badM M j)) ∧ w' = w := by
  obtain ⟨c0, c1, c2, c3, c4, c5, c6, c7, c8⟩ := h.cells
  by_cases hj : 0 ≤ j ∧ j < M.bs.length
  · obtain ⟨i, rfl⟩ : ∃ i : Nat, j = i := ⟨j.toNat, by omega⟩
    have hi : i < M.bs.length := by omega
    have ht := Lib.hid (show thereB M i = true by simp [thereB]; omega)
    have hc : w.cell? ⟨M.kb, i * 5 + 3, none⟩ = some (.bool (M.bs.getD i default).bad) := h.bcell hi (j := 3) (by decide)
    have HC := Lib.hid h
    have HJ := Lib.hid hj
    generalize hb : (M.bs.getD i default).bad = b at *
    have HB := Lib.hid hb
    clear h c0 c1 c2 c4 c5 c6 c7 c8 hj hb
    go_enter Tryz.func113, Tryz.ntmps113
    go_wp2_with fail
    refine (there_any HC.out i).mono ?_
    rintro e w' ⟨rfl, rfl⟩
    rw [ht.out]
    go_wp2_with fail
    go_ret
    exact ⟨ret_bool (by rw [badM, if_pos HJ.out, Int.toNat_natCast, HB.out]), rfl⟩
  · have ht := Lib.hid (show thereB M j = false by simp [thereB]; omega)
    have HC := Lib.hid h
    have HJ := Lib.hid hj
    clear h c0 c1 c2 c3 c4 c5 c6 c7 c8 hj
    go_enter Tryz.func113, Tryz.ntmps113
    go_wp2_with fail
    refine (there_any HC.out j).mono ?_
    rintro e w' ⟨rfl, rfl⟩
    rw [ht.out]
    go_wp2_with fail
    go_ret
    exact ⟨ret_bool (by rw [badM, if_neg HJ.out]), rfl⟩
theorem Wear_any (h : ChipAt base w k M) (j : Int) : Calls Tryz.prog 155 #[ptr k, vi j] w fun e w' => e = .returned (vi (wearM M j)) ∧ w' = w := by
  obtain ⟨c0, c1, c2, c3, c4, c5, c6, c7, c8⟩ := h.cells
  by_cases hj : 0 ≤ j ∧ j < M.bs.length
  · obtain ⟨i, rfl⟩ : ∃ i : Nat, j = i := ⟨j.toNat, by omega⟩
    have hi : i < M.bs.length := by omega
    have ht := Lib.hid (show thereB M i = true by simp [thereB]; omega)
    have hc : w.cell? ⟨M.kb, i * 5 + 4, none⟩ = some (vi (M.bs.getD i default).wear) := h.bcell hi (j := 4) (by decide)
    have HC := Lib.hid h
    have HJ := Lib.hid hj
    generalize hb : (M.bs.getD i default).wear = b at *
    have HB := Lib.hid hb
    clear h c0 c1 c2 c4 c5 c6 c7 c8 hj hb
    go_enter Tryz.func155, Tryz.ntmps155
    go_wp2_with fail
    refine (there_any HC.out i).mono ?_
    rintro e w' ⟨rfl, rfl⟩
    rw [ht.out]
    go_wp2_with fail
    go_ret
    exact ⟨ret_int (by rw [wearM, if_pos HJ.out, Int.toNat_natCast, HB.out]), rfl⟩
  · have ht := Lib.hid (show thereB M j = false by simp [thereB]; omega)
    have HC := Lib.hid h
    have HJ := Lib.hid hj
    clear h c0 c1 c2 c3 c4 c5 c6 c7 c8 hj
    go_enter Tryz.func155, Tryz.ntmps155
    go_wp2_with fail
    refine (there_any HC.out j).mono ?_
    rintro e w' ⟨rfl, rfl⟩
    rw [ht.out]
    go_wp2_with fail
    go_ret
    exact ⟨ret_int (by rw [wearM, if_neg HJ.out]), rfl⟩

/-- A chip whose block's next page is put. -/
def putM (M : ChM) (i : Nat) (q : PgM) : ChM := { M with bs := M.bs.set i { M.bs.getD i default with ps := (M.bs.getD i default).ps.set (M.bs.getD i default).next q, next := (M.bs.getD i default).next + 1 } }
theorem getD_map {α β : Type} {f : α → β} {l : List α} {i : Nat} {d : α} {d' : β} (h : i < l.length) : (l.map f).getD i d' = f (l.getD i d) := by
  simp [List.getD_eq_getElem?_getD, List.getElem?_eq_getElem h]
theorem view_blk {M : ChM} {i : Nat} (h : i < M.bs.length) : M.view.blk i = (M.bs.getD i default).view := getD_map h
theorem putM_view {M : ChM} {i : Nat} {q : PgM} (h : i < M.bs.length) : (putM M i q).view = NP.putP M.view i q.l := by
  unfold putM NP.putP NP.setBlk
  dsimp only
  rw [view_blk h]
  simp [ChM.view, BloM.view, List.map_set]
set_option maxRecDepth 100000 in
set_option maxHeartbeats 1000000 in
theorem put_any (h : ChipAt base w k M) (i : Nat) (hi : i < M.bs.length) (hn : (M.bs.getD i default).next < (M.bs.getD i default).ps.length) (hp : (M.bs.getD i default).ps.length ≤ 32) (q : PgM) (hq : q.ok base w) :
    Calls Tryz.prog 259 #[.pointer (some ⟨M.kb, i * 5, none⟩), q.v] w fun e w' => e = .returned (.tuple #[]) ∧ Goes base w k M w' (putM M i q) := by
  have hD := getD_mem (d := default) hi
  have c0 : w.cell? ⟨M.kb, i * 5, none⟩ = _ := h.bcell hi (j := 0) (by decide)
  have c1 : w.cell? ⟨M.kb, i * 5 + 1, none⟩ = some (vi (M.bs.getD i default).next) := h.bcell hi (j := 1) (by decide)
  have cp := h.pcell hi hn
  have z1 := h.blocks.frozen (i * 5 + 1)
  have zp := (h.pages _ hD).frozen (M.bs.getD i default).next
  have hne := (h.g_ne hD).2
  have G1 := (h.old (Below.refl _ _).drew).page hi (p := (M.bs.getD i default).next) q (hq.chg (F := fun _ => False) (Chg.of_below (Below.refl _ _).drew) (fun _ e => e.elim))
  have hi1 : i < (M.bs.set i { M.bs.getD i default with ps := (M.bs.getD i default).ps.set (M.bs.getD i default).next q }).length := by simpa using hi
  have hg1 : (M.bs.set i { M.bs.getD i default with ps := (M.bs.getD i default).ps.set (M.bs.getD i default).next q }).getD i default = { M.bs.getD i default with ps := (M.bs.getD i default).ps.set (M.bs.getD i default).next q } := by
    rw [NP.getD_set _ _ _ _ _ hi, if_pos rfl]
  have G2 := G1.at_.bfield (i := i) (j := 1) hi1 (by decide) (vi ((M.bs.getD i default).next + 1 : Nat)) { M.bs.getD i default with ps := (M.bs.getD i default).ps.set (M.bs.getD i default).next q, next := (M.bs.getD i default).next + 1 } (by dsimp only; rw [hg1]; rfl) (by dsimp only; rw [hg1]) (by dsimp only; rw [hg1]) (by dsimp only; rw [hg1])
  have HG : Hid (Goes base w k M _ (putM M i q)) := Lib.hid (by
    have := (Goes.of_old h (Below.refl _ _).drew).trans (G1.trans G2)
    dsimp only at this
    rw [List.set_set] at this
    exact this)
  simp only [BloM.cells, List.getElem?_cons_zero] at c0
  clear G1 G2 hi1 hg1 hD h hq
  generalize M.bs.getD i default = x at *
  obtain ⟨xg, xc, xps, xn, xb, xd, xw⟩ := x
  dsimp only at *
  go_enter Tryz.func259, Tryz.ntmps259
  have hs1 : (0 : Int) ≤ (xn : Int) := by omega
  have hs2 : (xn : Int) < (xps.length : Int) := by omega
  have hne' : ¬ M.kb = xg := fun e => hne e.symm
  go_wp2_with fail
  go_still_tail 10, (by kernel_rfl)
  change wpList _ _ _ _ _ w.drew
  go_wp2_with fail
  go_end0
  exact ⟨rfl, HG.out⟩
end

end Go.Proofs.YtnfhlocflpdlcaaGreat

/-
  A stroke is counted, and the fault that belongs to it is told. Conditions: a chip that is told by ChipAt.
-/
namespace Go.Proofs.YtnfhlocflpdlcaaGreat
open Go.RowKit

theorem w64_eq (x : Int) : NP.w64 x = wrap64 x := by unfold NP.w64 wrap64; rfl
def strokeM (M : ChM) : ChM := { M with since := NP.w64 (M.since + 1), strokes := NP.w64 (M.strokes + 1) }
theorem strokeM_view (M : ChM) : (strokeM M).view = NP.stroke M.view := rfl
/-- The first fault of a stroke. -/
def faultM : List FltM → Int → FltM
  | [], _ => default
  | f :: l, a => if f.at_ = a then f else faultM l a
theorem faultM_view : ∀ (l : List FltM) (a : Int), (faultM l a).view = NP.faultOf (l.map (·.view)) a
  | [], _ => rfl
  | f :: l, a => by
    unfold faultM
    rw [List.map_cons, NP.faultOf]
    show _ = if f.at_ = a then _ else _
    split
    · rfl
    · exact faultM_view l a
theorem faultM_drop {l : List FltM} {i : Nat} (a : Int) (h : i < l.length) : faultM (l.drop i) a = if (l.getD i default).at_ = a then l.getD i default else faultM (l.drop (i + 1)) a := by
  rw [List.drop_eq_getElem_cons h, faultM, List.getD_eq_getElem?_getD, List.getElem?_eq_getElem h]
  rfl
theorem faultM_mem : ∀ (l : List FltM) (a : Int), faultM l a = default ∨ faultM l a ∈ l
  | [], _ => .inl rfl
  | f :: l, a => by
    unfold faultM
    split
    · exact .inr (by simp)
    · rcases faultM_mem l a with h | h
      · exact .inl h
      · exact .inr (by simp [h])
theorem fault_result {w' : World} {g : Nat} {f : FltM} (hb : Blk w' g 229 f.cs) (tmps : Array Value) (h2 : tmps[2]? = some (.pointer (some ⟨g, 0, none⟩))) :
    (results Tryz.f153 tmps).run Tryz.prog w' = .ok (.agg f.cs) w' := by
  have g0 : w'.cell? ⟨g, 0, none⟩ = some (vi f.at_) := hb.cell 0
  have g1 : w'.cell? ⟨g, 1, none⟩ = some (vi f.kind) := hb.cell 1
  have g2 : w'.cell? ⟨g, 2, none⟩ = some (.slice f.a f.l.length f.c) := hb.cell 2
  simp only [results, Tryz.results153]
  simp [go_sem, h2, g0, g1, g2]

section
variable {base : Nat} {w : World} {k : Nat} {M : ChM}
abbrev flt0 : Array Value := #[vi 0, vi 0, .slice none 0 0]
theorem size_set (w : World) (p : Addr) (v : Value) : (w.setCell p v).heap.size = w.heap.size := by simp [World.setCell]
/-- The state: the chip is laid, two variables. -/
structure FltSt (w : World) (k : Nat) (M : ChM) (cs0 cs1 : Array Value) (wr : World) : Prop where
  chg : Chg (fun n => n = k) w wr
  chip : Blk wr k 180 (strokeM M).cs
  b0 : Blk wr w.heap.size 229 cs0
  b1 : Blk wr (w.heap.size + 1) 229 cs1
  hk : k < w.heap.size
variable {cs0 cs1 : Array Value} {wr : World}
theorem FltSt.alloc (h : FltSt w k M cs0 cs1 wr) (o : Obj) : FltSt w k M cs0 cs1 (wr.alloc o) := ⟨h.chg.alloc o, h.chip.alloc o, h.b0.alloc o, h.b1.alloc o, h.hk⟩
theorem FltSt.set0 (h : FltSt w k M cs0 cs1 wr) (j : Nat) (u : Value) : FltSt w k M (cs0.setIfInBounds j u) cs1 (wr.setCell ⟨w.heap.size, j, none⟩ u) :=
  ⟨h.chg.setCell (.inr (Nat.le_refl _)) u, h.chip.far (p := ⟨w.heap.size, j, none⟩) (by have := h.hk; dsimp only; omega) u, h.b0.set_ j u, h.b1.far (p := ⟨w.heap.size, j, none⟩) (by dsimp only; omega) u, h.hk⟩
theorem FltSt.set1 (h : FltSt w k M cs0 cs1 wr) (j : Nat) (u : Value) : FltSt w k M cs0 (cs1.setIfInBounds j u) (wr.setCell ⟨w.heap.size + 1, j, none⟩ u) :=
  ⟨h.chg.setCell (.inr (Nat.le_succ _)) u, h.chip.far (p := ⟨w.heap.size + 1, j, none⟩) (by have := h.hk; dsimp only; omega) u, h.b0.far (p := ⟨w.heap.size + 1, j, none⟩) (by dsimp only; omega) u, h.b1.set_ j u, h.hk⟩
set_option maxRecDepth 100000 in
set_option maxHeartbeats 2000000 in
theorem fault_any (h : ChipAt base w k M) : Calls Tryz.prog 153 #[ptr k] w fun e w' => e = .returned (.agg (faultM M.fs M.since).cs) ∧ Goes base w k M w' (strokeM M) := by
  obtain ⟨c0, c1, c2, c3, c4, c5, c6, c7, c8⟩ := h.cells
  have z5 := h.chip.frozen 5
  have z7 := h.chip.frozen 7
  have hk := h.chip.lt
  have HC := Lib.hid h
  have hfl : M.fs.length ≤ 9223372036854775807 := by have := h.faults.len; unfold maxLen at this; omega
  have hz : ((w.setCell ⟨k, 5, none⟩ (vi (wrap64 (M.since + 1)))).setCell ⟨k, 7, none⟩ (vi (wrap64 (M.strokes + 1)))).heap.size = w.heap.size := by rw [size_set, size_set]
  have st : FltSt w k M flt0 flt0 ((((w.setCell ⟨k, 5, none⟩ (vi (wrap64 (M.since + 1)))).setCell ⟨k, 7, none⟩ (vi (wrap64 (M.strokes + 1)))).alloc (.cells flt0 229)).alloc (.cells flt0 229)) :=
    ⟨((((Chg.refl (fun n => n = k) w).setCell (p := ⟨k, 5, none⟩) (.inl rfl) _).setCell (p := ⟨k, 7, none⟩) (.inl rfl) _).alloc _).alloc _, by
      have := (((h.chip.set_ 5 (vi (wrap64 (M.since + 1)))).set_ 7 (vi (wrap64 (M.strokes + 1)))).alloc (.cells flt0 229)).alloc (.cells flt0 229)
      rw [← w64_eq, ← w64_eq] at this
      rw [← w64_eq, ← w64_eq]
      exact this, by
      have := (Blk.new ((w.setCell ⟨k, 5, none⟩ (vi (wrap64 (M.since + 1)))).setCell ⟨k, 7, none⟩ (vi (wrap64 (M.strokes + 1)))) 229 flt0).alloc (.cells flt0 229)
      rw [hz] at this
      exact this, by
      have := Blk.new (((w.setCell ⟨k, 5, none⟩ (vi (wrap64 (M.since + 1)))).setCell ⟨k, 7, none⟩ (vi (wrap64 (M.strokes + 1)))).alloc (.cells flt0 229)) 229 flt0
      rw [size_alloc, hz] at this
      exact this, hk⟩
  have ST := Lib.hid st
  clear h st hz
  go_enter Tryz.func153, Tryz.ntmps153
  go_wp2_with fail
  go_step3
  go_wp2_with fail
  go_step3
  go_wp2_with fail
  clear c0 c1 c2 c3 c4 c5 c6 c7 c8 z5 z7
  have HD := Lib.hid (show faultM M.fs M.since = faultM (M.fs.drop 0) M.since by rw [List.drop_zero])
  go_loopw [31] (fun i wr => ∃ j : Nat, j ≤ M.fs.length ∧ i = vi j ∧ Hid (FltSt w k M flt0 flt0 wr) ∧ Hid (faultM M.fs M.since = faultM (M.fs.drop j) M.since)) (fun i _ => M.fs.length - (intOf i).toNat)
  case atStart => exact ⟨0, Nat.zero_le _, rfl, ST, HD⟩
  case round =>
    obtain ⟨j, hj, rfl, st, hd⟩ := hrel
    have d0 : wr.cell? ⟨w.heap.size + 1, 0, none⟩ = some (vi 0) := st.out.b1.cell 0
    have d1 : wr.cell? ⟨w.heap.size + 1, 1, none⟩ = some (vi 0) := st.out.b1.cell 1
    have d2 : wr.cell? ⟨w.heap.size + 1, 2, none⟩ = some (.slice none 0 0) := st.out.b1.cell 2
    have e0 : wr.cell? ⟨w.heap.size, 0, none⟩ = some (vi 0) := st.out.b0.cell 0
    have e1 : wr.cell? ⟨w.heap.size, 1, none⟩ = some (vi 0) := st.out.b0.cell 1
    have e2 : wr.cell? ⟨w.heap.size, 2, none⟩ = some (.slice none 0 0) := st.out.b0.cell 2
    have f0 := st.out.b0.frozen 0
    have f1 := st.out.b0.frozen 1
    have f2 := st.out.b0.frozen 2
    have h0 := st.out.b1.frozen 0
    have h1 := st.out.b1.frozen 1
    have h2 := st.out.b1.frozen 2
    by_cases hlt : j < M.fs.length
    · obtain ⟨b, o, hfa, hcell, -⟩ := (HC.out.faults.chg st.out.chg (fun n e => HC.out.mine n (.inl e))).lookup hlt
      have hdr := faultM_drop M.since hlt
      rw [hfa]
      generalize M.fs.getD j default = f at hcell hdr
      obtain ⟨fat, fk, fa, fl, fc⟩ := f
      have g0 : wr.cell? ⟨b, o + j * 3, none⟩ = some (vi fat) := hcell 0 _ rfl
      have g1 : wr.cell? ⟨b, o + j * 3 + 1, none⟩ = some (vi fk) := hcell 1 _ rfl
      have g2 : wr.cell? ⟨b, o + j * 3 + 2, none⟩ = some (.slice fa fl.length fc) := hcell 2 _ rfl
      have hlv := st.out.b1.lt
      have hn0 : ¬ wr.heap.size = w.heap.size := by omega
      have hn1 : ¬ wr.heap.size = w.heap.size + 1 := by omega
      have hn2 : ¬ w.heap.size = wr.heap.size := by omega
      have hn3 : ¬ w.heap.size + 1 = wr.heap.size := by omega
      clear hfa
      have S1 := Lib.hid (st.out.alloc (.cells #[vi fat, vi fk, .slice fa fl.length fc] 229))
      clear hcell
      dsimp only at hdr
      by_cases hat : fat = M.since
      · rw [if_pos hat] at hdr
        have HF := Lib.hid (hd.out.trans hdr)
        subst hat
        clear hdr d0 d1 d2 e0 e1 e2 f0 f1 f2 h0 h1 h2
        go_upto_region 9 with fail
        have F9 := Blk.new wr 229 #[vi M.since, vi fk, .slice fa fl.length fc]
        clear hn0 hn1 hn2 hn3 g0 g1 g2 st hd
        generalize wr.alloc (.cells #[vi M.since, vi fk, .slice fa fl.length fc] 229) = w9 at *
        have d0 : w9.cell? ⟨w.heap.size + 1, 0, none⟩ = some (vi 0) := S1.out.b1.cell 0
        have d1 : w9.cell? ⟨w.heap.size + 1, 1, none⟩ = some (vi 0) := S1.out.b1.cell 1
        have d2 : w9.cell? ⟨w.heap.size + 1, 2, none⟩ = some (.slice none 0 0) := S1.out.b1.cell 2
        have e0 : w9.cell? ⟨w.heap.size, 0, none⟩ = some (vi 0) := S1.out.b0.cell 0
        have e1 : w9.cell? ⟨w.heap.size, 1, none⟩ = some (vi 0) := S1.out.b0.cell 1
        have e2 : w9.cell? ⟨w.heap.size, 2, none⟩ = some (.slice none 0 0) := S1.out.b0.cell 2
        have f0 := S1.out.b0.frozen 0
        have f1 := S1.out.b0.frozen 1
        have f2 := S1.out.b0.frozen 2
        have h0 := S1.out.b1.frozen 0
        have h1 := S1.out.b1.frozen 1
        have h2 := S1.out.b1.frozen 2
        have k0 : w9.cell? ⟨wr.heap.size, 0, none⟩ = some (vi M.since) := F9.cell 0
        have k1 : w9.cell? ⟨wr.heap.size, 1, none⟩ = some (vi fk) := F9.cell 1
        have k2 : w9.cell? ⟨wr.heap.size, 2, none⟩ = some (.slice fa fl.length fc) := F9.cell 2
        clear F9
        generalize wr.heap.size = h6 at *
        go_wp2_with fail
        rw [Exit.noGoto_ret]
        have T := (((((S1.out.set1 0 (vi M.since)).set1 1 (vi fk)).set1 2 (.slice fa fl.length fc)).set0 0 (vi M.since)).set0 1 (vi fk)).set0 2 (.slice fa fl.length fc)
        refine bodyPost_ret (v := .agg #[vi M.since, vi fk, .slice fa fl.length fc]) (fault_result (f := ⟨M.since, fk, fa, fl, fc⟩) T.b0 _ rfl) rfl ⟨by rw [HF.out], HC.out.fields T.chg T.chip rfl rfl rfl ⟨rfl, rfl⟩⟩
      · rw [if_neg hat] at hdr
        have HF := Lib.hid (hd.out.trans hdr)
        clear hdr
        go_wp2_with fail
        go_roundw
        case rel => exact ⟨j + 1, by omega, by go_num, S1, HF⟩
        case measure => simp [intOf]; omega
    · obtain rfl : j = M.fs.length := by omega
      have HF : Hid (faultM M.fs M.since = default) := Lib.hid (by rw [hd.out, List.drop_length]; rfl)
      go_wp2_with fail
      rw [Exit.noGoto_ret]
      have T := ((st.out.set0 0 (vi 0)).set0 1 (vi 0)).set0 2 (.slice none 0 0)
      exact bodyPost_ret (v := .agg flt0) (fault_result (f := default) T.b0 _ rfl) rfl ⟨by rw [HF.out]; rfl, HC.out.fields T.chg T.chip rfl rfl rfl ⟨rfl, rfl⟩⟩
end

end Go.Proofs.YtnfhlocflpdlcaaGreat

