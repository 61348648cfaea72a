/-
  Lemmas for a law's proof, put together from several texts: each part says what it shows, and its conditions.
-/
import Derived.Test.YtnfhlocflpdlcaaGreatZT10
import Derived.Maps.RangeWalk
import Derived.Test.YtnfhlocflpdlcaaGreatZT02
/-
  A map's operations at their places in a walk: told by the equation of their run. No conditions of its own.
-/
namespace Go.Proofs.YtnfhlocflpdlcaaGreat
open Go.RowKit

section
variable {P : Program} {w w' : World} {ops : Array Oper} {rest : List Oper} {o : Oper} {a : Act} {Q : Exit → Act → World → Prop}
theorem wpList_mapUpdate_run (hgd : o.guard = none) (m x v : Operand) {t : TypeId} (ho : o.op = Op.mapUpdate t m x v) {mv kv vv : Value} (hm : a.eval m = mv) (hx : a.eval x = kv) (hv : a.eval v = vv)
    (hrun : (Instr.mapUpdate t mv kv vv).run P w = .ok () w') (h : wpList P ops Q rest (a.put o.dst undef) w') : wpList P ops Q (o :: rest) a w := by
  refine wpList_plain hgd fun K hK => ?_
  unfold Oper.wp
  simp [execOp, ho, hm, hx, hv, hrun, Result.andThen]
  exact hK _ _ h
theorem wpList_delete_run (hgd : o.guard = none) (m x : Operand) {t u : TypeId} (ho : o.op = .call { callee := .builtin .delete, args := #[m, x], argTypes := #[t, u] }) {mv kv : Value} (hm : a.eval m = mv) (hx : a.eval x = kv)
    (hrun : (Builtin.delete_ #[t, u] o.type #[mv, kv]).run P w = .ok (.tuple #[]) w') (h : wpList P ops Q rest (a.put o.dst (.tuple #[])) w') : wpList P ops Q (o :: rest) a w := by
  refine wpList_plain hgd fun K hK => ?_
  unfold Oper.wp execOp
  simp only [ho, resolve, invoke, builtin, Sem.run_bind, Sem.run_pure, Result.andThen_ok, List.map_toArray, List.map_cons, List.map_nil, hm, hx, hrun]
  exact hK _ _ h
theorem wpList_range_run (hgd : o.guard = none) (m : Operand) {t : TypeId} (ho : o.op = Op.range t m) {mv v : Value} (hm : a.eval m = mv) (hrun : (Instr.range t mv).run P w = .ok v w') (h : wpList P ops Q rest (a.put o.dst v) w') : wpList P ops Q (o :: rest) a w := by
  refine wpList_plain hgd fun K hK => ?_
  unfold Oper.wp
  simp [execOp, ho, hm, hrun, Result.andThen]
  exact hK _ _ h
theorem wpList_next_run (hgd : o.guard = none) (it : Operand) (ho : o.op = Op.next it false) {iv v : Value} (hi : a.eval it = iv) (hrun : (Instr.next iv false o.type).run P w = .ok v w') (h : wpList P ops Q rest (a.put o.dst v) w') : wpList P ops Q (o :: rest) a w := by
  refine wpList_plain hgd fun K hK => ?_
  unfold Oper.wp
  simp [execOp, ho, hi, hrun, Result.andThen]
  exact hK _ _ h
theorem step_mapUpdate_run {K : Act → World → Prop} {E : Prop} (hgd : o.guard = none) (m x v : Operand) {t : TypeId} (ho : o.op = Op.mapUpdate t m x v) {mv kv vv : Value} (hm : a.eval m = mv) (hx : a.eval x = kv) (hv : a.eval v = vv)
    (hrun : (Instr.mapUpdate t mv kv vv).run P w = .ok () w') (h : K (a.put o.dst undef) w') : if Region.wanted o (yielded ops a.tmps) = true then Oper.wp P o a w K Q else E := by
  have hw : Region.wanted o (yielded ops a.tmps) = true := by simp [Region.wanted, hgd]
  rw [if_pos hw]
  unfold Oper.wp
  simp [execOp, ho, hm, hx, hv, hrun, Result.andThen]
  exact h
end
/-- The run of an operation on a map, told as a whole. -/
structure UpdRun (t : TypeId) (m k v : Value) (w w' : World) : Prop where
  run : (Instr.mapUpdate t m k v).run Tryz.prog w = .ok () w'
structure DelRun (t u : TypeId) (m k : Value) (w w' : World) : Prop where
  run : ∀ ty, (Builtin.delete_ #[t, u] ty #[m, k]).run Tryz.prog w = .ok (.tuple #[]) w'
structure RngRun (t : TypeId) (m v : Value) (w w' : World) : Prop where
  run : (Instr.range t m).run Tryz.prog w = .ok v w'
structure NxtRun (it v : Value) (w w' : World) : Prop where
  run : ∀ ty, (Instr.next it false ty).run Tryz.prog w = .ok v w'
end Go.Proofs.YtnfhlocflpdlcaaGreat

/-
  gc: what a block's small tests answer, and the best one of a row: for every row that is read.
-/
namespace Go.Proofs.YtnfhlocflpdlcaaGreat.gcs
open Go.RowKit

abbrev vblk (s l r n : Int) : Value := .agg #[vi s, vi l, vi r, vi n]
/-- api.Block: State, Live, Wear, Next. -/
structure Blk where
  s : Int
  l : Int
  r : Int
  n : Int
instance : Inhabited Blk := ⟨⟨0, 0, 0, 0⟩⟩
abbrev Blk.v (b : Blk) : Value := vblk b.s b.l b.r b.n

/-- Four cells at an address read as a block. -/
def At4 (w : World) (b o : Nat) (x : Blk) : Prop :=
  w.cell? ⟨b, o, none⟩ = some (vi x.s) ∧ w.cell? ⟨b, o + 1, none⟩ = some (vi x.l) ∧ w.cell? ⟨b, o + 2, none⟩ = some (vi x.r) ∧ w.cell? ⟨b, o + 3, none⟩ = some (vi x.n)
theorem At4.below {w w' : World} {b o : Nat} {x : Blk} (h : At4 w b o x) (hb : Below w.heap.size w w') : At4 w' b o x :=
  ⟨cell_below h.1 hb, cell_below h.2.1 hb, cell_below h.2.2.1 hb, cell_below h.2.2.2 hb⟩

/-- A slice of blocks: nil or not. -/
def Row (w : World) (v : Value) (bs : List Blk) : Prop :=
  bs.length ≤ 9223372036854775807 ∧ ∃ a cap, v = .slice a bs.length cap ∧ (bs = [] ∨ ∃ b o, a = some ⟨b, o, none⟩ ∧ ∀ i, i < bs.length → At4 w b (o + i * 4) (bs.getD i default))
theorem Row.below {w w' : World} {v : Value} {bs : List Blk} (h : Row w v bs) (hb : Below w.heap.size w w') : Row w' v bs := by
  obtain ⟨h0, a, cap, rfl, h⟩ := h
  refine ⟨h0, a, cap, rfl, ?_⟩
  rcases h with h | ⟨b, o, rfl, h⟩
  · exact .inl h
  · exact .inr ⟨b, o, rfl, fun i hi => (h i hi).below hb⟩

def rightB (p : Int) (x : Blk) : Bool :=
  decide (0 ≤ x.s) && decide (x.s ≤ 4) && decide (0 ≤ x.l) && decide (x.l ≤ p) && decide (0 ≤ x.n) && decide (x.n ≤ p) && decide (0 ≤ x.r) && decide (x.r ≤ 1099511627776) && (!(x.s == 0 || x.s == 3 || x.s == 4) || x.l == 0)

set_option maxHeartbeats 400000 in
theorem right_any (x : Blk) (p : Int) (w : World) :
    Calls Tryz.prog 278 #[x.v, vi p] w fun e w' => e = .returned (.bool (rightB p x)) ∧ Below w.heap.size w w' := by
  obtain ⟨s, l, r, n⟩ := x
  go_enter Tryz.func278, Tryz.ntmps278
  go_wp2
  all_goals go_ret
  all_goals refine ⟨ret_bool ?_, (Below.refl _ _).alloc (Nat.le_refl _) _⟩
  all_goals simp [rightB, *]
  all_goals omega

theorem good_any (x : Blk) (w : World) :
    Calls Tryz.prog 185 #[x.v] w fun e w' => e = .returned (.bool (x.s != 4)) ∧ Below w.heap.size w w' := by
  go_enter Tryz.func185, Tryz.ntmps185
  go_wp2
  go_ret
  exact ⟨rfl, (Below.refl _ _).alloc (Nat.le_refl _) _⟩

theorem worn_any (x y : Blk) (w : World) :
    Calls Tryz.prog 251 #[x.v, y.v] w fun e w' => e = .returned (.bool (decide (x.r < y.r))) ∧ Below w.heap.size w w' := by
  go_enter Tryz.func251, Tryz.ntmps251
  go_wp2
  go_ret
  exact ⟨rfl, ((Below.refl _ _).alloc (Nat.le_refl _) _).alloc (by simp) _⟩

end Go.Proofs.YtnfhlocflpdlcaaGreat.gcs

/-
  gc: which of two blocks is emptier, may it be erased, and the best one of a row: for every row that is read.
-/
namespace Go.Proofs.YtnfhlocflpdlcaaGreat.gcs
open Go.RowKit

def wornB (x y : Blk) : Bool := decide (x.r < y.r)
def emptierB (x y : Blk) : Bool := decide (x.l < y.l) || x.l == y.l && decide (x.r < y.r)
def mayB (least : Int) (x : Blk) : Bool := x.s != 4 && decide (x.r - least < 4)

set_option maxHeartbeats 1000000 in
theorem emptier_any (x y : Blk) (w : World) :
    Calls Tryz.prog 253 #[x.v, y.v] w fun e w' => e = .returned (.bool (emptierB x y)) ∧ Below w.heap.size w w' := by
  obtain ⟨s, l, r, n⟩ := x
  obtain ⟨s', l', r', n'⟩ := y
  go_enter Tryz.func253, Tryz.ntmps253
  rcases Int.lt_trichotomy l l' with h | rfl | h
  · go_wp2_with fail
    go_ret
    exact ⟨ret_bool (by simp [emptierB, h]), ((Below.refl _ _).alloc (Nat.le_refl _) _).alloc (by simp) _⟩
  · go_wp2_with fail
    refine (worn_any ⟨s, l, r, n⟩ ⟨s', l, r', n'⟩ _).mono ?_
    rintro e w1 ⟨rfl, hb1⟩
    go_wp2_with fail
    go_ret
    exact ⟨ret_bool (by simp [emptierB]), (((Below.refl _ _).alloc (Nat.le_refl _) _).alloc (by simp) _).trans (hb1.mono (by simp; omega))⟩
  · have h1 : ¬ l < l' := by omega
    have h2 : (l == l') = false := by simp; omega
    go_wp2_with fail
    go_ret
    exact ⟨ret_bool (by simp [emptierB, h1, h2]), ((Below.refl _ _).alloc (Nat.le_refl _) _).alloc (by simp) _⟩

set_option maxHeartbeats 1000000 in
theorem may_any (x : Blk) (least : Int) (w : World) (h1 : 0 ≤ x.r) (h2 : x.r ≤ 1099511627776) (h3 : 0 ≤ least) (h4 : least ≤ 1099511627776):
    Calls Tryz.prog 250 #[x.v, vi least] w fun e w' => e = .returned (.bool (mayB least x)) ∧ Below w.heap.size w w' := by
  obtain ⟨s, l, r, n⟩ := x
  dsimp only at h1 h2
  go_enter Tryz.func250, Tryz.ntmps250
  go_wp2_with fail
  refine (good_any ⟨s, l, r, n⟩ _).mono ?_
  rintro e w1 ⟨rfl, hb1⟩
  have hc : w1.cell? ⟨w.heap.size, 2, none⟩ = some (vi r) := cell_below (w := w.alloc (.cells #[vi s, vi l, vi r, vi n] 236)) (by simp) hb1
  by_cases hs : (s != 4) = true
  all_goals
    go_wp2_with fail
    go_ret
    refine ⟨ret_bool (by simp [mayB, *]), ?_⟩
    exact ((Below.refl _ _).alloc (Nat.le_refl _) _).trans (hb1.mono (by simp))

def bestTo (P : Blk → Bool) (Q : Blk → Blk → Bool) (bs : List Blk) : Nat → Int
  | 0 => -1
  | k + 1 => if P (bs.getD k default) && (decide (bestTo P Q bs k < 0) || Q (bs.getD k default) (bs.getD (bestTo P Q bs k).toNat default)) then k else bestTo P Q bs k
def best (P : Blk → Bool) (Q : Blk → Blk → Bool) (bs : List Blk) : Int := bestTo P Q bs bs.length

theorem bestTo_bd (P : Blk → Bool) (Q : Blk → Blk → Bool) (bs : List Blk) (k : Nat) : -1 ≤ bestTo P Q bs k ∧ bestTo P Q bs k < k := by
  induction k with
  | zero => simp [bestTo]
  | succ k ih => unfold bestTo; split <;> omega

set_option maxHeartbeats 2000000 in
theorem best_any (F G : Nat) (cm cb : Array Value) (v : Value) (bs : List Blk) (w : World) (P : Blk → Bool) (Q : Blk → Blk → Bool) (hrow : Row w v bs)
    (hF : ∀ args W, (callFunc F args).run Tryz.prog W = .ok (.enter F args) W) (hG : ∀ args W, (callFunc G args).run Tryz.prog W = .ok (.enter G args) W)
    (hMay : ∀ (x : Blk) (W : World), x ∈ bs → Below w.heap.size w W → Calls Tryz.prog F (#[x.v] ++ cm) W fun e W' => e = .returned (.bool (P x)) ∧ Below W.heap.size W W')
    (hBet : ∀ (x y : Blk) (W : World), Below w.heap.size w W → Calls Tryz.prog G (#[x.v, y.v] ++ cb) W fun e W' => e = .returned (.bool (Q x y)) ∧ Below W.heap.size W W') :
    Calls Tryz.prog 184 #[v, .func (.func F) #[] cm, .func (.func G) #[] cb] w fun e w' => e = .returned (vi (best P Q bs)) ∧ Below w.heap.size w w' := by
  obtain ⟨hlen, a, cap, rfl, hrow⟩ := hrow
  have HR := Lib.hid hrow
  have HM := Lib.hid hMay
  have HB := Lib.hid hBet
  clear hrow hMay hBet
  go_enter Tryz.func184, Tryz.ntmps184
  go_wp2_with fail
  go_loopw [7, 12] (fun at_ i wr => ∃ k : Nat, k ≤ bs.length ∧ i = vi k ∧ at_ = vi (bestTo P Q bs k) ∧ Below w.heap.size w wr) (fun _ i _ => bs.length - (intOf i).toNat)
  case atStart => exact ⟨0, Nat.zero_le _, rfl, rfl, Below.refl _ _⟩
  case round =>
    obtain ⟨k, hk, rfl, rfl, hb⟩ := hrel
    have hbd := bestTo_bd P Q bs k
    by_cases hlt : k < bs.length
    · rcases HR.out with h0 | ⟨b, o, rfl, hc⟩
      · rw [h0] at hlt; simp at hlt
      have HC := Lib.hid hc
      clear hc
      have hx := (HC.out k hlt).below hb
      have hin : bs.getD k default ∈ bs := by rw [List.getD_eq_getElem?_getD, List.getElem?_eq_getElem hlt]; exact List.getElem_mem hlt
      have hstep : bestTo P Q bs (k + 1) = if P (bs.getD k default) && (decide (bestTo P Q bs k < 0) || Q (bs.getD k default) (bs.getD (bestTo P Q bs k).toNat default)) then (k : Int) else bestTo P Q bs k := rfl
      generalize bs.getD k default = x at hx hin hstep
      obtain ⟨h0, h1, h2, h3⟩ := hx
      generalize bestTo P Q bs k = at_ at *
      have Hs := Lib.hid hstep
      have Hin := Lib.hid hin
      clear hstep hin
      go_wp2_with fail
      obtain ⟨W, hWe⟩ : ∃ W : World, W = wr.alloc (Obj.cells #[vi x.s, vi x.l, vi x.r, vi x.n] 236) := ⟨_, rfl⟩
      rw [show wr.alloc (Obj.cells #[Value.int IntKind.i64 x.s, Value.int IntKind.i64 x.l, Value.int IntKind.i64 x.r, Value.int IntKind.i64 x.n] 236) = W from hWe.symm]
      have hbW : Below w.heap.size w W := by rw [hWe]; exact hb.alloc hb.size _
      have g : At4 W wr.heap.size 0 x := by rw [hWe]; exact ⟨by simp, by simp, by simp, by simp⟩
      have g0 := Sub.cell g.1
      have g1 := Sub.cell (a := ⟨wr.heap.size, 1, none⟩) g.2.1
      have g2 := Sub.cell (a := ⟨wr.heap.size, 2, none⟩) g.2.2.1
      have g3 := Sub.cell (a := ⟨wr.heap.size, 3, none⟩) g.2.2.2
      clear h0 h1 h2 h3 hWe g
      have hM := fun n : Sub W => HM.out x n.w Hin.out (hbW.trans (n.below.mono hbW.size))
      by_cases hP : P x = true
      · rw [hP] at hM
        have HM1 := Lib.hid hM
        clear hM
        by_cases h0 : at_ < 0
        · refine wp_region_sub (by kernel_rfl) (by kernel_rfl) ?_
          repeat (go_big_quiet_step (exact ext_of (HM1.out _)))
          refine wpQuiet_nil ?_
          rintro _ ⟨nq, rfl⟩
          have hbq := nq.below
          go_wp2_with fail
          go_roundw
          case rel => exact ⟨k + 1, by omega, by go_num, by rw [Hs.out]; simp [hP, h0], hbW.trans (hbq.mono hbW.size)⟩
          case measure => simp [intOf]; omega
        · obtain ⟨j, rfl⟩ : ∃ j : Nat, at_ = j := ⟨at_.toNat, by omega⟩
          have hy := (HC.out j (by omega)).below hbW
          have Hs' : bestTo P Q bs (k + 1) = if Q x (bs.getD j default) then (k : Int) else j := by rw [Hs.out]; simp [hP, h0]
          generalize bs.getD j default = y at hy Hs'
          have y0 := Sub.cell hy.1
          have y1 := Sub.cell hy.2.1
          have y2 := Sub.cell hy.2.2.1
          have y3 := Sub.cell hy.2.2.2
          clear hy Hs
          have hj0 : (0 : Int) ≤ (j : Int) := by omega
          have hj1 : (j : Int) < (bs.length : Int) := by omega
          have hB := fun n : Sub W => HB.out x y n.w (hbW.trans (n.below.mono hbW.size))
          cases hQ : Q x y
          all_goals
            rw [hQ] at hB
            have HB1 := Lib.hid hB
            have Hs := Lib.hid Hs'
            clear hB Hs'
            refine wp_region_sub (by kernel_rfl) (by kernel_rfl) ?_
            repeat (go_big_quiet_step (first | exact ext_of (HM1.out _) | exact ext_of (HB1.out _)))
            refine wpQuiet_nil ?_
            rintro _ ⟨nq, rfl⟩
            have hbq := nq.below
            go_wp2_with fail
            go_roundw
            case rel => exact ⟨k + 1, by omega, by go_num, by rw [Hs.out, hQ]; simp, hbW.trans (hbq.mono hbW.size)⟩
            case measure => simp [intOf]; omega
      · have hP' : P x = false := by simpa using hP
        rw [hP'] at hM
        have HM1 := Lib.hid hM
        clear hM
        refine wp_region_sub (by kernel_rfl) (by kernel_rfl) ?_
        repeat (go_big_quiet_step (exact ext_of (HM1.out _)))
        refine wpQuiet_nil ?_
        rintro _ ⟨nq, rfl⟩
        have hbq := nq.below
        go_wp2_with fail
        go_roundw
        case rel => exact ⟨k + 1, by omega, by go_num, by rw [Hs.out]; simp [hP'], hbW.trans (hbq.mono hbW.size)⟩
        case measure => simp [intOf]; omega
    · go_wp2_with fail
      go_ret
      obtain rfl : k = bs.length := by omega
      exact ⟨rfl, hb⟩

end Go.Proofs.YtnfhlocflpdlcaaGreat.gcs

/-
  gc: whether a row is right, its least and greatest Wear, the tests that Next hands on: for every row that is read.
-/
namespace Go.Proofs.YtnfhlocflpdlcaaGreat.gcs
open Go.RowKit

theorem enter_good (args : Array Value) (W : World) : (callFunc 185 args).run Tryz.prog W = .ok (.enter 185 args) W := enter_of Tryz.func185 (by kernel_rfl) rfl args W
theorem enter_worn (args : Array Value) (W : World) : (callFunc 251 args).run Tryz.prog W = .ok (.enter 251 args) W := enter_of Tryz.func251 (by kernel_rfl) rfl args W
theorem enter_emptier (args : Array Value) (W : World) : (callFunc 253 args).run Tryz.prog W = .ok (.enter 253 args) W := enter_of Tryz.func253 (by kernel_rfl) rfl args W
theorem enter_l1 (args : Array Value) (W : World) : (callFunc 187 args).run Tryz.prog W = .ok (.enter 187 args) W := enter_of Tryz.func187 (by kernel_rfl) rfl args W
theorem enter_g1 (args : Array Value) (W : World) : (callFunc 186 args).run Tryz.prog W = .ok (.enter 186 args) W := enter_of Tryz.func186 (by kernel_rfl) rfl args W
theorem enter_n1 (args : Array Value) (W : World) : (callFunc 247 args).run Tryz.prog W = .ok (.enter 247 args) W := enter_of Tryz.func247 (by kernel_rfl) rfl args W
theorem enter_n2 (args : Array Value) (W : World) : (callFunc 248 args).run Tryz.prog W = .ok (.enter 248 args) W := enter_of Tryz.func248 (by kernel_rfl) rfl args W
theorem enter_n3 (args : Array Value) (W : World) : (callFunc 249 args).run Tryz.prog W = .ok (.enter 249 args) W := enter_of Tryz.func249 (by kernel_rfl) rfl args W
theorem enter_n4 (args : Array Value) (W : World) : (callFunc 252 args).run Tryz.prog W = .ok (.enter 252 args) W := enter_of Tryz.func252 (by kernel_rfl) rfl args W
theorem enter_n5 (args : Array Value) (W : World) : (callFunc 255 args).run Tryz.prog W = .ok (.enter 255 args) W := enter_of Tryz.func255 (by kernel_rfl) rfl args W
theorem enter_n6 (args : Array Value) (W : World) : (callFunc 256 args).run Tryz.prog W = .ok (.enter 256 args) W := enter_of Tryz.func256 (by kernel_rfl) rfl args W
theorem enter_n7 (args : Array Value) (W : World) : (callFunc 258 args).run Tryz.prog W = .ok (.enter 258 args) W := enter_of Tryz.func258 (by kernel_rfl) rfl args W

def RightL (p : Int) (bs : List Blk) : Bool := !(decide (p < 1)) && !(decide (32 < p)) && bs.all (rightB p)
def goodB (x : Blk) : Bool := x.s != 4
def moreB (x y : Blk) : Bool := decide (y.r < x.r)
def wearAt (bs : List Blk) (k : Int) : Int := if k < 0 then 0 else (bs.getD k.toNat default).r
def leastL (bs : List Blk) : Int := wearAt bs (best goodB wornB bs)
def greatestL (bs : List Blk) : Int := wearAt bs (best goodB moreB bs)

theorem all_take_succ {α : Type} (f : α → Bool) (l : List α) (d : α) (k : Nat) (h : k < l.length) : (l.take (k + 1)).all f = ((l.take k).all f && f (l.getD k d)) := by
  rw [List.take_succ_eq_append_getElem h, List.all_append, List.getD_eq_getElem?_getD, List.getElem?_eq_getElem h]
  simp
theorem all_of_not {α : Type} (f : α → Bool) (l : List α) (d : α) (k : Nat) (h : k < l.length) (hf : f (l.getD k d) = false) : l.all f = false := by
  rw [List.getD_eq_getElem?_getD, List.getElem?_eq_getElem h] at hf
  rw [List.all_eq_false]
  exact ⟨_, List.getElem_mem h, by simpa using hf⟩
theorem best_bd (P : Blk → Bool) (Q : Blk → Blk → Bool) (bs : List Blk) : -1 ≤ best P Q bs ∧ best P Q bs < bs.length := bestTo_bd P Q bs bs.length

set_option maxHeartbeats 1000000 in
theorem Right_any (v : Value) (bs : List Blk) (p : Int) (w : World) (hrow : Row w v bs) :
    Calls Tryz.prog 246 #[v, vi p] w fun e w' => e = .returned (.bool (RightL p bs)) ∧ Below w.heap.size w w' := by
  obtain ⟨hlen, a, cap, rfl, hrow⟩ := hrow
  have HR := Lib.hid hrow
  clear hrow
  go_enter Tryz.func246, Tryz.ntmps246
  go_wp2_with fail
  go_step3
  by_cases h1 : p < 1
  · go_wp2_with fail
    try rw [Exit.noGoto_ret]
    go_ret
    exact ⟨ret_bool (by simp [RightL, h1]), Below.refl _ _⟩
  by_cases h2 : 32 < p
  · go_wp2_with fail
    try rw [Exit.noGoto_ret]
    go_ret
    exact ⟨ret_bool (by simp [RightL, h2]), Below.refl _ _⟩
  go_wp2_with fail
  go_step3
  go_wp2_with fail
  go_loopw [5, 16] (fun g i wr => ∃ k : Nat, k ≤ bs.length ∧ i = vi k ∧ g = .bool true ∧ (bs.take k).all (rightB p) = true ∧ Below w.heap.size w wr) (fun _ i _ => bs.length - (intOf i).toNat)
  case atStart => exact ⟨0, Nat.zero_le _, rfl, rfl, by simp, Below.refl _ _⟩
  case round =>
    obtain ⟨k, hk, rfl, rfl, hall, hb⟩ := hrel
    by_cases hlt : k < bs.length
    · rcases HR.out with h0 | ⟨b, o, rfl, hc⟩
      · rw [h0] at hlt; simp at hlt
      have hx := (hc k hlt).below hb
      have hst := all_take_succ (rightB p) bs default k hlt
      rw [hall] at hst
      have hno := all_of_not (rightB p) bs default k hlt
      clear hc hall
      generalize bs.getD k default = x at hx hst hno
      obtain ⟨g0, g1, g2, g3⟩ := hx
      have Hst := Lib.hid hst
      have Hno := Lib.hid hno
      clear hst hno
      go_wp2_with fail
      refine (right_any x p _).mono ?_
      rintro e w1 ⟨rfl, hb1⟩
      have hb2 := hb.trans (((Below.refl wr.heap.size wr).alloc (Nat.le_refl _) (.cells #[vi x.s, vi x.l, vi x.r, vi x.n] 236)).trans (hb1.mono (by simp)) |>.mono hb.size)
      cases hr : rightB p x
      · go_wp2_with fail
        try rw [Exit.noGoto_ret]
        go_ret
        have h3 := Hno.out hr
        exact ⟨ret_bool (by simp [RightL, h3]), hb2⟩
      · go_wp2_with fail
        go_roundw
        case rel => exact ⟨k + 1, by omega, by go_num, rfl, by rw [Hst.out, hr]; rfl, hb2⟩
        case measure => simp [intOf]; omega
    · go_wp2_with fail
      try rw [Exit.noGoto_ret]
      go_ret
      obtain rfl : k = bs.length := by omega
      rw [List.take_length] at hall
      exact ⟨ret_bool (by simp [RightL, h1, h2, hall]), hb⟩


theorem l1_any (x y : Blk) (w : World) :
    Calls Tryz.prog 187 #[x.v, y.v] w fun e w' => e = .returned (.bool (wornB x y)) ∧ Below w.heap.size w w' := by
  go_enter Tryz.func187, Tryz.ntmps187
  go_wp2
  go_ret
  exact ⟨rfl, ((Below.refl _ _).alloc (Nat.le_refl _) _).alloc (by simp) _⟩
theorem g1_any (x y : Blk) (w : World) :
    Calls Tryz.prog 186 #[x.v, y.v] w fun e w' => e = .returned (.bool (moreB x y)) ∧ Below w.heap.size w w' := by
  go_enter Tryz.func186, Tryz.ntmps186
  go_wp2
  go_ret
  exact ⟨rfl, ((Below.refl _ _).alloc (Nat.le_refl _) _).alloc (by simp) _⟩

theorem Row.lookup {w : World} {a : Option Addr} {bs : List Blk} {cap : Nat} (h : Row w (.slice a bs.length cap) bs) {k : Nat} (hk : k < bs.length) :
    ∃ b o, a = some ⟨b, o, none⟩ ∧ At4 w b (o + k * 4) (bs.getD k default) := by
  obtain ⟨_, a', cap', he, h⟩ := h
  injection he with he _ _
  subst he
  rcases h with h | ⟨b, o, rfl, h⟩
  · rw [h] at hk; simp at hk
  · exact ⟨b, o, rfl, h k hk⟩

set_option maxHeartbeats 1000000 in
theorem Least_any (v : Value) (bs : List Blk) (w : World) (hrow : Row w v bs) :
    Calls Tryz.prog 157 #[v] w fun e w' => e = .returned (vi (leastL bs)) ∧ Below w.heap.size w w' := by
  have HR := Lib.hid hrow
  obtain ⟨hlen, a, cap, rfl, -⟩ := hrow
  go_enter Tryz.func157, Tryz.ntmps157
  go_wp2_with fail
  refine (best_any 185 187 #[] #[] _ bs _ goodB wornB HR.out enter_good enter_l1 (fun x W _ _ => good_any x W) (fun x y W _ => l1_any x y W)).mono ?_
  rintro e w1 ⟨rfl, hb1⟩
  have hbd := best_bd goodB wornB bs
  have hL : leastL bs = wearAt bs (best goodB wornB bs) := rfl
  generalize best goodB wornB bs = k at *
  have HL := Lib.hid hL
  clear hL
  by_cases h0 : k < 0
  · go_wp2_with fail
    go_ret
    exact ⟨ret_int (by rw [HL.out, wearAt, if_pos h0]), hb1⟩
  · obtain ⟨j, rfl⟩ : ∃ j : Nat, k = j := ⟨k.toNat, by omega⟩
    obtain ⟨b, o, rfl, hc⟩ := (HR.out.below hb1).lookup (k := j) (by omega)
    have hc2 := hc.2.2.1
    have HW : Hid (wearAt bs (j : Int) = (bs.getD j default).r) := by show _ = _; rw [wearAt, if_neg h0]; rfl
    generalize (bs.getD j default).r = r at hc2 HW
    clear hc
    go_wp2_with fail
    go_ret
    exact ⟨ret_int (by rw [HL.out, HW.out]), hb1⟩

set_option maxHeartbeats 1000000 in
theorem Greatest_any (v : Value) (bs : List Blk) (w : World) (hrow : Row w v bs) :
    Calls Tryz.prog 156 #[v] w fun e w' => e = .returned (vi (greatestL bs)) ∧ Below w.heap.size w w' := by
  have HR := Lib.hid hrow
  obtain ⟨hlen, a, cap, rfl, -⟩ := hrow
  go_enter Tryz.func156, Tryz.ntmps156
  go_wp2_with fail
  refine (best_any 185 186 #[] #[] _ bs _ goodB moreB HR.out enter_good enter_g1 (fun x W _ _ => good_any x W) (fun x y W _ => g1_any x y W)).mono ?_
  rintro e w1 ⟨rfl, hb1⟩
  have hbd := best_bd goodB moreB bs
  have hL : greatestL bs = wearAt bs (best goodB moreB bs) := rfl
  generalize best goodB moreB bs = k at *
  have HL := Lib.hid hL
  clear hL
  by_cases h0 : k < 0
  · go_wp2_with fail
    go_ret
    exact ⟨ret_int (by rw [HL.out, wearAt, if_pos h0]), hb1⟩
  · obtain ⟨j, rfl⟩ : ∃ j : Nat, k = j := ⟨k.toNat, by omega⟩
    obtain ⟨b, o, rfl, hc⟩ := (HR.out.below hb1).lookup (k := j) (by omega)
    have hc2 := hc.2.2.1
    have HW : Hid (wearAt bs (j : Int) = (bs.getD j default).r) := by show _ = _; rw [wearAt, if_neg h0]; rfl
    generalize (bs.getD j default).r = r at hc2 HW
    clear hc
    go_wp2_with fail
    go_ret
    exact ⟨ret_int (by rw [HL.out, HW.out]), hb1⟩

end Go.Proofs.YtnfhlocflpdlcaaGreat.gcs

