/-
  Lemmas for a law's proof, put together from several texts: each part says what it shows, and its conditions.
-/
import Derived.Test.YtpggkehfbhffbaaRows
import Derived.WalkKit
import Derived.WalkLawsBesides
import Derived.WalkSpells
import Derived.ProofKit
import Derived.Lib.Hide
import Derived.BigQuiet
import Derived.Deep.Slices
import Derived.Deep.Fields
import Derived.OpenShut
import Derived.Laws.EntriesVeiled
/-
  Small general facts used by every walk of this seat: cells and worlds that only grow; a region that draws its order and whose operations leave old memory alone, walked once in the order of the text. No conditions of its own.
-/
namespace Go.Proofs.Ytpggkehfbhffbaa
open Go.RowKit

abbrev vi (n : Int) : Value := .int .i64 n

theorem ret_int {a b : Int} (h : a = b) : Ending.returned (vi a) = .returned (vi b) := by rw [h]
theorem ret_bool {a b : Bool} (h : a = b) : Ending.returned (.bool a) = .returned (.bool b) := by rw [h]

theorem cell_lt {w : World} {a : Addr} {v : Value} (h : w.cell? a = some v) : a.block < w.heap.size := by
  rcases Nat.lt_or_ge a.block w.heap.size with hlt | hge
  · exact hlt
  · simp [World.cell?, Array.getElem?_eq_none hge] at h
theorem cell_below {w w' : World} {a : Addr} {v : Value} (h : w.cell? a = some v) (hb : Below w.heap.size w w') : w'.cell? a = some v :=
  (hb.cell (cell_lt h)).trans h

/-- The worlds in which all that W holds stands as it stood. -/
structure Sub (W : World) where
  w : World
  below : Below W.heap.size W w

instance {W : World} : Nonempty (Sub W) := ⟨⟨W, Below.refl _ _⟩⟩

theorem Sub.cell {W : World} {a : Addr} {v : Value} (h : W.cell? a = some v) : ∀ n : Sub W, n.w.cell? a = some v := fun n => cell_below h n.below
theorem Sub.grow {W : World} (n : Sub W) {w' : World} (h : Below n.w.heap.size n.w w') : Below W.heap.size W w' := n.below.trans (h.mono n.below.size)

/-- A callee's contract, met in one of these worlds. -/
theorem ext_of {P : Program} {f : FuncId} {args : Array Value} {W : World} {n : Sub W} {v : Value}
    (h : Calls P f args n.w fun e w' => e = .returned v ∧ Below n.w.heap.size n.w w') :
    Calls P f args n.w fun e w'' => e = .returned v ∧ ∃ m : Sub W, w'' = m.w :=
  h.mono fun _ _ ⟨he, hb⟩ => ⟨he, ⟨_, n.grow hb⟩, rfl⟩

/-- A region that draws its order, walked once in the order of the text: its operations yield the same in each of these worlds, its callees leave one of them. -/
theorem wp_region_sub {P : Program} {id : Nat} {Q : Exit → Act → World → Prop} {a : Act} {w : World} {l : List Oper} (hm : P.follows .mixedOrders = true) (hB : Region.lexB .any l.toArray = true)
    (h : wpQuiet P l.toArray (fun w' => ∃ n : Sub w, w' = n.w) (fun a' => ∀ w', (∃ n : Sub w, w' = n.w) → Q .normal a' w') l a) : (Code.region id l.toArray true).wp P Q a w :=
  wp_region_quiet (C := fun w' => ∃ n : Sub w, w' = n.w) hm hB ⟨⟨_, (Below.refl _ _).drew⟩, rfl⟩ (by simpa using h)

/-- A call of a function that has a body enters it. -/
theorem enter_of {P : Program} {f : FuncId} {fn : Func} {c : Code} (hf : P.funcs[f]? = some fn) (hname : (fn.name == "runtime.NumGoroutine") = false) (hb : fn.body = some c) (args : Array Value) (w : World) :
    (callFunc f args).run P w = .ok (.enter f args) w := by
  have h1 : fn.name ≠ "runtime.NumGoroutine" := by simpa using hname
  simp [callFunc, hf, h1, hb]

/-- An append whose run is known. -/
theorem wpList_append_run {P : Program} {w w' : World} {ops : Array Oper} {rest : List Oper} {o : Oper} {a : Act} {Q : Exit → Act → World → Prop} (hgd : o.guard = none) (s x : Operand) {t : TypeId}
    (ho : o.op = .call { callee := .builtin .append, args := #[s, x], argTypes := #[t, t] }) {v src v' : Value} (hs : a.eval s = v) (hx : a.eval x = src)
    (hrun : (Builtin.append_ #[t, t] o.type #[v, src]).run P w = .ok v' w') (h : wpList P ops Q rest (a.put o.dst v') w') : wpList P ops Q (o :: rest) a w := by
  refine wpList_plain hgd fun K hK => ?_
  unfold Oper.wp execOp
  simp only [ho, resolve, invoke, builtin, Sem.run_bind, Sem.run_pure, Result.andThen_ok, List.map_toArray, List.map_cons, List.map_nil, hs, hx, hrun]
  exact hK _ _ h

end Go.Proofs.Ytpggkehfbhffbaa

/-
  gc: what a block's small tests answer, and the best one of a row: for every row that is read.
-/
namespace Go.Proofs.Ytpggkehfbhffbaa.gcs
open Go.RowKit

abbrev vblk (s l r n : Int) : Value := .agg #[vi s, vi l, vi r, vi n]
/-- api.Block: State, Live, Wear, Next. -/
structure Blk where
  s : Int
  l : Int
  r : Int
  n : Int
instance : Inhabited Blk := ⟨⟨0, 0, 0, 0⟩⟩
abbrev Blk.v (b : Blk) : Value := vblk b.s b.l b.r b.n

/-- Four cells at an address read as a block. -/
def At4 (w : World) (b o : Nat) (x : Blk) : Prop :=
  w.cell? ⟨b, o, none⟩ = some (vi x.s) ∧ w.cell? ⟨b, o + 1, none⟩ = some (vi x.l) ∧ w.cell? ⟨b, o + 2, none⟩ = some (vi x.r) ∧ w.cell? ⟨b, o + 3, none⟩ = some (vi x.n)
theorem At4.below {w w' : World} {b o : Nat} {x : Blk} (h : At4 w b o x) (hb : Below w.heap.size w w') : At4 w' b o x :=
  ⟨cell_below h.1 hb, cell_below h.2.1 hb, cell_below h.2.2.1 hb, cell_below h.2.2.2 hb⟩

/-- A slice of blocks: nil or not. -/
def Row (w : World) (v : Value) (bs : List Blk) : Prop :=
  bs.length ≤ 9223372036854775807 ∧ ∃ a cap, v = .slice a bs.length cap ∧ (bs = [] ∨ ∃ b o, a = some ⟨b, o, none⟩ ∧ ∀ i, i < bs.length → At4 w b (o + i * 4) (bs.getD i default))
theorem Row.below {w w' : World} {v : Value} {bs : List Blk} (h : Row w v bs) (hb : Below w.heap.size w w') : Row w' v bs := by
  obtain ⟨h0, a, cap, rfl, h⟩ := h
  refine ⟨h0, a, cap, rfl, ?_⟩
  rcases h with h | ⟨b, o, rfl, h⟩
  · exact .inl h
  · exact .inr ⟨b, o, rfl, fun i hi => (h i hi).below hb⟩

def rightB (p : Int) (x : Blk) : Bool :=
  decide (0 ≤ x.s) && decide (x.s ≤ 4) && decide (0 ≤ x.l) && decide (x.l ≤ p) && decide (0 ≤ x.n) && decide (x.n ≤ p) && decide (0 ≤ x.r) && decide (x.r ≤ 1099511627776) && (!(x.s == 0 || x.s == 3 || x.s == 4) || x.l == 0)

set_option maxHeartbeats 400000 in
theorem right_any (x : Blk) (p : Int) (w : World) :
    Calls Try.prog 128 #[x.v, vi p] w fun e w' => e = .returned (.bool (rightB p x)) ∧ Below w.heap.size w w' := by
  obtain ⟨s, l, r, n⟩ := x
  go_enter Try.func128, Try.ntmps128
  go_wp2
  all_goals go_ret
  all_goals refine ⟨ret_bool ?_, (Below.refl _ _).alloc (Nat.le_refl _) _⟩
  all_goals simp [rightB, *]
  all_goals omega

theorem good_any (x : Blk) (w : World) :
    Calls Try.prog 105 #[x.v] w fun e w' => e = .returned (.bool (x.s != 4)) ∧ Below w.heap.size w w' := by
  go_enter Try.func105, Try.ntmps105
  go_wp2
  go_ret
  exact ⟨rfl, (Below.refl _ _).alloc (Nat.le_refl _) _⟩

theorem worn_any (x y : Blk) (w : World) :
    Calls Try.prog 113 #[x.v, y.v] w fun e w' => e = .returned (.bool (decide (x.r < y.r))) ∧ Below w.heap.size w w' := by
  go_enter Try.func113, Try.ntmps113
  go_wp2
  go_ret
  exact ⟨rfl, ((Below.refl _ _).alloc (Nat.le_refl _) _).alloc (by simp) _⟩

end Go.Proofs.Ytpggkehfbhffbaa.gcs

/-
  gc: which of two blocks is emptier, may it be erased, and the best one of a row: for every row that is read.
-/
namespace Go.Proofs.Ytpggkehfbhffbaa.gcs
open Go.RowKit

def wornB (x y : Blk) : Bool := decide (x.r < y.r)
def emptierB (x y : Blk) : Bool := decide (x.l < y.l) || x.l == y.l && decide (x.r < y.r)
def mayB (least : Int) (x : Blk) : Bool := x.s != 4 && decide (x.r - least < 4)

set_option maxHeartbeats 1000000 in
theorem emptier_any (x y : Blk) (w : World) :
    Calls Try.prog 115 #[x.v, y.v] w fun e w' => e = .returned (.bool (emptierB x y)) ∧ Below w.heap.size w w' := by
  obtain ⟨s, l, r, n⟩ := x
  obtain ⟨s', l', r', n'⟩ := y
  go_enter Try.func115, Try.ntmps115
  rcases Int.lt_trichotomy l l' with h | rfl | h
  · go_wp2_with fail
    go_ret
    exact ⟨ret_bool (by simp [emptierB, h]), ((Below.refl _ _).alloc (Nat.le_refl _) _).alloc (by simp) _⟩
  · go_wp2_with fail
    refine (worn_any ⟨s, l, r, n⟩ ⟨s', l, r', n'⟩ _).mono ?_
    rintro e w1 ⟨rfl, hb1⟩
    go_wp2_with fail
    go_ret
    exact ⟨ret_bool (by simp [emptierB]), (((Below.refl _ _).alloc (Nat.le_refl _) _).alloc (by simp) _).trans (hb1.mono (by simp; omega))⟩
  · have h1 : ¬ l < l' := by omega
    have h2 : (l == l') = false := by simp; omega
    go_wp2_with fail
    go_ret
    exact ⟨ret_bool (by simp [emptierB, h1, h2]), ((Below.refl _ _).alloc (Nat.le_refl _) _).alloc (by simp) _⟩

set_option maxHeartbeats 1000000 in
theorem may_any (x : Blk) (least : Int) (w : World) (h1 : 0 ≤ x.r) (h2 : x.r ≤ 1099511627776) (h3 : 0 ≤ least) (h4 : least ≤ 1099511627776):
    Calls Try.prog 112 #[x.v, vi least] w fun e w' => e = .returned (.bool (mayB least x)) ∧ Below w.heap.size w w' := by
  obtain ⟨s, l, r, n⟩ := x
  dsimp only at h1 h2
  go_enter Try.func112, Try.ntmps112
  go_wp2_with fail
  refine (good_any ⟨s, l, r, n⟩ _).mono ?_
  rintro e w1 ⟨rfl, hb1⟩
  have hc : w1.cell? ⟨w.heap.size, 2, none⟩ = some (vi r) := cell_below (w := w.alloc (.cells #[vi s, vi l, vi r, vi n] 121)) (by simp) hb1
  by_cases hs : (s != 4) = true
  all_goals
    go_wp2_with fail
    go_ret
    refine ⟨ret_bool (by simp [mayB, *]), ?_⟩
    exact ((Below.refl _ _).alloc (Nat.le_refl _) _).trans (hb1.mono (by simp))

def bestTo (P : Blk → Bool) (Q : Blk → Blk → Bool) (bs : List Blk) : Nat → Int
  | 0 => -1
  | k + 1 => if P (bs.getD k default) && (decide (bestTo P Q bs k < 0) || Q (bs.getD k default) (bs.getD (bestTo P Q bs k).toNat default)) then k else bestTo P Q bs k
def best (P : Blk → Bool) (Q : Blk → Blk → Bool) (bs : List Blk) : Int := bestTo P Q bs bs.length

theorem bestTo_bd (P : Blk → Bool) (Q : Blk → Blk → Bool) (bs : List Blk) (k : Nat) : -1 ≤ bestTo P Q bs k ∧ bestTo P Q bs k < k := by
  induction k with
  | zero => simp [bestTo]
  | succ k ih => unfold bestTo; split <;> omega

set_option maxHeartbeats 2000000 in
theorem best_any (F G : Nat) (cm cb : Array Value) (v : Value) (bs : List Blk) (w : World) (P : Blk → Bool) (Q : Blk → Blk → Bool) (hrow : Row w v bs)
    (hF : ∀ args W, (callFunc F args).run Try.prog W = .ok (.enter F args) W) (hG : ∀ args W, (callFunc G args).run Try.prog W = .ok (.enter G args) W)
    (hMay : ∀ (x : Blk) (W : World), x ∈ bs → Below w.heap.size w W → Calls Try.prog F (#[x.v] ++ cm) W fun e W' => e = .returned (.bool (P x)) ∧ Below W.heap.size W W')
    (hBet : ∀ (x y : Blk) (W : World), Below w.heap.size w W → Calls Try.prog G (#[x.v, y.v] ++ cb) W fun e W' => e = .returned (.bool (Q x y)) ∧ Below W.heap.size W W') :
    Calls Try.prog 104 #[v, .func (.func F) #[] cm, .func (.func G) #[] cb] w fun e w' => e = .returned (vi (best P Q bs)) ∧ Below w.heap.size w w' := by
  obtain ⟨hlen, a, cap, rfl, hrow⟩ := hrow
  have HR := Lib.hid hrow
  have HM := Lib.hid hMay
  have HB := Lib.hid hBet
  clear hrow hMay hBet
  go_enter Try.func104, Try.ntmps104
  go_wp2_with fail
  go_loopw [7, 12] (fun at_ i wr => ∃ k : Nat, k ≤ bs.length ∧ i = vi k ∧ at_ = vi (bestTo P Q bs k) ∧ Below w.heap.size w wr) (fun _ i _ => bs.length - (intOf i).toNat)
  case atStart => exact ⟨0, Nat.zero_le _, rfl, rfl, Below.refl _ _⟩
  case round =>
    obtain ⟨k, hk, rfl, rfl, hb⟩ := hrel
    have hbd := bestTo_bd P Q bs k
    by_cases hlt : k < bs.length
    · rcases HR.out with h0 | ⟨b, o, rfl, hc⟩
      · rw [h0] at hlt; simp at hlt
      have HC := Lib.hid hc
      clear hc
      have hx := (HC.out k hlt).below hb
      have hin : bs.getD k default ∈ bs := by rw [List.getD_eq_getElem?_getD, List.getElem?_eq_getElem hlt]; exact List.getElem_mem hlt
      have hstep : bestTo P Q bs (k + 1) = if P (bs.getD k default) && (decide (bestTo P Q bs k < 0) || Q (bs.getD k default) (bs.getD (bestTo P Q bs k).toNat default)) then (k : Int) else bestTo P Q bs k := rfl
      generalize bs.getD k default = x at hx hin hstep
      obtain ⟨h0, h1, h2, h3⟩ := hx
      generalize bestTo P Q bs k = at_ at *
      have Hs := Lib.hid hstep
      have Hin := Lib.hid hin
      clear hstep hin
      go_wp2_with fail
      obtain ⟨W, hWe⟩ : ∃ W : World, W = wr.alloc (Obj.cells #[vi x.s, vi x.l, vi x.r, vi x.n] 121) := ⟨_, rfl⟩
      rw [show wr.alloc (Obj.cells #[Value.int IntKind.i64 x.s, Value.int IntKind.i64 x.l, Value.int IntKind.i64 x.r, Value.int IntKind.i64 x.n] 121) = W from hWe.symm]
      have hbW : Below w.heap.size w W := by rw [hWe]; exact hb.alloc hb.size _
      have g : At4 W wr.heap.size 0 x := by rw [hWe]; exact ⟨by simp, by simp, by simp, by simp⟩
      have g0 := Sub.cell g.1
      have g1 := Sub.cell (a := ⟨wr.heap.size, 1, none⟩) g.2.1
      have g2 := Sub.cell (a := ⟨wr.heap.size, 2, none⟩) g.2.2.1
      have g3 := Sub.cell (a := ⟨wr.heap.size, 3, none⟩) g.2.2.2
      clear h0 h1 h2 h3 hWe g
      have hM := fun n : Sub W => HM.out x n.w Hin.out (hbW.trans (n.below.mono hbW.size))
      by_cases hP : P x = true
      · rw [hP] at hM
        have HM1 := Lib.hid hM
        clear hM
        by_cases h0 : at_ < 0
        · refine wp_region_sub (by kernel_rfl) (by kernel_rfl) ?_
          repeat (go_big_quiet_step (exact ext_of (HM1.out _)))
          refine wpQuiet_nil ?_
          rintro _ ⟨nq, rfl⟩
          have hbq := nq.below
          go_wp2_with fail
          go_roundw
          case rel => exact ⟨k + 1, by omega, by go_num, by rw [Hs.out]; simp [hP, h0], hbW.trans (hbq.mono hbW.size)⟩
          case measure => simp [intOf]; omega
        · obtain ⟨j, rfl⟩ : ∃ j : Nat, at_ = j := ⟨at_.toNat, by omega⟩
          have hy := (HC.out j (by omega)).below hbW
          have Hs' : bestTo P Q bs (k + 1) = if Q x (bs.getD j default) then (k : Int) else j := by rw [Hs.out]; simp [hP, h0]
          generalize bs.getD j default = y at hy Hs'
          have y0 := Sub.cell hy.1
          have y1 := Sub.cell hy.2.1
          have y2 := Sub.cell hy.2.2.1
          have y3 := Sub.cell hy.2.2.2
          clear hy Hs
          have hj0 : (0 : Int) ≤ (j : Int) := by omega
          have hj1 : (j : Int) < (bs.length : Int) := by omega
          have hB := fun n : Sub W => HB.out x y n.w (hbW.trans (n.below.mono hbW.size))
          cases hQ : Q x y
          all_goals
            rw [hQ] at hB
            have HB1 := Lib.hid hB
            have Hs := Lib.hid Hs'
            clear hB Hs'
            refine wp_region_sub (by kernel_rfl) (by kernel_rfl) ?_
            repeat (go_big_quiet_step (first | exact ext_of (HM1.out _) | exact ext_of (HB1.out _)))
            refine wpQuiet_nil ?_
            rintro _ ⟨nq, rfl⟩
            have hbq := nq.below
            go_wp2_with fail
            go_roundw
            case rel => exact ⟨k + 1, by omega, by go_num, by rw [Hs.out, hQ]; simp, hbW.trans (hbq.mono hbW.size)⟩
            case measure => simp [intOf]; omega
      · have hP' : P x = false := by simpa using hP
        rw [hP'] at hM
        have HM1 := Lib.hid hM
        clear hM
        refine wp_region_sub (by kernel_rfl) (by kernel_rfl) ?_
        repeat (go_big_quiet_step (exact ext_of (HM1.out _)))
        refine wpQuiet_nil ?_
        rintro _ ⟨nq, rfl⟩
        have hbq := nq.below
        go_wp2_with fail
        go_roundw
        case rel => exact ⟨k + 1, by omega, by go_num, by rw [Hs.out]; simp [hP'], hbW.trans (hbq.mono hbW.size)⟩
        case measure => simp [intOf]; omega
    · go_wp2_with fail
      go_ret
      obtain rfl : k = bs.length := by omega
      exact ⟨rfl, hb⟩

end Go.Proofs.Ytpggkehfbhffbaa.gcs

/-
  gc: whether a row is right, its least and greatest Wear, the tests that Next hands on: for every row that is read.
-/
namespace Go.Proofs.Ytpggkehfbhffbaa.gcs
open Go.RowKit

theorem enter_good (args : Array Value) (W : World) : (callFunc 105 args).run Try.prog W = .ok (.enter 105 args) W := enter_of Try.func105 (by kernel_rfl) rfl args W
theorem enter_worn (args : Array Value) (W : World) : (callFunc 113 args).run Try.prog W = .ok (.enter 113 args) W := enter_of Try.func113 (by kernel_rfl) rfl args W
theorem enter_emptier (args : Array Value) (W : World) : (callFunc 115 args).run Try.prog W = .ok (.enter 115 args) W := enter_of Try.func115 (by kernel_rfl) rfl args W
theorem enter_l1 (args : Array Value) (W : World) : (callFunc 107 args).run Try.prog W = .ok (.enter 107 args) W := enter_of Try.func107 (by kernel_rfl) rfl args W
theorem enter_g1 (args : Array Value) (W : World) : (callFunc 106 args).run Try.prog W = .ok (.enter 106 args) W := enter_of Try.func106 (by kernel_rfl) rfl args W
theorem enter_n1 (args : Array Value) (W : World) : (callFunc 109 args).run Try.prog W = .ok (.enter 109 args) W := enter_of Try.func109 (by kernel_rfl) rfl args W
theorem enter_n2 (args : Array Value) (W : World) : (callFunc 110 args).run Try.prog W = .ok (.enter 110 args) W := enter_of Try.func110 (by kernel_rfl) rfl args W
theorem enter_n3 (args : Array Value) (W : World) : (callFunc 111 args).run Try.prog W = .ok (.enter 111 args) W := enter_of Try.func111 (by kernel_rfl) rfl args W
theorem enter_n4 (args : Array Value) (W : World) : (callFunc 114 args).run Try.prog W = .ok (.enter 114 args) W := enter_of Try.func114 (by kernel_rfl) rfl args W
theorem enter_n5 (args : Array Value) (W : World) : (callFunc 117 args).run Try.prog W = .ok (.enter 117 args) W := enter_of Try.func117 (by kernel_rfl) rfl args W
theorem enter_n6 (args : Array Value) (W : World) : (callFunc 118 args).run Try.prog W = .ok (.enter 118 args) W := enter_of Try.func118 (by kernel_rfl) rfl args W
theorem enter_n7 (args : Array Value) (W : World) : (callFunc 120 args).run Try.prog W = .ok (.enter 120 args) W := enter_of Try.func120 (by kernel_rfl) rfl args W

def RightL (p : Int) (bs : List Blk) : Bool := !(decide (p < 1)) && !(decide (32 < p)) && bs.all (rightB p)
def goodB (x : Blk) : Bool := x.s != 4
def moreB (x y : Blk) : Bool := decide (y.r < x.r)
def wearAt (bs : List Blk) (k : Int) : Int := if k < 0 then 0 else (bs.getD k.toNat default).r
def leastL (bs : List Blk) : Int := wearAt bs (best goodB wornB bs)
def greatestL (bs : List Blk) : Int := wearAt bs (best goodB moreB bs)

theorem all_take_succ {α : Type} (f : α → Bool) (l : List α) (d : α) (k : Nat) (h : k < l.length) : (l.take (k + 1)).all f = ((l.take k).all f && f (l.getD k d)) := by
  rw [List.take_succ_eq_append_getElem h, List.all_append, List.getD_eq_getElem?_getD, List.getElem?_eq_getElem h]
  simp
theorem all_of_not {α : Type} (f : α → Bool) (l : List α) (d : α) (k : Nat) (h : k < l.length) (hf : f (l.getD k d) = false) : l.all f = false := by
  rw [List.getD_eq_getElem?_getD, List.getElem?_eq_getElem h] at hf
  rw [List.all_eq_false]
  exact ⟨_, List.getElem_mem h, by simpa using hf⟩
theorem best_bd (P : Blk → Bool) (Q : Blk → Blk → Bool) (bs : List Blk) : -1 ≤ best P Q bs ∧ best P Q bs < bs.length := bestTo_bd P Q bs bs.length

set_option maxHeartbeats 1000000 in
theorem Right_any (v : Value) (bs : List Blk) (p : Int) (w : World) (hrow : Row w v bs) :
    Calls Try.prog 108 #[v, vi p] w fun e w' => e = .returned (.bool (RightL p bs)) ∧ Below w.heap.size w w' := by
  obtain ⟨hlen, a, cap, rfl, hrow⟩ := hrow
  have HR := Lib.hid hrow
  clear hrow
  go_enter Try.func108, Try.ntmps108
  go_wp2_with fail
  go_step3
  by_cases h1 : p < 1
  · go_wp2_with fail
    try rw [Exit.noGoto_ret]
    go_ret
    exact ⟨ret_bool (by simp [RightL, h1]), Below.refl _ _⟩
  by_cases h2 : 32 < p
  · go_wp2_with fail
    try rw [Exit.noGoto_ret]
    go_ret
    exact ⟨ret_bool (by simp [RightL, h2]), Below.refl _ _⟩
  go_wp2_with fail
  go_step3
  go_wp2_with fail
  go_loopw [5, 16] (fun g i wr => ∃ k : Nat, k ≤ bs.length ∧ i = vi k ∧ g = .bool true ∧ (bs.take k).all (rightB p) = true ∧ Below w.heap.size w wr) (fun _ i _ => bs.length - (intOf i).toNat)
  case atStart => exact ⟨0, Nat.zero_le _, rfl, rfl, by simp, Below.refl _ _⟩
  case round =>
    obtain ⟨k, hk, rfl, rfl, hall, hb⟩ := hrel
    by_cases hlt : k < bs.length
    · rcases HR.out with h0 | ⟨b, o, rfl, hc⟩
      · rw [h0] at hlt; simp at hlt
      have hx := (hc k hlt).below hb
      have hst := all_take_succ (rightB p) bs default k hlt
      rw [hall] at hst
      have hno := all_of_not (rightB p) bs default k hlt
      clear hc hall
      generalize bs.getD k default = x at hx hst hno
      obtain ⟨g0, g1, g2, g3⟩ := hx
      have Hst := Lib.hid hst
      have Hno := Lib.hid hno
      clear hst hno
      go_wp2_with fail
      refine (right_any x p _).mono ?_
      rintro e w1 ⟨rfl, hb1⟩
      have hb2 := hb.trans (((Below.refl wr.heap.size wr).alloc (Nat.le_refl _) (.cells #[vi x.s, vi x.l, vi x.r, vi x.n] 121)).trans (hb1.mono (by simp)) |>.mono hb.size)
      cases hr : rightB p x
      · go_wp2_with fail
        try rw [Exit.noGoto_ret]
        go_ret
        have h3 := Hno.out hr
        exact ⟨ret_bool (by simp [RightL, h3]), hb2⟩
      · go_wp2_with fail
        go_roundw
        case rel => exact ⟨k + 1, by omega, by go_num, rfl, by rw [Hst.out, hr]; rfl, hb2⟩
        case measure => simp [intOf]; omega
    · go_wp2_with fail
      try rw [Exit.noGoto_ret]
      go_ret
      obtain rfl : k = bs.length := by omega
      rw [List.take_length] at hall
      exact ⟨ret_bool (by simp [RightL, h1, h2, hall]), hb⟩


theorem l1_any (x y : Blk) (w : World) :
    Calls Try.prog 107 #[x.v, y.v] w fun e w' => e = .returned (.bool (wornB x y)) ∧ Below w.heap.size w w' := by
  go_enter Try.func107, Try.ntmps107
  go_wp2
  go_ret
  exact ⟨rfl, ((Below.refl _ _).alloc (Nat.le_refl _) _).alloc (by simp) _⟩
theorem g1_any (x y : Blk) (w : World) :
    Calls Try.prog 106 #[x.v, y.v] w fun e w' => e = .returned (.bool (moreB x y)) ∧ Below w.heap.size w w' := by
  go_enter Try.func106, Try.ntmps106
  go_wp2
  go_ret
  exact ⟨rfl, ((Below.refl _ _).alloc (Nat.le_refl _) _).alloc (by simp) _⟩

theorem Row.lookup {w : World} {a : Option Addr} {bs : List Blk} {cap : Nat} (h : Row w (.slice a bs.length cap) bs) {k : Nat} (hk : k < bs.length) :
    ∃ b o, a = some ⟨b, o, none⟩ ∧ At4 w b (o + k * 4) (bs.getD k default) := by
  obtain ⟨_, a', cap', he, h⟩ := h
  injection he with he _ _
  subst he
  rcases h with h | ⟨b, o, rfl, h⟩
  · rw [h] at hk; simp at hk
  · exact ⟨b, o, rfl, h k hk⟩

set_option maxHeartbeats 1000000 in
theorem Least_any (v : Value) (bs : List Blk) (w : World) (hrow : Row w v bs) :
    Calls Try.prog 84 #[v] w fun e w' => e = .returned (vi (leastL bs)) ∧ Below w.heap.size w w' := by
  have HR := Lib.hid hrow
  obtain ⟨hlen, a, cap, rfl, -⟩ := hrow
  go_enter Try.func84, Try.ntmps84
  go_wp2_with fail
  refine (best_any 105 107 #[] #[] _ bs _ goodB wornB HR.out enter_good enter_l1 (fun x W _ _ => good_any x W) (fun x y W _ => l1_any x y W)).mono ?_
  rintro e w1 ⟨rfl, hb1⟩
  have hbd := best_bd goodB wornB bs
  have hL : leastL bs = wearAt bs (best goodB wornB bs) := rfl
  generalize best goodB wornB bs = k at *
  have HL := Lib.hid hL
  clear hL
  by_cases h0 : k < 0
  · go_wp2_with fail
    go_ret
    exact ⟨ret_int (by rw [HL.out, wearAt, if_pos h0]), hb1⟩
  · obtain ⟨j, rfl⟩ : ∃ j : Nat, k = j := ⟨k.toNat, by omega⟩
    obtain ⟨b, o, rfl, hc⟩ := (HR.out.below hb1).lookup (k := j) (by omega)
    have hc2 := hc.2.2.1
    have HW : Hid (wearAt bs (j : Int) = (bs.getD j default).r) := by show _ = _; rw [wearAt, if_neg h0]; rfl
    generalize (bs.getD j default).r = r at hc2 HW
    clear hc
    go_wp2_with fail
    go_ret
    exact ⟨ret_int (by rw [HL.out, HW.out]), hb1⟩

set_option maxHeartbeats 1000000 in
theorem Greatest_any (v : Value) (bs : List Blk) (w : World) (hrow : Row w v bs) :
    Calls Try.prog 83 #[v] w fun e w' => e = .returned (vi (greatestL bs)) ∧ Below w.heap.size w w' := by
  have HR := Lib.hid hrow
  obtain ⟨hlen, a, cap, rfl, -⟩ := hrow
  go_enter Try.func83, Try.ntmps83
  go_wp2_with fail
  refine (best_any 105 106 #[] #[] _ bs _ goodB moreB HR.out enter_good enter_g1 (fun x W _ _ => good_any x W) (fun x y W _ => g1_any x y W)).mono ?_
  rintro e w1 ⟨rfl, hb1⟩
  have hbd := best_bd goodB moreB bs
  have hL : greatestL bs = wearAt bs (best goodB moreB bs) := rfl
  generalize best goodB moreB bs = k at *
  have HL := Lib.hid hL
  clear hL
  by_cases h0 : k < 0
  · go_wp2_with fail
    go_ret
    exact ⟨ret_int (by rw [HL.out, wearAt, if_pos h0]), hb1⟩
  · obtain ⟨j, rfl⟩ : ∃ j : Nat, k = j := ⟨k.toNat, by omega⟩
    obtain ⟨b, o, rfl, hc⟩ := (HR.out.below hb1).lookup (k := j) (by omega)
    have hc2 := hc.2.2.1
    have HW : Hid (wearAt bs (j : Int) = (bs.getD j default).r) := by show _ = _; rw [wearAt, if_neg h0]; rfl
    generalize (bs.getD j default).r = r at hc2 HW
    clear hc
    go_wp2_with fail
    go_ret
    exact ⟨ret_int (by rw [HL.out, HW.out]), hb1⟩

end Go.Proofs.Ytpggkehfbhffbaa.gcs

/-
  gc: the tests that Next hands on, and the first block that meets a test: for every row that is read.
-/
namespace Go.Proofs.Ytpggkehfbhffbaa.gcs
open Go.RowKit

abbrev pt (b : Nat) : Value := .pointer (some ⟨b, 0, none⟩)
abbrev fn0 (f : Nat) : Value := .func (.func f) #[] #[]

def staleB (x : Blk) : Bool := x.s == 3
def fullB (room : Bool) (x : Blk) : Bool := room && x.s == 2
def burnB (least : Int) (x : Blk) : Bool := x.r == least && (x.s == 0 || x.s == 1 && x.n == 0)

theorem n1_any (x : Blk) (w : World) :
    Calls Try.prog 109 #[x.v] w fun e w' => e = .returned (.bool (staleB x)) ∧ Below w.heap.size w w' := by
  go_enter Try.func109, Try.ntmps109
  go_wp2
  go_ret
  exact ⟨rfl, (Below.refl _ _).alloc (Nat.le_refl _) _⟩

theorem cell_alloc_old {w : World} {a : Addr} {v : Value} (h : w.cell? a = some v) (o : Obj) : (w.alloc o).cell? a = some v :=
  cell_below h ((Below.refl _ _).alloc (Nat.le_refl _) _)

theorem n2_any (x : Blk) (room : Bool) (br : Nat) (w : World) (hr : w.cell? ⟨br, 0, none⟩ = some (.bool room)) :
    Calls Try.prog 110 #[x.v, pt br] w fun e w' => e = .returned (.bool (fullB room x)) ∧ Below w.heap.size w w' := by
  have h1 : ∀ o, (w.alloc o).cell? ⟨br, 0, none⟩ = some (.bool room) := fun o => cell_alloc_old hr o
  cases room
  all_goals
    go_enter Try.func110, Try.ntmps110
    go_wp2
    go_ret
    exact ⟨rfl, (Below.refl _ _).alloc (Nat.le_refl _) _⟩

/-- A right block's Wear. -/
def RightWear (x : Blk) : Prop := 0 ≤ x.r ∧ x.r ≤ 1099511627776

/-- A block that was boxed, behind what left old memory alone. -/
theorem box4 {w w1 : World} (x : Blk) (T : TypeId) (h : Below (w.alloc (.cells #[vi x.s, vi x.l, vi x.r, vi x.n] T)).heap.size (w.alloc (.cells #[vi x.s, vi x.l, vi x.r, vi x.n] T)) w1) :
    (w1.cell? ⟨w.heap.size, 0, none⟩ = some (vi x.s) ∧ w1.cell? ⟨w.heap.size, 1, none⟩ = some (vi x.l) ∧ w1.cell? ⟨w.heap.size, 2, none⟩ = some (vi x.r) ∧ w1.cell? ⟨w.heap.size, 3, none⟩ = some (vi x.n)) ∧ Below w.heap.size w w1 :=
  ⟨⟨cell_below (by simp) h, cell_below (by simp) h, cell_below (by simp) h, cell_below (by simp) h⟩, ((Below.refl _ _).alloc (Nat.le_refl _) _).trans (h.mono (by simp))⟩

set_option maxHeartbeats 1000000 in
theorem n3_any (x : Blk) (least : Int) (bs bl : Nat) (w : World) (hs : w.cell? ⟨bs, 0, none⟩ = some (fn0 109)) (hl : w.cell? ⟨bl, 0, none⟩ = some (vi least))
    (hx : RightWear x) (h3 : 0 ≤ least) (h4 : least ≤ 1099511627776) :
    Calls Try.prog 111 #[x.v, pt bs, pt bl] w fun e w' => e = .returned (.bool (staleB x && mayB least x)) ∧ Below w.heap.size w w' := by
  have hx' := Lib.hid hx
  clear hx
  have f0 : ∀ o, (w.alloc o).cell? ⟨bs, 0, none⟩ = some (fn0 109) := fun o => cell_alloc_old hs o
  go_enter Try.func111, Try.ntmps111
  go_wp2_with fail
  refine (n1_any x _).mono ?_
  rintro e w1 ⟨rfl, hb1⟩
  have k1 : w1.cell? ⟨bl, 0, none⟩ = some (vi least) := cell_below (cell_alloc_old hl _) hb1
  obtain ⟨⟨c0, c1, c2, c3⟩, hb2⟩ := box4 x 121 hb1
  clear hb1
  cases h : staleB x
  · go_wp2_with fail
    go_ret
    exact ⟨ret_bool (by simp [h]), hb2⟩
  · go_wp2_with fail
    refine (may_any x least _ hx'.out.1 hx'.out.2 h3 h4).mono ?_
    rintro e w2 ⟨rfl, hb3⟩
    go_wp2_with fail
    go_ret
    exact ⟨ret_bool (by simp [h]), hb2.trans (hb3.mono hb2.size)⟩

set_option maxHeartbeats 1000000 in
theorem n4_any (x : Blk) (least p : Int) (room : Bool) (bf bl bp br : Nat) (w : World) (hf : w.cell? ⟨bf, 0, none⟩ = some (.func (.func 110) #[] #[pt br])) (hr : w.cell? ⟨br, 0, none⟩ = some (.bool room))
    (hl : w.cell? ⟨bl, 0, none⟩ = some (vi least)) (hp : w.cell? ⟨bp, 0, none⟩ = some (vi p))
    (hx : RightWear x) (h3 : 0 ≤ least) (h4 : least ≤ 1099511627776) :
    Calls Try.prog 114 #[x.v, pt bf, pt bl, pt bp] w fun e w' => e = .returned (.bool (fullB room x && mayB least x && decide (x.l < p))) ∧ Below w.heap.size w w' := by
  have hx' := Lib.hid hx
  clear hx
  have f0 : ∀ o, (w.alloc o).cell? ⟨bf, 0, none⟩ = some (.func (.func 110) #[] #[pt br]) := fun o => cell_alloc_old hf o
  have f1 : ∀ o, (w.alloc o).cell? ⟨br, 0, none⟩ = some (.bool room) := fun o => cell_alloc_old hr o
  go_enter Try.func114, Try.ntmps114
  go_wp2_with fail
  refine (n2_any x room br _ (f1 _)).mono ?_
  rintro e w1 ⟨rfl, hb1⟩
  have k1 : w1.cell? ⟨bl, 0, none⟩ = some (vi least) := cell_below (cell_alloc_old hl _) hb1
  have k2 : w1.cell? ⟨bp, 0, none⟩ = some (vi p) := cell_below (cell_alloc_old hp _) hb1
  obtain ⟨⟨c0, c1, c2, c3⟩, hb2⟩ := box4 x 121 hb1
  clear hb1
  cases h : fullB room x
  · go_wp2_with fail
    go_ret
    exact ⟨ret_bool (by simp [h]), hb2⟩
  · go_wp2_with fail
    refine (may_any x least _ hx'.out.1 hx'.out.2 h3 h4).mono ?_
    rintro e w2 ⟨rfl, hb3⟩
    have k2' := cell_below k2 hb3
    have c1' := cell_below c1 hb3
    have hb4 := hb2.trans (hb3.mono hb2.size)
    clear hb3 k1 k2 c0 c1 c2 c3
    cases h' : mayB least x
    · go_wp2_with fail
      go_ret
      exact ⟨ret_bool (by simp [h, h']), hb4⟩
    · go_wp2_with fail
      go_ret
      exact ⟨ret_bool (by simp [h, h']), hb4⟩

set_option maxHeartbeats 1000000 in
theorem n5_any (x : Blk) (least : Int) (bl : Nat) (w : World) (hl : w.cell? ⟨bl, 0, none⟩ = some (vi least)) :
    Calls Try.prog 117 #[x.v, pt bl] w fun e w' => e = .returned (.bool (burnB least x)) ∧ Below w.heap.size w w' := by
  have f0 : ∀ o, (w.alloc o).cell? ⟨bl, 0, none⟩ = some (vi least) := fun o => cell_alloc_old hl o
  by_cases h1 : (x.r == least) = true
  · by_cases h2 : (x.s == 0) = true
    · go_enter Try.func117, Try.ntmps117
      go_wp2_with fail
      go_ret
      exact ⟨ret_bool (by simp [burnB, h1, h2]), (Below.refl _ _).alloc (Nat.le_refl _) _⟩
    · have h2' : (x.s == 0) = false := by simpa using h2
      by_cases h3 : (x.s == 1) = true
      · go_enter Try.func117, Try.ntmps117
        go_wp2_with fail
        go_ret
        exact ⟨ret_bool (by simp [burnB, h1, h2', h3]), (Below.refl _ _).alloc (Nat.le_refl _) _⟩
      · have h3' : (x.s == 1) = false := by simpa using h3
        go_enter Try.func117, Try.ntmps117
        go_wp2_with fail
        go_ret
        exact ⟨ret_bool (by simp [burnB, h1, h2', h3']), (Below.refl _ _).alloc (Nat.le_refl _) _⟩
  · have h1' : (x.r == least) = false := by simpa using h1
    go_enter Try.func117, Try.ntmps117
    go_wp2_with fail
    go_ret
    exact ⟨ret_bool (by simp [burnB, h1']), (Below.refl _ _).alloc (Nat.le_refl _) _⟩

set_option maxHeartbeats 1000000 in
theorem n6_any (x : Blk) (least : Int) (room : Bool) (bf bl br : Nat) (w : World) (hf : w.cell? ⟨bf, 0, none⟩ = some (.func (.func 110) #[] #[pt br])) (hr : w.cell? ⟨br, 0, none⟩ = some (.bool room))
    (hl : w.cell? ⟨bl, 0, none⟩ = some (vi least)) :
    Calls Try.prog 118 #[x.v, pt bf, pt bl] w fun e w' => e = .returned (.bool (fullB room x && x.r == least)) ∧ Below w.heap.size w w' := by
  have f0 : ∀ o, (w.alloc o).cell? ⟨bf, 0, none⟩ = some (.func (.func 110) #[] #[pt br]) := fun o => cell_alloc_old hf o
  have f1 : ∀ o, (w.alloc o).cell? ⟨br, 0, none⟩ = some (.bool room) := fun o => cell_alloc_old hr o
  go_enter Try.func118, Try.ntmps118
  go_wp2_with fail
  refine (n2_any x room br _ (f1 _)).mono ?_
  rintro e w1 ⟨rfl, hb1⟩
  have k1 : w1.cell? ⟨bl, 0, none⟩ = some (vi least) := cell_below (cell_alloc_old hl _) hb1
  obtain ⟨⟨c0, c1, c2, c3⟩, hb2⟩ := box4 x 121 hb1
  clear hb1
  cases h : fullB room x
  all_goals
    go_wp2_with fail
    go_ret
    exact ⟨ret_bool (by simp [h]), hb2⟩

set_option maxHeartbeats 1000000 in
theorem n7_any (x : Blk) (p : Int) (room : Bool) (bf bp br : Nat) (w : World) (hf : w.cell? ⟨bf, 0, none⟩ = some (.func (.func 110) #[] #[pt br])) (hr : w.cell? ⟨br, 0, none⟩ = some (.bool room))
    (hp : w.cell? ⟨bp, 0, none⟩ = some (vi p)) :
    Calls Try.prog 120 #[x.v, pt bf, pt bp] w fun e w' => e = .returned (.bool (fullB room x && decide (x.l < p))) ∧ Below w.heap.size w w' := by
  have f0 : ∀ o, (w.alloc o).cell? ⟨bf, 0, none⟩ = some (.func (.func 110) #[] #[pt br]) := fun o => cell_alloc_old hf o
  have f1 : ∀ o, (w.alloc o).cell? ⟨br, 0, none⟩ = some (.bool room) := fun o => cell_alloc_old hr o
  go_enter Try.func120, Try.ntmps120
  go_wp2_with fail
  refine (n2_any x room br _ (f1 _)).mono ?_
  rintro e w1 ⟨rfl, hb1⟩
  have k1 : w1.cell? ⟨bp, 0, none⟩ = some (vi p) := cell_below (cell_alloc_old hp _) hb1
  obtain ⟨⟨c0, c1, c2, c3⟩, hb2⟩ := box4 x 121 hb1
  clear hb1
  cases h : fullB room x
  all_goals
    go_wp2_with fail
    go_ret
    exact ⟨ret_bool (by simp [h]), hb2⟩

/-- The first place at which a test says yes. -/
def firstTo (P : Blk → Bool) : List Blk → Nat → Int
  | [], _ => -1
  | x :: l, k => if P x then k else firstTo P l (k + 1)
def first (P : Blk → Bool) (bs : List Blk) : Int := firstTo P bs 0
theorem firstTo_bd (P : Blk → Bool) : ∀ (l : List Blk) (k : Nat), firstTo P l k = -1 ∨ (k : Int) ≤ firstTo P l k ∧ firstTo P l k < k + l.length
  | [], _ => .inl rfl
  | x :: l, k => by
    unfold firstTo
    split
    · exact .inr ⟨by omega, by simp; omega⟩
    · rcases firstTo_bd P l (k + 1) with h | h
      · exact .inl h
      · exact .inr ⟨by omega, by simp at h ⊢; omega⟩
theorem first_bd (P : Blk → Bool) (bs : List Blk) : -1 ≤ first P bs ∧ first P bs < bs.length := by
  rcases firstTo_bd P bs 0 with h | h <;> unfold first <;> omega
theorem firstTo_drop (P : Blk → Bool) (bs : List Blk) (k : Nat) (h : k < bs.length) : firstTo P (bs.drop k) k = if P (bs.getD k default) then (k : Int) else firstTo P (bs.drop (k + 1)) (k + 1) := by
  rw [List.drop_eq_getElem_cons h, firstTo, List.getD_eq_getElem?_getD, List.getElem?_eq_getElem h]
  rfl

set_option maxHeartbeats 1000000 in
theorem IndexFunc_any (F : Nat) (cm : Array Value) (v : Value) (bs : List Blk) (w : World) (P : Blk → Bool) (hrow : Row w v bs)
    (hF : ∀ args W, (callFunc F args).run Try.prog W = .ok (.enter F args) W)
    (hMay : ∀ (x : Blk) (W : World), x ∈ bs → Below w.heap.size w W → Calls Try.prog F (#[x.v] ++ cm) W fun e W' => e = .returned (.bool (P x)) ∧ Below W.heap.size W W') :
    Calls Try.prog 116 #[v, .func (.func F) #[] cm] w fun e w' => e = .returned (vi (first P bs)) ∧ Below w.heap.size w w' := by
  have HR := Lib.hid hrow
  obtain ⟨hlen, a, cap, rfl, -⟩ := hrow
  have HM := Lib.hid hMay
  clear hMay
  go_enter Try.func116, Try.ntmps116
  go_wp2_with fail
  go_loopw [8] (fun i wr => ∃ k : Nat, k ≤ bs.length ∧ i = vi k ∧ first P bs = firstTo P (bs.drop k) k ∧ Below w.heap.size w wr) (fun i _ => bs.length - (intOf i).toNat)
  case atStart => exact ⟨0, Nat.zero_le _, rfl, rfl, Below.refl _ _⟩
  case round =>
    obtain ⟨k, hk, rfl, hf, hb⟩ := hrel
    have Hf := Lib.hid hf
    clear hf
    by_cases hlt : k < bs.length
    · obtain ⟨b, o, rfl, hx⟩ := (HR.out.below hb).lookup hlt
      have hin : bs.getD k default ∈ bs := by rw [List.getD_eq_getElem?_getD, List.getElem?_eq_getElem hlt]; exact List.getElem_mem hlt
      have hd := firstTo_drop P bs k hlt
      generalize bs.getD k default = x at hx hin hd
      obtain ⟨g0, g1, g2, g3⟩ := hx
      have Hin := Lib.hid hin
      have Hd := Lib.hid hd
      clear hin hd
      go_wp2_with fail
      refine (HM.out x _ Hin.out hb).mono ?_
      rintro e w1 ⟨rfl, hb1⟩
      have hb2 := hb.trans (hb1.mono hb.size)
      cases hP : P x
      · go_wp2_with fail
        go_roundw
        case rel => exact ⟨k + 1, by omega, by go_num, by rw [Hf.out, Hd.out, hP]; rfl, hb2⟩
        case measure => simp [intOf]; omega
      · go_wp2_with fail
        go_ret
        exact ⟨ret_int (by rw [Hf.out, Hd.out, hP]; rfl), hb2⟩
    · go_wp2_with fail
      go_ret
      obtain rfl : k = bs.length := by omega
      exact ⟨ret_int (by rw [Hf.out, List.drop_length]; rfl), hb⟩

end Go.Proofs.Ytpggkehfbhffbaa.gcs

/-
  gc: the next action: for every row that is read.
-/
namespace Go.Proofs.Ytpggkehfbhffbaa.gcs
open Go.RowKit

abbrev vact (a : Int × Int) : Value := .agg #[vi a.1, vi a.2]

theorem field_a0 (x y : Int) (w : World) : (Instr.field 74 (.agg #[vi x, vi y]) 0).run Try.prog w = .ok (vi x) w := by kernel_rfl
theorem field_a1 (x y : Int) (w : World) : (Instr.field 74 (.agg #[vi x, vi y]) 1).run Try.prog w = .ok (vi y) w := by kernel_rfl

def movedB (room : Bool) (p : Int) (x : Blk) : Bool := fullB room x && decide (x.l < p)
def pick4 (k : Int) (kind : Int) (r : Int × Int) : Int × Int := if 0 ≤ k then (kind, k) else r
def forcedL (bs : List Blk) (p : Int) (room : Bool) : Int × Int :=
  pick4 (best staleB wornB bs) 4 (pick4 (best (movedB room p) emptierB bs) 4 (0, -1))
def NextL (bs : List Blk) (p : Int) (room : Bool) : Int × Int :=
  if RightL p bs then
    pick4 (best (fun x => staleB x && mayB (leastL bs) x) wornB bs) 1
      (pick4 (best (fun x => fullB room x && mayB (leastL bs) x && decide (x.l < p)) emptierB bs) 2
        (pick4 (first (burnB (leastL bs)) bs) 3
          (pick4 (best (fun x => fullB room x && x.r == leastL bs) emptierB bs) 2 (forcedL bs p room))))
  else (0, -1)

theorem pick4_yes {k kind : Int} {r : Int × Int} (h : 0 ≤ k) : pick4 k kind r = (kind, k) := if_pos h
theorem pick4_no {k kind : Int} {r : Int × Int} (h : k < 0) : pick4 k kind r = r := if_neg (by omega)

/-- A result that lies in a block of two cells, behind what left old memory alone. -/
theorem box2 {w w1 : World} {u v : Value} {T : TypeId} (h : Below (w.alloc (.cells #[u, v] T)).heap.size (w.alloc (.cells #[u, v] T)) w1) :
    (w1.cell? ⟨w.heap.size, 0, none⟩ = some u ∧ w1.cell? ⟨w.heap.size, 1, none⟩ = some v ∧ w1.frozen? ⟨w.heap.size, 0, none⟩ = false ∧ w1.frozen? ⟨w.heap.size, 1, none⟩ = false) ∧ Below w.heap.size w w1 :=
  ⟨⟨cell_below (by simp) h, cell_below (by simp) h, by rw [h.frozen (by simp)]; simp, by rw [h.frozen (by simp)]; simp⟩, ((Below.refl _ _).alloc (Nat.le_refl _) _).trans (h.mono (by simp))⟩
theorem keep2 {w w1 : World} {b : Nat} {u v : Value} (h : w.cell? ⟨b, 0, none⟩ = some u ∧ w.cell? ⟨b, 1, none⟩ = some v ∧ w.frozen? ⟨b, 0, none⟩ = false ∧ w.frozen? ⟨b, 1, none⟩ = false) (hb : Below w.heap.size w w1) :
    w1.cell? ⟨b, 0, none⟩ = some u ∧ w1.cell? ⟨b, 1, none⟩ = some v ∧ w1.frozen? ⟨b, 0, none⟩ = false ∧ w1.frozen? ⟨b, 1, none⟩ = false :=
  ⟨cell_below h.1 hb, cell_below h.2.1 hb, (hb.frozen (cell_lt h.1)).trans h.2.2.1, (hb.frozen (cell_lt h.2.1)).trans h.2.2.2⟩

set_option maxHeartbeats 1000000 in
theorem forced_any (v : Value) (bs : List Blk) (p : Int) (room : Bool) (bf bp br : Nat) (w : World) (hrow : Row w v bs)
    (hf : w.cell? ⟨bf, 0, none⟩ = some (.func (.func 110) #[] #[pt br])) (hr : w.cell? ⟨br, 0, none⟩ = some (.bool room)) (hp : w.cell? ⟨bp, 0, none⟩ = some (vi p)) :
    Calls Try.prog 119 #[v, fn0 109, .func (.func 120) #[] #[pt bf, pt bp]] w fun e w' => e = .returned (vact (forcedL bs p room)) ∧ Below w.heap.size w w' := by
  have HR := Lib.hid hrow
  clear hrow
  have HL := Lib.hid (show forcedL bs p room = pick4 (best staleB wornB bs) 4 (pick4 (best (movedB room p) emptierB bs) 4 (0, -1)) from rfl)
  go_enter Try.func119, Try.ntmps119
  go_wp2_with fail
  refine (best_any 109 113 #[] #[] _ bs _ staleB wornB (HR.out.below ((Below.refl _ _).alloc (Nat.le_refl _) _)) enter_n1 enter_worn (fun x W _ _ => n1_any x W) (fun x y W _ => worn_any x y W)).mono ?_
  rintro e w1 ⟨rfl, hb1⟩
  obtain ⟨hk, hb2⟩ := box2 hb1
  have hbd := best_bd staleB wornB bs
  generalize best staleB wornB bs = k1 at *
  clear hb1
  by_cases h1 : 0 ≤ k1
  · obtain ⟨c0, c1, f0, f1⟩ := hk
    go_wp2_with fail
    refine bodyPost_ret (v := vact (4, k1)) (by simp [results, Try.results119, go_sem, c0, c1]) rfl ⟨by rw [HL.out, pick4_yes h1], ?_⟩
    exact (hb2.setCell (p := ⟨w.heap.size, 0, none⟩) (Nat.le_refl _) _).setCell (p := ⟨w.heap.size, 1, none⟩) (Nat.le_refl _) _
  · have h1' : k1 < 0 := by omega
    go_wp2_with fail
    refine (best_any 120 115 #[pt bf, pt bp] #[] _ bs _ (movedB room p) emptierB (HR.out.below hb2) enter_n7 enter_emptier
      (fun x W _ hW => n7_any x p room bf bp br W (cell_below (cell_below hf hb2) hW) (cell_below (cell_below hr hb2) hW) (cell_below (cell_below hp hb2) hW)) (fun x y W _ => emptier_any x y W)).mono ?_
    rintro e w2 ⟨rfl, hb3⟩
    have hk2 := keep2 hk hb3
    have hb4 := hb2.trans (hb3.mono hb2.size)
    have hbd2 := best_bd (movedB room p) emptierB bs
    generalize best (movedB room p) emptierB bs = k2 at *
    clear hb3 hb2 hk
    obtain ⟨c0, c1, f0, f1⟩ := hk2
    by_cases h2 : 0 ≤ k2
    · go_wp2_with fail
      refine bodyPost_ret (v := vact (4, k2)) (by simp [results, Try.results119, go_sem, c0, c1]) rfl ⟨by rw [HL.out, pick4_no h1', pick4_yes h2], ?_⟩
      exact (hb4.setCell (p := ⟨w.heap.size, 0, none⟩) (Nat.le_refl _) _).setCell (p := ⟨w.heap.size, 1, none⟩) (Nat.le_refl _) _
    · have h2' : k2 < 0 := by omega
      go_wp2_with fail
      refine bodyPost_ret (v := vact (0, -1)) (by simp [results, Try.results119, go_sem, c0, c1]) rfl ⟨by rw [HL.out, pick4_no h1', pick4_no h2'], ?_⟩
      exact (hb4.setCell (p := ⟨w.heap.size, 0, none⟩) (Nat.le_refl _) _).setCell (p := ⟨w.heap.size, 1, none⟩) (Nat.le_refl _) _

end Go.Proofs.Ytpggkehfbhffbaa.gcs

