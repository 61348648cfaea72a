/-
  Rows of operations: how many operations and bytes there are; as the program's. Conditions: rows that are read.
-/
import Derived.Test.YtneoeekhinlhgaaGreatHF
import Derived.Deep.QuietTactic
namespace Go.Proofs.YtneoeekhinlhgaaGreat
open Go.RowKit

theorem below_drewN {B : Nat} {a w : World} (h : Below B a w) (n : Nat) : Below B a (w.drewN n) := ⟨h.os, h.tape, h.output, h.size, h.block⟩

instance : Inhabited OpE := ⟨⟨default, none, 0⟩⟩
/-- Lengths that memory holds. -/
structure OpE.lens (e : OpE) : Prop where
  path : e.o.path.length ≤ 140737488355328
  dest : e.o.dest.length ≤ 140737488355328
  bytes : e.o.bytes.length ≤ 140737488355328

/-- Operations that a slice reads as. -/
structure ORow (w : World) (a : Option Addr) (es : List OpE) : Prop where
  at_ : es = [] ∨ ∃ b o, a = some ⟨b, o, none⟩ ∧ ∀ i, i < es.length → ∀ j u, (es.getD i default).cs[j]? = some u → w.cell? ⟨b, o + i * 7 + j, none⟩ = some u
  bytes : ∀ e ∈ es, BRow w e.s e.o.bytes
  fits : ∀ e ∈ es, e.o.fits
  lens : ∀ e ∈ es, e.lens
theorem ORow.below {w w' : World} {a : Option Addr} {es : List OpE} (h : ORow w a es) (hb : Below w.heap.size w w') : ORow w' a es := by
  refine ⟨?_, fun e he => (h.bytes e he).below hb, h.fits, h.lens⟩
  rcases h.at_ with h0 | ⟨b, o, rfl, h1⟩
  · exact .inl h0
  · exact .inr ⟨b, o, rfl, fun i hi j u hu => cell_below (h1 i hi j u hu) hb⟩
theorem getD_mem_op {es : List OpE} {k : Nat} (h : k < es.length) : es.getD k default ∈ es := by
  rw [List.getD_eq_getElem?_getD, List.getElem?_eq_getElem h]
  exact List.getElem_mem h
theorem ORow.lookup {w : World} {a : Option Addr} {es : List OpE} (h : ORow w a es) {k : Nat} (hk : k < es.length) : ∃ b o, a = some ⟨b, o, none⟩ ∧
    (∀ j u, (es.getD k default).cs[j]? = some u → w.cell? ⟨b, o + k * 7 + j, none⟩ = some u) ∧ BRow w (es.getD k default).s (es.getD k default).o.bytes ∧ (es.getD k default).o.fits ∧ (es.getD k default).lens := by
  have hm := getD_mem_op hk
  rcases h.at_ with rfl | ⟨b, o, rfl, h1⟩
  · simp at hk
  · exact ⟨b, o, rfl, h1 k hk, h.bytes _ hm, h.fits _ hm, h.lens _ hm⟩

def sizeOf1 (e : OpE) : Nat := 20 + e.o.path.length + e.o.dest.length + e.o.bytes.length
def sizeTo (es : List OpE) : Nat → Nat
  | 0 => 0
  | k + 1 => sizeTo es k + sizeOf1 (es.getD k default)

set_option maxRecDepth 100000 in
set_option maxHeartbeats 1000000 in
theorem Size_any (a : Option Addr) (es : List OpE) (c : Nat) (w : World) (h : ORow w a es) (hl : es.length ≤ 9223372036854775807) :
    Calls Tryz.prog 7 #[.slice a es.length c, vi 20000] w fun e w' => ∃ k : Nat, k ≤ es.length ∧ (k = es.length ∨ 20000 < sizeTo es k) ∧ e = .returned (vi (sizeTo es k)) ∧ Below w.heap.size w w' := by
  have HR := Lib.hid h
  clear h
  go_enter Tryz.func7, Tryz.ntmps7
  go_wp2_with fail
  go_loopw [5, 6] (fun n i wr => ∃ k z : Nat, k ≤ es.length ∧ i = vi k ∧ n = vi z ∧ Hid (z = sizeTo es k) ∧ z ≤ 500000000000000 ∧ Below w.heap.size w wr) (fun _ i _ => es.length - (intOf i).toNat)
  case atStart => exact ⟨0, 0, Nat.zero_le _, rfl, rfl, Lib.hid rfl, by omega, Below.refl _ _⟩
  case round =>
    obtain ⟨k, z, hk, rfl, rfl, hz, hzl, hb⟩ := hrel
    by_cases hlt : k < es.length
    · by_cases hz2 : z ≤ 20000
      · obtain ⟨b, o, rfl, hc, -, -, hlens⟩ := (HR.out.below hb).lookup hlt
        have HS := Lib.hid (show sizeTo es (k + 1) = z + sizeOf1 (es.getD k default) by rw [sizeTo, hz.out])
        obtain ⟨hl1, hl2, hl3⟩ := hlens
        generalize es.getD k default = x at hc hl1 hl2 hl3 HS
        obtain ⟨⟨xk, p, q, xh, n, f, l⟩, s, xc⟩ := x
        have g1 := hc 1 _ rfl
        have g2 := hc 2 _ rfl
        have g6 := hc 6 _ rfl
        have hp := bs_size p
        have hq := bs_size q
        clear hc
        dsimp only at hl1 hl2 hl3
        have HB := Lib.hid hb
        clear hb
        have hk0 : (0 : Int) ≤ (k : Int) := by omega
        have hk1 : (k : Int) < (es.length : Int) := by omega
        go_wp2_with fail
        go_quiet (fail)
        go_wp2_with fail
        go_roundw
        case rel => exact ⟨k + 1, z + (20 + p.length + q.length + l.length), by omega, by go_num, by go_num, Lib.hid (by rw [HS.out]; rfl), by omega, below_drewN HB.out _⟩
        case measure => simp [intOf]; omega
      · go_wp2_with fail
        go_ret
        exact ⟨k, by omega, .inr (by have := hz.out; omega), by rw [hz.out]; rfl, hb⟩
    · obtain rfl : k = es.length := by omega
      go_wp2_with fail
      go_ret
      exact ⟨es.length, by omega, .inl rfl, by rw [hz.out]; rfl, hb⟩

/-- The cells of a row of operations. -/
def opCells (es : List OpE) : List Value := es.flatMap fun e => e.cs.toList
theorem opCells_length (es : List OpE) : (opCells es).length = es.length * 7 := by
  induction es with
  | nil => rfl
  | cons e es ih => simp only [opCells, List.flatMap_cons, List.length_append, List.length_cons] at *; rw [ih]; simp; omega
theorem opCells_append (es fs : List OpE) : opCells (es ++ fs) = opCells es ++ opCells fs := List.flatMap_append ..
theorem opCells_get : ∀ (es : List OpE) (i j : Nat) (u : Value), i < es.length → (es.getD i default).cs[j]? = some u → (opCells es)[i * 7 + j]? = some u
  | e :: es, 0, j, u, _, h => by
    have hj : j < 7 := by
      have := (Array.getElem?_eq_some_iff.1 h).1
      simpa using this
    rw [opCells, List.flatMap_cons, List.getElem?_append_left (by simp; omega)]
    simpa using h
  | e :: es, i + 1, j, u, hi, h => by
    have := opCells_get es i j u (by simpa using hi) (by simpa using h)
    rw [opCells, List.flatMap_cons, List.getElem?_append_right (by simp; omega)]
    rw [← this]
    congr 1
    simp
    omega

/-- A row of operations of the call's own. -/
def OOwn (w : World) (base : Nat) (v : Value) (es : List OpE) : Prop := w.ownsRow base 53 7 v es.length (opCells es)
theorem OOwn.nil (w : World) (base : Nat) : OOwn w base (.slice none 0 0) [] := World.ownsRow_nil _ _ _ _
theorem OOwn.row {w : World} {base : Nat} {v : Value} {es : List OpE} (h : OOwn w base v es) (hb : ∀ e ∈ es, BRow w e.s e.o.bytes) (hf : ∀ e ∈ es, e.o.fits) (hl : ∀ e ∈ es, e.lens) : ∃ a c, v = .slice a es.length c ∧ ORow w a es := by
  have h' := h
  rcases h'.2 with ⟨rfl, h0⟩ | ⟨g, cap, cur, rfl, _, _, hnc, _⟩
  · have : es = [] := List.eq_nil_of_length_eq_zero h0
    subst this
    exact ⟨none, 0, rfl, .inl rfl, hb, hf, hl⟩
  · refine ⟨_, cap, rfl, .inr ⟨g, 0, rfl, fun i hi j u hu => ?_⟩, hb, hf, hl⟩
    have hj : j < 7 := by
      have := (Array.getElem?_eq_some_iff.1 hu).1
      simpa using this
    rw [Nat.zero_add, World.ownsRow.cellAt h (i * 7 + j) (by omega)]
    exact opCells_get es i j u hi hu
theorem OOwn.old {w w' : World} {base : Nat} {v : Value} {es : List OpE} (h : OOwn w base v es) (hb : Below w.heap.size w w') : OOwn w' base v es :=
  World.ownsRow.kept h (row := none) ⟨hb.os, hb.tape, hb.output, hb.size, fun k hk _ => hb.block k hk⟩ (by
    cases hv : v.ownBlock
    · exact .inl rfl
    · exact .inr (by simp))
theorem op_info : (Tryz.prog.info? 53).map (fun i => (i.zero, i.size, i.bytes)) = some (some (.agg #[vi 0, .string (bs []), .string (bs []), vi 0, vi 0, vi 0, .slice none 0 0]), 7, 88) := by kernel_rfl

/-- One operation laid into a row of its own and appended. -/
theorem append_op {w : World} {base : Nat} {v : Value} {es : List OpE} (hown : OOwn w base v es) (e : OpE) {H : Nat} (hH : w.heap.size = H) (hn : es.length + 1 ≤ 1000000) (hb : base ≤ w.heap.size) :
    ∃ v' w', (Builtin.append_ #[29, 29] 29 #[v, .slice (some ⟨H, 0, none⟩) 1 1]).run Tryz.prog (w.alloc (.cells e.cs 53)) = .ok v' w' ∧ OOwn w' base v' (es ++ [e]) ∧ Below base w w' ∧ (w.alloc (.cells e.cs 53)).grownBy w' v.ownBlock := by
  subst hH
  obtain ⟨i0, hi, hz0, hz1, hz2⟩ := info_parts op_info
  have hown' := hown.old ((Below.refl _ w).alloc (Nat.le_refl _) (.cells e.cs 53))
  obtain ⟨v', w', h1, h2, h3, _⟩ := run_append_own_at (P := Tryz.prog) (w.alloc (.cells e.cs 53)) base 29 29 53 i0 _ 7 88 Tryz.underlying29 hi hz0 hz1 hz2 rfl (by omega) v es.length (opCells es) hown'
    ⟨w.heap.size, 0, none⟩ 1 1 (opCells [e]) rfl (fun j u hu => by
      rw [add_plain, Nat.zero_add, (Blk.new w 53 e.cs).cell]
      simpa [opCells] using hu) (by intro u hu; simp [opCells] at hu; rcases hu with rfl | rfl | rfl | rfl | rfl | rfl | rfl <;> rfl)
      (by unfold maxLen; omega) (by omega) (by simp; omega)
  refine ⟨v', w', h1, ?_, (((Below.refl base w).alloc hb _).grown h3 (by simp; omega) (fun k hk => (hown'.lt k hk).1)), h3⟩
  unfold OOwn
  rw [List.length_append, opCells_append]
  exact h2

theorem take_snoc_op {es : List OpE} {k : Nat} (h : k < es.length) : es.take (k + 1) = es.take k ++ [es.getD k default] := by
  rw [List.take_succ_eq_append_getElem h, List.getD_eq_getElem?_getD, List.getElem?_eq_getElem h]
  rfl

set_option maxRecDepth 100000 in
set_option maxHeartbeats 2000000 in
theorem owns_any (a : Option Addr) (es : List OpE) (c : Nat) (w : World) (h : ORow w a es) (hl : es.length ≤ 10000) :
    Calls Tryz.prog 10 #[.slice a es.length c] w fun e w' => ∃ v', e = .returned v' ∧ OOwn w' w.heap.size v' es ∧ Below w.heap.size w w' := by
  have HR := Lib.hid h
  clear h
  go_enter Tryz.func10, Tryz.ntmps10
  go_wp2_with fail
  go_loopw [3, 4] (fun v i wr => ∃ k : Nat, k ≤ es.length ∧ i = vi k ∧ Hid (OOwn wr w.heap.size v (es.take k)) ∧ w.heap.size ≤ wr.heap.size ∧ Hid (Below w.heap.size w wr)) (fun _ i _ => es.length - (intOf i).toNat)
  case atStart => exact ⟨0, Nat.zero_le _, rfl, Lib.hid (OOwn.nil _ _), Nat.le_refl _, Lib.hid (Below.refl _ _)⟩
  case round =>
    obtain ⟨k, hk, rfl, ho, hbase, hb⟩ := hrel
    by_cases hlt : k < es.length
    · obtain ⟨b, o, rfl, hc, -, -, -⟩ := (HR.out.below hb.out).lookup hlt
      have HT := Lib.hid (take_snoc_op hlt)
      generalize es.getD k default = x at hc HT
      have g0 := hc 0 _ rfl
      have g1 := hc 1 _ rfl
      have g2 := hc 2 _ rfl
      have g3 := hc 3 _ rfl
      have g4 := hc 4 _ rfl
      have g5 := hc 5 _ rfl
      have g6 := hc 6 _ rfl
      clear hc
      rw [Nat.add_zero] at g0
      go_wp2_with fail
      refine (own_any x _).mono ?_
      rintro e w1 ⟨rfl, hb1⟩
      obtain ⟨v2, w2, hrun2, ho2, hb2, -⟩ := append_op (ho.out.old hb1) x rfl (by simp; omega) (Nat.le_trans hbase hb1.size)
      have R2 : AppRun 29 29 29 _ (.slice (some ⟨w1.heap.size, 0, none⟩) 1 1) (w1.alloc (.cells x.cs 53)) v2 w2 := ⟨hrun2⟩
      have HB2 := Lib.hid ((hb.out.trans (hb1.mono hbase)).trans hb2)
      have HO2 := Lib.hid ho2
      have hs2 := HB2.out.size
      clear hrun2 ho2 hb2 hb1 ho hb g0 g1 g2 g3 g4 g5 g6
      go_wp2_with (at_builtin; refine wpList_append_run rfl (.tmp 11) (.tmp 17) rfl rfl rfl R2.run ?_)
      go_roundw
      case rel => exact ⟨k + 1, by omega, by go_num, Lib.hid (by rw [HT.out]; exact HO2.out), hs2, HB2⟩
      case measure => simp [intOf]; omega
    · obtain rfl : k = es.length := by omega
      have HO := ho
      have HB := hb
      clear ho hb
      go_wp2_with fail
      go_ret
      exact ⟨_, rfl, by have := HO.out; rw [List.take_length] at this; exact this, HB.out⟩

end Go.Proofs.YtneoeekhinlhgaaGreat
