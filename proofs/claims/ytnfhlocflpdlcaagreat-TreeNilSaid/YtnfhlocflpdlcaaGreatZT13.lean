/-
  Lemmas for a law's proof, put together from several texts: each part says what it shows, and its conditions.
-/
import Derived.Test.YtnfhlocflpdlcaaGreatZT12
import Derived.Test.YtnfhlocflpdlcaaGreatZT06
import Derived.Deep.QuietTactic
import Derived.Deep.DeepCutAuto
import Derived.BigQuiet
/-
  A manager of a chip's blocks in memory, and what it tells of itself. Conditions: a manager that is told by MgrAt, of a chip that is told by ChipAt.
-/
namespace Go.Proofs.YtnfhlocflpdlcaaGreat.mgr
open Go.RowKit

def countL (state : Int) (bs : List gcs.Blk) : Nat := (bs.filter (fun x => x.s == state)).length
theorem countL_le (state : Int) (bs : List gcs.Blk) : countL state bs ≤ bs.length := List.length_filter_le _ _
theorem countL_take (state : Int) (bs : List gcs.Blk) (k : Nat) (h : k < bs.length) : countL state (bs.take (k + 1)) = countL state (bs.take k) + (if (bs.getD k default).s == state then 1 else 0) := by
  unfold countL
  rw [List.take_succ_eq_append_getElem h, List.filter_append, List.length_append, List.getD_eq_getElem?_getD, List.getElem?_eq_getElem h]
  cases hs : (bs[k].s == state) <;> simp [hs]
set_option maxHeartbeats 1000000 in
theorem Count_any (v : Value) (bs : List gcs.Blk) (state : Int) (w : World) (hrow : gcs.Row w v bs) :
    Calls Tryz.prog 202 #[v, vi state] w fun e w' => e = .returned (vi (countL state bs)) ∧ Below w.heap.size w w' := by
  have HR := Lib.hid hrow
  obtain ⟨hlen, a, cap, rfl, -⟩ := hrow
  go_enter Tryz.func202, Tryz.ntmps202
  go_wp2_with fail
  go_loopw [5, 10] (fun n i wr => ∃ k : Nat, k ≤ bs.length ∧ i = vi k ∧ n = vi (countL state (bs.take k)) ∧ Below w.heap.size w wr) (fun _ i _ => bs.length - (intOf i).toNat)
  case atStart => exact ⟨0, Nat.zero_le _, rfl, rfl, Below.refl _ _⟩
  case round =>
    obtain ⟨k, hk, rfl, rfl, hb⟩ := hrel
    by_cases hlt : k < bs.length
    · obtain ⟨b, o, rfl, hx⟩ := (HR.out.below hb).lookup hlt
      have hst := countL_take state bs k hlt
      have hle : countL state (bs.take k) ≤ k := Nat.le_trans (countL_le _ _) (by simp; omega)
      generalize bs.getD k default = x at hx hst
      generalize countL state (bs.take k) = c at hst hle ⊢
      obtain ⟨g0, g1, g2, g3⟩ := hx
      have Hst := Lib.hid hst
      clear hst
      cases hs : (x.s == state)
      all_goals
        go_wp2_with fail
        go_roundw
        case rel => exact ⟨k + 1, by omega, by go_num, by rw [Hst.out, hs]; simp, hb.alloc hb.size _⟩
        case measure => simp [intOf]; omega
    · go_wp2_with fail
      go_ret
      obtain rfl : k = bs.length := by omega
      exact ⟨ret_int (by rw [List.take_length]), hb⟩

/-- A manager. -/
structure MgM where
  k : Nat
  l : List gcs.Blk
  gl : Nat
  cl : Nat
  at_ : Int
  reserve : Int
  bad : Int
  even : Bool
abbrev MgM.cs (G : MgM) : Array Value := #[ptr G.k, .slice (some ⟨G.gl, 0, none⟩) G.l.length G.cl, vi G.at_, vi G.reserve, vi G.bad, .bool G.even]
abbrev gcells (b : gcs.Blk) : List Value := [vi b.s, vi b.l, vi b.r, vi b.n]
theorem gcells_len (b : gcs.Blk) : (gcells b).length = 4 := rfl
def MgM.foot (G : MgM) (m n : Nat) : Prop := n = m ∨ n = G.gl
structure MgrAt (base : Nat) (w : World) (m : Nat) (G : MgM) : Prop where
  mgr : Blk w m 234 G.cs
  row : Arr w 236 4 G.gl G.l.length G.cl (G.l.flatMap gcells)
  low : ∀ n, G.foot m n → base ≤ n
section
variable {base : Nat} {w w' : World} {m : Nat} {G : MgM} {M : ChM}
theorem MgrAt.mine (h : MgrAt base w m G) : ∀ n, G.foot m n → Mine base w n := by
  intro n hn
  refine ⟨h.low n hn, ?_⟩
  rcases hn with rfl | rfl
  · exact ⟨_, _, by decide, h.mgr⟩
  · obtain ⟨cur, hb, _⟩ := h.row.blk
    exact ⟨_, _, by decide, hb⟩
theorem MgrAt.chg {F : Nat → Prop} (h : MgrAt base w m G) (q : Chg F w w') (hn : ∀ n, G.foot m n → ¬ F n) : MgrAt base w' m G :=
  ⟨h.mgr.chg q (hn _ (.inl rfl)), h.row.chg q (hn _ (.inr rfl)), h.low⟩
theorem MgrAt.old (h : MgrAt base w m G) (q : Below w.heap.size w w') : MgrAt base w' m G := h.chg (F := fun _ => False) (Chg.of_below q) (fun _ _ e => e)
theorem MgrAt.cell (h : MgrAt base w m G) {i j : Nat} (hi : i < G.l.length) (hj : j < 4) : w.cell? ⟨G.gl, i * 4 + j, none⟩ = (gcells (G.l.getD i default))[j]? := by
  rw [h.row.cell (by omega)]
  exact flat_get gcells_len default _ _ _ hi hj
theorem MgrAt.grow (h : MgrAt base w m G) : gcs.Row w (.slice (some ⟨G.gl, 0, none⟩) G.l.length G.cl) G.l := by
  obtain ⟨cur, _, h1, h2, _⟩ := h.row.blk
  refine ⟨by unfold maxLen at h2; omega, _, _, rfl, .inr ⟨G.gl, 0, rfl, fun i hi => ?_⟩⟩
  have h0 := h.cell hi (j := 0) (by decide)
  have h1 := h.cell hi (j := 1) (by decide)
  have h2 := h.cell hi (j := 2) (by decide)
  have h3 := h.cell hi (j := 3) (by decide)
  rw [Nat.zero_add]
  exact ⟨h0, h1, h2, h3⟩
theorem field_g1 (x y z : Int) (w : World) : (Instr.field 122 (.agg #[vi x, vi y, vi z]) 1).run Tryz.prog w = .ok (vi y) w := by kernel_rfl
set_option maxRecDepth 100000 in
theorem pages_any (h : MgrAt base w m G) (hc : ChipAt base w G.k M) : Calls Tryz.prog 225 #[ptr m] w fun e w' => e = .returned (vi M.P) ∧ Below w.heap.size w w' := by
  have c0 : w.cell? ⟨m, 0, none⟩ = some (ptr G.k) := h.mgr.cell 0
  have HC := Lib.hid hc
  clear h hc
  go_enter Tryz.func225, Tryz.ntmps225
  go_wp2_with fail
  refine (Geo_any HC.out).mono ?_
  rintro e w' ⟨rfl, hb⟩
  have HB := Lib.hid hb
  have hf := field_g1
  clear hb c0
  go_wp2_with fail
  go_ret
  exact ⟨rfl, HB.out⟩
set_option maxRecDepth 100000 in
theorem Free_any (h : MgrAt base w m G) : Calls Tryz.prog 222 #[ptr m] w fun e w' => e = .returned (vi (countL 0 G.l)) ∧ Below w.heap.size w w' := by
  have c1 : w.cell? ⟨m, 1, none⟩ = some (.slice (some ⟨G.gl, 0, none⟩) G.l.length G.cl) := h.mgr.cell 1
  have H := Lib.hid h
  clear h
  go_enter Tryz.func222, Tryz.ntmps222
  go_wp2_with fail
  refine (Count_any _ _ 0 w H.out.grow).mono ?_
  rintro e w' ⟨rfl, hb⟩
  have HB := Lib.hid hb
  clear hb c1
  go_wp2_with fail
  go_ret
  exact ⟨rfl, HB.out⟩
set_option maxRecDepth 100000 in
set_option maxHeartbeats 1000000 in
theorem Left_any (h : MgrAt base w m G) : Calls Tryz.prog 188 #[ptr m] w fun e w' => e = .returned (vi (wrap64 (G.reserve - wrap64 ((countL 4 G.l : Nat) - G.bad)))) ∧ Below w.heap.size w w' := by
  have c1 := Sub.cell (show w.cell? ⟨m, 1, none⟩ = some (.slice (some ⟨G.gl, 0, none⟩) G.l.length G.cl) from h.mgr.cell 1)
  have c3 := Sub.cell (show w.cell? ⟨m, 3, none⟩ = some (vi G.reserve) from h.mgr.cell 3)
  have c4 := Sub.cell (show w.cell? ⟨m, 4, none⟩ = some (vi G.bad) from h.mgr.cell 4)
  have HCO : Hid (∀ n : Sub w, Calls Tryz.prog 202 #[.slice (some ⟨G.gl, 0, none⟩) G.l.length G.cl, vi 4] n.w fun e w' => e = .returned (vi (countL 4 G.l)) ∧ Below n.w.heap.size n.w w') := Lib.hid (fun n => Count_any _ _ 4 n.w (h.old n.below).grow)
  clear h
  go_enter Tryz.func188, Tryz.ntmps188
  go_upto_region 3 with fail
  refine wp_region_sub (by kernel_rfl) (by kernel_rfl) ?_
  repeat (go_big_quiet_step (exact ext_of (HCO.out _)))
  refine wpQuiet_nil ?_
  rintro _ ⟨nq, rfl⟩
  have HBN := Lib.hid nq.below
  go_wp2_with fail
  go_ret
  exact ⟨by simp, HBN.out⟩
/-- How many pages can be programmed. -/
def roomL (G : MgM) (P : Nat) : Int := (countL 0 G.l : Nat) * (P : Int) + (if G.at_ = -1 then 0 else (P : Int) - (G.l.getD G.at_.toNat default).n)
/-- The open block is one of the blocks. -/
def MgM.fit (G : MgM) (P : Nat) : Prop := G.l.length ≤ 128 ∧ P ≤ 32 ∧ (G.at_ = -1 ∨ ∃ i : Nat, G.at_ = i ∧ i < G.l.length ∧ 0 ≤ (G.l.getD i default).n ∧ (G.l.getD i default).n ≤ P)
set_option maxRecDepth 100000 in
set_option maxHeartbeats 2000000 in
theorem Room_any (h : MgrAt base w m G) (hc : ChipAt base w G.k M) (hf : G.fit M.P) : Calls Tryz.prog 219 #[ptr m] w fun e w' => e = .returned (vi (roomL G M.P)) ∧ Below w.heap.size w w' := by
  obtain ⟨hl, hP, hat⟩ := hf
  have H := Lib.hid h
  have HC := Lib.hid hc
  have hcl := countL_le 0 G.l
  have HQ : Hid (roomL G M.P = (countL 0 G.l : Nat) * (M.P : Int) + (if G.at_ = -1 then 0 else (M.P : Int) - (G.l.getD G.at_.toNat default).n)) := Lib.hid rfl
  have HAT := Lib.hid hat
  have hmul : countL 0 G.l * M.P ≤ 4096 := Nat.le_trans (Nat.mul_le_mul (Nat.le_trans hcl hl) hP) (by decide)
  have hmc : ((countL 0 G.l : Nat) : Int) * (M.P : Int) = ((countL 0 G.l * M.P : Nat) : Int) := by rw [Int.natCast_mul]
  have q1 : IntKind.i64.wrap (((countL 0 G.l : Nat) : Int) * (M.P : Int)) = ((countL 0 G.l : Nat) : Int) * (M.P : Int) := IntWalk.i64_in _ (by rw [hmc]; omega)
  have HMC := Lib.hid hmc
  clear h hc hat hmc
  go_enter Tryz.func219, Tryz.ntmps219
  go_wp2_with fail
  refine (Free_any H.out).mono ?_
  rintro e w1 ⟨rfl, hb1⟩
  have H1 := Lib.hid (H.out.old hb1)
  have HC1 := Lib.hid (HC.out.old hb1)
  have HB1 := Lib.hid hb1
  clear hb1
  go_wp2_with fail
  refine (pages_any H1.out HC1.out).mono ?_
  rintro e w2 ⟨rfl, hb2⟩
  have H2 := Lib.hid (H1.out.old hb2)
  have HC2 := Lib.hid (HC1.out.old hb2)
  have HB2 := Lib.hid (HB1.out.trans (hb2.mono HB1.out.size))
  have c2 : w2.cell? ⟨m, 2, none⟩ = some (vi G.at_) := H2.out.mgr.cell 2
  clear hb2
  generalize countL 0 G.l = c at *
  rcases HAT.out with e0 | ⟨i, e0, hi, hn0, hn1⟩
  · rw [if_pos e0, Int.add_zero] at HQ
    rw [e0] at c2
    have hne : ((-1 : Int) != -1) = false := by decide
    go_wp2_with fail
    go_ret
    exact ⟨ret_int HQ.out.symm, HB2.out⟩
  · have hne : ((i : Int) != -1) = true := by simp only [bne_iff_ne, ne_eq]; omega
    rw [if_neg (by omega), e0, Int.toNat_natCast] at HQ
    rw [e0] at c2
    have d3 : w2.cell? ⟨G.gl, i * 4 + 3, none⟩ = some (vi (G.l.getD i default).n) := H2.out.cell hi (j := 3) (by decide)
    have c1 : w2.cell? ⟨m, 1, none⟩ = some (.slice (some ⟨G.gl, 0, none⟩) G.l.length G.cl) := H2.out.mgr.cell 1
    generalize (G.l.getD i default).n = nx at *
    have hi0 : (0 : Int) ≤ (i : Int) := by omega
    have hi1 : (i : Int) < (G.l.length : Int) := by omega
    have q2 : IntKind.i64.wrap ((M.P : Int) - nx) = (M.P : Int) - nx := IntWalk.i64_in _ (by omega)
    have q3 : IntKind.i64.wrap ((c : Int) * (M.P : Int) + ((M.P : Int) - nx)) = (c : Int) * (M.P : Int) + ((M.P : Int) - nx) := IntWalk.i64_in _ (by rw [HMC.out]; omega)
    have HPA : Hid (∀ n : Sub w2, Calls Tryz.prog 225 #[ptr m] n.w fun e w' => e = .returned (vi M.P) ∧ Below n.w.heap.size n.w w') := Lib.hid (fun n => pages_any (H2.out.old n.below) (HC2.out.old n.below))
    go_upto_region 5 with fail
    have c1 := Sub.cell c1
    have c2 := Sub.cell c2
    have d3 := Sub.cell d3
    refine wp_region_sub (by kernel_rfl) (by kernel_rfl) ?_
    repeat (go_big_quiet_step (exact ext_of (HPA.out _)))
    refine wpQuiet_nil ?_
    rintro _ ⟨nq, rfl⟩
    have HBN := Lib.hid (HB2.out.trans (nq.below.mono HB2.out.size))
    go_wp2_with fail
    go_ret
    exact ⟨ret_int HQ.out.symm, HBN.out⟩
end

end Go.Proofs.YtnfhlocflpdlcaaGreat.mgr

/-
  A manager of a chip's blocks: what it does in plain words; a manager and its chip in memory, and single steps on them. Conditions: a manager told by MgrAt, of a chip told by ChipAt.
-/
namespace Go.Proofs.YtnfhlocflpdlcaaGreat.mgr
open Go.RowKit

/-! In plain words. -/
structure Mg where
  l : List gcs.Blk
  at_ : Int
  reserve : Int
  bad : Int
  even : Bool
abbrev Mg.blk (g : Mg) (i : Nat) : gcs.Blk := g.l.getD i default
def closeB (x : gcs.Blk) : gcs.Blk := { x with s := if x.l = 0 then 3 else 2 }
def Mg.shut (g : Mg) (i : Nat) : Mg := { g with at_ := if (i : Int) = g.at_ then -1 else g.at_ }
def Mg.put (g : Mg) (i : Nat) (x : gcs.Blk) : Mg := { g with l := g.l.set i x }
def Mg.close (g : Mg) (i : Nat) : Mg := (g.put i (closeB (g.blk i))).shut i
def freeB (x : gcs.Blk) : Bool := x.s == 0
def Mg.freeI (g : Mg) : Int := gcs.best freeB gcs.wornB g.l
def Mg.openAt (g : Mg) (i : Nat) : Mg := { g.put i ⟨1, 0, (g.blk i).r, 0⟩ with at_ := i }
def Mg.begun (g : Mg) : Mg := if g.freeI < 0 then g else g.openAt g.freeI.toNat
def Mg.there (g : Mg) (k : Int) : Bool := decide (0 ≤ k) && decide (k < g.l.length) && (g.blk k.toNat).s != 4
def Mg.drop (g : Mg) (k : Int) : Int × Mg :=
  if g.there k = false ∨ (g.blk k.toNat).l = 0 then (1, g)
  else
    let x := g.blk k.toNat
    (0, g.put k.toNat { x with l := x.l - 1, s := if x.s = 2 ∧ x.l - 1 = 0 then 3 else x.s })
/-- Programs a page: so many blocks may be shut ahead. -/
def Mg.progTo (b : List Nat) : Nat → NP.Chp → Mg → (Int × Int × Int) × NP.Chp × Mg
  | 0, c, g => ((0, 0, 40), c, g)
  | n + 1, c, g0 =>
    let g := if g0.at_ = -1 then g0.begun else g0
    if g.at_ = -1 then ((0, 0, 40), c, g)
    else
      let i := g.at_.toNat
      let x := g.blk i
      let r := NP.program c i x.n b
      if r.1 = 10 then Mg.progTo b n r.2 (g.close i)
      else if r.1 = 0 then
        let g1 := g.put i { x with n := x.n + 1, l := x.l + 1 }
        ((i, x.n, 0), r.2, if x.n + 1 = c.P then g1.close i else g1)
      else if r.1 = 11 then ((i, x.n, 11), r.2, g.close i)
      else ((0, 0, r.1), r.2, g)
def Mg.program (b : List Nat) (c : NP.Chp) (g : Mg) : (Int × Int × Int) × NP.Chp × Mg :=
  if c.down then ((0, 0, 4), c, g)
  else if b.length ≠ c.full then ((0, 0, 1), c, g)
  else Mg.progTo b (countL 0 g.l + 2) c g
def Mg.idle (c : NP.Chp) (g : Mg) (k : Int) : Int := if c.down then 4 else if g.there k = false ∨ 0 < (g.blk k.toNat).l then 1 else 0
def Mg.gone (c : NP.Chp) (g : Mg) (k : Nat) : Int × NP.Chp × Mg :=
  let r := NP.mark c k
  if r.1 = 0 then (0, r.2, (g.put k ⟨4, 0, NP.wearAt r.2 k, 0⟩).shut k) else (r.1, r.2, g)
def Mg.erase (c : NP.Chp) (g : Mg) (k : Int) : Int × NP.Chp × Mg :=
  let e := g.idle c k
  if e ≠ 0 then (e, c, g)
  else
    let i := k.toNat
    let x := g.blk i
    if x.s = 1 ∧ 0 < x.n then (1, c, g)
    else
      let r := NP.erase c k
      let g1 := g.put i { x with r := NP.wearAt r.2 k }
      if r.1 = 0 then (0, r.2, (g1.put i ⟨0, 0, NP.wearAt r.2 k, 0⟩).shut i)
      else if r.1 = 11 then (11, (Mg.gone r.2 g1 i).2)
      else (r.1, r.2, g1)
def Mg.retire (c : NP.Chp) (g : Mg) (k : Int) : Int × NP.Chp × Mg :=
  let e := g.idle c k
  if e ≠ 0 then (e, c, g) else Mg.gone c g k.toNat
/-- What holds of every manager. -/
structure Mg.ok (c : NP.Chp) (g : Mg) : Prop where
  len : g.l.length = c.B
  rng : ∀ x ∈ g.l, 0 ≤ x.s ∧ x.s ≤ 4 ∧ 0 ≤ x.l ∧ x.l ≤ c.P ∧ 0 ≤ x.n ∧ x.n ≤ c.P
  none_ : ∀ x ∈ g.l, x.s ≠ 1 → x.s ≠ 2 → x.l = 0
  open_ : ∀ x ∈ g.l, x.s = 1 → x.l ≤ x.n ∧ x.n < c.P
  at1 : g.at_ = -1 ∨ ∃ i : Nat, g.at_ = i ∧ i < g.l.length ∧ (g.blk i).s = 1
  at2 : ∀ i : Nat, i < g.l.length → (g.blk i).s = 1 → g.at_ = i

section
variable {c c' : NP.Chp} {g : Mg}
theorem blk_mem {l : List gcs.Blk} {i : Nat} (h : i < l.length) : l.getD i default ∈ l := NP.getD_mem h
theorem blk_set (l : List gcs.Blk) (i j : Nat) (x : gcs.Blk) (h : i < l.length) : (l.set i x).getD j default = if i = j then x else l.getD j default := NP.getD_set l default x i j h
theorem Mg.ok.chip (h : g.ok c) (h1 : c'.B = c.B) (h2 : c'.P = c.P) : g.ok c' :=
  ⟨by rw [h1]; exact h.len, by rw [h2]; exact h.rng, h.none_, by rw [h2]; exact h.open_, h.at1, h.at2⟩
/-- One block is laid anew, and none, or it, is the open one then. -/
theorem Mg.ok.lay (h : g.ok c) {i : Nat} (hi : i < g.l.length) (x : gcs.Blk) (h1 : 0 ≤ x.s ∧ x.s ≤ 4 ∧ 0 ≤ x.l ∧ x.l ≤ c.P ∧ 0 ≤ x.n ∧ x.n ≤ c.P) (h2 : x.s ≠ 1 → x.s ≠ 2 → x.l = 0) (h3 : x.s = 1 → x.l ≤ x.n ∧ x.n < c.P)
    (a : Int) (h4 : x.s = 1 → (g.at_ = -1 ∨ g.at_ = i) ∧ a = i) (h5 : x.s ≠ 1 → a = if (i : Int) = g.at_ then -1 else g.at_) : ({ g with l := g.l.set i x, at_ := a } : Mg).ok c := by
  have hm : ∀ y ∈ g.l.set i x, y = x ∨ y ∈ g.l := fun y hy => (List.mem_or_eq_of_mem_set hy).symm
  refine ⟨(List.length_set ..).trans h.len, ?_, ?_, ?_, ?_, ?_⟩
  · intro y hy; rcases hm y hy with rfl | hy
    · exact h1
    · exact h.rng y hy
  · intro y hy; rcases hm y hy with rfl | hy
    · exact h2
    · exact h.none_ y hy
  · intro y hy; rcases hm y hy with rfl | hy
    · exact h3
    · exact h.open_ y hy
  · dsimp only [Mg.blk]
    by_cases e : x.s = 1
    · exact .inr ⟨i, (h4 e).2, by rw [List.length_set]; exact hi, by rw [blk_set _ _ _ _ hi, if_pos rfl]; exact e⟩
    · rw [h5 e]
      by_cases e2 : (i : Int) = g.at_
      · rw [if_pos e2]; exact .inl rfl
      · rw [if_neg e2]
        rcases h.at1 with e3 | ⟨j, e3, hj, hs⟩
        · exact .inl e3
        · exact .inr ⟨j, e3, by rw [List.length_set]; exact hj, by rw [blk_set _ _ _ _ hi, if_neg (by intro e4; subst e4; exact e2 e3.symm)]; exact hs⟩
  · dsimp only [Mg.blk]
    intro j hj hs
    rw [List.length_set] at hj
    rw [blk_set _ _ _ _ hi] at hs
    by_cases e : i = j
    · subst e
      rw [if_pos rfl] at hs
      exact (h4 hs).2
    · rw [if_neg e] at hs
      have e3 := h.at2 j hj hs
      by_cases e1 : x.s = 1
      · rcases (h4 e1).1 with e4 | e4 <;> omega
      · rw [h5 e1, if_neg (by omega)]; exact e3
theorem Mg.ok.close (h : g.ok c) {i : Nat} (hi : i < g.l.length) : (g.close i).ok c := by
  obtain ⟨h1, h2, h3, h4, h5, h6⟩ := h.rng (g.blk i) (blk_mem hi)
  refine h.lay hi (closeB (g.blk i)) ?_ ?_ ?_ _ ?_ (fun _ => rfl)
  · unfold closeB; dsimp only; split <;> omega
  · unfold closeB; dsimp only; split <;> omega
  · unfold closeB; dsimp only; split <;> omega
  · unfold closeB; dsimp only; split <;> omega
theorem Mg.ok.openAt (h : g.ok c) {i : Nat} (hi : i < g.l.length) (hP : 0 < c.P) (ha : g.at_ = -1) : (g.openAt i).ok c :=
  h.lay hi ⟨1, 0, (g.blk i).r, 0⟩ (by dsimp only; omega) (by dsimp only; omega) (by dsimp only; omega) _ (fun _ => ⟨.inl ha, rfl⟩) (fun e => (e rfl).elim)
theorem Mg.freeI_lt (g : Mg) : g.freeI < g.l.length := (gcs.best_bd _ _ _).2
theorem Mg.ok.begun (h : g.ok c) (hP : 0 < c.P) (ha : g.at_ = -1) : g.begun.ok c := by
  unfold Mg.begun
  split
  · exact h
  · exact h.openAt (by have := g.freeI_lt; omega) hP ha
theorem best_has (P : gcs.Blk → Bool) (Q : gcs.Blk → gcs.Blk → Bool) (bs : List gcs.Blk) : ∀ k : Nat, 0 ≤ gcs.bestTo P Q bs k → P (bs.getD (gcs.bestTo P Q bs k).toNat default) = true
  | 0, h => by simp [gcs.bestTo] at h
  | k + 1, h => by
    unfold gcs.bestTo at h ⊢
    split
    · rename_i hc
      simp only [Bool.and_eq_true] at hc
      exact hc.1
    · rename_i hc
      rw [if_neg hc] at h
      exact best_has P Q bs k h
theorem Mg.freeI_free (h : 0 ≤ g.freeI) : (g.blk g.freeI.toNat).s = 0 := by
  have := best_has freeB gcs.wornB g.l g.l.length h
  exact of_decide_eq_true this
end

/-! In memory. -/
abbrev MgM.view (G : MgM) : Mg := ⟨G.l, G.at_, G.reserve, G.bad, G.even⟩
/-- A manager of this layout. -/
abbrev MgM.lay (G : MgM) (g : Mg) : MgM := { G with l := g.l, at_ := g.at_, reserve := g.reserve, bad := g.bad, even := g.even }
theorem MgM.lay_view (G : MgM) : G.lay G.view = G := rfl
theorem MgM.view_lay (G : MgM) (g : Mg) : (G.lay g).view = g := rfl
/-- The blocks of memory of a manager and its chip. -/
def foot1 (m : Nat) (G : MgM) (M : ChM) (n : Nat) : Prop := G.foot m n ∨ M.foot G.k n
structure Held (base : Nat) (w : World) (m : Nat) (G : MgM) (M : ChM) : Prop where
  mgr : MgrAt base w m G
  chip : ChipAt base w G.k M
structure HGoes (base : Nat) (w : World) (m : Nat) (G : MgM) (M : ChM) (w' : World) (g' : Mg) (M' : ChM) : Prop where
  at_ : Held base w' m (G.lay g') M'
  chg : Chg (foot1 m G M) w w'
  foot : ∀ n, M'.foot G.k n → M.foot G.k n ∨ w.heap.size ≤ n
section
variable {base : Nat} {w w' w'' : World} {m : Nat} {G : MgM} {M M' M'' : ChM} {g' g'' : Mg}
theorem Held.apart (h : Held base w m G M) : ∀ n, G.foot m n → ¬ M.foot G.k n := by
  have hm := h.mgr.mgr
  obtain ⟨cur, hr, _⟩ := h.mgr.row.blk
  intro n hn hc
  have key : ∀ t cs, Blk w n t cs → t = 234 ∨ t = 236 → False := by
    intro t cs hb ht
    have hT : ∀ t' cs', Blk w n t' cs' → t' = t := by
      intro t' cs' hb'
      unfold Blk at hb hb'
      rw [hb] at hb'
      injection hb' with hb'
      injection hb' with _ hb'
      exact hb'.symm
    rcases hc with rfl | rfl | hc
    · have := hT _ _ h.chip.chip
      rcases ht with rfl | rfl <;> exact absurd this (by decide)
    · obtain ⟨cur', hb', _⟩ := h.chip.blocks.blk
      have := hT _ _ hb'
      rcases ht with rfl | rfl <;> exact absurd this (by decide)
    · obtain ⟨x, hx, rfl⟩ := List.mem_map.1 hc
      obtain ⟨cur', hb', _⟩ := (h.chip.pages x hx).blk
      have := hT _ _ hb'
      rcases ht with rfl | rfl <;> exact absurd this (by decide)
  rcases hn with rfl | rfl
  · exact key _ _ hm (.inl rfl)
  · exact key _ _ hr (.inr rfl)
theorem Held.ne (h : Held base w m G M) : m ≠ G.gl := by
  intro e
  exact h.mgr.row.ne_blk h.mgr.mgr (by decide) e.symm
theorem Held.mine (h : Held base w m G M) : ∀ n, foot1 m G M n → Mine base w n := by
  intro n hn
  rcases hn with hn | hn
  · exact h.mgr.mine n hn
  · exact h.chip.mine n hn
theorem Held.lt (h : Held base w m G M) : ∀ n, foot1 m G M n → n < w.heap.size := by
  intro n hn
  obtain ⟨_, t, cs, _, hb⟩ := h.mine n hn
  exact hb.lt
theorem Held.low (h : Held base w m G M) : ∀ n, foot1 m G M n → base ≤ n := fun n hn => (h.mine n hn).1
theorem Held.old (h : Held base w m G M) (q : Below w.heap.size w w') : Held base w' m G M := ⟨h.mgr.old q, h.chip.old q⟩
theorem Held.chg {F : Nat → Prop} (h : Held base w m G M) (q : Chg F w w') (hF : ∀ n, F n → Mine base w n) (hn : ∀ n, foot1 m G M n → ¬ F n) : Held base w' m G M :=
  ⟨h.mgr.chg q (fun n e => hn n (.inl e)), h.chip.chg q hF (fun n e => hn n (.inr e))⟩
theorem HGoes.refl (h : Held base w m G M) : HGoes base w m G M w G.view M := ⟨h, Chg.refl _ _, fun _ e => .inl e⟩
theorem HGoes.trans (h : HGoes base w m G M w' g' M') (q : HGoes base w' m (G.lay g') M' w'' g'' M'') : HGoes base w m G M w'' g'' M'' := by
  refine ⟨q.at_, h.chg.trans q.chg fun n hn e => ?_, fun n hn => ?_⟩
  · rcases e with e | e
    · exact .inl e
    · rcases h.foot n e with h1 | h1
      · exact .inr h1
      · omega
  · rcases q.foot n hn with h1 | h1
    · exact h.foot n h1
    · exact .inr (Nat.le_trans h.chg.size h1)
theorem HGoes.old (h : HGoes base w m G M w' g' M') (q : Below w'.heap.size w' w'') : HGoes base w m G M w'' g' M' := ⟨h.at_.old q, h.chg.below q, h.foot⟩
theorem HGoes.of_old (h : Held base w m G M) (q : Below w.heap.size w w') : HGoes base w m G M w' G.view M := (HGoes.refl h).old q
/-- The chip goes. -/
theorem Held.chipGoes (h : Held base w m G M) (q : Goes base w G.k M w' M') : HGoes base w m G M w' G.view M' := by
  refine ⟨⟨?_, q.at_⟩, q.chg.mono (fun n _ e => .inr e), q.foot⟩
  exact h.mgr.chg q.chg (fun n e => h.apart n e)
/-- A field of the manager is laid. -/
theorem Held.field (h : Held base w m G M) (j : Nat) (v : Value) (g' : Mg) (hc : (G.lay g').cs = G.cs.setIfInBounds j v) (hl : g'.l = G.l) : HGoes base w m G M (w.setCell ⟨m, j, none⟩ v) g' M := by
  have hq : Chg (fun n => n = m) w (w.setCell ⟨m, j, none⟩ v) := Chg.set (F := fun n => n = m) w (p := ⟨m, j, none⟩) rfl v
  refine ⟨⟨⟨?_, ?_, ?_⟩, ?_⟩, hq.mono (fun n _ e => .inl (.inl e)), fun n e => .inl e⟩
  · rw [hc]; exact h.mgr.mgr.set_ j v
  · dsimp only [MgM.lay]; rw [hl]; exact h.mgr.row.chg hq (fun e => h.ne e.symm)
  · exact fun n hn => h.mgr.low n hn
  · exact h.chip.chg hq (fun n e => h.mgr.mine n (.inl e)) (fun n hn e => h.apart n (.inl e) hn)
/-- A field of a block is laid. -/
theorem Held.cell (h : Held base w m G M) {i j : Nat} (hi : i < G.l.length) (hj : j < 4) (v : Value) (y : gcs.Blk) (hy : gcells y = (gcells (G.l.getD i default)).set j v) : HGoes base w m G M (w.setCell ⟨G.gl, i * 4 + j, none⟩ v) (G.view.put i y) M := by
  have hq : Chg (fun n => n = G.gl) w (w.setCell ⟨G.gl, i * 4 + j, none⟩ v) := Chg.set (F := fun n => n = G.gl) w (p := ⟨G.gl, i * 4 + j, none⟩) rfl v
  refine ⟨⟨⟨?_, ?_, ?_⟩, ?_⟩, hq.mono (fun n _ e => .inl (.inr e)), fun n e => .inl e⟩
  · have := h.mgr.mgr.chg hq (fun e => h.ne e)
    simpa [MgM.cs, Mg.put] using this
  · dsimp only [MgM.lay, Mg.put, MgM.view]
    rw [List.length_set, ← flat_set gcells_len default _ _ _ y v hi hj hy]
    exact h.mgr.row.set _ v
  · exact fun n hn => h.mgr.low n hn
  · exact h.chip.chg hq (fun n e => h.mgr.mine n (.inr e)) (fun n hn e => h.apart n (.inr e) hn)
/-- A block is laid. -/
theorem Held.block (h : Held base w m G M) {i : Nat} (hi : i < G.l.length) (y : gcs.Blk) :
    HGoes base w m G M ((((w.setCell ⟨G.gl, i * 4, none⟩ (vi y.s)).setCell ⟨G.gl, i * 4 + 1, none⟩ (vi y.l)).setCell ⟨G.gl, i * 4 + 2, none⟩ (vi y.r)).setCell ⟨G.gl, i * 4 + 3, none⟩ (vi y.n)) (G.view.put i y) M := by
  have e : ∀ z, (G.l.set i z).getD i default = z := fun z => by rw [blk_set _ _ _ _ hi, if_pos rfl]
  have h1 := h.cell hi (j := 0) (by decide) (vi y.s) { G.l.getD i default with s := y.s } rfl
  have h2 := h1.trans (h1.at_.cell (i := i) (j := 1) (by simpa [Mg.put] using hi) (by decide) (vi y.l) { G.l.getD i default with s := y.s, l := y.l } (by dsimp only [MgM.lay, Mg.put, MgM.view]; rw [e]; rfl))
  have h3 := h2.trans (h2.at_.cell (i := i) (j := 2) (by simpa [Mg.put] using hi) (by decide) (vi y.r) { G.l.getD i default with s := y.s, l := y.l, r := y.r } (by dsimp only [MgM.lay, Mg.put, MgM.view]; rw [List.set_set, e]; rfl))
  have h4 := h3.trans (h3.at_.cell (i := i) (j := 3) (by simpa [Mg.put] using hi) (by decide) (vi y.n) y (by dsimp only [MgM.lay, Mg.put, MgM.view]; rw [List.set_set, List.set_set, e]; rfl))
  simpa only [MgM.lay, Mg.put, MgM.view, List.set_set, Nat.add_zero] using h4
theorem Held.cells (h : Held base w m G M) : w.cell? ⟨m, 0, none⟩ = some (ptr G.k) ∧ w.cell? ⟨m, 1, none⟩ = some (.slice (some ⟨G.gl, 0, none⟩) G.l.length G.cl) ∧ w.cell? ⟨m, 2, none⟩ = some (vi G.at_) ∧ w.cell? ⟨m, 3, none⟩ = some (vi G.reserve) ∧ w.cell? ⟨m, 4, none⟩ = some (vi G.bad) ∧ w.cell? ⟨m, 5, none⟩ = some (.bool G.even) :=
  ⟨h.mgr.mgr.cell 0, h.mgr.mgr.cell 1, h.mgr.mgr.cell 2, h.mgr.mgr.cell 3, h.mgr.mgr.cell 4, h.mgr.mgr.cell 5⟩
theorem Held.bcells (h : Held base w m G M) {i : Nat} (hi : i < G.l.length) : w.cell? ⟨G.gl, i * 4, none⟩ = some (vi (G.l.getD i default).s) ∧ w.cell? ⟨G.gl, i * 4 + 1, none⟩ = some (vi (G.l.getD i default).l) ∧ w.cell? ⟨G.gl, i * 4 + 2, none⟩ = some (vi (G.l.getD i default).r) ∧ w.cell? ⟨G.gl, i * 4 + 3, none⟩ = some (vi (G.l.getD i default).n) :=
  ⟨h.mgr.cell hi (j := 0) (by decide), h.mgr.cell hi (j := 1) (by decide), h.mgr.cell hi (j := 2) (by decide), h.mgr.cell hi (j := 3) (by decide)⟩
end

end Go.Proofs.YtnfhlocflpdlcaaGreat.mgr

