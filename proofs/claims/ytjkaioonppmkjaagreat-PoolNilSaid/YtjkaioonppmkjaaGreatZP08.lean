/-
  Lemmas for a law's proof, put together from several texts: each part says what it shows, and its conditions.
-/
import Derived.Test.YtjkaioonppmkjaaGreatZP04
import Derived.Test.YtjkaioonppmkjaaGreatZP07
import Derived.Deep.QuietTactic
import Derived.Deep.DeepCutAuto
import Derived.BigQuiet
/-
  The chip's small methods. Conditions: a chip that is told by ChipAt.
-/
namespace Go.Proofs.YtjkaioonppmkjaaGreat
open Go.RowKit

abbrev ptr (k : Nat) : Value := .pointer (some ⟨k, 0, none⟩)
section
variable {base : Nat} {w : World} {k : Nat} {M : ChM}

theorem Start_any (h : ChipAt base w k M) : Calls Tryz.prog 135 #[ptr k] w fun e w' => e = .returned (.tuple #[]) ∧ Goes base w k M w' { M with down := false } := by
  obtain ⟨c0, c1, c2, c3, c4, c5, c6, c7, c8⟩ := h.cells
  have z6 := h.chip.frozen 6
  have HG := Lib.hid (h.field (M' := { M with down := false }) 6 (.bool false) rfl rfl rfl rfl h.faults)
  clear h c0 c1 c2 c3 c4 c5 c7 c8
  go_enter Tryz.func135, Tryz.ntmps135
  go_wp2
  go_end0
  exact ⟨rfl, HG.out⟩
theorem Lose_any (h : ChipAt base w k M) : Calls Tryz.prog 14 #[ptr k] w fun e w' => e = .returned (.tuple #[]) ∧ Goes base w k M w' { M with down := true } := by
  obtain ⟨c0, c1, c2, c3, c4, c5, c6, c7, c8⟩ := h.cells
  have z6 := h.chip.frozen 6
  have HG := Lib.hid (h.field (M' := { M with down := true }) 6 (.bool true) rfl rfl rfl rfl h.faults)
  clear h c0 c1 c2 c3 c4 c5 c7 c8
  go_enter Tryz.func14, Tryz.ntmps14
  go_wp2
  go_end0
  exact ⟨rfl, HG.out⟩
theorem Up_any (h : ChipAt base w k M) : Calls Tryz.prog 48 #[ptr k] w fun e w' => e = .returned (.bool (!M.down)) ∧ w' = w := by
  obtain ⟨c0, c1, c2, c3, c4, c5, c6, c7, c8⟩ := h.cells
  clear h c0 c1 c2 c3 c4 c5 c7 c8
  go_enter Tryz.func48, Tryz.ntmps48
  go_wp2
  go_ret
  exact ⟨rfl, rfl⟩
theorem Geo_any (h : ChipAt base w k M) : Calls Tryz.prog 49 #[ptr k] w fun e w' => e = .returned (.agg #[vi M.B, vi M.P, vi M.S]) ∧ Below w.heap.size w w' := by
  obtain ⟨c0, c1, c2, c3, c4, c5, c6, c7, c8⟩ := h.cells
  have hk := h.chip.lt
  clear h c3 c4 c5 c6 c7 c8
  go_enter Tryz.func49, Tryz.ntmps49
  go_wp2
  exact bodyPost_ret (v := .agg #[vi M.B, vi M.P, vi M.S]) (by simp [results, Tryz.results49, go_sem]) rfl ⟨rfl, (Below.refl _ _).alloc (Nat.le_refl _) _⟩
theorem Strokes_any (h : ChipAt base w k M) : Calls Tryz.prog 41 #[ptr k] w fun e w' => e = .returned (vi M.strokes) ∧ w' = w := by
  obtain ⟨c0, c1, c2, c3, c4, c5, c6, c7, c8⟩ := h.cells
  clear h c0 c1 c2 c3 c4 c5 c6 c8
  go_enter Tryz.func41, Tryz.ntmps41
  go_wp2
  go_ret
  exact ⟨rfl, rfl⟩
theorem Reads_any (h : ChipAt base w k M) : Calls Tryz.prog 42 #[ptr k] w fun e w' => e = .returned (vi M.reads) ∧ w' = w := by
  obtain ⟨c0, c1, c2, c3, c4, c5, c6, c7, c8⟩ := h.cells
  clear h c0 c1 c2 c3 c4 c5 c6 c7
  go_enter Tryz.func42, Tryz.ntmps42
  go_wp2
  go_ret
  exact ⟨rfl, rfl⟩
theorem full_any (h : ChipAt base w k M) (hS : M.S ≤ 512) : Calls Tryz.prog 102 #[ptr k] w fun e w' => e = .returned (vi (M.S + 32 : Nat)) ∧ w' = w := by
  obtain ⟨c0, c1, c2, c3, c4, c5, c6, c7, c8⟩ := h.cells
  clear h c0 c1 c3 c4 c5 c6 c7 c8
  go_enter Tryz.func102, Tryz.ntmps102
  go_wp2
  go_ret
  exact ⟨by go_num, rfl⟩
/-- Is there such a block? -/
def thereB (M : ChM) (j : Int) : Bool := decide (0 ≤ j ∧ j < M.bs.length)
theorem there_any (h : ChipAt base w k M) (j : Int) : Calls Tryz.prog 108 #[ptr k, vi j] w fun e w' => e = .returned (.bool (thereB M j)) ∧ w' = w := by
  obtain ⟨c0, c1, c2, c3, c4, c5, c6, c7, c8⟩ := h.cells
  clear h c0 c1 c2 c4 c5 c6 c7 c8
  by_cases h0 : 0 ≤ j
  · by_cases h1 : j < M.bs.length
    · have H := Lib.hid (show thereB M j = true by simp [thereB, h0, h1])
      go_enter Tryz.func108, Tryz.ntmps108
      go_wp2
      go_ret
      exact ⟨ret_bool (by rw [H.out]), rfl⟩
    · have H := Lib.hid (show thereB M j = false by simp [thereB]; omega)
      go_enter Tryz.func108, Tryz.ntmps108
      go_wp2
      go_ret
      exact ⟨ret_bool (by rw [H.out]), rfl⟩
  · have H := Lib.hid (show thereB M j = false by simp [thereB]; omega)
    go_enter Tryz.func108, Tryz.ntmps108
    go_wp2
    go_ret
    exact ⟨ret_bool (by rw [H.out]), rfl⟩
theorem asked_any (h : ChipAt base w k M) (hB : M.bs.length = M.B) (j p : Int) : Calls Tryz.prog 100 #[ptr k, vi j, vi p] w fun e w' => e = .returned (vi (NP.asked M.view j p)) ∧ w' = w := by
  obtain ⟨c0, c1, c2, c3, c4, c5, c6, c7, c8⟩ := h.cells
  have HC := Lib.hid h
  clear h c0 c2 c3 c4 c5 c7 c8
  obtain ⟨B, P, S, kb, kc, bs, fa, fs, fc, since, down, strokes, reads⟩ := M
  dsimp only at c1 c6 hB
  cases down
  · by_cases hj : 0 ≤ j ∧ j < B
    · have ht : Hid (thereB _ j = true) := Lib.hid (show thereB ⟨B, P, S, kb, kc, bs, fa, fs, fc, since, false, strokes, reads⟩ j = true by simp [thereB, hj, hB])
      by_cases hp0 : 0 ≤ p
      · by_cases hp1 : p < P
        · have H := Lib.hid (show NP.asked (ChM.view ⟨B, P, S, kb, kc, bs, fa, fs, fc, since, false, strokes, reads⟩) j p = 0 by simp [NP.asked, ChM.view, hj, hp0, hp1])
          clear hj hB
          go_enter Tryz.func100, Tryz.ntmps100
          go_wp2_with fail
          refine (there_any HC.out j).mono ?_
          rintro e w' ⟨rfl, rfl⟩
          rw [ht.out]
          go_wp2_with fail
          go_ret
          exact ⟨ret_int H.out.symm, rfl⟩
        · have H := Lib.hid (show NP.asked (ChM.view ⟨B, P, S, kb, kc, bs, fa, fs, fc, since, false, strokes, reads⟩) j p = 12 by simp [NP.asked, ChM.view, hp1])
          clear hj hB
          go_enter Tryz.func100, Tryz.ntmps100
          go_wp2_with fail
          refine (there_any HC.out j).mono ?_
          rintro e w' ⟨rfl, rfl⟩
          rw [ht.out]
          go_wp2_with fail
          go_ret
          exact ⟨ret_int H.out.symm, rfl⟩
      · have H := Lib.hid (show NP.asked (ChM.view ⟨B, P, S, kb, kc, bs, fa, fs, fc, since, false, strokes, reads⟩) j p = 12 by simp [NP.asked, ChM.view, hp0])
        clear hj hB
        go_enter Tryz.func100, Tryz.ntmps100
        go_wp2_with fail
        refine (there_any HC.out j).mono ?_
        rintro e w' ⟨rfl, rfl⟩
        rw [ht.out]
        go_wp2_with fail
        go_ret
        exact ⟨ret_int H.out.symm, rfl⟩
    · have ht : Hid (thereB _ j = false) := Lib.hid (show thereB ⟨B, P, S, kb, kc, bs, fa, fs, fc, since, false, strokes, reads⟩ j = false by simp [thereB, hB]; omega)
      have H := Lib.hid (show NP.asked (ChM.view ⟨B, P, S, kb, kc, bs, fa, fs, fc, since, false, strokes, reads⟩) j p = 12 by simp [NP.asked, ChM.view]; omega)
      clear hj hB
      go_enter Tryz.func100, Tryz.ntmps100
      go_wp2_with fail
      refine (there_any HC.out j).mono ?_
      rintro e w' ⟨rfl, rfl⟩
      rw [ht.out]
      go_wp2_with fail
      go_ret
      exact ⟨ret_int H.out.symm, rfl⟩
  · have H := Lib.hid (show NP.asked (ChM.view ⟨B, P, S, kb, kc, bs, fa, fs, fc, since, true, strokes, reads⟩) j p = 4 by simp [NP.asked, ChM.view])
    go_enter Tryz.func100, Tryz.ntmps100
    go_wp2_with fail
    go_ret
    exact ⟨ret_int H.out.symm, rfl⟩
end

end Go.Proofs.YtjkaioonppmkjaaGreat

/-
  A manager of a chip's blocks in memory, and what it tells of itself. Conditions: a manager that is told by MgrAt, of a chip that is told by ChipAt.
-/
namespace Go.Proofs.YtjkaioonppmkjaaGreat.mgr
open Go.RowKit

def countL (state : Int) (bs : List gcs.Blk) : Nat := (bs.filter (fun x => x.s == state)).length
theorem countL_le (state : Int) (bs : List gcs.Blk) : countL state bs ≤ bs.length := List.length_filter_le _ _
theorem countL_take (state : Int) (bs : List gcs.Blk) (k : Nat) (h : k < bs.length) : countL state (bs.take (k + 1)) = countL state (bs.take k) + (if (bs.getD k default).s == state then 1 else 0) := by
  unfold countL
  rw [List.take_succ_eq_append_getElem h, List.filter_append, List.length_append, List.getD_eq_getElem?_getD, List.getElem?_eq_getElem h]
  cases hs : (bs[k].s == state) <;> simp [hs]
set_option maxHeartbeats 1000000 in
theorem Count_any (v : Value) (bs : List gcs.Blk) (state : Int) (w : World) (hrow : gcs.Row w v bs) :
    Calls Tryz.prog 124 #[v, vi state] w fun e w' => e = .returned (vi (countL state bs)) ∧ Below w.heap.size w w' := by
  have HR := Lib.hid hrow
  obtain ⟨hlen, a, cap, rfl, -⟩ := hrow
  go_enter Tryz.func124, Tryz.ntmps124
  go_wp2_with fail
  go_loopw [5, 10] (fun n i wr => ∃ k : Nat, k ≤ bs.length ∧ i = vi k ∧ n = vi (countL state (bs.take k)) ∧ Below w.heap.size w wr) (fun _ i _ => bs.length - (intOf i).toNat)
  case atStart => exact ⟨0, Nat.zero_le _, rfl, rfl, Below.refl _ _⟩
  case round =>
    obtain ⟨k, hk, rfl, rfl, hb⟩ := hrel
    by_cases hlt : k < bs.length
    · obtain ⟨b, o, rfl, hx⟩ := (HR.out.below hb).lookup hlt
      have hst := countL_take state bs k hlt
      have hle : countL state (bs.take k) ≤ k := Nat.le_trans (countL_le _ _) (by simp; omega)
      generalize bs.getD k default = x at hx hst
      generalize countL state (bs.take k) = c at hst hle ⊢
      obtain ⟨g0, g1, g2, g3⟩ := hx
      have Hst := Lib.hid hst
      clear hst
      cases hs : (x.s == state)
      all_goals
        go_wp2_with fail
        go_roundw
        case rel => exact ⟨k + 1, by omega, by go_num, by rw [Hst.out, hs]; simp, hb.alloc hb.size _⟩
        case measure => simp [intOf]; omega
    · go_wp2_with fail
      go_ret
      obtain rfl : k = bs.length := by omega
      exact ⟨ret_int (by rw [List.take_length]), hb⟩

/-- A manager. -/
structure MgM where
  k : Nat
  l : List gcs.Blk
  gl : Nat
  cl : Nat
  at_ : Int
  reserve : Int
  bad : Int
  even : Bool
abbrev MgM.cs (G : MgM) : Array Value := #[ptr G.k, .slice (some ⟨G.gl, 0, none⟩) G.l.length G.cl, vi G.at_, vi G.reserve, vi G.bad, .bool G.even]
abbrev gcells (b : gcs.Blk) : List Value := [vi b.s, vi b.l, vi b.r, vi b.n]
theorem gcells_len (b : gcs.Blk) : (gcells b).length = 4 := rfl
def MgM.foot (G : MgM) (m n : Nat) : Prop := n = m ∨ n = G.gl
structure MgrAt (base : Nat) (w : World) (m : Nat) (G : MgM) : Prop where
  mgr : Blk w m 170 G.cs
  row : Arr w 173 4 G.gl G.l.length G.cl (G.l.flatMap gcells)
  low : ∀ n, G.foot m n → base ≤ n
section
variable {base : Nat} {w w' : World} {m : Nat} {G : MgM} {M : ChM}
theorem MgrAt.mine (h : MgrAt base w m G) : ∀ n, G.foot m n → Mine base w n := by
  intro n hn
  refine ⟨h.low n hn, ?_⟩
  rcases hn with rfl | rfl
  · exact ⟨_, _, by decide, h.mgr⟩
  · obtain ⟨cur, hb, _⟩ := h.row.blk
    exact ⟨_, _, by decide, hb⟩
theorem MgrAt.chg {F : Nat → Prop} (h : MgrAt base w m G) (q : Chg F w w') (hn : ∀ n, G.foot m n → ¬ F n) : MgrAt base w' m G :=
  ⟨h.mgr.chg q (hn _ (.inl rfl)), h.row.chg q (hn _ (.inr rfl)), h.low⟩
theorem MgrAt.old (h : MgrAt base w m G) (q : Below w.heap.size w w') : MgrAt base w' m G := h.chg (F := fun _ => False) (Chg.of_below q) (fun _ _ e => e)
theorem MgrAt.cell (h : MgrAt base w m G) {i j : Nat} (hi : i < G.l.length) (hj : j < 4) : w.cell? ⟨G.gl, i * 4 + j, none⟩ = (gcells (G.l.getD i default))[j]? := by
  rw [h.row.cell (by omega)]
  exact flat_get gcells_len default _ _ _ hi hj
theorem MgrAt.grow (h : MgrAt base w m G) : gcs.Row w (.slice (some ⟨G.gl, 0, none⟩) G.l.length G.cl) G.l := by
  obtain ⟨cur, _, h1, h2, _⟩ := h.row.blk
  refine ⟨by unfold maxLen at h2; omega, _, _, rfl, .inr ⟨G.gl, 0, rfl, fun i hi => ?_⟩⟩
  have h0 := h.cell hi (j := 0) (by decide)
  have h1 := h.cell hi (j := 1) (by decide)
  have h2 := h.cell hi (j := 2) (by decide)
  have h3 := h.cell hi (j := 3) (by decide)
  rw [Nat.zero_add]
  exact ⟨h0, h1, h2, h3⟩
theorem field_g1 (x y z : Int) (w : World) : (Instr.field 38 (.agg #[vi x, vi y, vi z]) 1).run Tryz.prog w = .ok (vi y) w := by kernel_rfl
set_option maxRecDepth 100000 in
theorem pages_any (h : MgrAt base w m G) (hc : ChipAt base w G.k M) : Calls Tryz.prog 182 #[ptr m] w fun e w' => e = .returned (vi M.P) ∧ Below w.heap.size w w' := by
  have c0 : w.cell? ⟨m, 0, none⟩ = some (ptr G.k) := h.mgr.cell 0
  have HC := Lib.hid hc
  clear h hc
  go_enter Tryz.func182, Tryz.ntmps182
  go_wp2_with fail
  refine (Geo_any HC.out).mono ?_
  rintro e w' ⟨rfl, hb⟩
  have HB := Lib.hid hb
  have hf := field_g1
  clear hb c0
  go_wp2_with fail
  go_ret
  exact ⟨rfl, HB.out⟩
set_option maxRecDepth 100000 in
theorem Free_any (h : MgrAt base w m G) : Calls Tryz.prog 179 #[ptr m] w fun e w' => e = .returned (vi (countL 0 G.l)) ∧ Below w.heap.size w w' := by
  have c1 : w.cell? ⟨m, 1, none⟩ = some (.slice (some ⟨G.gl, 0, none⟩) G.l.length G.cl) := h.mgr.cell 1
  have H := Lib.hid h
  clear h
  go_enter Tryz.func179, Tryz.ntmps179
  go_wp2_with fail
  refine (Count_any _ _ 0 w H.out.grow).mono ?_
  rintro e w' ⟨rfl, hb⟩
  have HB := Lib.hid hb
  clear hb c1
  go_wp2_with fail
  go_ret
  exact ⟨rfl, HB.out⟩
set_option maxRecDepth 100000 in
set_option maxHeartbeats 1000000 in
theorem Left_any (h : MgrAt base w m G) : Calls Tryz.prog 74 #[ptr m] w fun e w' => e = .returned (vi (wrap64 (G.reserve - wrap64 ((countL 4 G.l : Nat) - G.bad)))) ∧ Below w.heap.size w w' := by
  have c1 := Sub.cell (show w.cell? ⟨m, 1, none⟩ = some (.slice (some ⟨G.gl, 0, none⟩) G.l.length G.cl) from h.mgr.cell 1)
  have c3 := Sub.cell (show w.cell? ⟨m, 3, none⟩ = some (vi G.reserve) from h.mgr.cell 3)
  have c4 := Sub.cell (show w.cell? ⟨m, 4, none⟩ = some (vi G.bad) from h.mgr.cell 4)
  have HCO : Hid (∀ n : Sub w, Calls Tryz.prog 124 #[.slice (some ⟨G.gl, 0, none⟩) G.l.length G.cl, vi 4] n.w fun e w' => e = .returned (vi (countL 4 G.l)) ∧ Below n.w.heap.size n.w w') := Lib.hid (fun n => Count_any _ _ 4 n.w (h.old n.below).grow)
  clear h
  go_enter Tryz.func74, Tryz.ntmps74
  go_upto_region 3 with fail
  refine wp_region_sub (by kernel_rfl) (by kernel_rfl) ?_
  repeat (go_big_quiet_step (exact ext_of (HCO.out _)))
  refine wpQuiet_nil ?_
  rintro _ ⟨nq, rfl⟩
  have HBN := Lib.hid nq.below
  go_wp2_with fail
  go_ret
  exact ⟨by simp, HBN.out⟩
/-- How many pages can be programmed. -/
def roomL (G : MgM) (P : Nat) : Int := (countL 0 G.l : Nat) * (P : Int) + (if G.at_ = -1 then 0 else (P : Int) - (G.l.getD G.at_.toNat default).n)
/-- The open block is one of the blocks. -/
def MgM.fit (G : MgM) (P : Nat) : Prop := G.l.length ≤ 128 ∧ P ≤ 32 ∧ (G.at_ = -1 ∨ ∃ i : Nat, G.at_ = i ∧ i < G.l.length ∧ 0 ≤ (G.l.getD i default).n ∧ (G.l.getD i default).n ≤ P)
set_option maxRecDepth 100000 in
set_option maxHeartbeats 2000000 in
theorem Room_any (h : MgrAt base w m G) (hc : ChipAt base w G.k M) (hf : G.fit M.P) : Calls Tryz.prog 176 #[ptr m] w fun e w' => e = .returned (vi (roomL G M.P)) ∧ Below w.heap.size w w' := by
  obtain ⟨hl, hP, hat⟩ := hf
  have H := Lib.hid h
  have HC := Lib.hid hc
  have hcl := countL_le 0 G.l
  have HQ : Hid (roomL G M.P = (countL 0 G.l : Nat) * (M.P : Int) + (if G.at_ = -1 then 0 else (M.P : Int) - (G.l.getD G.at_.toNat default).n)) := Lib.hid rfl
  have HAT := Lib.hid hat
  have hmul : countL 0 G.l * M.P ≤ 4096 := Nat.le_trans (Nat.mul_le_mul (Nat.le_trans hcl hl) hP) (by decide)
  have hmc : ((countL 0 G.l : Nat) : Int) * (M.P : Int) = ((countL 0 G.l * M.P : Nat) : Int) := by rw [Int.natCast_mul]
  have q1 : IntKind.i64.wrap (((countL 0 G.l : Nat) : Int) * (M.P : Int)) = ((countL 0 G.l : Nat) : Int) * (M.P : Int) := IntWalk.i64_in _ (by rw [hmc]; omega)
  have HMC := Lib.hid hmc
  clear h hc hat hmc
  go_enter Tryz.func176, Tryz.ntmps176
  go_wp2_with fail
  refine (Free_any H.out).mono ?_
  rintro e w1 ⟨rfl, hb1⟩
  have H1 := Lib.hid (H.out.old hb1)
  have HC1 := Lib.hid (HC.out.old hb1)
  have HB1 := Lib.hid hb1
  clear hb1
  go_wp2_with fail
  refine (pages_any H1.out HC1.out).mono ?_
  rintro e w2 ⟨rfl, hb2⟩
  have H2 := Lib.hid (H1.out.old hb2)
  have HC2 := Lib.hid (HC1.out.old hb2)
  have HB2 := Lib.hid (HB1.out.trans (hb2.mono HB1.out.size))
  have c2 : w2.cell? ⟨m, 2, none⟩ = some (vi G.at_) := H2.out.mgr.cell 2
  clear hb2
  generalize countL 0 G.l = c at *
  rcases HAT.out with e0 | ⟨i, e0, hi, hn0, hn1⟩
  · rw [if_pos e0, Int.add_zero] at HQ
    rw [e0] at c2
    have hne : ((-1 : Int) != -1) = false := by decide
    go_wp2_with fail
    go_ret
    exact ⟨ret_int HQ.out.symm, HB2.out⟩
  · have hne : ((i : Int) != -1) = true := by simp only [bne_iff_ne, ne_eq]; omega
    rw [if_neg (by omega), e0, Int.toNat_natCast] at HQ
    rw [e0] at c2
    have d3 : w2.cell? ⟨G.gl, i * 4 + 3, none⟩ = some (vi (G.l.getD i default).n) := H2.out.cell hi (j := 3) (by decide)
    have c1 : w2.cell? ⟨m, 1, none⟩ = some (.slice (some ⟨G.gl, 0, none⟩) G.l.length G.cl) := H2.out.mgr.cell 1
    generalize (G.l.getD i default).n = nx at *
    have hi0 : (0 : Int) ≤ (i : Int) := by omega
    have hi1 : (i : Int) < (G.l.length : Int) := by omega
    have q2 : IntKind.i64.wrap ((M.P : Int) - nx) = (M.P : Int) - nx := IntWalk.i64_in _ (by omega)
    have q3 : IntKind.i64.wrap ((c : Int) * (M.P : Int) + ((M.P : Int) - nx)) = (c : Int) * (M.P : Int) + ((M.P : Int) - nx) := IntWalk.i64_in _ (by rw [HMC.out]; omega)
    have HPA : Hid (∀ n : Sub w2, Calls Tryz.prog 182 #[ptr m] n.w fun e w' => e = .returned (vi M.P) ∧ Below n.w.heap.size n.w w') := Lib.hid (fun n => pages_any (H2.out.old n.below) (HC2.out.old n.below))
    go_upto_region 5 with fail
    have c1 := Sub.cell c1
    have c2 := Sub.cell c2
    have d3 := Sub.cell d3
    refine wp_region_sub (by kernel_rfl) (by kernel_rfl) ?_
    repeat (go_big_quiet_step (exact ext_of (HPA.out _)))
    refine wpQuiet_nil ?_
    rintro _ ⟨nq, rfl⟩
    have HBN := Lib.hid (HB2.out.trans (nq.below.mono HB2.out.size))
    go_wp2_with fail
    go_ret
    exact ⟨ret_int HQ.out.symm, HBN.out⟩
end

end Go.Proofs.YtjkaioonppmkjaaGreat.mgr

