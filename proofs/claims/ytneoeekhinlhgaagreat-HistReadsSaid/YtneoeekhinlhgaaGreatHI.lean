/-
  The reader of a history's bytes: what it takes, or that it gives up. Conditions: rows that are read.
-/
import Derived.Test.YtneoeekhinlhgaaGreatHH
namespace Go.Proofs.YtneoeekhinlhgaaGreat
open Go.RowKit

/-- A reader, and what is left of its bytes. -/
def RD (w : World) (g : Nat) (l : List Nat) : Prop := ∃ a c, Blk w g 65 #[.slice a l.length c] ∧ BRow w a l ∧ l.length ≤ c ∧ c ≤ maxLen ∧ ∀ ad, a = some ad → ad.block < g

theorem block_add (a : Addr) (n : Nat) : (a.add n).block = a.block := by unfold Addr.add; split <;> rfl
theorem BRow.dropped {w : World} {a : Option Addr} {l : List Nat} (h : BRow w a l) (n : Nat) : BRow w (Option.map (fun x => x.add n) a) (l.drop n) := by
  rcases h.at_ with rfl | ⟨b, o, rfl, h1⟩
  · simpa using BRow.nil w _
  · rw [Option.map_some, add_plain]
    exact h.drop n
theorem BRow.set_reader {w : World} {g : Nat} {v u : Value} {a : Option Addr} {m : List Nat} (hm : BRow w a m) (hb : Blk w g 65 #[v]) (hv : ∀ n, v ≠ vb n) : BRow (w.setCell ⟨g, 0, none⟩ u) a m := by
  refine ⟨hm.small, ?_⟩
  rcases hm.at_ with h0 | ⟨b, o, rfl, h1⟩
  · exact .inl h0
  · by_cases hbg : b = g
    · refine .inl ?_
      subst hbg
      rcases m with _ | ⟨x, m⟩
      · rfl
      · have h2 := h1 0 (by simp)
        rw [hb.cell] at h2
        rcases o with _ | o
        · simp at h2
          exact absurd h2 (hv x)
        · simp at h2
    · refine .inr ⟨b, o, rfl, fun i hi => ?_⟩
      rw [World.cell?_setCell_other _ _ _ _ (fun e => hbg (by injection e with e1; exact e1.symm))]
      exact h1 i hi
/-- The reader's cell turned to what is left. -/
theorem RD.turn {w : World} {g n c : Nat} {a : Option Addr} {l : List Nat} (hb : Blk w g 65 #[.slice a l.length c]) (hr : BRow w a l) (hn : n ≤ l.length) (hc : l.length ≤ c) (hm : c ≤ maxLen) (ho : ∀ ad, a = some ad → ad.block < g) {u : Value}
    (hu : (c = n ∧ u = .slice a (l.length - n) 0) ∨ u = .slice (Option.map (fun x => x.add n) a) (l.length - n) (c - n)) :
    BRow (w.setCell ⟨g, 0, none⟩ u) a (l.take n) ∧ RD (w.setCell ⟨g, 0, none⟩ u) g (l.drop n) ∧ w.grownBy (w.setCell ⟨g, 0, none⟩ u) (some g) := by
  have hset := hb.set_ 0 u
  refine ⟨(hr.take n).set_reader hb (by simp), ?_, ⟨rfl, rfl, rfl, by simp [World.setCell], fun k _ hne => Below.heap_setCell w _ u k (fun e => hne (by rw [e]))⟩⟩
  rcases hu with ⟨rfl, rfl⟩ | rfl
  · have e : l.drop c = [] := List.drop_eq_nil_of_le hc
    refine ⟨a, 0, ?_, by rw [e]; exact BRow.nil _ _, by rw [e]; exact Nat.le_refl _, Nat.zero_le _, ho⟩
    rw [List.length_drop]
    exact hset
  · refine ⟨_, c - n, ?_, (hr.dropped n).set_reader hb (by simp), by rw [List.length_drop]; omega, by omega, fun ad hd => ?_⟩
    · rw [List.length_drop]
      exact hset
    · cases a with
      | none => cases hd
      | some a0 =>
        injection hd with hd
        subst hd
        rw [block_add]
        exact ho a0 rfl

set_option maxHeartbeats 1000000 in
theorem take_none (g n : Nat) (l : List Nat) (w : World) (h : RD w g l) (hn : l.length < n) :
    Calls Tryz.prog 32 #[.pointer (some ⟨g, 0, none⟩), vi n] w fun e w' => e = .panicked [{ v := .iface 68 (.agg #[]), recovered := false }] ∧ w' = w := by
  obtain ⟨a, c, hb, -, -, -, -⟩ := h
  have g0 := hb.cell 0
  simp only [List.getElem?_toArray, List.getElem?_cons_zero] at g0
  go_enter Tryz.func32, Tryz.ntmps32
  go_wp2_with fail
  exact ⟨rfl, rfl, rfl⟩

set_option maxHeartbeats 1000000 in
theorem take_some (g n : Nat) (l : List Nat) (w : World) (h : RD w g l) (hn : n ≤ l.length) :
    Calls Tryz.prog 32 #[.pointer (some ⟨g, 0, none⟩), vi n] w fun e w' => ∃ a, e = .returned (.slice a n n) ∧ BRow w' a (l.take n) ∧ RD w' g (l.drop n) ∧ w.grownBy w' (some g) := by
  obtain ⟨a, c, hb, hr, hc, hm, ho⟩ := h
  have g0 := hb.cell 0
  have f0 := hb.frozen 0
  simp only [List.getElem?_toArray, List.getElem?_cons_zero] at g0
  go_enter Tryz.func32, Tryz.ntmps32
  go_wp2_with fail
  all_goals go_ret
  all_goals exact ⟨_, rfl, RD.turn hb hr hn hc hm ho (by first | exact .inr rfl | exact .inl ⟨by assumption, rfl⟩ | exact .inl ⟨rfl, rfl⟩)⟩

theorem or_step (z x k : Nat) (hz : z < 256 ^ k) (hx : x < 256) (hk : k < 8) : bits .or .u64 (z : Int) (IntKind.u64.wrap ((x : Int) * 2 ^ (8 * k))) = ((z + x * 256 ^ k : Nat) : Int) := by
  have hp : (256 : Nat) ^ k = 2 ^ (8 * k) := by rw [Nat.pow_mul]
  have h1 : x * 2 ^ (8 * k) < 18446744073709551616 := by
    have h2 : 2 ^ (8 * k) ≤ 2 ^ 56 := Nat.pow_le_pow_right (by omega) (by omega)
    have h3 : x * 2 ^ (8 * k) ≤ 255 * 2 ^ 56 := Nat.mul_le_mul (by omega) h2
    omega
  have h4 : z < 18446744073709551616 := by
    rw [hp] at hz
    have h2 : 2 ^ (8 * k) ≤ 2 ^ 56 := Nat.pow_le_pow_right (by omega) (by omega)
    omega
  have e : IntKind.u64.wrap ((x : Int) * 2 ^ (8 * k)) = ((x * 2 ^ (8 * k) : Nat) : Int) := by
    rw [show (x : Int) * 2 ^ (8 * k) = ((x * 2 ^ (8 * k) : Nat) : Int) by simp]
    generalize x * 2 ^ (8 * k) = y at h1
    simp only [IntKind.wrap, IntKind.bits, IntKind.signed]
    simp
    omega
  rw [e, u64_or_nat z _ h4 h1, Nat.or_comm, nat_join (8 * k) (x * 2 ^ (8 * k)) z (Nat.mul_mod_left _ _) (by rw [← hp]; exact hz), hp, Nat.add_comm]
theorem num_step {m : List Nat} {k z : Nat} (hk : k < m.length) (hz : z = HP.num (m.take k)) : HP.num (m.take (k + 1)) = z + m.getD k 0 * 256 ^ k := by
  rw [List.take_succ_eq_append_getElem hk, HP.num_snoc, hz, List.length_take, Nat.min_eq_left (by omega)]
  simp [List.getD, hk]

set_option maxHeartbeats 1000000 in
theorem num_none (g n : Nat) (l : List Nat) (w : World) (h : RD w g l) (hn : l.length < n) :
    Calls Tryz.prog 30 #[.pointer (some ⟨g, 0, none⟩), vi n] w fun e w' => e = .panicked [{ v := .iface 68 (.agg #[]), recovered := false }] ∧ w' = w := by
  have H := Lib.hid h
  clear h
  go_enter Tryz.func30, Tryz.ntmps30
  go_wp2_with fail
  refine (take_none g n l _ H.out hn).mono ?_
  rintro e w' ⟨rfl, rfl⟩
  exact ⟨rfl, rfl, rfl⟩

set_option maxHeartbeats 1000000 in
theorem num_some (g n : Nat) (l : List Nat) (w : World) (h : RD w g l) (hn : n ≤ l.length) (hn8 : n ≤ 8) :
    Calls Tryz.prog 30 #[.pointer (some ⟨g, 0, none⟩), vi n] w fun e w' => e = .returned (vq (HP.num (l.take n))) ∧ RD w' g (l.drop n) ∧ w.grownBy w' (some g) := by
  have H := Lib.hid h
  clear h
  go_enter Tryz.func30, Tryz.ntmps30
  go_wp2_with fail
  refine (take_some g n l _ H.out hn).mono ?_
  rintro e w1 ⟨a, rfl, hr, hd, hg⟩
  have HR := Lib.hid hr
  have HD := Lib.hid hd
  have HG := Lib.hid hg
  have hlen : (l.take n).length = n := by rw [List.length_take]; omega
  have HL := Lib.hid hlen
  clear hr hd hg hlen H
  generalize hm : l.take n = m at *
  have HM := Lib.hid hm
  clear hm
  go_wp2_with fail
  go_loop [5, 12] (fun x i => ∃ k z : Nat, k ≤ n ∧ i = vi k ∧ x = vq z ∧ Hid (z = HP.num (m.take k)) ∧ Hid (z < 256 ^ k)) (fun _ i => n - (intOf i).toNat)
  case atStart => exact ⟨0, 0, by omega, rfl, rfl, Lib.hid rfl, Lib.hid (by simp)⟩
  case round =>
    obtain ⟨k, z, hk, rfl, rfl, hz, hzl⟩ := hrel
    by_cases hlt : k < n
    · have hkm : k < m.length := by have := HL.out; omega
      obtain ⟨b, o, rfl, hc, hsm⟩ := HR.out.lookup hkm
      have HS := Lib.hid (num_step hkm hz.out)
      generalize m.getD k 0 = x at hc hsm HS
      have hk8 : k < 8 := by omega
      have hor := or_step z x k hzl.out hsm hk8
      have hlt' : z + x * 256 ^ k < 256 ^ (k + 1) := by
        have h1 := hzl.out
        have h2 : x * 256 ^ k ≤ 255 * 256 ^ k := Nat.mul_le_mul_right _ (by omega)
        rw [Nat.pow_succ]
        omega
      have HLT := Lib.hid hlt'
      clear hlt' hkm
      go_wp2_with fail
      go_round
      case rel => exact ⟨k + 1, z + x * 256 ^ k, by omega, by go_num, rfl, Lib.hid (by rw [HS.out]), HLT⟩
      case measure => simp [intOf]; omega
    · obtain rfl : k = n := by omega
      have hz' := hz.out
      rw [List.take_of_length_le (by have := HL.out; omega)] at hz'
      subst hz'
      clear hz hzl
      go_wp2_with fail
      go_ret
      exact ⟨by rw [HM.out]; rfl, HD.out, HG.out⟩

theorem takeN_none {n : Nat} {l : List Nat} (h : HP.takeN n l = none) : l.length < n := by
  unfold HP.takeN at h
  split at h
  · cases h
  · omega
theorem takeN_some {n : Nat} {l x r : List Nat} (h : HP.takeN n l = some (x, r)) : n ≤ l.length ∧ x = l.take n ∧ r = l.drop n ∧ x.length = n := by
  unfold HP.takeN at h
  split at h
  · simp only [Option.some.injEq, Prod.mk.injEq] at h
    obtain ⟨rfl, rfl⟩ := h
    exact ⟨by assumption, rfl, rfl, by rw [List.length_take]; omega⟩
  · cases h
theorem take_to {g n : Nat} {l x r : List Nat} {w : World} (h : RD w g l) (hk : HP.takeN n l = some (x, r)) :
    Calls Tryz.prog 32 #[.pointer (some ⟨g, 0, none⟩), vi n] w fun e w' => ∃ a, e = .returned (.slice a x.length x.length) ∧ BRow w' a x ∧ RD w' g r ∧ w.grownBy w' (some g) := by
  obtain ⟨hn, rfl, rfl, hl⟩ := takeN_some hk
  rw [hl]
  exact take_some g n l w h hn
theorem take_no {g n : Nat} {l : List Nat} {w : World} (h : RD w g l) (hk : HP.takeN n l = none) :
    Calls Tryz.prog 32 #[.pointer (some ⟨g, 0, none⟩), vi n] w fun e w' => e = .panicked [{ v := .iface 68 (.agg #[]), recovered := false }] ∧ w' = w :=
  take_none g n l w h (takeN_none hk)
theorem num_to {g n : Nat} {l x r : List Nat} {w : World} {ni : Int} (hni : ni = n) (h : RD w g l) (hk : HP.takeN n l = some (x, r)) (h8 : n ≤ 8) :
    Calls Tryz.prog 30 #[.pointer (some ⟨g, 0, none⟩), vi ni] w fun e w' => e = .returned (vq (HP.num x)) ∧ RD w' g r ∧ w.grownBy w' (some g) := by
  obtain ⟨hn, rfl, rfl, hl⟩ := takeN_some hk
  rw [hni]
  exact num_some g n l w h hn h8
theorem num_no {g n : Nat} {l : List Nat} {w : World} {ni : Int} (hni : ni = n) (h : RD w g l) (hk : HP.takeN n l = none) :
    Calls Tryz.prog 30 #[.pointer (some ⟨g, 0, none⟩), vi ni] w fun e w' => e = .panicked [{ v := .iface 68 (.agg #[]), recovered := false }] ∧ w' = w := by
  rw [hni]
  exact num_none g n l w h (takeN_none hk)

set_option maxHeartbeats 1000000 in
theorem Clone_any (a : Option Addr) (l : List Nat) (c : Nat) (w : World) (h : BRow w a l) (hl : l.length ≤ 900000) :
    Calls Tryz.prog 38 #[.slice a l.length c] w fun e w' => ∃ v', e = .returned v' ∧ Own w' w.heap.size v' l ∧ Below w.heap.size w w' := by
  have hen := fun (w : World) (a : Option Addr) (n c : Nat) => Lib.run_eql_slice_nil (P := Tryz.prog) w 25 5 a n c 0 0 Tryz.underlying25
  cases a with
  | none =>
    have h0 : l = [] := by
      rcases h.at_ with h | ⟨b, o, he, _⟩
      · exact h
      · cases he
    subst h0
    go_enter Tryz.func38, Tryz.ntmps38
    go_wp2_with fail
    go_ret
    exact ⟨_, rfl, Own.nil _ _, Below.refl _ _⟩
  | some ad =>
    obtain ⟨v', w', hrun, ho, hs⟩ := append_bytes (c := c) (Own.lit (Nat.le_refl w.heap.size) [] (by simp) (cs := #[]) rfl) (h.below ((Below.refl _ w).alloc (Nat.le_refl _) _)) (by simp; omega) (by simp)
    have R : AppRun 25 25 25 (.slice (some ⟨w.heap.size, 0, none⟩) 0 0) (.slice (some ad) l.length c) (w.alloc (.cells #[] 5)) v' w' := ⟨hrun⟩
    have HB := Lib.hid (((Below.refl w.heap.size w).alloc (Nat.le_refl _) (.cells #[] 5)).trans hs.below)
    have HO := Lib.hid ho
    clear hrun ho hs
    go_enter Tryz.func38, Tryz.ntmps38
    go_wp2_with (at_builtin; refine wpList_append_run rfl (.tmp 5) (.tmp 6) rfl rfl rfl R.run ?_)
    go_ret
    exact ⟨_, rfl, HO.out, HB.out⟩

/-- A row of bytes is none of a block that holds no bytes. -/
theorem BRow.set_far {w : World} {g j : Nat} {t : TypeId} {cs : Array Value} {u : Value} {a : Option Addr} {m : List Nat} (hm : BRow w a m) (hb : Blk w g t cs) (hv : ∀ j n : Nat, cs[j]? ≠ some (vb n)) : BRow (w.setCell ⟨g, j, none⟩ u) a m := by
  refine ⟨hm.small, ?_⟩
  rcases hm.at_ with h0 | ⟨b, o, rfl, h1⟩
  · exact .inl h0
  · by_cases hbg : b = g
    · refine .inl ?_
      subst hbg
      rcases m with _ | ⟨x, m⟩
      · rfl
      · have h2 := h1 0 (by simp)
        rw [hb.cell] at h2
        exact absurd h2 (hv _ _)
    · refine .inr ⟨b, o, rfl, fun i hi => ?_⟩
      rw [World.cell?_setCell_other _ _ _ _ (fun e => hbg (by injection e with e1; exact e1.symm))]
      exact h1 i hi
theorem RD.set_far {w : World} {g g' j : Nat} {t : TypeId} {cs : Array Value} {u : Value} {l : List Nat} (h : RD w g l) (hb : Blk w g' t cs) (hne : g ≠ g') (hv : ∀ j n : Nat, cs[j]? ≠ some (vb n)) : RD (w.setCell ⟨g', j, none⟩ u) g l := by
  obtain ⟨a, c, h1, h2, h3, h4, h5⟩ := h
  exact ⟨a, c, h1.far hne u, h2.set_far hb hv, h3, h4, h5⟩
theorem RD.old {w w' : World} {g : Nat} {l : List Nat} (h : RD w g l) (hb : Below w.heap.size w w') : RD w' g l := by
  obtain ⟨a, c, h1, h2, h3, h4, h5⟩ := h
  exact ⟨a, c, h1.old hb, h2.below hb, h3, h4, h5⟩
/-- An append to a row of operations that is younger than the reader. -/
theorem RD.grown {w w' : World} {g : Nat} {l : List Nat} {row : Option Nat} (h : RD w g l) (hg : w.grownBy w' row) (hr : ∀ k, row = some k → g < k) : RD w' g l := by
  obtain ⟨a, c, h1, h2, h3, h4, h5⟩ := h
  refine ⟨a, c, h1.grown hg (fun e => by have := hr g e.symm; omega), ?_, h3, h4, h5⟩
  refine ⟨h2.small, ?_⟩
  rcases h2.at_ with h0 | ⟨b, o, rfl, h6⟩
  · exact .inl h0
  · have hb := h5 _ rfl
    exact .inr ⟨b, o, rfl, fun i hi => hg.cell (h6 i hi) (fun e => by have := hr b e.symm; dsimp only at hb; omega)⟩
theorem RD.lt {w : World} {g : Nat} {l : List Nat} (h : RD w g l) : g < w.heap.size := by
  obtain ⟨a, c, h1, _⟩ := h
  exact h1.lt
theorem RD.small {w : World} {g : Nat} {l : List Nat} (h : RD w g l) : ∀ x ∈ l, x < 256 := by
  obtain ⟨a, c, _, h2, _⟩ := h
  exact h2.small
theorem only_set {a w : World} {g : Nat} (h : a.grownBy w (some g)) {p : Addr} (hp : p.block = g ∨ a.heap.size ≤ p.block) (u : Value) : a.grownBy (w.setCell p u) (some g) :=
  ⟨h.os, h.tape, h.output, by simpa [World.setCell] using h.size, fun i hi hne => (Below.heap_setCell w p u i (by
    rintro rfl
    rcases hp with hp | hp
    · exact hne (by rw [hp])
    · omega)).trans (h.block i hi hne)⟩
theorem only_alloc {a w : World} {row : Option Nat} (h : a.grownBy w row) (o : Obj) : a.grownBy (w.alloc o) row :=
  ⟨h.os, h.tape, h.output, Nat.le_trans h.size (by simp), fun i hi hne => (Below.heap_alloc w o i (Nat.lt_of_lt_of_le hi h.size)).trans (h.block i hi hne)⟩

/-- Bytes in a row that holds bytes. -/
structure TRow (w : World) (a : Option Addr) (l : List Nat) : Prop where
  row : BRow w a l
  ty : l = [] ∨ ∃ b o cur, a = some ⟨b, o, none⟩ ∧ Blk w b 5 cur
theorem blk_ty {w : World} {g : Nat} {t t' : TypeId} {cs cs' : Array Value} (h : Blk w g t cs) (h' : Blk w g t' cs') : t = t' := by
  unfold Blk at h h'
  rw [h] at h'
  injection h' with h'
  injection h' with _ ht
theorem TRow.grown {w w' : World} {a : Option Addr} {l : List Nat} {row : Option Nat} (h : TRow w a l) (hg : w.grownBy w' row) (hne : ∀ b cur, Blk w b 5 cur → some b ≠ row) : TRow w' a l := by
  rcases h.ty with rfl | ⟨b, o, cur, rfl, hb⟩
  · exact ⟨BRow.nil _ _, .inl rfl⟩
  · exact ⟨h.row.grown hg (hne b cur hb), .inr ⟨b, o, cur, rfl, hb.grown hg (hne b cur hb)⟩⟩
theorem TRow.old {w w' : World} {a : Option Addr} {l : List Nat} (h : TRow w a l) (hb : Below w.heap.size w w') : TRow w' a l :=
  h.grown (row := none) ⟨hb.os, hb.tape, hb.output, hb.size, fun k hk _ => hb.block k hk⟩ (fun _ _ _ => by simp)
theorem TRow.other {w w' : World} {a : Option Addr} {l : List Nat} {g : Nat} {t : TypeId} {cs : Array Value} (h : TRow w a l) (hg : w.grownBy w' (some g)) (hb : Blk w g t cs) (ht : t ≠ 5) : TRow w' a l :=
  h.grown hg (fun b cur hc e => by
    injection e with e
    subst e
    exact ht (blk_ty hb hc))
theorem set_grown (w : World) (g j : Nat) (u : Value) : w.grownBy (w.setCell ⟨g, j, none⟩ u) (some g) := ⟨rfl, rfl, rfl, by simp [World.setCell], fun k _ hne => Below.heap_setCell w _ u k (fun e => hne (by rw [e]))⟩
theorem TRow.set_ {w : World} {a : Option Addr} {l : List Nat} {g j : Nat} {u : Value} {t : TypeId} {cs : Array Value} (h : TRow w a l) (hb : Blk w g t cs) (ht : t ≠ 5) : TRow (w.setCell ⟨g, j, none⟩ u) a l :=
  h.other (set_grown w g j u) hb ht
theorem Own.trow {w : World} {base : Nat} {v : Value} {l : List Nat} (h : Own w base v l) (hs : ∀ x ∈ l, x < 256) : ∃ a c, v = .slice a l.length c ∧ TRow w a l ∧ l.length ≤ c ∧ c ≤ maxLen := by
  have h' := h
  rcases h'.2 with ⟨rfl, h0⟩ | ⟨g, cap, cur, rfl, _, hgc, hnc, hcm, _⟩
  · have : l = [] := List.eq_nil_of_length_eq_zero h0
    subst this
    exact ⟨none, 0, rfl, ⟨BRow.nil _ _, .inl rfl⟩, Nat.le_refl _, Nat.zero_le _⟩
  · obtain ⟨a, c, hv, hr, hc⟩ := h.row hs
    injection hv with h1 h2 h3
    subst h1 h3
    exact ⟨_, cap, rfl, ⟨hr, .inr ⟨g, 0, cur, rfl, hgc⟩⟩, hnc, hcm⟩

/-- The state between the reader's takes: what is left, the two variables. -/
structure OpSt (w : World) (g T3 : Nat) (cs : Array Value) (l : List Nat) (w' : World) : Prop where
  rd : RD w' g l
  grown : w.grownBy w' (some g)
  b2 : Blk w' w.heap.size 53 #[vi 0, .string (bs []), .string (bs []), vi 0, vi 0, vi 0, .slice none 0 0]
  b3 : Blk w' T3 53 cs
  hg : g < w.heap.size
  h3 : w.heap.size < T3
theorem OpSt.call {w w1 w2 : World} {g T3 : Nat} {cs : Array Value} {l l' : List Nat} (h : OpSt w g T3 cs l w1) (r : RD w2 g l') (q : w1.grownBy w2 (some g)) : OpSt w g T3 cs l' w2 :=
  ⟨r, h.grown.trans q, h.b2.grown q (by have := h.hg; intro e; injection e with e; omega), h.b3.grown q (by have := h.hg; have := h.h3; intro e; injection e with e; omega), h.hg, h.h3⟩
theorem OpSt.store {w w1 : World} {g T3 : Nat} {cs : Array Value} {l : List Nat} (h : OpSt w g T3 cs l w1) (j : Nat) (u : Value) (hv : ∀ j n : Nat, cs[j]? ≠ some (vb n)) : OpSt w g T3 (cs.setIfInBounds j u) l (w1.setCell ⟨T3, j, none⟩ u) :=
  ⟨h.rd.set_far h.b3 (by have := h.hg; have := h.h3; omega) hv, only_set h.grown (.inr (Nat.le_of_lt h.h3)) u, h.b2.far (by have := h.h3; dsimp only; omega) u, h.b3.set_ j u, h.hg, h.h3⟩
theorem OpSt.old {w w1 w2 : World} {g T3 : Nat} {cs : Array Value} {l : List Nat} (h : OpSt w g T3 cs l w1) (hb : Below w1.heap.size w1 w2) : OpSt w g T3 cs l w2 :=
  ⟨h.rd.old hb, h.grown.trans ⟨hb.os, hb.tape, hb.output, hb.size, fun k hk _ => hb.block k hk⟩, h.b2.old hb, h.b3.old hb, h.hg, h.h3⟩
theorem num_bound {n : Nat} {l x r : List Nat} {w : World} {g : Nat} (h : RD w g l) (hk : HP.takeN n l = some (x, r)) : HP.num x < 256 ^ n := by
  obtain ⟨_, rfl, _, hl⟩ := takeN_some hk
  have := HP.num_lt (l.take n) (fun y hy => h.small y (List.mem_of_mem_take hy))
  rw [hl] at this
  exact this
/-- Seven cells of an operation hold no byte. -/
theorem no_byte (k : Int) (p q : ByteArray) (h n f : Int) (a : Option Addr) (m c : Nat) : ∀ j i : Nat, #[vi k, .string p, .string q, vi h, vi n, vi f, .slice a m c][j]? ≠ some (vb i) := by
  intro j i
  match j with
  | 0 => simp
  | 1 => simp
  | 2 => simp
  | 3 => simp
  | 4 => simp
  | 5 => simp
  | 6 => simp
  | j + 7 => simp

/-- The state while the result is laid. -/
structure OpEnd (w : World) (g : Nat) (l : List Nat) (s : Option Addr) (x : List Nat) (cs : Array Value) (w' : World) : Prop where
  rd : RD w' g l
  grown : w.grownBy w' (some g)
  row : TRow w' s x
  b2 : Blk w' w.heap.size 53 cs
  hg : g < w.heap.size
theorem OpEnd.store {w w1 : World} {g : Nat} {cs : Array Value} {l x : List Nat} {s : Option Addr} (h : OpEnd w g l s x cs w1) (j : Nat) (u : Value) (hv : ∀ j n : Nat, cs[j]? ≠ some (vb n)) : OpEnd w g l s x (cs.setIfInBounds j u) (w1.setCell ⟨w.heap.size, j, none⟩ u) :=
  ⟨h.rd.set_far h.b2 (by have := h.hg; omega) hv, only_set h.grown (.inr (Nat.le_refl _)) u, h.row.set_ h.b2 (by decide), h.b2.set_ j u, h.hg⟩
theorem s32_conv {x : Nat} (h : x < 4294967296) : wrap64 (wrap32 (x : Int)) = HP.s32 x := by
  unfold wrap64 wrap32 HP.s32
  split <;> omega
theorem s64_conv {x : Nat} (h : x < 18446744073709551616) : wrap64 (x : Int) = HP.s64 x := by
  unfold wrap64 HP.s64
  split <;> omega

/-- What an operation that is taken leaves. -/
def OpPost (g : Nat) (l : List Nat) (w : World) (e : Ending) (w' : World) : Prop :=
  match HP.dec l with
  | some (o, r) => ∃ s c, e = .returned (OpE.v ⟨o, s, c⟩) ∧ TRow w' s o.bytes ∧ RD w' g r ∧ w.grownBy w' (some g)
  | none => e = .panicked [{ v := .iface 68 (.agg #[]), recovered := false }] ∧ w.grownBy w' (some g)
theorem OpPost.none {g : Nat} {l : List Nat} {w w' : World} (hd : HP.dec l = none) (hg : w.grownBy w' (some g)) : OpPost g l w (.panicked [{ v := .iface 68 (.agg #[]), recovered := false }]) w' := by
  unfold OpPost
  rw [hd]
  exact ⟨rfl, hg⟩

theorem OpPost.some {g : Nat} {l r : List Nat} {w w' : World} {o : HP.HOp} {s : Option Addr} {c : Nat} {v : Value} (hd : HP.dec l = some (o, r)) (hr : TRow w' s o.bytes) (hrd : RD w' g r) (hg : w.grownBy w' (some g)) (hv : v = OpE.v ⟨o, s, c⟩) : OpPost g l w (.returned v) w' := by
  unfold OpPost
  rw [hd]
  exact ⟨s, c, by rw [hv], hr, hrd, hg⟩

theorem op_result {w' : World} {g : Nat} {v0 v1 v2 v3 v4 v5 v6 : Value} (hb : Blk w' g 53 #[v0, v1, v2, v3, v4, v5, v6]) (tmps : Array Value) (h2 : tmps[2]? = some (.pointer (some ⟨g, 0, none⟩))) :
    (results Tryz.f33 tmps).run Tryz.prog w' = .ok (.agg #[v0, v1, v2, v3, v4, v5, v6]) w' := by
  have g0 : w'.cell? ⟨g, 0, none⟩ = some v0 := hb.cell 0
  have g1 : w'.cell? ⟨g, 1, none⟩ = some v1 := hb.cell 1
  have g2 : w'.cell? ⟨g, 2, none⟩ = some v2 := hb.cell 2
  have g3 : w'.cell? ⟨g, 3, none⟩ = some v3 := hb.cell 3
  have g4 : w'.cell? ⟨g, 4, none⟩ = some v4 := hb.cell 4
  have g5 : w'.cell? ⟨g, 5, none⟩ = some v5 := hb.cell 5
  have g6 : w'.cell? ⟨g, 6, none⟩ = some v6 := hb.cell 6
  simp only [results, Tryz.results33]
  simp [go_sem, h2, g0, g1, g2, g3, g4, g5, g6]

set_option maxRecDepth 100000 in
set_option maxHeartbeats 4000000 in
theorem op_any (g : Nat) (l : List Nat) (w : World) (h : RD w g l) :
    Calls Tryz.prog 33 #[.pointer (some ⟨g, 0, none⟩)] w (OpPost g l w) := by
  have H := Lib.hid h
  clear h
  go_enter Tryz.func33, Tryz.ntmps33
  go_wp2_with fail
  generalize hw1 : w.alloc _ = w1
  have r1 : RD w1 g l := by rw [← hw1]; exact H.out.old ((Below.refl _ _).alloc (Nat.le_refl _) _)
  have q1 : w.grownBy w1 (some g) := by rw [← hw1]; exact World.grownBy_alloc _ _ _
  have b1 : Blk w1 w.heap.size 53 #[vi 0, .string (bs []), .string (bs []), vi 0, vi 0, vi 0, .slice none 0 0] := by rw [← hw1]; exact Blk.new _ _ _
  have hgw := H.out.lt
  have z1 : w1.heap.size = w.heap.size + 1 := by rw [← hw1]; exact size_alloc _ _
  have R1 := Lib.hid r1
  have Q1 := Lib.hid q1
  have B1 := Lib.hid b1
  have Z1 := Lib.hid z1
  clear hw1 r1 q1 b1 z1
  -- the kind
  cases hk1 : HP.takeN 1 l with
  | none =>
    have HK := Lib.hid hk1
    clear hk1
    refine (num_no (n := 1) rfl R1.out HK.out).mono ?_
    rintro e w' ⟨rfl, rfl⟩
    exact ⟨rfl, OpPost.none (by rw [HP.dec, HK.out]) Q1.out⟩
  | some x1 =>
  obtain ⟨x1, l1⟩ := x1
  have K1 := Lib.hid hk1
  clear hk1
  refine (num_to (n := 1) rfl R1.out K1.out (by omega)).mono ?_
  rintro e w2 ⟨rfl, r2, q2⟩
  have R2 := Lib.hid r2
  have Q2 := Lib.hid (Q1.out.trans q2)
  have B2 := Lib.hid (B1.out.grown q2 (by intro e; injection e with e; omega))
  have hx1 : HP.num x1 < 256 := by
    have := HP.num_lt x1 (fun y hy => by
      obtain ⟨_, rfl, _, _⟩ := takeN_some K1.out
      exact R1.out.small y (List.mem_of_mem_take hy))
    rw [(takeN_some K1.out).2.2.2] at this
    omega
  have z2 : w1.heap.size ≤ w2.heap.size := q2.size
  clear r2 q2
  go_wp2_with fail
  generalize hT : w2.heap.size = T3
  have T3h : w.heap.size < T3 := by have := Z1.out; omega
  have S0 : Hid (OpSt w g T3 #[vi (HP.num x1), .string (bs []), .string (bs []), vi 0, vi 0, vi 0, .slice none 0 0] l1 (w2.alloc (.cells #[vi (HP.num x1), .string (bs []), .string (bs []), vi 0, vi 0, vi 0, .slice none 0 0] 53))) := by
    have hb := (Below.refl w2.heap.size w2).alloc (Nat.le_refl _) (.cells #[vi (HP.num x1), .string (bs []), .string (bs []), vi 0, vi 0, vi 0, .slice none 0 0] 53)
    exact ⟨R2.out.old hb, only_alloc Q2.out _, B2.out.old hb, hT ▸ Blk.new _ _ _, hgw, T3h⟩
  clear hT R2 Q2 B2 Z1 z2 H R1 Q1 B1
  cases hk2 : HP.takeN 1 l1 with
  | none =>
    have HK := Lib.hid hk2
    clear hk2
    refine (num_no (n := 1) rfl S0.out.rd HK.out).mono ?_
    rintro e w' ⟨rfl, rfl⟩
    exact ⟨rfl, OpPost.none (by simp only [HP.dec, HP.textN, K1.out, HK.out]) S0.out.grown⟩
  | some x2 =>
  obtain ⟨x2, l2⟩ := x2
  have K2 := Lib.hid hk2
  clear hk2
  have hx2 : HP.num x2 < 256 := num_bound S0.out.rd K2.out
  refine (num_to (n := 1) rfl S0.out.rd K2.out (by omega)).mono ?_
  rintro e wa2 ⟨rfl, r, q⟩
  have A2 := Lib.hid (S0.out.call r q)
  clear r q
  go_wp2_with fail
  cases hk3 : HP.takeN (HP.num x2) l2 with
  | none =>
    have HK := Lib.hid hk3
    clear hk3
    refine (take_no A2.out.rd HK.out).mono ?_
    rintro e w' ⟨rfl, rfl⟩
    exact ⟨rfl, OpPost.none (by simp only [HP.dec, HP.textN, K1.out, K2.out, HK.out]) A2.out.grown⟩
  | some x3 =>
  obtain ⟨x3, l3⟩ := x3
  have K3 := Lib.hid hk3
  clear hk3
  refine (take_to A2.out.rd K3.out).mono ?_
  rintro e wa3 ⟨a3, rfl, hr3, r, q⟩
  have A3 := Lib.hid (A2.out.call r q)
  clear r q
  have ht3 := run_text hr3 x3.length
  have c3 : wa3.cell? ⟨T3, 1, none⟩ = some (.string (bs [])) := A3.out.b3.cell 1
  have f3 := A3.out.b3.frozen 1
  have S3 := Lib.hid (A3.out.store 1 (.string (bs x3)) (no_byte _ _ _ _ _ _ _ _ _))
  clear hr3
  go_wp2_with fail
  clear c3 f3 ht3
  cases hk4 : HP.takeN 1 l3 with
  | none =>
    have HK := Lib.hid hk4
    clear hk4
    refine (num_no (n := 1) rfl S3.out.rd HK.out).mono ?_
    rintro e w' ⟨rfl, rfl⟩
    exact ⟨rfl, OpPost.none (by simp only [HP.dec, HP.textN, K1.out, K2.out, K3.out, HK.out]) S3.out.grown⟩
  | some x4 =>
  obtain ⟨x4, l4⟩ := x4
  have K4 := Lib.hid hk4
  clear hk4
  have hx4 : HP.num x4 < 256 := num_bound S3.out.rd K4.out
  refine (num_to (n := 1) rfl S3.out.rd K4.out (by omega)).mono ?_
  rintro e wa4 ⟨rfl, r, q⟩
  have A4 := Lib.hid (S3.out.call r q)
  clear r q
  go_wp2_with fail
  cases hk5 : HP.takeN (HP.num x4) l4 with
  | none =>
    have HK := Lib.hid hk5
    clear hk5
    refine (take_no A4.out.rd HK.out).mono ?_
    rintro e w' ⟨rfl, rfl⟩
    exact ⟨rfl, OpPost.none (by simp only [HP.dec, HP.textN, K1.out, K2.out, K3.out, K4.out, HK.out]) A4.out.grown⟩
  | some x5 =>
  obtain ⟨x5, l5⟩ := x5
  have K5 := Lib.hid hk5
  clear hk5
  refine (take_to A4.out.rd K5.out).mono ?_
  rintro e wa5 ⟨a5, rfl, hr5, r, q⟩
  have A5 := Lib.hid (A4.out.call r q)
  clear r q
  have ht5 := run_text hr5 x5.length
  have c5 : wa5.cell? ⟨T3, 2, none⟩ = some (.string (bs [])) := A5.out.b3.cell 2
  have f5 := A5.out.b3.frozen 2
  have S5 := Lib.hid (A5.out.store 2 (.string (bs x5)) (no_byte _ _ _ _ _ _ _ _ _))
  clear hr5
  go_wp2_with fail
  clear c5 f5 ht5
  cases hk6 : HP.takeN 4 l5 with
  | none =>
    have HK := Lib.hid hk6
    clear hk6
    refine (num_no (n := 4) rfl S5.out.rd HK.out).mono ?_
    rintro e w' ⟨rfl, rfl⟩
    exact ⟨rfl, OpPost.none (by simp only [HP.dec, HP.textN, HP.tailN, K1.out, K2.out, K3.out, K4.out, K5.out, HK.out]) S5.out.grown⟩
  | some x6 =>
  obtain ⟨x6, l6⟩ := x6
  have K6 := Lib.hid hk6
  clear hk6
  have hx6 : HP.num x6 < 4294967296 := num_bound S5.out.rd K6.out
  refine (num_to (n := 4) rfl S5.out.rd K6.out (by omega)).mono ?_
  rintro e wa6 ⟨rfl, r, q⟩
  have A6 := Lib.hid (S5.out.call r q)
  clear r q
  go_wp2_with fail
  cases hk7 : HP.takeN 4 l6 with
  | none =>
    have HK := Lib.hid hk7
    clear hk7
    refine (num_no (n := 4) rfl A6.out.rd HK.out).mono ?_
    rintro e w' ⟨rfl, rfl⟩
    exact ⟨rfl, OpPost.none (by simp only [HP.dec, HP.textN, HP.tailN, K1.out, K2.out, K3.out, K4.out, K5.out, K6.out, HK.out]) A6.out.grown⟩
  | some x7 =>
  obtain ⟨x7, l7⟩ := x7
  have K7 := Lib.hid hk7
  clear hk7
  have hx7 : HP.num x7 < 4294967296 := num_bound A6.out.rd K7.out
  refine (num_to (n := 4) rfl A6.out.rd K7.out (by omega)).mono ?_
  rintro e wa7 ⟨rfl, r, q⟩
  have A7 := Lib.hid (A6.out.call r q)
  clear r q
  have c6 : wa7.cell? ⟨T3, 3, none⟩ = some (vi 0) := A7.out.b3.cell 3
  have c7 : wa7.cell? ⟨T3, 4, none⟩ = some (vi 0) := A7.out.b3.cell 4
  have f6 := A7.out.b3.frozen 3
  have f7 := A7.out.b3.frozen 4
  have S6 := Lib.hid (A7.out.store 3 (vi (wrap64 (wrap32 (HP.num x6)))) (no_byte _ _ _ _ _ _ _ _ _))
  have S7 := Lib.hid (S6.out.store 4 (vi (wrap64 (wrap32 (HP.num x7)))) (no_byte _ _ _ _ _ _ _ _ _))
  go_wp2_with fail
  clear c6 c7 f6 f7
  cases hk8 : HP.takeN 8 l7 with
  | none =>
    have HK := Lib.hid hk8
    clear hk8
    refine (num_no (n := 8) rfl S7.out.rd HK.out).mono ?_
    rintro e w' ⟨rfl, rfl⟩
    exact ⟨rfl, OpPost.none (by simp only [HP.dec, HP.textN, HP.tailN, K1.out, K2.out, K3.out, K4.out, K5.out, K6.out, K7.out, HK.out]) S7.out.grown⟩
  | some x8 =>
  obtain ⟨x8, l8⟩ := x8
  have K8 := Lib.hid hk8
  clear hk8
  have hx8 : HP.num x8 < 18446744073709551616 := num_bound S7.out.rd K8.out
  refine (num_to (n := 8) rfl S7.out.rd K8.out (by omega)).mono ?_
  rintro e wa8 ⟨rfl, r, q⟩
  have A8 := Lib.hid (S7.out.call r q)
  clear r q
  have c8 : wa8.cell? ⟨T3, 5, none⟩ = some (vi 0) := A8.out.b3.cell 5
  have f8 := A8.out.b3.frozen 5
  have S8 := Lib.hid (A8.out.store 5 (vi (wrap64 (HP.num x8))) (no_byte _ _ _ _ _ _ _ _ _))
  go_wp2_with fail
  clear c8 f8
  cases hk9 : HP.takeN 2 l8 with
  | none =>
    have HK := Lib.hid hk9
    clear hk9
    refine (num_no (n := 2) rfl S8.out.rd HK.out).mono ?_
    rintro e w' ⟨rfl, rfl⟩
    exact ⟨rfl, OpPost.none (by simp only [HP.dec, HP.textN, HP.tailN, K1.out, K2.out, K3.out, K4.out, K5.out, K6.out, K7.out, K8.out, HK.out]) S8.out.grown⟩
  | some x9 =>
  obtain ⟨x9, l9⟩ := x9
  have K9 := Lib.hid hk9
  clear hk9
  have hx9 : HP.num x9 < 65536 := num_bound S8.out.rd K9.out
  refine (num_to (n := 2) rfl S8.out.rd K9.out (by omega)).mono ?_
  rintro e wa9 ⟨rfl, r, q⟩
  have A9 := Lib.hid (S8.out.call r q)
  clear r q
  go_wp2_with fail
  cases hk10 : HP.takeN (HP.num x9) l9 with
  | none =>
    have HK := Lib.hid hk10
    clear hk10
    refine (take_no A9.out.rd HK.out).mono ?_
    rintro e w' ⟨rfl, rfl⟩
    exact ⟨rfl, OpPost.none (by simp only [HP.dec, HP.textN, HP.tailN, K1.out, K2.out, K3.out, K4.out, K5.out, K6.out, K7.out, K8.out, K9.out, HK.out]) A9.out.grown⟩
  | some x10 =>
  obtain ⟨x10, l10⟩ := x10
  have K10 := Lib.hid hk10
  clear hk10
  refine (take_to A9.out.rd K10.out).mono ?_
  rintro e wa10 ⟨a10, rfl, hr10, r, q⟩
  have A10 := Lib.hid (A9.out.call r q)
  clear r q
  have hl10 : x10.length ≤ 900000 := by rw [(takeN_some K10.out).2.2.2]; omega
  have HR10 := Lib.hid hr10
  clear hr10
  go_wp2_with fail
  refine (Clone_any a10 x10 x10.length _ HR10.out hl10).mono ?_
  rintro e wb ⟨vb', rfl, ho, hb⟩
  have A11 := Lib.hid (A10.out.old hb)
  obtain ⟨s, c, rfl, hrs, -, -⟩ := ho.trow HR10.out.small
  have c11 : wb.cell? ⟨T3, 6, none⟩ = some (.slice none 0 0) := A11.out.b3.cell 6
  have c0 : wb.cell? ⟨T3, 0, none⟩ = some (vi (HP.num x1)) := A11.out.b3.cell 0
  have c1 : wb.cell? ⟨T3, 1, none⟩ = some (.string (bs x3)) := A11.out.b3.cell 1
  have c2 : wb.cell? ⟨T3, 2, none⟩ = some (.string (bs x5)) := A11.out.b3.cell 2
  have c3 : wb.cell? ⟨T3, 3, none⟩ = some (vi (wrap64 (wrap32 (HP.num x6)))) := A11.out.b3.cell 3
  have c4 : wb.cell? ⟨T3, 4, none⟩ = some (vi (wrap64 (wrap32 (HP.num x7)))) := A11.out.b3.cell 4
  have c5 : wb.cell? ⟨T3, 5, none⟩ = some (vi (wrap64 (HP.num x8))) := A11.out.b3.cell 5
  have f11 := A11.out.b3.frozen 6
  have S11 := Lib.hid (A11.out.store 6 (.slice s x10.length c) (no_byte _ _ _ _ _ _ _ _ _))
  have HRS := Lib.hid (hrs.set_ (j := 6) (u := .slice s x10.length c) A11.out.b3 (by decide))
  have k0 : wb.cell? ⟨w.heap.size, 0, none⟩ = some (vi 0) := A11.out.b2.cell 0
  have k1 : wb.cell? ⟨w.heap.size, 1, none⟩ = some (.string (bs [])) := A11.out.b2.cell 1
  have k2 : wb.cell? ⟨w.heap.size, 2, none⟩ = some (.string (bs [])) := A11.out.b2.cell 2
  have k3 : wb.cell? ⟨w.heap.size, 3, none⟩ = some (vi 0) := A11.out.b2.cell 3
  have k4 : wb.cell? ⟨w.heap.size, 4, none⟩ = some (vi 0) := A11.out.b2.cell 4
  have k5 : wb.cell? ⟨w.heap.size, 5, none⟩ = some (vi 0) := A11.out.b2.cell 5
  have k6 : wb.cell? ⟨w.heap.size, 6, none⟩ = some (.slice none 0 0) := A11.out.b2.cell 6
  have z0 := A11.out.b2.frozen 0
  have z1 := A11.out.b2.frozen 1
  have z2 := A11.out.b2.frozen 2
  have z3 := A11.out.b2.frozen 3
  have z4 := A11.out.b2.frozen 4
  have z5 := A11.out.b2.frozen 5
  have z6 := A11.out.b2.frozen 6
  have ne1 : T3 ≠ w.heap.size := by omega
  have ne2 : w.heap.size ≠ T3 := by omega
  clear ho hb hrs
  go_wp2_with fail
  have T0 : OpEnd w g l10 s x10 _ _ := ⟨S11.out.rd, S11.out.grown, HRS.out, S11.out.b2, hgw⟩
  have T1 := T0.store 0 (vi (HP.num x1)) (no_byte _ _ _ _ _ _ _ _ _)
  have T2 := T1.store 1 (.string (bs x3)) (no_byte _ _ _ _ _ _ _ _ _)
  have T4 := T2.store 2 (.string (bs x5)) (no_byte _ _ _ _ _ _ _ _ _)
  have T5 := T4.store 3 (vi (wrap64 (wrap32 (HP.num x6)))) (no_byte _ _ _ _ _ _ _ _ _)
  have T6 := T5.store 4 (vi (wrap64 (wrap32 (HP.num x7)))) (no_byte _ _ _ _ _ _ _ _ _)
  have T7 := T6.store 5 (vi (wrap64 (HP.num x8))) (no_byte _ _ _ _ _ _ _ _ _)
  have T8 := T7.store 6 (.slice s x10.length c) (no_byte _ _ _ _ _ _ _ _ _)
  have hd : HP.dec l = some (⟨HP.num x1, x3, x5, HP.s32 (HP.num x6), HP.s32 (HP.num x7), HP.s64 (HP.num x8), x10⟩, l10) := by
    simp only [HP.dec, HP.textN, HP.tailN, K1.out, K2.out, K3.out, K4.out, K5.out, K6.out, K7.out, K8.out, K9.out, K10.out]
  have hpost := OpPost.some (v := .agg #[vi (HP.num x1), .string (bs x3), .string (bs x5), vi (wrap64 (wrap32 (HP.num x6))), vi (wrap64 (wrap32 (HP.num x7))), vi (wrap64 (HP.num x8)), .slice s x10.length c]) hd T8.row T8.rd T8.grown (by rw [s32_conv hx6, s32_conv hx7, s64_conv hx8])
  refine bodyPost_ret (v := .agg #[vi (HP.num x1), .string (bs x3), .string (bs x5), vi (wrap64 (wrap32 (HP.num x6))), vi (wrap64 (wrap32 (HP.num x7))), vi (wrap64 (HP.num x8)), .slice s x10.length c]) ?_ rfl hpost
  exact op_result (v0 := vi (HP.num x1)) (v1 := .string (bs x3)) (v2 := .string (bs x5)) (v3 := vi (wrap64 (wrap32 (HP.num x6)))) (v4 := vi (wrap64 (wrap32 (HP.num x7)))) (v5 := vi (wrap64 (HP.num x8))) (v6 := .slice s x10.length c) T8.b2 _ rfl

end Go.Proofs.YtneoeekhinlhgaaGreat
