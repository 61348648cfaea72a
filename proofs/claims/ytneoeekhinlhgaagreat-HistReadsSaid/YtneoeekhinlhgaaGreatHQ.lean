/-
  The reference's reader: an operation. Conditions: rows that are read.
-/
import Derived.Test.YtneoeekhinlhgaaGreatHO
import Derived.Deep.DeepCutAuto
import Derived.Deep.RegionHeld3
namespace Go.Proofs.YtneoeekhinlhgaaGreat
open Go.RowKit

theorem tail_at (kd : Nat) (p q b : List Nat) (m : Nat) : HP.tailN kd p q (b.drop m) =
    if m + 16 ≤ b.length then
      match HP.textN 2 (b.drop (m + 16)) with
      | none => none
      | some (y, l) => some (⟨kd, p, q, HP.s32 (HP.num ((b.drop m).take 4)), HP.s32 (HP.num ((b.drop (m + 4)).take 4)), HP.s64 (HP.num ((b.drop (m + 8)).take 8)), y⟩, l)
    else none := by
  unfold HP.tailN HP.takeN
  simp only [List.length_drop]
  by_cases h1 : 4 ≤ b.length - m
  · rw [if_pos h1]
    dsimp only
    rw [List.drop_drop, List.length_drop]
    by_cases h2 : 4 ≤ b.length - (m + 4)
    · rw [if_pos h2]
      dsimp only
      rw [List.drop_drop, List.length_drop]
      by_cases h3 : 8 ≤ b.length - (m + 4 + 4)
      · rw [if_pos h3, if_pos (by omega)]
        dsimp only
        rw [List.drop_drop]
        rfl
      · rw [if_neg h3, if_neg (by omega)]
    · rw [if_neg h2, if_neg (by omega)]
  · rw [if_neg h1, if_neg (by omega)]
theorem dec_at (b : List Nat) (k : Nat) : HP.dec (b.drop k) =
    if k < b.length then
      match HP.textN 1 (b.drop (k + 1)) with
      | none => none
      | some (p, l) =>
        match HP.textN 1 l with
        | none => none
        | some (q, l) => HP.tailN (b.getD k 0) p q l
    else none := by
  unfold HP.dec
  by_cases h : k < b.length
  · rw [if_pos h]
    have h1 : HP.takeN 1 (b.drop k) = some ([b.getD k 0], b.drop (k + 1)) := by
      unfold HP.takeN
      rw [if_pos (by rw [List.length_drop]; omega), List.drop_drop]
      have e : (b.drop k).take 1 = [b.getD k 0] := by
        rw [List.drop_eq_getElem_cons h, List.getD_eq_getElem?_getD, List.getElem?_eq_getElem h]
        rfl
      rw [e]
    rw [h1]
    dsimp only
    rw [show HP.num [b.getD k 0] = b.getD k 0 by simp [HP.num]]
    rfl
  · rw [if_neg h]
    have h1 : HP.takeN 1 (b.drop k) = none := by
      unfold HP.takeN
      rw [if_neg (by rw [List.length_drop]; omega)]
    rw [h1]

/-- What the reference's op answers. -/
def ROpPost (s : Option Addr) (b : List Nat) (k : Nat) (w : World) (e : Ending) (w' : World) : Prop :=
  Below w.heap.size w w' ∧ ∃ (x : OpE) (m : Int), e = .returned (.tuple #[x.v, vi m]) ∧
    match HP.dec (b.drop k) with
    | some (o, r) => if HP.rightB o then ∃ n : Nat, m = n ∧ x.o = o ∧ (∀ W, BRow W s b → BRow W x.s x.o.bytes) ∧ x.o.bytes.length ≤ 65536 ∧ k < n ∧ n ≤ b.length ∧ r = b.drop n else m = -1
    | none => m = -1
theorem ROpPost.no {s : Option Addr} {b : List Nat} {k : Nat} {w w' : World} (x : OpE) (hb : Below w.heap.size w w') (hd : ∀ o r, HP.dec (b.drop k) = some (o, r) → HP.rightB o = false) : ROpPost s b k w (.returned (.tuple #[x.v, vi (-1)])) w' := by
  refine ⟨hb, x, -1, rfl, ?_⟩
  cases h : HP.dec (b.drop k) with
  | none => rfl
  | some y =>
    obtain ⟨o, r⟩ := y
    dsimp only
    rw [if_neg (by rw [hd o r h]; simp)]

theorem rop_result {w' : World} {g : Nat} {v0 v1 v2 v3 v4 v5 v6 : Value} {n : Int} (hb : Blk w' g 48 #[v0, v1, v2, v3, v4, v5, v6]) (tmps : Array Value) (h4 : tmps[4]? = some (.pointer (some ⟨g, 0, none⟩))) (h5 : tmps[5]? = some (vi n)) :
    (results Tryz.f35 tmps).run Tryz.prog w' = .ok (.tuple #[.agg #[v0, v1, v2, v3, v4, v5, v6], vi n]) w' := by
  have g0 : w'.cell? ⟨g, 0, none⟩ = some v0 := hb.cell 0
  have g1 : w'.cell? ⟨g, 1, none⟩ = some v1 := hb.cell 1
  have g2 : w'.cell? ⟨g, 2, none⟩ = some v2 := hb.cell 2
  have g3 : w'.cell? ⟨g, 3, none⟩ = some v3 := hb.cell 3
  have g4 : w'.cell? ⟨g, 4, none⟩ = some v4 := hb.cell 4
  have g5 : w'.cell? ⟨g, 5, none⟩ = some v5 := hb.cell 5
  have g6 : w'.cell? ⟨g, 6, none⟩ = some v6 := hb.cell 6
  simp only [results, Tryz.results35]
  simp [go_sem, h4, h5, g0, g1, g2, g3, g4, g5, g6]

/-- The state while the result is laid. -/
structure RSt (w : World) (s : Option Addr) (x : List Nat) (cs : Array Value) (w' : World) : Prop where
  below : Below w.heap.size w w'
  row : BRow w' s x
  b2 : Blk w' w.heap.size 48 cs
theorem RSt.store {w w1 : World} {cs : Array Value} {x : List Nat} {s : Option Addr} (h : RSt w s x cs w1) (j : Nat) (u : Value) (hv : ∀ j n : Nat, cs[j]? ≠ some (vb n)) : RSt w s x (cs.setIfInBounds j u) (w1.setCell ⟨w.heap.size, j, none⟩ u) :=
  ⟨h.below.setCell (Nat.le_refl _) u, h.row.set_far h.b2 hv, h.b2.set_ j u⟩
theorem RSt.fill {w w1 : World} {x : List Nat} {s : Option Addr} {k0 h0 n0 f0 : Int} {p0 q0 : ByteArray} {a0 : Option Addr} {m0 c0 : Nat} (h : RSt w s x #[vi k0, .string p0, .string q0, vi h0, vi n0, vi f0, .slice a0 m0 c0] w1) (k hh n f : Int) (p q : ByteArray) (a : Option Addr) (m c : Nat) :
    RSt w s x #[vi k, .string p, .string q, vi hh, vi n, vi f, .slice a m c] (((((((w1.setCell ⟨w.heap.size, 0, none⟩ (vi k)).setCell ⟨w.heap.size, 1, none⟩ (.string p)).setCell ⟨w.heap.size, 2, none⟩ (.string q)).setCell ⟨w.heap.size, 3, none⟩ (vi hh)).setCell ⟨w.heap.size, 4, none⟩ (vi n)).setCell ⟨w.heap.size, 5, none⟩ (vi f)).setCell ⟨w.heap.size, 6, none⟩ (.slice a m c)) := by
  have T1 : RSt w s x #[vi k, .string p0, .string q0, vi h0, vi n0, vi f0, .slice a0 m0 c0] _ := h.store 0 (vi k) (no_byte _ _ _ _ _ _ _ _ _)
  have T2 : RSt w s x #[vi k, .string p, .string q0, vi h0, vi n0, vi f0, .slice a0 m0 c0] _ := T1.store 1 (.string p) (no_byte _ _ _ _ _ _ _ _ _)
  have T3 : RSt w s x #[vi k, .string p, .string q, vi h0, vi n0, vi f0, .slice a0 m0 c0] _ := T2.store 2 (.string q) (no_byte _ _ _ _ _ _ _ _ _)
  have T4 : RSt w s x #[vi k, .string p, .string q, vi hh, vi n0, vi f0, .slice a0 m0 c0] _ := T3.store 3 (vi hh) (no_byte _ _ _ _ _ _ _ _ _)
  have T5 : RSt w s x #[vi k, .string p, .string q, vi hh, vi n, vi f0, .slice a0 m0 c0] _ := T4.store 4 (vi n) (no_byte _ _ _ _ _ _ _ _ _)
  have T6 : RSt w s x #[vi k, .string p, .string q, vi hh, vi n, vi f, .slice a0 m0 c0] _ := T5.store 5 (vi f) (no_byte _ _ _ _ _ _ _ _ _)
  have T7 : RSt w s x #[vi k, .string p, .string q, vi hh, vi n, vi f, .slice a m c] _ := T6.store 6 (.slice a m c) (no_byte _ _ _ _ _ _ _ _ _)
  exact T7

set_option maxRecDepth 100000 in
set_option maxHeartbeats 4000000 in
theorem rop_any (s : Option Addr) (b : List Nat) (c k : Nat) (w : World) (h : BRow w s b) (hl : b.length ≤ 900000) (hc : b.length ≤ c) (hm : c ≤ maxLen) (hk : k ≤ b.length) :
    Calls Tryz.prog 35 #[.slice s b.length c, vi k] w (ROpPost s b k w) := by
  have H := Lib.hid h
  clear h
  have HD := Lib.hid (dec_at b k)
  by_cases hkl : k < b.length
  · go_enter Tryz.func35, Tryz.ntmps35
    go_wp2_with fail
    generalize hw1 : w.alloc _ = w1
    have b1 : Blk w1 w.heap.size 48 #[vi 0, .string (bs []), .string (bs []), vi 0, vi 0, vi 0, .slice none 0 0] := by rw [← hw1]; exact Blk.new _ _ _
    have z1 : w1.heap.size = w.heap.size + 1 := by rw [← hw1]; exact size_alloc _ _
    have B1 := Lib.hid b1
    have Z1 := Lib.hid z1
    have L1 : Hid (Below w.heap.size w w1) := Lib.hid (by rw [← hw1]; exact (Below.refl _ _).alloc (Nat.le_refl _) _)
    have H1 := Lib.hid (H.out.below L1.out)
    have g0 : w1.cell? ⟨w.heap.size, 0, none⟩ = some (vi 0) := b1.cell 0
    have g1 : w1.cell? ⟨w.heap.size, 1, none⟩ = some (.string (bs [])) := b1.cell 1
    have g2 : w1.cell? ⟨w.heap.size, 2, none⟩ = some (.string (bs [])) := b1.cell 2
    have g3 : w1.cell? ⟨w.heap.size, 3, none⟩ = some (vi 0) := b1.cell 3
    have g4 : w1.cell? ⟨w.heap.size, 4, none⟩ = some (vi 0) := b1.cell 4
    have g5 : w1.cell? ⟨w.heap.size, 5, none⟩ = some (vi 0) := b1.cell 5
    have g6 : w1.cell? ⟨w.heap.size, 6, none⟩ = some (.slice none 0 0) := b1.cell 6
    have f0 := b1.frozen 0
    have f1 := b1.frozen 1
    have f2 := b1.frozen 2
    have f3 := b1.frozen 3
    have f4 := b1.frozen 4
    have f5 := b1.frozen 5
    have f6 := b1.frozen 6
    clear hw1 b1 z1 H
    cases ht1 : HP.textN 1 (b.drop (k + 1)) with
    | none =>
      refine (text_no s b c (k + 1) 1 _ H1.out hl hc (by omega) ⟨by omega, by omega⟩ ht1).mono ?_
      rintro e w2 ⟨rfl, rfl⟩
      go_wp2_with fail
      refine (text_neg s b c 1 _).mono ?_
      rintro e w2 ⟨rfl, rfl⟩
      go_wp2_with fail
      have T := (⟨L1.out, BRow.nil _ none, B1.out⟩ : RSt w none [] _ _).fill 0 0 0 0 (bs []) (bs []) none 0 0
      refine bodyPost_ret (v := .tuple #[OpE.v ⟨⟨0, [], [], 0, 0, 0, []⟩, none, 0⟩, vi (-1)]) (rop_result T.b2 _ rfl rfl) rfl (ROpPost.no _ T.below ?_)
      intro o r hd
      rw [HD.out, if_pos hkl, ht1] at hd
      cases hd
    | some y1 =>
      obtain ⟨p, l1⟩ := y1
      refine (text_to s b p l1 c (k + 1) 1 _ H1.out hl hc hm (by omega) ⟨by omega, by omega⟩ ht1).mono ?_
      rintro e w2 ⟨⟨cp, k1, ap, rfl, hp, hpc, hpm, hk1, hkb1, rfl⟩, rfl⟩
      have HP1 := Lib.hid (hp _ H1.out)
      clear hp
      go_wp2_with fail
      cases ht2 : HP.textN 1 (b.drop k1) with
      | none =>
        refine (text_no s b c k1 1 _ H1.out hl hc (by omega) ⟨by omega, by omega⟩ ht2).mono ?_
        rintro e w2 ⟨rfl, rfl⟩
        go_wp2_with fail
        have T := (⟨L1.out, BRow.nil _ none, B1.out⟩ : RSt w none [] _ _).fill 0 0 0 0 (bs []) (bs []) none 0 0
        refine bodyPost_ret (v := .tuple #[OpE.v ⟨⟨0, [], [], 0, 0, 0, []⟩, none, 0⟩, vi (-1)]) (rop_result T.b2 _ rfl rfl) rfl (ROpPost.no _ T.below ?_)
        intro o r hd
        rw [HD.out, if_pos hkl, ht1] at hd
        dsimp only at hd
        rw [ht2] at hd
        cases hd
      | some y2 =>
        obtain ⟨q, l2⟩ := y2
        refine (text_to s b q l2 c k1 1 _ H1.out hl hc hm (by omega) ⟨by omega, by omega⟩ ht2).mono ?_
        rintro e w2 ⟨⟨cq, k2, aq, rfl, hq, hqc, hqm, hk2, hkb2, rfl⟩, rfl⟩
        have HQ1 := Lib.hid (hq _ H1.out)
        clear hq
        by_cases h16 : k2 + 16 ≤ b.length
        · go_wp2_with fail
          obtain ⟨b0, o0, rfl, hcell, hsm⟩ := H1.out.lookup hkl
          have HCV : Hid (∀ W', Below w2.heap.size w2 W' → (W'.cell? ⟨b0, o0 + k, none⟩ = some (vb (b.getD k 0))) ∧ (convert 25 9 (.slice ap p.length cp)).run Tryz.prog W' = .ok (.string (bs p)) W' ∧ (convert 25 9 (.slice aq q.length cq)).run Tryz.prog W' = .ok (.string (bs q)) W') :=
            Lib.hid fun W' hW => ⟨cell_below hcell hW, run_text (HP1.out.below hW) cp, run_text (HQ1.out.below hW) cq⟩
          have HNM : Hid (∀ (W' : World), Below w2.heap.size w2 W' → ∀ (j i : Nat), i ≤ 8 → j + i ≤ b.length → Calls Tryz.prog 34 #[.slice (some ⟨b0, o0 + j, none⟩) i (c - j)] W' fun e w' => e = .returned (vq (HP.num ((b.drop j).take i))) ∧ w' = W') := Lib.hid fun W' hW j i hi hj => by
            have hx : ((b.drop j).take i).length = i := by rw [List.length_take, List.length_drop]; omega
            have := Num_any _ _ (c - j) W' (((H1.out.below hW).drop j).take i) (by omega)
            rw [hx] at this
            exact this
          have hnl : ∀ (j i : Nat), j + i ≤ b.length → HP.num ((b.drop j).take i) < 256 ^ i := fun j i hj => by
            have hx : ((b.drop j).take i).length = i := by rw [List.length_take, List.length_drop]; omega
            have := HP.num_lt ((b.drop j).take i) ((H1.out.drop j).take i).small
            rw [hx] at this
            exact this
          have N4 := Lib.hid (fun W' hW => HNM.out W' hW k2 4 (by omega) (by omega))
          have N8 := Lib.hid (fun W' hW => HNM.out W' hW (k2 + 4) 4 (by omega) (by omega))
          have N16 := Lib.hid (fun W' hW => HNM.out W' hW (k2 + 8) 8 (by omega) (by omega))
          have l4 : HP.num ((b.drop k2).take 4) < 4294967296 := hnl k2 4 (by omega)
          have l8 : HP.num ((b.drop (k2 + 4)).take 4) < 4294967296 := hnl (k2 + 4) 4 (by omega)
          have l16 : HP.num ((b.drop (k2 + 8)).take 8) < 18446744073709551616 := hnl (k2 + 8) 8 (by omega)
          have T16 := Lib.hid (tail_at (b.getD k 0) p q b k2)
          clear hnl HNM hcell
          generalize HP.num ((b.drop k2).take 4) = x4 at *
          generalize HP.num ((b.drop (k2 + 4)).take 4) = x8 at *
          generalize HP.num ((b.drop (k2 + 8)).take 8) = x16 at *
          generalize b.getD k 0 = kd at *
          have S4 := Lib.hid (fun W' => signed_any x4 W' l4)
          have S8 := Lib.hid (fun W' => signed_any x8 W' l8)
          have C16 : IntKind.i64.wrap (x16 : Int) = HP.s64 x16 := by rw [IntKind.wrap_i64]; unfold HP.s64; split <;> omega
          have CC := Lib.hid C16
          have BD : Hid (Below w2.heap.size w2 w2.drew) := Lib.hid (Below.refl _ _).drew
          have ZZ := Lib.hid Z1.out
          clear C16 g0 g1 g2 g3 g4 g5 g6 f0 f1 f2 f3 f4 f5 f6
          go_cut [10] from 45 to 78 (fun v w' => v = .pointer (some ⟨w.heap.size + 1, 0, none⟩) ∧ Below w.heap.size w w' ∧ Below w2.heap.size w2 w' ∧ Blk w' (w.heap.size + 1) 48 #[vi kd, .string (bs p), .string (bs q), vi (HP.s32 x4), vi (HP.s32 x8), vi (HP.s64 x16), .slice none 0 0])
          case first =>
            have C16 := CC.out
            have CK : IntKind.i64.wrap (kd : Int) = (kd : Int) := IntWalk.i64_in _ (by omega)
            have n0 : ¬ c = k2 := by omega
            have n1 : ¬ c = k2 + 4 := by omega
            have n2 : ¬ c = k2 + 8 := by omega
            have q1 : ((k2 : Int) + 4).toNat = k2 + 4 := by omega
            have q2 : ((k2 : Int) + 8).toNat = k2 + 8 := by omega
            have q3 : ((k2 : Int) + 16).toNat = k2 + 16 := by omega
            have p1 : (0 : Int) ≤ (k2 : Int) + 4 := by omega
            have p2 : (0 : Int) ≤ (k2 : Int) + 8 := by omega
            have p4 : (k2 : Int) + 4 ≤ (b.length : Int) := by omega
            have p5 : (k2 : Int) + 8 ≤ (b.length : Int) := by omega
            have p6 : (k2 : Int) + 16 ≤ (b.length : Int) := by omega
            have p0 : (0 : Int) ≤ (k2 : Int) := by omega
            have p7 : (k2 : Int) + 4 ≤ (c : Int) := by omega
            have p8 : (k2 : Int) + 8 ≤ (c : Int) := by omega
            have p9 : (k2 : Int) + 16 ≤ (c : Int) := by omega
            have pa : (k2 : Int) ≤ (k2 : Int) + 4 := by omega
            have pb : (k2 : Int) + 4 ≤ (k2 : Int) + 8 := by omega
            have pc : (k2 : Int) + 8 ≤ (k2 : Int) + 16 := by omega
            have pd : (k2 : Int) ≤ (c : Int) := by omega
            have w1 : -9223372036854775808 ≤ (k2 : Int) + 4 ∧ (k2 : Int) + 4 ≤ 9223372036854775807 := by omega
            have w2' : -9223372036854775808 ≤ (k2 : Int) + 8 ∧ (k2 : Int) + 8 ≤ 9223372036854775807 := by omega
            have w3 : -9223372036854775808 ≤ (k2 : Int) + 16 ∧ (k2 : Int) + 16 ≤ 9223372036854775807 := by omega
            have r1 : IntKind.i64.wrap ((k2 : Int) + 4) = (k2 : Int) + 4 := IntWalk.i64_in _ w1
            have r2 : IntKind.i64.wrap ((k2 : Int) + 8) = (k2 : Int) + 8 := IntWalk.i64_in _ w2'
            have r3 : IntKind.i64.wrap ((k2 : Int) + 16) = (k2 : Int) + 16 := IntWalk.i64_in _ w3
            have tok1 : True := trivial
            have tok2 : True := trivial
            have tok3 : True := trivial
            go_region_held3 (fun w' => (w'.cell? ⟨b0, o0 + k, none⟩ = some (vb kd)) ∧ (convert 25 9 (.slice ap p.length cp)).run Tryz.prog w' = .ok (.string (bs p)) w' ∧ (convert 25 9 (.slice aq q.length cq)).run Tryz.prog w' = .ok (.string (bs q)) w')
              (first
                | exact HCV.out _ BD.out
                | exact HCV.out _ (BD.out.alloc (Nat.le_refl _) _))
              (first
                | (go_at_call 34; have _t := tok1; refine (N4.out _ (by first | exact BD.out | exact BD.out.alloc (Nat.le_refl _) _)).mono ?_; rintro e w' ⟨rfl, rfl⟩; clear _t tok1)
                | (go_at_call 34; have _t := tok2; refine (N8.out _ (by first | exact BD.out | exact BD.out.alloc (Nat.le_refl _) _)).mono ?_; rintro e w' ⟨rfl, rfl⟩; clear _t tok2)
                | (go_at_call 34; refine (N16.out _ (by first | exact BD.out | exact BD.out.alloc (Nat.le_refl _) _)).mono ?_; rintro e w' ⟨rfl, rfl⟩)
                | (go_at_call 55; have _t := tok3; refine (S4.out _).mono ?_; rintro e w' ⟨rfl, rfl⟩; clear _t tok3)
                | (go_at_call 55; refine (S8.out _).mono ?_; rintro e w' ⟨rfl, rfl⟩))
            all_goals (go_wp2_with fail; go_meet; exact ⟨by rw [← ZZ.out], L1.out.alloc (by have := ZZ.out; omega) _ |>.drew, BD.out.alloc (Nat.le_refl _) _, by rw [← ZZ.out]; exact (Blk.new _ _ _).drew⟩)
          case rest =>
            obtain ⟨rfl, hbw, hb2, hblk⟩ := hcut
            have B0 := Lib.hid (B1.out.below hb2 B1.out.lt)
            have LW := Lib.hid hbw
            have BK := Lib.hid hblk
            have HC := Lib.hid (H1.out.below hb2)
            have SZ := Lib.hid (show w.heap.size + 1 < wc.heap.size from hblk.lt)
            clear hbw hb2 hblk BD N4 N8 N16 S4 S8 HCV H1 B1 HP1 HQ1
            have g0 : wc.cell? ⟨w.heap.size, 0, none⟩ = some (vi 0) := B0.out.cell 0
            have g1 : wc.cell? ⟨w.heap.size, 1, none⟩ = some (.string (bs [])) := B0.out.cell 1
            have g2 : wc.cell? ⟨w.heap.size, 2, none⟩ = some (.string (bs [])) := B0.out.cell 2
            have g3 : wc.cell? ⟨w.heap.size, 3, none⟩ = some (vi 0) := B0.out.cell 3
            have g4 : wc.cell? ⟨w.heap.size, 4, none⟩ = some (vi 0) := B0.out.cell 4
            have g5 : wc.cell? ⟨w.heap.size, 5, none⟩ = some (vi 0) := B0.out.cell 5
            have g6 : wc.cell? ⟨w.heap.size, 6, none⟩ = some (.slice none 0 0) := B0.out.cell 6
            have f0 := B0.out.frozen 0
            have f1 := B0.out.frozen 1
            have f2 := B0.out.frozen 2
            have f3 := B0.out.frozen 3
            have f4 := B0.out.frozen 4
            have f5 := B0.out.frozen 5
            have f6 := B0.out.frozen 6
            have c6 : wc.cell? ⟨w.heap.size + 1, 6, none⟩ = some (.slice none 0 0) := BK.out.cell 6
            have k6 := BK.out.frozen 6
            cases ht3 : HP.textN 2 (b.drop (k2 + 16)) with
            | none =>
              go_wp2_with fail
              refine (text_no (some ⟨b0, o0, none⟩) b c (k2 + 16) 2 _ HC.out hl hc (by omega) ⟨by omega, by omega⟩ ht3).mono ?_
              rintro e w3 ⟨rfl, rfl⟩
              go_wp2_with fail
              have T := (⟨LW.out.setCell (by simp) _, BRow.nil _ none, B0.out.far (by simp) _⟩ : RSt w none [] _ (w3.setCell ⟨w.heap.size + 1, 6, none⟩ (.slice none 0 0))).fill 0 0 0 0 (bs []) (bs []) none 0 0
              refine bodyPost_ret (v := .tuple #[OpE.v ⟨⟨0, [], [], 0, 0, 0, []⟩, none, 0⟩, vi (-1)]) (rop_result T.b2 _ rfl rfl) rfl (ROpPost.no _ T.below ?_)
              intro o r hd
              rw [HD.out, if_pos hkl, ht1] at hd
              dsimp only at hd
              rw [ht2] at hd
              dsimp only at hd
              rw [T16.out, if_pos h16, ht3] at hd
              cases hd
            | some y3 =>
              obtain ⟨x, l3⟩ := y3
              go_wp2_with fail
              refine (text_to (some ⟨b0, o0, none⟩) b x l3 c (k2 + 16) 2 _ HC.out hl hc hm (by omega) ⟨by omega, by omega⟩ ht3).mono ?_
              rintro e w3 ⟨⟨cx, k3, ax, rfl, hx, hxc, hxm, hk3, hkb3, rfl⟩, rfl⟩
              have HX := Lib.hid (hx _ HC.out)
              have HXW := Lib.hid hx
              clear hx
              have k0 : w3.cell? ⟨w.heap.size + 1, 0, none⟩ = some (vi kd) := BK.out.cell 0
              have k1' : w3.cell? ⟨w.heap.size + 1, 1, none⟩ = some (.string (bs p)) := BK.out.cell 1
              have k2' : w3.cell? ⟨w.heap.size + 1, 2, none⟩ = some (.string (bs q)) := BK.out.cell 2
              have k3' : w3.cell? ⟨w.heap.size + 1, 3, none⟩ = some (vi (HP.s32 x4)) := BK.out.cell 3
              have k4 : w3.cell? ⟨w.heap.size + 1, 4, none⟩ = some (vi (HP.s32 x8)) := BK.out.cell 4
              have k5 : w3.cell? ⟨w.heap.size + 1, 5, none⟩ = some (vi (HP.s64 x16)) := BK.out.cell 5
              have HDD : Hid (HP.dec (b.drop k) = some (⟨kd, p, q, HP.s32 x4, HP.s32 x8, HP.s64 x16, x⟩, b.drop k3)) := Lib.hid (by
                rw [HD.out, if_pos hkl, ht1]
                dsimp only
                rw [ht2]
                dsimp only
                rw [T16.out, if_pos h16, ht3])
              clear ht1 ht2 ht3 HD T16
              generalize HP.s32 x4 = y4 at *
              generalize HP.s32 x8 = y8 at *
              generalize HP.s64 x16 = y16 at *
              go_wp2_with fail
              refine (Right_any ⟨⟨kd, p, q, y4, y8, y16, x⟩, ax, cx⟩ _).mono ?_
              rintro e w5 ⟨rfl, hb5⟩
              have sz5 : (w3.setCell ⟨w.heap.size + 1, 6, none⟩ (.slice ax x.length cx)).heap.size = w3.heap.size := by simp [World.setCell]
              have R5 := Lib.hid (HX.out.set_far (j := 6) (u := .slice ax x.length cx) BK.out (no_byte _ _ _ _ _ _ _ _ _) |>.below hb5)
              have B5 := Lib.hid ((B0.out.far (p := ⟨w.heap.size + 1, 6, none⟩) (by simp) (.slice ax x.length cx)).old hb5)
              have K5 := (BK.out.set_ 6 (.slice ax x.length cx)).old hb5
              have L5 := Lib.hid ((LW.out.setCell (p := ⟨w.heap.size + 1, 6, none⟩) (by simp) (.slice ax x.length cx)).trans (hb5.mono (by rw [sz5]; have := SZ.out; omega)))
              clear hb5 sz5 g0 g1 g2 g3 g4 g5 g6 f0 f1 f2 f3 f4 f5 f6 c6 k6 k0 k1' k2' k3' k4 k5 B0 BK LW
              have g0 : w5.cell? ⟨w.heap.size, 0, none⟩ = some (vi 0) := B5.out.cell 0
              have g1 : w5.cell? ⟨w.heap.size, 1, none⟩ = some (.string (bs [])) := B5.out.cell 1
              have g2 : w5.cell? ⟨w.heap.size, 2, none⟩ = some (.string (bs [])) := B5.out.cell 2
              have g3 : w5.cell? ⟨w.heap.size, 3, none⟩ = some (vi 0) := B5.out.cell 3
              have g4 : w5.cell? ⟨w.heap.size, 4, none⟩ = some (vi 0) := B5.out.cell 4
              have g5 : w5.cell? ⟨w.heap.size, 5, none⟩ = some (vi 0) := B5.out.cell 5
              have g6 : w5.cell? ⟨w.heap.size, 6, none⟩ = some (.slice none 0 0) := B5.out.cell 6
              have f0 := B5.out.frozen 0
              have f1 := B5.out.frozen 1
              have f2 := B5.out.frozen 2
              have f3 := B5.out.frozen 3
              have f4 := B5.out.frozen 4
              have f5 := B5.out.frozen 5
              have f6 := B5.out.frozen 6
              have k0 : w5.cell? ⟨w.heap.size + 1, 0, none⟩ = some (vi kd) := K5.cell 0
              have k1' : w5.cell? ⟨w.heap.size + 1, 1, none⟩ = some (.string (bs p)) := K5.cell 1
              have k2' : w5.cell? ⟨w.heap.size + 1, 2, none⟩ = some (.string (bs q)) := K5.cell 2
              have k3' : w5.cell? ⟨w.heap.size + 1, 3, none⟩ = some (vi y4) := K5.cell 3
              have k4 : w5.cell? ⟨w.heap.size + 1, 4, none⟩ = some (vi y8) := K5.cell 4
              have k5 : w5.cell? ⟨w.heap.size + 1, 5, none⟩ = some (vi y16) := K5.cell 5
              have k6 : w5.cell? ⟨w.heap.size + 1, 6, none⟩ = some (.slice ax x.length cx) := K5.cell 6
              clear K5
              have HR := Lib.hid (show HP.rightB ⟨kd, p, q, y4, y8, y16, x⟩ = true → x.length ≤ 65536 by intro h; simp [HP.rightB] at h; omega)
              dsimp only
              generalize hrb : HP.rightB ⟨kd, p, q, y4, y8, y16, x⟩ = rb
              have HB := Lib.hid hrb
              clear hrb
              cases rb
              · go_wp2_with fail
                have T := (⟨L5.out, BRow.nil _ none, B5.out⟩ : RSt w none [] _ w5).fill 0 0 0 0 (bs []) (bs []) none 0 0
                refine bodyPost_ret (v := .tuple #[OpE.v ⟨⟨0, [], [], 0, 0, 0, []⟩, none, 0⟩, vi (-1)]) (rop_result T.b2 _ rfl rfl) rfl (ROpPost.no _ T.below ?_)
                intro o r hd
                rw [HDD.out] at hd
                simp only [Option.some.injEq, Prod.mk.injEq] at hd
                rw [← hd.1]
                exact HB.out
              · go_wp2_with fail
                have T := (⟨L5.out, R5.out, B5.out⟩ : RSt w ax x _ w5).fill kd y4 y8 y16 (bs p) (bs q) ax x.length cx
                refine bodyPost_ret (v := .tuple #[OpE.v ⟨⟨kd, p, q, y4, y8, y16, x⟩, ax, cx⟩, vi k3]) (rop_result T.b2 _ rfl rfl) rfl ⟨T.below, ⟨⟨kd, p, q, y4, y8, y16, x⟩, ax, cx⟩, k3, rfl, ?_⟩
                rw [HDD.out]
                dsimp only
                rw [if_pos HB.out]
                exact ⟨k3, rfl, rfl, HXW.out, HR.out HB.out, by omega, by omega, rfl⟩
        · go_wp2_with fail
          have T := (⟨L1.out, BRow.nil _ none, B1.out⟩ : RSt w none [] _ _).fill 0 0 0 0 (bs []) (bs []) none 0 0
          refine bodyPost_ret (v := .tuple #[OpE.v ⟨⟨0, [], [], 0, 0, 0, []⟩, none, 0⟩, vi (-1)]) (rop_result T.b2 _ rfl rfl) rfl (ROpPost.no _ T.below ?_)
          intro o r hd
          rw [HD.out, if_pos hkl, ht1] at hd
          dsimp only at hd
          rw [ht2] at hd
          dsimp only at hd
          rw [tail_at, if_neg h16] at hd
          cases hd
  · go_enter Tryz.func35, Tryz.ntmps35
    go_wp2_with fail
    generalize hw1 : w.alloc _ = w1
    have b1 : Blk w1 w.heap.size 48 #[vi 0, .string (bs []), .string (bs []), vi 0, vi 0, vi 0, .slice none 0 0] := by rw [← hw1]; exact Blk.new _ _ _
    have B1 := Lib.hid b1
    have L1 : Hid (Below w.heap.size w w1) := Lib.hid (by rw [← hw1]; exact (Below.refl _ _).alloc (Nat.le_refl _) _)
    refine bodyPost_ret (v := .tuple #[OpE.v ⟨⟨0, [], [], 0, 0, 0, []⟩, none, 0⟩, vi (-1)]) (rop_result B1.out _ rfl rfl) rfl (ROpPost.no _ L1.out ?_)
    intro o r hd
    rw [HD.out, if_neg hkl] at hd
    cases hd

end Go.Proofs.YtneoeekhinlhgaaGreat
