/-
  The reference's bytes of an operation. Conditions: fewer than a million bytes.
-/
import Derived.Test.YtneoeekhinlhgaaGreatHE
import Derived.Deep.RegionLaw
import Derived.Deep.DeepCutAuto
namespace Go.Proofs.YtneoeekhinlhgaaGreat
open Go.RowKit

/-- An append's run, told as a whole. -/
structure AppRun (t u ty : TypeId) (v src : Value) (w : World) (v' : Value) (w' : World) : Prop where
  run : (Builtin.append_ #[t, u] ty #[v, src]).run Tryz.prog w = .ok v' w'
theorem step_app {w w' : World} {ops : Array Oper} {o : Oper} {a : Act} {K : Act → World → Prop} {Q : Exit → Act → World → Prop} {E : Prop} (s x : Operand) {t u : TypeId} {v src v' : Value}
    (hrun : AppRun t u o.type v src w v' w') (hgd : o.guard = none) (ho : o.op = .call { callee := .builtin .append, args := #[s, x], argTypes := #[t, u] }) (hs : a.eval s = v) (hx : a.eval x = src) (h : K (a.put o.dst v') w') : if Region.wanted o (yielded ops a.tmps) = true then Oper.wp Tryz.prog o a w K Q else E :=
  step_append_run hgd s x ho hs hx hrun.run h

theorem byte_wrap (n : Nat) : (.int .u8 (IntKind.u8.wrap (n : Int)) : Value) = vb (n % 256) := by
  rw [show IntKind.u8.wrap (n : Int) = ((n % 256 : Nat) : Int) by simp [IntKind.wrap, IntKind.bits, IntKind.signed]]

theorem Big_int (x : Int) (k : Nat) {ki : Int} (hki : ki = k) (w : World) (hk : k ≤ 8) :
    Calls Tryz.prog 13 #[.int .u64 (x % 18446744073709551616), vi ki] w fun e w' => ∃ v', e = .returned v' ∧ Own w' w.heap.size v' (HP.le k (HP.u64 x)) ∧ Below w.heap.size w w' := by
  rw [hki, vq_of]
  exact Big_any _ k w (by simp only [HP.u64]; omega) hk

set_option maxRecDepth 100000 in
set_option maxHeartbeats 4000000 in
theorem bytes_any (e : OpE) (w : World) (hr : BRow w e.s e.o.bytes) (hf : e.o.fits) (hn : (HP.enc e.o).length ≤ 1000000) :
    Calls Tryz.prog 52 #[e.v] w fun r w' => ∃ v', r = .returned v' ∧ Own w' w.heap.size v' (HP.enc e.o) ∧ Below w.heap.size w w' := by
  obtain ⟨⟨k, p, q, h, n, f, b⟩, s, c⟩ := e
  have hl := HP.enc_length ⟨k, p, q, h, n, f, b⟩
  rw [hl] at hn
  dsimp only at hn hf hr
  have hp := bs_size p
  have hq := bs_size q
  obtain ⟨C, W, hW⟩ := conv_all hf.path
  have hcv := fun w => (hW w).1
  have HW := Lib.hid fun w => (hW w).2
  clear hW
  generalize hw1 : w.alloc (.cells (OpE.cs ⟨⟨k, p, q, h, n, f, b⟩, s, c⟩) 48) = w1
  have z1 : w1.heap.size = w.heap.size + 1 := by rw [← hw1, size_alloc]
  have hbx : Blk w1 w.heap.size 48 (OpE.cs ⟨⟨k, p, q, h, n, f, b⟩, s, c⟩) := by rw [← hw1]; exact Blk.new _ _ _
  have hb0 : Stp w.heap.size w w1 := by rw [← hw1]; exact (Stp.refl _ _).alloc (Nat.le_refl _) _
  generalize hw2 : w1.alloc (.cells #[.int .u8 (k % 256), .int .u8 ((p.length : Int) % 256)] 5) = w2
  have ho2 : Own w2 w.heap.size (.slice (some ⟨w.heap.size + 1, 0, none⟩) 2 2) [HP.u64 k % 256, p.length % 256] := by
    rw [← hw2, ← z1]
    exact Own.lit (by omega) [HP.u64 k % 256, p.length % 256] (by simp) (by rw [byte_of]; rfl)
  have z2 : w2.heap.size = w.heap.size + 2 := by rw [← hw2, size_alloc, z1]
  have hb2 : Stp w.heap.size w w2 := by rw [← hw2]; exact hb0.alloc (by omega) _
  have hbx2 : Blk w2 w.heap.size 48 (OpE.cs ⟨⟨k, p, q, h, n, f, b⟩, s, c⟩) := by rw [← hw2]; exact hbx.alloc _
  have d1 : w2.cell? ⟨w.heap.size, 1, none⟩ = some (.string (bs p)) := hbx2.cell 1
  have d2 : w2.cell? ⟨w.heap.size, 2, none⟩ = some (.string (bs q)) := hbx2.cell 2
  have O2 := Lib.hid ho2
  have B2 := Lib.hid hbx2
  have S2 := Lib.hid hb2
  have W1 := Lib.hid hw1
  have W2 := Lib.hid hw2
  have Z2 := Lib.hid z2
  clear hl z1 hbx hb0 ho2 hbx2 hb2 z2 hw1 hw2
  go_enter Tryz.func52, Tryz.ntmps52
  go_wp2_with fail
  rw [W1.out, W2.out]
  have n4 : 4 ≤ 1000000 - (11 + p.length + q.length) := by omega
  have O2d := Lib.hid O2.out.drew
  have hs2 : w.heap.size ≤ w2.heap.size := S2.out.size
  have z2d : w2.heap.size = w.heap.size + 2 := Z2.out
  have hn2 : [HP.u64 k % 256, p.length % 256].length + p.length ≤ 1000000 := by simp; omega
  have hn3 : ([HP.u64 k % 256, p.length % 256] ++ p).length + 1 ≤ 1000000 := by simp; omega
  have hqs : ∀ x ∈ [q.length % 256], x < 256 := by simp; omega
  have hqc : #[.int .u8 (IntKind.u8.wrap (q.length : Int))] = (bv [q.length % 256]).toArray := by rw [byte_wrap]; rfl
  -- the text's bytes first, then the append, then the length's row
  obtain ⟨a1, a2, a3⟩ := HW.out w2.drew
  have a3' : (W w2.drew).heap.size = w2.heap.size + 1 := a3
  obtain ⟨vA, wA, runA, oA, sA, gA⟩ := append_bytes' (c := C w2.drew) (O2d.out.old a2) a1 hn2 (by omega)
  obtain ⟨vA', wA', runA', oA', sA', gA'⟩ := append_bytes' (c := 1) (oA.old ((Below.refl _ _).alloc (Nat.le_refl _) (.cells #[.int .u8 (IntKind.u8.wrap (q.length : Int))] 5))) (BRow.of_blk (Blk.new wA _ _) (l := [q.length % 256]) hqc hqs) hn3 (by have := sA.size; simp; omega)
  -- the text's bytes, the length's row, then the appends
  obtain ⟨vB, wB, runB, oB, sB, gB⟩ := append_bytes' (c := C w2.drew) ((O2d.out.old a2).old ((Below.refl _ _).alloc (Nat.le_refl _) (.cells #[.int .u8 (IntKind.u8.wrap (q.length : Int))] 5))) (a1.below ((Below.refl _ _).alloc (Nat.le_refl _) _)) hn2 (by simp; omega)
  obtain ⟨vB', wB', runB', oB', sB', gB'⟩ := append_bytes' (c := 1) oB ((BRow.of_blk (Blk.new (W w2.drew) 5 #[.int .u8 (IntKind.u8.wrap (q.length : Int))]) (l := [q.length % 256]) hqc hqs).grown gB (by simp [Value.ownBlock]; omega)) hn3 (by have := sB.size; simp at this; omega)
  -- the length's row, the text's bytes, then the appends
  obtain ⟨b1, b2, b3⟩ := HW.out (w2.alloc (.cells #[.int .u8 (IntKind.u8.wrap (q.length : Int))] 5)).drew
  have b3' : (W (w2.alloc (.cells #[.int .u8 (IntKind.u8.wrap (q.length : Int))] 5)).drew).heap.size = w2.heap.size + 1 + 1 := by rw [b3]; show (w2.alloc _).heap.size + 1 = _; rw [size_alloc]
  have dD : Below w2.heap.size w2 (w2.alloc (.cells #[.int .u8 (IntKind.u8.wrap (q.length : Int))] 5)).drew := ((Below.refl w2.heap.size w2).alloc (Nat.le_refl _) _).drew
  obtain ⟨vD, wD, runD, oD, sD, gD⟩ := append_bytes' (c := C (w2.alloc (.cells #[.int .u8 (IntKind.u8.wrap (q.length : Int))] 5)).drew) ((O2.out.old dD).old b2) b1 hn2 (by omega)
  have hne : some w2.heap.size ≠ (Value.slice (some ⟨w.heap.size + 1, 0, none⟩) 2 2).ownBlock := by
    intro e
    have e' : w2.heap.size = w.heap.size + 1 := by injection e
    omega
  have bqd : BRow (w2.alloc (.cells #[.int .u8 (IntKind.u8.wrap (q.length : Int))] 5)).drew (some ⟨w2.heap.size, 0, none⟩) [q.length % 256] := (BRow.of_blk (Blk.new w2 5 #[.int .u8 (IntKind.u8.wrap (q.length : Int))]) (l := [q.length % 256]) hqc hqs).drew
  obtain ⟨vD', wD', runD', oD', sD', gD'⟩ := append_bytes' (c := 1) oD ((bqd.below b2).grown gD hne) hn3 (by have := sD.size; omega)
  have K0 := Lib.hid (B2.out.drew)
  have KA1 := Lib.hid (K0.out.old a2)
  have KA2 := Lib.hid (sA.blk _ _ _ (by decide) KA1.out)
  have KA3 := Lib.hid (KA2.out.alloc (.cells #[.int .u8 (IntKind.u8.wrap (q.length : Int))] 5))
  have KA4 := Lib.hid (sA'.blk _ _ _ (by decide) KA3.out)
  have KB2 := Lib.hid (KA1.out.alloc (.cells #[.int .u8 (IntKind.u8.wrap (q.length : Int))] 5))
  have KB3 := Lib.hid (sB.blk _ _ _ (by decide) KB2.out)
  have KB4 := Lib.hid (sB'.blk _ _ _ (by decide) KB3.out)
  have KD1 := Lib.hid ((B2.out.alloc (.cells #[.int .u8 (IntKind.u8.wrap (q.length : Int))] 5)).drew)
  have KD2 := Lib.hid (KD1.out.old b2)
  have KD3 := Lib.hid (sD.blk _ _ _ (by decide) KD2.out)
  have KD4 := Lib.hid (sD'.blk _ _ _ (by decide) KD3.out)
  have SS := Lib.hid S2.out
  have RA : AppRun 25 25 25 (.slice (some ⟨w.heap.size + 1, 0, none⟩) 2 2) (.slice (some ⟨w2.heap.size, 0, none⟩) p.length (C w2.drew)) (W w2.drew) vA wA := ⟨runA⟩
  have RA' : AppRun 25 25 25 vA (.slice (some ⟨wA.heap.size, 0, none⟩) 1 1) (wA.alloc (.cells #[.int .u8 (IntKind.u8.wrap (q.length : Int))] 5)) vA' wA' := ⟨runA'⟩
  have RB : AppRun 25 25 25 (.slice (some ⟨w.heap.size + 1, 0, none⟩) 2 2) (.slice (some ⟨w2.heap.size, 0, none⟩) p.length (C w2.drew)) ((W w2.drew).alloc (.cells #[.int .u8 (IntKind.u8.wrap (q.length : Int))] 5)) vB wB := ⟨runB⟩
  have RB' : AppRun 25 25 25 vB (.slice (some ⟨(W w2.drew).heap.size, 0, none⟩) 1 1) wB vB' wB' := ⟨runB'⟩
  rw [show (w2.alloc (.cells #[.int .u8 (IntKind.u8.wrap (q.length : Int))] 5)).drew.heap.size = w2.heap.size + 1 from size_alloc _ _] at runD
  have RD : AppRun 25 25 25 (.slice (some ⟨w.heap.size + 1, 0, none⟩) 2 2) (.slice (some ⟨w2.heap.size + 1, 0, none⟩) p.length (C (w2.alloc (.cells #[.int .u8 (IntKind.u8.wrap (q.length : Int))] 5)).drew)) (W (w2.alloc (.cells #[.int .u8 (IntKind.u8.wrap (q.length : Int))] 5)).drew) vD wD := ⟨runD⟩
  have RD' : AppRun 25 25 25 vD (.slice (some ⟨w2.heap.size, 0, none⟩) 1 1) wD vD' wD' := ⟨runD'⟩
  have PA := Lib.hid (And.intro oA' (((S2.out.drew.trans (Stp.of_below a2 hs2)).trans sA).trans (((Stp.refl _ _).alloc (by have := sA.size; omega) _).trans sA')))
  have PB := Lib.hid (And.intro oB' (((S2.out.drew.trans (Stp.of_below a2 hs2)).trans (((Stp.refl _ _).alloc (by omega) _).trans sB)).trans sB'))
  have PD := Lib.hid (And.intro oD' ((((S2.out.alloc hs2 (.cells #[.int .u8 (IntKind.u8.wrap (q.length : Int))] 5)).drew).trans (Stp.of_below b2 (by show w.heap.size ≤ (w2.alloc _).heap.size; rw [size_alloc]; omega))).trans (sD.trans sD')))
  clear runA runA' runB runB' runD runD' oA' oB' oD' sA sA' sB sB' sD sD' gA gA' gB gB' gD gD' oA oB oD a1 a2 a3 b1 b2 b3 a3' b3' z2d bqd dD hne hqc
  have e1 := K0.out.cell 1
  have e2 := K0.out.cell 2
  have e3 := KA1.out.cell 1
  have e4 := KA1.out.cell 2
  have e5 := KA2.out.cell 2
  have e6 := KD1.out.cell 1
  have e7 := KD2.out.cell 2
  have e8 := KB2.out.cell 2
  go_cut [3] from 12 to 22 (fun v w' => Own w' w.heap.size v ([HP.u64 k % 256, p.length % 256] ++ p ++ [q.length % 256]) ∧ Stp w.heap.size w w' ∧ Blk w' w.heap.size 48 (OpE.cs ⟨⟨k, p, q, h, n, f, b⟩, s, c⟩))
  case first =>
   go_region_law
    (first
      | refine step_app (.tmp 12) (.tmp 15) RA (by rfl) (by rfl) (by rfl) (by rfl) ?_
      | refine step_app (.tmp 16) (.tmp 21) RA' (by rfl) (by rfl) (by rfl) (by rfl) ?_
      | refine step_app (.tmp 12) (.tmp 15) RB (by rfl) (by rfl) (by rfl) (by rfl) ?_
      | refine step_app (.tmp 16) (.tmp 21) RB' (by rfl) (by rfl) (by rfl) (by rfl) ?_
      | refine step_app (.tmp 12) (.tmp 15) RD (by rfl) (by rfl) (by rfl) (by rfl) ?_
      | refine step_app (.tmp 16) (.tmp 21) RD' (by rfl) (by rfl) (by rfl) (by rfl) ?_)
   all_goals (go_wp2_with fail; go_meet; first | exact ⟨PA.out.1, PA.out.2, KA4.out⟩ | exact ⟨PB.out.1, PB.out.2, KB4.out⟩ | exact ⟨PD.out.1, PD.out.2, KD4.out⟩)
  case rest =>
  obtain ⟨ho3, hs3, hb3⟩ := hcut
  generalize hL3 : [HP.u64 k % 256, p.length % 256] ++ p ++ [q.length % 256] = L3 at ho3
  have n3 : L3.length = 3 + p.length := by rw [← hL3]; simp; omega
  have HL3 := Lib.hid hL3
  have N3 := Lib.hid n3
  obtain ⟨c4, w4, hcv4, hr4, hbl4, hz4⟩ := run_conv hf.dest wc
  have hbc := hs3.size
  have hb4 : w.heap.size ≤ w4.heap.size := by omega
  have hq3 : L3.length + q.length ≤ 1000000 := by
    rw [N3.out]
    omega
  obtain ⟨v5, w5, hrun5, ho5, hs5⟩ := append_bytes (c := c4) (ho3.old hbl4) hr4 hq3 hb4
  have S5 := Lib.hid ((hs3.trans (Stp.of_below hbl4 hbc)).trans hs5)
  have B5 := Lib.hid (hs5.blk _ _ _ (by decide) (hb3.old hbl4))
  have O5 := Lib.hid ho5
  have R5 : AppRun 25 25 25 u3 (.slice (some ⟨wc.heap.size, 0, none⟩) q.length c4) w4 v5 w5 := ⟨hrun5⟩
  have m1 : wc.cell? ⟨w.heap.size, 2, none⟩ = some (.string (bs q)) := hb3.cell 2
  have m2 : w5.cell? ⟨w.heap.size, 3, none⟩ = some (vi h) := B5.out.cell 3
  clear hL3 n3 hcv HW O2 O2d B2 S2 W1 W2 Z2 PA PB PD KA1 KA2 KA3 KA4 KB2 KB3 KB4 KD1 KD2 KD3 KD4 K0 SS RA RA' RB RB' RD RD' e1 e2 e3 e4 e5 e6 e7 e8 hp C W hr4 hbl4 hz4 hb4 hrun5 ho5 hs5 hs3 hb3 ho3 n4 hn2 hn3 hqs hs2 d1 d2 w1 w2
  go_wp2_with (at_builtin; refine wpList_append_run rfl (.tmp 23) (.tmp 26) rfl rfl rfl R5.run ?_)
  -- Handle
  refine (Big_int h 4 (ki := 4) rfl _ (by omega)).mono ?_
  rintro e w6 ⟨v6, rfl, ho6, hb6⟩
  obtain ⟨a6, c6, rfl, hr6, -⟩ := ho6.row (HP.le_small _ _)
  rw [HP.le_length]
  have hb65 := Nat.le_trans (S5.out.base (Nat.le_refl _)) hb6.size
  obtain ⟨v7, w7, hrun7, ho7, hs7⟩ := append_bytes (c := c6) (O5.out.old hb6) hr6 (by have := N3.out; simp [HP.le_length]; omega) hb65
  rw [HP.le_length] at hrun7
  have R7 : AppRun 25 25 25 v5 (.slice a6 4 c6) w6 v7 w7 := ⟨hrun7⟩
  have S7 := Lib.hid ((S5.out.trans (Stp.of_below hb6 (S5.out.base (Nat.le_refl _)))).trans hs7)
  have B7 := Lib.hid (hs7.blk _ _ _ (by decide) (B5.out.old hb6))
  have O7 := Lib.hid ho7
  have m3 : w7.cell? ⟨w.heap.size, 4, none⟩ = some (vi n) := B7.out.cell 4
  clear hrun7 ho7 hs7 hb6 hr6 ho6 S5 B5 O5 R5 m1 m2 hcv4
  go_wp2_with (at_builtin; refine wpList_append_run rfl (.tmp 28) (.tmp 32) rfl rfl rfl R7.run ?_)
  -- N
  refine (Big_int n 4 (ki := 4) rfl _ (by omega)).mono ?_
  rintro e w8 ⟨v8, rfl, ho8, hb8⟩
  obtain ⟨a8, c8, rfl, hr8, -⟩ := ho8.row (HP.le_small _ _)
  rw [HP.le_length]
  have hb87 := Nat.le_trans (S7.out.base (Nat.le_refl _)) hb8.size
  obtain ⟨v9, w9, hrun9, ho9, hs9⟩ := append_bytes (c := c8) (O7.out.old hb8) hr8 (by have := N3.out; simp [HP.le_length]; omega) hb87
  rw [HP.le_length] at hrun9
  have R9 : AppRun 25 25 25 v7 (.slice a8 4 c8) w8 v9 w9 := ⟨hrun9⟩
  have S9 := Lib.hid ((S7.out.trans (Stp.of_below hb8 (S7.out.base (Nat.le_refl _)))).trans hs9)
  have B9 := Lib.hid (hs9.blk _ _ _ (by decide) (B7.out.old hb8))
  have O9 := Lib.hid ho9
  have m4 : w9.cell? ⟨w.heap.size, 5, none⟩ = some (vi f) := B9.out.cell 5
  clear hrun9 ho9 hs9 hb8 hr8 ho8 S7 B7 O7 R7 m3
  go_wp2_with (at_builtin; refine wpList_append_run rfl (.tmp 34) (.tmp 38) rfl rfl rfl R9.run ?_)
  -- Off
  refine (Big_int f 8 (ki := 8) rfl _ (by omega)).mono ?_
  rintro e wa ⟨va, rfl, hoa, hba⟩
  obtain ⟨aa, ca, rfl, hra, -⟩ := hoa.row (HP.le_small _ _)
  rw [HP.le_length]
  have hba9 := Nat.le_trans (S9.out.base (Nat.le_refl _)) hba.size
  obtain ⟨vb', wb, hrunb, hob, hsb⟩ := append_bytes (c := ca) (O9.out.old hba) hra (by have := N3.out; simp [HP.le_length]; omega) hba9
  rw [HP.le_length] at hrunb
  have Rb : AppRun 25 25 25 v9 (.slice aa 8 ca) wa vb' wb := ⟨hrunb⟩
  have Sb := Lib.hid ((S9.out.trans (Stp.of_below hba (S9.out.base (Nat.le_refl _)))).trans hsb)
  have Bb := Lib.hid (hsb.blk _ _ _ (by decide) (B9.out.old hba))
  have Ob := Lib.hid hob
  have m5 : wb.cell? ⟨w.heap.size, 6, none⟩ = some (.slice s b.length c) := Bb.out.cell 6
  clear hrunb hob hsb hba hra hoa S9 B9 O9 R9 m4
  go_wp2_with (at_builtin; refine wpList_append_run rfl (.tmp 40) (.tmp 44) rfl rfl rfl Rb.run ?_)
  -- the length
  refine (Big_any b.length 2 _ (by omega) (by omega)).mono ?_
  rintro e wd ⟨vd, rfl, hod, hbd⟩
  obtain ⟨ad, cd, rfl, hrd, -⟩ := hod.row (HP.le_small _ _)
  rw [HP.le_length]
  have hbdb := Nat.le_trans (Sb.out.base (Nat.le_refl _)) hbd.size
  obtain ⟨ve, we, hrune, hoe, hse⟩ := append_bytes (c := cd) (Ob.out.old hbd) hrd (by have := N3.out; simp [HP.le_length]; omega) hbdb
  rw [HP.le_length] at hrune
  have Re : AppRun 25 25 25 vb' (.slice ad 2 cd) wd ve we := ⟨hrune⟩
  have Se := Lib.hid ((Sb.out.trans (Stp.of_below hbd (Sb.out.base (Nat.le_refl _)))).trans hse)
  have Be := Lib.hid (hse.blk _ _ _ (by decide) (Bb.out.old hbd))
  have m6 : we.cell? ⟨w.heap.size, 6, none⟩ = some (.slice s b.length c) := Be.out.cell 6
  -- the bytes
  obtain ⟨vf, wf, hrunf, hof, hsf⟩ := append_bytes (c := c) hoe (hr.below Se.out.below) (by have := N3.out; simp [HP.le_length]; omega) (Se.out.base (Nat.le_refl _))
  have Rf : AppRun 25 25 25 ve (.slice s b.length c) we vf wf := ⟨hrunf⟩
  have Sf := Lib.hid (Se.out.trans hsf).below
  have Of := Lib.hid hof
  clear hrune hrunf hoe hof hse hsf hbd hrd hod Sb Bb Ob Rb m5
  go_wp2_with (first
    | (at_builtin; refine wpList_append_run rfl (.tmp 46) (.tmp 51) rfl rfl rfl Re.run ?_)
    | (at_builtin; refine wpList_append_run rfl (.tmp 53) (.tmp 55) rfl rfl rfl Rf.run ?_))
  go_ret
  refine ⟨_, rfl, ?_, Sf.out⟩
  have ho := Of.out
  rw [← HL3.out] at ho
  have e : HP.enc ⟨k, p, q, h, n, f, b⟩ = [HP.u64 k % 256, p.length % 256] ++ p ++ [q.length % 256] ++ q ++ HP.le 4 (HP.u64 h) ++ HP.le 4 (HP.u64 n) ++ HP.le 8 (HP.u64 f) ++ HP.le 2 b.length ++ b := rfl
  rw [e]
  exact ho

end Go.Proofs.YtneoeekhinlhgaaGreat
