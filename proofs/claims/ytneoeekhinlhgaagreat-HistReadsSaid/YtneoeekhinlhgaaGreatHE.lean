/-
  An operation's bytes, the program's and the reference's. Conditions: fewer than a million bytes.
-/
import Derived.Test.YtneoeekhinlhgaaGreatHD
namespace Go.Proofs.YtneoeekhinlhgaaGreat
open Go.RowKit

theorem byte_of (k : Int) : (.int .u8 (k % 256) : Value) = vb (HP.u64 k % 256) := by
  have : k % 256 = ((HP.u64 k % 256 : Nat) : Int) := by simp only [HP.u64]; omega
  rw [this]
theorem vq_of (k : Int) : (.int .u64 (k % 18446744073709551616) : Value) = vq (HP.u64 k) := by
  have : k % 18446744073709551616 = (HP.u64 k : Int) := by simp only [HP.u64]; omega
  rw [this]

theorem u64_len (n : Nat) (h : n ≤ 1000000) : HP.u64 (n : Int) = n := by simp only [HP.u64]; omega

theorem number_int (base : Nat) (v : Value) (l : List Nat) (x : Int) (k : Nat) {ki : Int} (hki : ki = k) (w : World) (hown : Own w base v l) (hb : base ≤ w.heap.size) (hn : l.length + k ≤ 1000000) (hk : k ≤ 8) :
    Calls Tryz.prog 22 #[v, .int .u64 (IntKind.u64.wrap x), vi ki] w fun e w' => ∃ v', e = .returned v' ∧ Own w' base v' (l ++ HP.le k (HP.u64 x)) ∧ Stp base w w' := by
  rw [hki, show IntKind.u64.wrap x = x % 18446744073709551616 by simp [IntKind.wrap, IntKind.bits, IntKind.signed], vq_of]
  exact number_any base v l _ k w hown hb (by simp only [HP.u64]; omega) hn hk

set_option maxRecDepth 100000 in
set_option maxHeartbeats 2000000 in
theorem put_any (base : Nat) (e : OpE) (v : Value) (l : List Nat) (w : World) (hown : Own w base v l) (hbase : base ≤ w.heap.size) {w0 : World} (hw0 : w0.heap.size ≤ base) (hw : Below w0.heap.size w0 w) (hr : BRow w0 e.s e.o.bytes) (hf : e.o.fits) (hn : l.length + (HP.enc e.o).length ≤ 1000000) :
    Calls Tryz.prog 24 #[e.v, v] w fun r w' => ∃ v', r = .returned v' ∧ Own w' base v' (l ++ HP.enc e.o) ∧ Stp base w w' := by
  obtain ⟨⟨k, p, q, h, n, f, b⟩, s, c⟩ := e
  have hbx : Blk (w.alloc (.cells (OpE.cs ⟨⟨k, p, q, h, n, f, b⟩, s, c⟩) 53)) w.heap.size 53 (OpE.cs ⟨⟨k, p, q, h, n, f, b⟩, s, c⟩) := Blk.new _ _ _
  have hb0 : Stp base w (w.alloc (.cells (OpE.cs ⟨⟨k, p, q, h, n, f, b⟩, s, c⟩) 53)) := (Stp.refl _ _).alloc hbase _
  have ho0 := hown.old ((Below.refl _ w).alloc (Nat.le_refl _) (.cells (OpE.cs ⟨⟨k, p, q, h, n, f, b⟩, s, c⟩) 53))
  have hp := bs_size p
  have hq := bs_size q
  generalize hw1 : w.alloc (.cells (OpE.cs ⟨⟨k, p, q, h, n, f, b⟩, s, c⟩) 53) = w1 at hbx hb0 ho0
  have hz1 := hb0.base hbase
  have hl := HP.enc_length ⟨k, p, q, h, n, f, b⟩
  rw [hl] at hn
  dsimp only at hn hf hr
  have z0 : w1.heap.size = w.heap.size + 1 := by rw [← hw1, size_alloc]
  obtain ⟨v1, w2, hrun1, ho1, hs1⟩ := append_new ho0 [HP.u64 k % 256, p.length % 256] (by simp; omega) (n := 2) rfl z0 (cs := #[.int .u8 (k % 256), .int .u8 ((p.length : Int) % 256)]) (by rw [byte_of]; rfl) (by omega) hz1
  have hS1 := hb0.trans hs1
  have hbx1 := hs1.blk _ _ _ (by decide) hbx
  obtain ⟨v2, w3, hrun2, ho2, hs2⟩ := append_text ho1 p hf.path (by simp; omega) (hS1.base hbase)
  have hS2 := hS1.trans hs2
  have hbx2 := hs2.blk _ _ _ (by decide) hbx1
  obtain ⟨v3, w4, hrun3, ho3, hs3⟩ := append_new ho2 [q.length % 256] (by simp; omega) (n := 1) rfl rfl (cs := #[.int .u8 ((q.length : Int) % 256)]) rfl (by simp; omega) (hS2.base hbase)
  have hS3 := hS2.trans hs3
  have hbx3 := hs3.blk _ _ _ (by decide) hbx2
  obtain ⟨v4, w5, hrun4, ho4, hs4⟩ := append_text ho3 q hf.dest (by simp; omega) (hS3.base hbase)
  have hS4 := hS3.trans hs4
  have hbx4 := hs4.blk _ _ _ (by decide) hbx3
  have R1 := Lib.hid hrun1
  have R2 := Lib.hid hrun2
  have R3 := Lib.hid hrun3
  have R4 := Lib.hid hrun4
  have O4 := Lib.hid ho4
  have S4 := Lib.hid hS4
  have B4 := Lib.hid hbx4
  have d1 : w2.cell? ⟨w.heap.size, 1, none⟩ = some (.string (bs p)) := hbx1.cell 1
  have d2 : w3.cell? ⟨w.heap.size, 2, none⟩ = some (.string (bs q)) := hbx2.cell 2
  have d3 : w4.cell? ⟨w.heap.size, 2, none⟩ = some (.string (bs q)) := hbx3.cell 2
  have d4 : w5.cell? ⟨w.heap.size, 3, none⟩ = some (vi h) := hbx4.cell 3
  have d5 : w5.cell? ⟨w.heap.size, 4, none⟩ = some (vi n) := hbx4.cell 4
  subst hw1
  clear hrun1 hrun2 hrun3 hrun4 ho4 hS4 hbx4 ho3 hS3 hbx3 hs3 hs4 ho2 hS2 hbx2 hs2 ho1 hS1 hbx1 hs1 ho0 hb0 hbx hz1 z0 hl
  go_enter Tryz.func24, Tryz.ntmps24
  go_wp2_with (first
    | (at_builtin; refine wpList_append_run rfl (.tmp 5) (.tmp 13) rfl rfl rfl R1.out ?_)
    | (at_builtin; refine wpList_append_run rfl (.tmp 15) (.tmp 17) rfl rfl rfl R2.out ?_)
    | (at_builtin; refine wpList_append_run rfl (.tmp 19) (.tmp 24) rfl rfl rfl R3.out ?_)
    | (at_builtin; refine wpList_append_run rfl (.tmp 26) (.tmp 28) rfl rfl rfl R4.out ?_))
  have hn4 : (l ++ [HP.u64 k % 256, p.length % 256] ++ p ++ [q.length % 256] ++ q).length + 4 ≤ 1000000 := by simp; omega
  have hn5 : (l ++ [HP.u64 k % 256, p.length % 256] ++ p ++ [q.length % 256] ++ q ++ HP.le 4 (HP.u64 h)).length + 4 ≤ 1000000 := by simp [HP.le_length]; omega
  have hb4 := S4.out.base hbase
  have tok1 : True := trivial
  have O4d := Lib.hid O4.out.drew
  have B4d := Lib.hid B4.out.drew
  go_region_held3 (fun w' => w'.cell? ⟨w.heap.size, 3, none⟩ = some (vi h) ∧ w'.cell? ⟨w.heap.size, 4, none⟩ = some (vi n))
    (first
      | exact ⟨B6.out.cell 3, B6.out.cell 4⟩
      | exact ⟨B5.out.cell 3, B5.out.cell 4⟩
      | exact ⟨B4.out.cell 3, B4.out.cell 4⟩)
    (first
      | (go_at_call 22; have _t := tok1; refine (number_int base v4 _ h 4 (ki := 4) rfl _ O4d.out hb4 hn4 (by omega)).mono ?_; rintro e w6 ⟨v5, rfl, ho5, hs5⟩; clear _t tok1; have B5 := Lib.hid (hs5.blk _ _ _ (by decide) B4d.out))
      | (go_at_call 22; refine (number_int base v5 _ n 4 (ki := 4) rfl _ ho5 (hs5.base hb4) hn5 (by omega)).mono ?_; rintro e w7 ⟨v6, rfl, ho6, hs6⟩; have B6 := Lib.hid (hs6.blk _ _ _ (by decide) B5.out)))
  clear R1 R2 R3 R4 d1 d2 d3 d4 d5 O4 O4d B4 B4d hn4 hn5
  generalize hL : l ++ [HP.u64 k % 256, p.length % 256] ++ p ++ [q.length % 256] ++ q ++ HP.le 4 (HP.u64 h) ++ HP.le 4 (HP.u64 n) = L at ho6
  have hnL : L.length = l.length + (11 + p.length + q.length) := by rw [← hL]; simp [HP.le_length]; omega
  have HL := Lib.hid hL
  have S7 := Lib.hid (S4.out.trans (Stp.drew0.trans (hs5.trans hs6)))
  have O7 := Lib.hid ho6
  have hn7 : L.length + 8 ≤ 1000000 := by omega
  have hn8 : (L ++ HP.le 8 (HP.u64 f)).length + 2 ≤ 1000000 := by simp [HP.le_length]; omega
  have HnL := Lib.hid hnL
  have hb7 := S7.out.base hbase
  clear hL hs5 hs6 ho5 ho6 B5 S4 hnL hb4
  have d4 : w7.cell? ⟨w.heap.size, 5, none⟩ = some (vi f) := B6.out.cell 5
  have d5 : w7.cell? ⟨w.heap.size, 6, none⟩ = some (.slice s b.length c) := B6.out.cell 6
  go_wp2_with fail
  have O7d := Lib.hid O7.out.drew
  have B7d := Lib.hid B6.out.drew
  have tok1 : True := trivial
  go_region_held3 (fun w' => w'.cell? ⟨w.heap.size, 5, none⟩ = some (vi f) ∧ w'.cell? ⟨w.heap.size, 6, none⟩ = some (.slice s b.length c))
    (first
      | exact ⟨B9.out.cell 5, B9.out.cell 6⟩
      | exact ⟨B8.out.cell 5, B8.out.cell 6⟩
      | exact ⟨B6.out.cell 5, B6.out.cell 6⟩)
    (first
      | (go_at_call 22; have _t := tok1; refine (number_int base v6 _ f 8 (ki := 8) rfl _ O7d.out hb7 hn7 (by omega)).mono ?_; rintro e w8 ⟨v7, rfl, ho8, hs8⟩; clear _t tok1; have B8 := Lib.hid (hs8.blk _ _ _ (by decide) B7d.out))
      | (go_at_call 22; refine (number_int base v7 _ (b.length : Int) 2 (ki := 2) rfl _ ho8 (hs8.base hb7) hn8 (by omega)).mono ?_; rintro e w9 ⟨v8, rfl, ho9, hs9⟩; have B9 := Lib.hid (hs9.blk _ _ _ (by decide) B8.out)))
  clear d4 d5 O7 O7d B7d B8 hn7 hn8
  have S9 := Lib.hid (S7.out.trans (Stp.drew0.trans (hs8.trans hs9)))
  rw [u64_len _ (by omega)] at ho9
  have hb9 := S9.out.base hbase
  have hr9 : BRow w9 s b := hr.below (hw.trans (S9.out.below.mono hw0))
  obtain ⟨v9, w10, hrun, ho10, hs10⟩ := append_bytes (c := c) ho9 hr9 (by have := HnL.out; simp [HP.le_length]; omega) hb9
  have HRun := Lib.hid hrun
  have O10 := Lib.hid ho10
  have S10 := Lib.hid (S9.out.trans hs10)
  have d6 : w9.cell? ⟨w.heap.size, 6, none⟩ = some (.slice s b.length c) := B9.out.cell 6
  clear hrun ho10 hs10 S9 ho9 hs9 hs8 ho8 S7
  go_wp2_with (at_builtin; refine wpList_append_run rfl (.tmp 49) (.tmp 51) rfl rfl rfl HRun.out ?_)
  go_ret
  refine ⟨_, rfl, ?_, S10.out⟩
  have := O10.out
  rw [← HL.out] at this
  have e : l ++ HP.enc ⟨k, p, q, h, n, f, b⟩ = l ++ [HP.u64 k % 256, p.length % 256] ++ p ++ [q.length % 256] ++ q ++ HP.le 4 (HP.u64 h) ++ HP.le 4 (HP.u64 n) ++ HP.le 8 (HP.u64 f) ++ HP.le 2 b.length ++ b := by
    simp [HP.enc]
  rw [e]
  exact this

end Go.Proofs.YtneoeekhinlhgaaGreat
