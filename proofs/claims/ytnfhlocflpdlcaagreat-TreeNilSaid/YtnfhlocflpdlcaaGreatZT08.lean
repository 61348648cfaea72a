/-
  Lemmas for a law's proof, put together from several texts: each part says what it shows, and its conditions.
-/
import Derived.Test.YtnfhlocflpdlcaaGreatZT06
import Derived.Test.YtnfhlocflpdlcaaGreatZT07
/-
  An inode read from its bytes. Conditions: 24 bytes that are an inode's.
-/
namespace Go.Proofs.YtnfhlocflpdlcaaGreat.ino
open Go.RowKit
theorem or_i (z x : Nat) (hz : z < 16777216) (hx : x < 256) : bits .or .i64 ((z : Int) * 256) (x : Int) = ((x + 256 * z : Nat) : Int) := by
  have h2 : (BitVec.ofInt 64 ((z * 256 : Nat) : Int) ||| BitVec.ofInt 64 (x : Int)).toNat = z * 256 ||| x := by
    rw [BitVec.toNat_or, BitVec.ofInt_natCast, BitVec.ofInt_natCast, BitVec.toNat_ofNat, BitVec.toNat_ofNat, Nat.mod_eq_of_lt (by omega), Nat.mod_eq_of_lt (by omega)]
  rw [show (z : Int) * 256 = ((z * 256 : Nat) : Int) by simp]
  show IntKind.i64.wrap ((BitVec.ofInt 64 ((z * 256 : Nat) : Int) ||| BitVec.ofInt 64 (x : Int)).toNat : Int) = _
  rw [h2, nat_join 8 (z * 256) x (by omega) (by omega), IntWalk.i64_in _ (by omega)]
  congr 1
  omega
theorem num_drop_lt4 {l : List Nat} (h : ∀ y ∈ l, y < 256) {j : Nat} (hl : l.length ≤ 4) (hj : 0 < j) : HP.num (l.drop j) < 16777216 := by
  have h1 := HP.num_lt (l.drop j) (fun y hy => h y (List.mem_of_mem_drop hy))
  have h2 : 256 ^ (l.drop j).length ≤ 256 ^ 3 := Nat.pow_le_pow_right (by omega) (by rw [List.length_drop]; omega)
  omega
set_option maxHeartbeats 2000000 in
theorem take_any (g k : Nat) (l : List Nat) (w : World) (h : RD w g l) (hk : k ≤ l.length) (hk8 : k ≤ 4) :
    Calls Tryz.prog 128 #[vi k, .pointer (some ⟨g, 0, none⟩)] w fun e w' => e = .returned (vi (HP.num (l.take k))) ∧ RD w' g (l.drop k) ∧ w.grownBy w' (some g) := by
  obtain ⟨a, c, hb, hr, hc, hm, ho⟩ := h
  have g0 : w.cell? ⟨g, 0, none⟩ = some (.slice a l.length c) := hb.cell 0
  have f0 := hb.frozen 0
  have HB := Lib.hid hb
  have HR := Lib.hid hr
  have HO := Lib.hid ho
  have HT : Hid ((l.take k).length = k ∧ ∀ y ∈ l.take k, y < 256) := Lib.hid ⟨by rw [List.length_take]; omega, fun y hy => hr.small y (List.mem_of_mem_take hy)⟩
  clear hb hr ho
  go_enter Tryz.func128, Tryz.ntmps128
  go_wp2_with fail
  go_loop [4, 5] (fun x i => ∃ j z : Nat, j ≤ k ∧ i = vi ((j : Int) - 1) ∧ x = vi z ∧ Hid (z = HP.num ((l.take k).drop j))) (fun _ i => (intOf i + 1).toNat)
  case atStart => exact ⟨k, 0, Nat.le_refl _, by go_num, rfl, Lib.hid (by rw [List.drop_eq_nil_of_le (by rw [HT.out.1]; exact Nat.le_refl _)]; rfl)⟩
  case round =>
    obtain ⟨j, z, hj, rfl, rfl, hz⟩ := hrel
    by_cases h0 : 0 < j
    · have hjl : j - 1 < l.length := by omega
      obtain ⟨b, o, rfl, hcell, hsm⟩ := HR.out.lookup hjl
      have HX : Hid (HP.num ((l.take k).drop (j - 1)) = l.getD (j - 1) 0 + 256 * z) := Lib.hid (by
        rw [num_drop (by rw [HT.out.1]; omega), hz.out, show j - 1 + 1 = j by omega]
        congr 1
        simp only [List.getD_eq_getElem?_getD, List.getElem?_take]
        rw [if_pos (by omega)])
      have hzl : z < 16777216 := by rw [hz.out]; exact num_drop_lt4 HT.out.2 (by rw [HT.out.1]; exact hk8) h0
      have hor := or_i z _ hzl hsm
      have hw1 : IntKind.i64.wrap ((z : Int) * 256) = (z : Int) * 256 := IntWalk.i64_in _ (by omega)
      have hi : ((j : Int) - 1).toNat = j - 1 := by omega
      have hi0 : (0 : Int) ≤ (j : Int) - 1 := by omega
      have hi1 : (j : Int) - 1 < (l.length : Int) := by omega
      generalize l.getD (j - 1) 0 = x at hcell hsm HX hor
      have hw2 : IntKind.i64.wrap (x : Int) = x := IntWalk.i64_in _ (by omega)
      clear HT
      go_wp2_with fail
      go_round
      case rel => exact ⟨j - 1, x + 256 * z, by omega, by go_num, by go_num, Lib.hid (by rw [HX.out])⟩
      case measure => simp [intOf]; omega
    · obtain rfl : j = 0 := by omega
      have HZ := hz
      go_wp2_with fail
      all_goals go_ret
      all_goals refine ⟨by have := HZ.out; rw [List.drop_zero] at this; rw [this]; rfl, ?_⟩
      all_goals exact (RD.turn HB.out HR.out hk hc hm HO.out (by first | exact .inr rfl | exact .inl ⟨by assumption, rfl⟩ | exact .inl ⟨rfl, rfl⟩)).2
/-- What stands while the numbers are taken. -/
structure IRd (w W : World) (g : Nat) (l : List Nat) : Prop where
  f : Blk W w.heap.size 50 #[vi 0, vi 0, vi 0, vi 0, vi 0, vi 0, vi 0, vi 0, vi 0, vi 0, vi 0]
  below : Below w.heap.size w W
  rd : RD W g l
  lt : w.heap.size < g
section
variable {w W W' : World} {g q j : Nat} {l l' : List Nat} {u : Value} {cs : Array Value}
theorem IRd.step (h : IRd w W g l) (hr : RD W' g l') (hg : W.grownBy W' (some g)) : IRd w W' g l' :=
  ⟨h.f.grown hg (by have := h.lt; simp; omega), h.below.grown hg h.below.size (fun k hk => by injection hk with hk; have := h.lt; omega), hr, h.lt⟩
theorem IRd.old (h : IRd w W g l) (hb : Below W.heap.size W W') : IRd w W' g l := ⟨h.f.old hb, h.below.trans (hb.mono h.below.size), h.rd.old hb, h.lt⟩
theorem IRd.ne (h : IRd w W g l) (hq : Blk W q 50 cs) : q ≠ g := by
  obtain ⟨a, c, h1, h2, h3⟩ := h.rd
  intro e
  rw [e] at hq
  unfold Blk at h1 hq
  rw [h1] at hq
  injection hq with hq
  injection hq with _ hq
  exact absurd hq (by decide)
theorem IRd.set (h : IRd w W g l) (hq : Blk W q 50 cs) (hv : ∀ j n : Nat, cs[j]? ≠ some (vb n)) (hn : w.heap.size < q) : IRd w (W.setCell ⟨q, j, none⟩ u) g l := by
  refine ⟨h.f.far (p := ⟨q, j, none⟩) (by dsimp only; omega) u, h.below.setCell (p := ⟨q, j, none⟩) (by dsimp only; omega) u, ?_, h.lt⟩
  obtain ⟨a, c, h1, h2, h3⟩ := h.rd
  exact ⟨a, c, h1.far (p := ⟨q, j, none⟩) (h.ne hq).symm u, h2.set_far hq hv, h3⟩
end
/-- The box of the inode that is read, beside. -/
structure IBx (w W : World) (g q : Nat) (l : List Nat) (C : Array Value) : Prop where
  rd : IRd w W g l
  box : Blk W q 50 C
  ints : ∀ (j : Nat) (v : Value), C[j]? = some v → ∃ n, v = vi n
  young : w.heap.size < q
section
variable {w W W' : World} {g q : Nat} {l l' : List Nat} {C : Array Value}
theorem IBx.step (h : IBx w W g q l C) (hr : RD W' g l') (hg : W.grownBy W' (some g)) : IBx w W' g q l' C :=
  ⟨h.rd.step hr hg, h.box.grown hg (fun e => by injection e with e; exact h.rd.ne h.box e), h.ints, h.young⟩
theorem IBx.old (h : IBx w W g q l C) (hb : Below W.heap.size W W') : IBx w W' g q l C := ⟨h.rd.old hb, h.box.old hb, h.ints, h.young⟩
theorem IBx.set (h : IBx w W g q l C) (j : Nat) (n : Int) : IBx w (W.setCell ⟨q, j, none⟩ (vi n)) g q l (C.setIfInBounds j (vi n)) := by
  refine ⟨h.rd.set h.box (fun i n e => ?_) h.young, h.box.set_ j _, fun i v e => ?_, h.young⟩
  · obtain ⟨m, hm⟩ := h.ints i _ e
    injection hm with hm
    cases hm
  · rw [Array.getElem?_setIfInBounds] at e
    split at e
    · split at e
      · injection e with e; exact ⟨n, e.symm⟩
      · cases e
    · exact h.ints i v e
end
theorem read_result {w' : World} {g : Nat} {v0 v1 v2 v3 v4 v5 v6 v7 v8 v9 v10 : Value} {n : Int} (hb : Blk w' g 50 #[v0, v1, v2, v3, v4, v5, v6, v7, v8, v9, v10]) (tmps : Array Value) (h2 : tmps[2]? = some (.pointer (some ⟨g, 0, none⟩))) (h3 : tmps[3]? = some (vi n)) :
    (results Tryz.f78 tmps).run Tryz.prog w' = .ok (.tuple #[.agg #[v0, v1, v2, v3, v4, v5, v6, v7, v8, v9, v10], vi n]) w' := by
  have g0 : w'.cell? ⟨g, 0, none⟩ = some v0 := hb.cell 0
  have g1 : w'.cell? ⟨g, 1, none⟩ = some v1 := hb.cell 1
  have g2 : w'.cell? ⟨g, 2, none⟩ = some v2 := hb.cell 2
  have g3 : w'.cell? ⟨g, 3, none⟩ = some v3 := hb.cell 3
  have g4 : w'.cell? ⟨g, 4, none⟩ = some v4 := hb.cell 4
  have g5 : w'.cell? ⟨g, 5, none⟩ = some v5 := hb.cell 5
  have g6 : w'.cell? ⟨g, 6, none⟩ = some v6 := hb.cell 6
  have g7 : w'.cell? ⟨g, 7, none⟩ = some v7 := hb.cell 7
  have g8 : w'.cell? ⟨g, 8, none⟩ = some v8 := hb.cell 8
  have g9 : w'.cell? ⟨g, 9, none⟩ = some v9 := hb.cell 9
  have g10 : w'.cell? ⟨g, 10, none⟩ = some v10 := hb.cell 10
  simp only [results, Tryz.results78]
  simp [go_sem, h2, h3, g0, g1, g2, g3, g4, g5, g6, g7, g8, g9, g10]
theorem ino_fill {w W : World} {g : Nat} {u0 u1 u2 u3 u4 u5 u6 u7 u8 u9 u10 : Value} (v0 v1 v2 v3 v4 v5 v6 v7 v8 v9 v10 : Value) (hb : Blk W g 50 #[u0, u1, u2, u3, u4, u5, u6, u7, u8, u9, u10]) (hw : Below w.heap.size w W) (hg : w.heap.size ≤ g) :
    Blk (((((((((((W.setCell ⟨g, 0, none⟩ v0).setCell ⟨g, 1, none⟩ v1).setCell ⟨g, 2, none⟩ v2).setCell ⟨g, 3, none⟩ v3).setCell ⟨g, 4, none⟩ v4).setCell ⟨g, 5, none⟩ v5).setCell ⟨g, 6, none⟩ v6).setCell ⟨g, 7, none⟩ v7).setCell ⟨g, 8, none⟩ v8).setCell ⟨g, 9, none⟩ v9).setCell ⟨g, 10, none⟩ v10) g 50 #[v0, v1, v2, v3, v4, v5, v6, v7, v8, v9, v10] ∧ Below w.heap.size w (((((((((((W.setCell ⟨g, 0, none⟩ v0).setCell ⟨g, 1, none⟩ v1).setCell ⟨g, 2, none⟩ v2).setCell ⟨g, 3, none⟩ v3).setCell ⟨g, 4, none⟩ v4).setCell ⟨g, 5, none⟩ v5).setCell ⟨g, 6, none⟩ v6).setCell ⟨g, 7, none⟩ v7).setCell ⟨g, 8, none⟩ v8).setCell ⟨g, 9, none⟩ v9).setCell ⟨g, 10, none⟩ v10) := by
  have h0 : Blk (W.setCell ⟨g, 0, none⟩ v0) g 50 #[v0, u1, u2, u3, u4, u5, u6, u7, u8, u9, u10] := hb.set_ 0 v0
  have e0 : Below w.heap.size w (W.setCell ⟨g, 0, none⟩ v0) := hw.setCell (p := ⟨g, 0, none⟩) hg v0
  have h1 : Blk ((W.setCell ⟨g, 0, none⟩ v0).setCell ⟨g, 1, none⟩ v1) g 50 #[v0, v1, u2, u3, u4, u5, u6, u7, u8, u9, u10] := h0.set_ 1 v1
  have e1 : Below w.heap.size w ((W.setCell ⟨g, 0, none⟩ v0).setCell ⟨g, 1, none⟩ v1) := e0.setCell (p := ⟨g, 1, none⟩) hg v1
  have h2 : Blk (((W.setCell ⟨g, 0, none⟩ v0).setCell ⟨g, 1, none⟩ v1).setCell ⟨g, 2, none⟩ v2) g 50 #[v0, v1, v2, u3, u4, u5, u6, u7, u8, u9, u10] := h1.set_ 2 v2
  have e2 : Below w.heap.size w (((W.setCell ⟨g, 0, none⟩ v0).setCell ⟨g, 1, none⟩ v1).setCell ⟨g, 2, none⟩ v2) := e1.setCell (p := ⟨g, 2, none⟩) hg v2
  have h3 : Blk ((((W.setCell ⟨g, 0, none⟩ v0).setCell ⟨g, 1, none⟩ v1).setCell ⟨g, 2, none⟩ v2).setCell ⟨g, 3, none⟩ v3) g 50 #[v0, v1, v2, v3, u4, u5, u6, u7, u8, u9, u10] := h2.set_ 3 v3
  have e3 : Below w.heap.size w ((((W.setCell ⟨g, 0, none⟩ v0).setCell ⟨g, 1, none⟩ v1).setCell ⟨g, 2, none⟩ v2).setCell ⟨g, 3, none⟩ v3) := e2.setCell (p := ⟨g, 3, none⟩) hg v3
  have h4 : Blk (((((W.setCell ⟨g, 0, none⟩ v0).setCell ⟨g, 1, none⟩ v1).setCell ⟨g, 2, none⟩ v2).setCell ⟨g, 3, none⟩ v3).setCell ⟨g, 4, none⟩ v4) g 50 #[v0, v1, v2, v3, v4, u5, u6, u7, u8, u9, u10] := h3.set_ 4 v4
  have e4 : Below w.heap.size w (((((W.setCell ⟨g, 0, none⟩ v0).setCell ⟨g, 1, none⟩ v1).setCell ⟨g, 2, none⟩ v2).setCell ⟨g, 3, none⟩ v3).setCell ⟨g, 4, none⟩ v4) := e3.setCell (p := ⟨g, 4, none⟩) hg v4
  have h5 : Blk ((((((W.setCell ⟨g, 0, none⟩ v0).setCell ⟨g, 1, none⟩ v1).setCell ⟨g, 2, none⟩ v2).setCell ⟨g, 3, none⟩ v3).setCell ⟨g, 4, none⟩ v4).setCell ⟨g, 5, none⟩ v5) g 50 #[v0, v1, v2, v3, v4, v5, u6, u7, u8, u9, u10] := h4.set_ 5 v5
  have e5 : Below w.heap.size w ((((((W.setCell ⟨g, 0, none⟩ v0).setCell ⟨g, 1, none⟩ v1).setCell ⟨g, 2, none⟩ v2).setCell ⟨g, 3, none⟩ v3).setCell ⟨g, 4, none⟩ v4).setCell ⟨g, 5, none⟩ v5) := e4.setCell (p := ⟨g, 5, none⟩) hg v5
  have h6 : Blk (((((((W.setCell ⟨g, 0, none⟩ v0).setCell ⟨g, 1, none⟩ v1).setCell ⟨g, 2, none⟩ v2).setCell ⟨g, 3, none⟩ v3).setCell ⟨g, 4, none⟩ v4).setCell ⟨g, 5, none⟩ v5).setCell ⟨g, 6, none⟩ v6) g 50 #[v0, v1, v2, v3, v4, v5, v6, u7, u8, u9, u10] := h5.set_ 6 v6
  have e6 : Below w.heap.size w (((((((W.setCell ⟨g, 0, none⟩ v0).setCell ⟨g, 1, none⟩ v1).setCell ⟨g, 2, none⟩ v2).setCell ⟨g, 3, none⟩ v3).setCell ⟨g, 4, none⟩ v4).setCell ⟨g, 5, none⟩ v5).setCell ⟨g, 6, none⟩ v6) := e5.setCell (p := ⟨g, 6, none⟩) hg v6
  have h7 : Blk ((((((((W.setCell ⟨g, 0, none⟩ v0).setCell ⟨g, 1, none⟩ v1).setCell ⟨g, 2, none⟩ v2).setCell ⟨g, 3, none⟩ v3).setCell ⟨g, 4, none⟩ v4).setCell ⟨g, 5, none⟩ v5).setCell ⟨g, 6, none⟩ v6).setCell ⟨g, 7, none⟩ v7) g 50 #[v0, v1, v2, v3, v4, v5, v6, v7, u8, u9, u10] := h6.set_ 7 v7
  have e7 : Below w.heap.size w ((((((((W.setCell ⟨g, 0, none⟩ v0).setCell ⟨g, 1, none⟩ v1).setCell ⟨g, 2, none⟩ v2).setCell ⟨g, 3, none⟩ v3).setCell ⟨g, 4, none⟩ v4).setCell ⟨g, 5, none⟩ v5).setCell ⟨g, 6, none⟩ v6).setCell ⟨g, 7, none⟩ v7) := e6.setCell (p := ⟨g, 7, none⟩) hg v7
  have h8 : Blk (((((((((W.setCell ⟨g, 0, none⟩ v0).setCell ⟨g, 1, none⟩ v1).setCell ⟨g, 2, none⟩ v2).setCell ⟨g, 3, none⟩ v3).setCell ⟨g, 4, none⟩ v4).setCell ⟨g, 5, none⟩ v5).setCell ⟨g, 6, none⟩ v6).setCell ⟨g, 7, none⟩ v7).setCell ⟨g, 8, none⟩ v8) g 50 #[v0, v1, v2, v3, v4, v5, v6, v7, v8, u9, u10] := h7.set_ 8 v8
  have e8 : Below w.heap.size w (((((((((W.setCell ⟨g, 0, none⟩ v0).setCell ⟨g, 1, none⟩ v1).setCell ⟨g, 2, none⟩ v2).setCell ⟨g, 3, none⟩ v3).setCell ⟨g, 4, none⟩ v4).setCell ⟨g, 5, none⟩ v5).setCell ⟨g, 6, none⟩ v6).setCell ⟨g, 7, none⟩ v7).setCell ⟨g, 8, none⟩ v8) := e7.setCell (p := ⟨g, 8, none⟩) hg v8
  have h9 : Blk ((((((((((W.setCell ⟨g, 0, none⟩ v0).setCell ⟨g, 1, none⟩ v1).setCell ⟨g, 2, none⟩ v2).setCell ⟨g, 3, none⟩ v3).setCell ⟨g, 4, none⟩ v4).setCell ⟨g, 5, none⟩ v5).setCell ⟨g, 6, none⟩ v6).setCell ⟨g, 7, none⟩ v7).setCell ⟨g, 8, none⟩ v8).setCell ⟨g, 9, none⟩ v9) g 50 #[v0, v1, v2, v3, v4, v5, v6, v7, v8, v9, u10] := h8.set_ 9 v9
  have e9 : Below w.heap.size w ((((((((((W.setCell ⟨g, 0, none⟩ v0).setCell ⟨g, 1, none⟩ v1).setCell ⟨g, 2, none⟩ v2).setCell ⟨g, 3, none⟩ v3).setCell ⟨g, 4, none⟩ v4).setCell ⟨g, 5, none⟩ v5).setCell ⟨g, 6, none⟩ v6).setCell ⟨g, 7, none⟩ v7).setCell ⟨g, 8, none⟩ v8).setCell ⟨g, 9, none⟩ v9) := e8.setCell (p := ⟨g, 9, none⟩) hg v9
  have h10 : Blk (((((((((((W.setCell ⟨g, 0, none⟩ v0).setCell ⟨g, 1, none⟩ v1).setCell ⟨g, 2, none⟩ v2).setCell ⟨g, 3, none⟩ v3).setCell ⟨g, 4, none⟩ v4).setCell ⟨g, 5, none⟩ v5).setCell ⟨g, 6, none⟩ v6).setCell ⟨g, 7, none⟩ v7).setCell ⟨g, 8, none⟩ v8).setCell ⟨g, 9, none⟩ v9).setCell ⟨g, 10, none⟩ v10) g 50 #[v0, v1, v2, v3, v4, v5, v6, v7, v8, v9, v10] := h9.set_ 10 v10
  have e10 : Below w.heap.size w (((((((((((W.setCell ⟨g, 0, none⟩ v0).setCell ⟨g, 1, none⟩ v1).setCell ⟨g, 2, none⟩ v2).setCell ⟨g, 3, none⟩ v3).setCell ⟨g, 4, none⟩ v4).setCell ⟨g, 5, none⟩ v5).setCell ⟨g, 6, none⟩ v6).setCell ⟨g, 7, none⟩ v7).setCell ⟨g, 8, none⟩ v8).setCell ⟨g, 9, none⟩ v9).setCell ⟨g, 10, none⟩ v10) := e9.setCell (p := ⟨g, 10, none⟩) hg v10
  exact ⟨h10, e10⟩
set_option maxRecDepth 100000 in
set_option maxHeartbeats 4000000 in
theorem Read_any {w : World} (a : Option Addr) (l : List Nat) (c : Nat) (hr : BRow w a l) (hl : l.length = 24) (hc : l.length ≤ c ∧ c ≤ maxLen) (h1 : l.getD 1 0 = 0) (hi : PI.right (PI.ofBytes l) = true) :
    Calls Tryz.prog 78 #[.slice a l.length c] w fun e w' => e = .returned (.tuple #[inoV (PI.ofBytes l), vi 0]) ∧ Below w.heap.size w w' := by
  have HR := Lib.hid hr
  have HL := Lib.hid hl
  have HC := Lib.hid hc
  have HG : Hid (HP.num ((l.drop 1).take 1) = 0) := Lib.hid (by
    have e : (l.drop 1).take 1 = [l.getD 1 0] := by
      rw [List.drop_eq_getElem_cons (by omega : 1 < l.length), List.take_succ_cons, List.take_zero, List.getD_eq_getElem?_getD, List.getElem?_eq_getElem (by omega)]
      rfl
    rw [e, h1]
    rfl)
  have HRT : Hid (∀ W : World, Calls Tryz.prog 129 #[inoV (PI.ofBytes l)] W fun e w' => e = .returned (.bool true) ∧ Below W.heap.size W w') := Lib.hid (fun W => Right_any _ rfl hi)
  have HV : Hid (inoV (PI.ofBytes l) = .agg #[vi (HP.num (l.take 1)), vi (HP.num ((l.drop 2).take 2)), vi (HP.num ((l.drop 4).take 4)), vi (HP.num ((l.drop 8).take 2)), vi (HP.num ((l.drop 10).take 2)), vi (HP.num ((l.drop 12).take 2)), vi (HP.num ((l.drop 14).take 2)), vi (HP.num ((l.drop 16).take 2)), vi (HP.num ((l.drop 18).take 2)), vi (HP.num ((l.drop 20).take 2)), vi (HP.num ((l.drop 22).take 2))]) := Lib.hid rfl
  have hlo : ∃ ad, a = some ad ∧ ad.block < w.heap.size := by
    rcases hr.at_ with h | ⟨b, o, rfl, h⟩
    · rw [h] at hl; simp at hl
    · exact ⟨_, rfl, cell_lt (h 0 (by omega))⟩
  obtain ⟨ad, rfl, hadl⟩ := hlo
  have HAD := Lib.hid hadl
  have hl24 : ((l.length : Int) != 24) = false := by rw [hl]; rfl
  clear hr hl hc h1 hi hadl
  go_enter Tryz.func78, Tryz.ntmps78
  go_upto_region 5 with fail
  have T0 : Hid (IRd w ((w.alloc (.cells #[vi 0, vi 0, vi 0, vi 0, vi 0, vi 0, vi 0, vi 0, vi 0, vi 0, vi 0] 50)).alloc (.cells #[.slice (some ad) l.length c] 56)) (w.heap.size + 1) l) := Lib.hid (by
    have hb : Below w.heap.size w ((w.alloc (.cells #[vi 0, vi 0, vi 0, vi 0, vi 0, vi 0, vi 0, vi 0, vi 0, vi 0, vi 0] 50)).alloc (.cells #[.slice (some ad) l.length c] 56)) := ((Below.refl _ _).alloc (Nat.le_refl _) _).alloc (by simp) _
    have hx := Blk.new (w.alloc (.cells #[vi 0, vi 0, vi 0, vi 0, vi 0, vi 0, vi 0, vi 0, vi 0, vi 0, vi 0] 50)) 56 #[.slice (some ad) l.length c]
    rw [size_alloc] at hx
    exact ⟨(Blk.new w _ _).alloc _, hb, ⟨some ad, c, hx, HR.out.below hb, HC.out.1, HC.out.2, fun a e => by injection e with e; rw [← e]; have := HAD.out; omega⟩, by omega⟩)
  change Code.wp _ _ _ _ ((w.alloc (.cells #[vi 0, vi 0, vi 0, vi 0, vi 0, vi 0, vi 0, vi 0, vi 0, vi 0, vi 0] 50)).alloc (.cells #[.slice (some ad) l.length c] 56))
  obtain ⟨rb, hrb⟩ : ∃ rb, rb = w.heap.size + 1 := ⟨_, rfl⟩
  rw [← hrb] at T0 ⊢
  clear hrb
  generalize (w.alloc (.cells #[vi 0, vi 0, vi 0, vi 0, vi 0, vi 0, vi 0, vi 0, vi 0, vi 0, vi 0] 50)).alloc (.cells #[.slice (some ad) l.length c] 56) = w1 at *
  clear HR HC HAD hl24
  go_wp2_with fail
  refine (take_any rb 1 l _ T0.out.rd (by rw [HL.out]; omega) (by omega)).mono ?_
  rintro e w2 ⟨rfl, hr, hg⟩
  have T1 := Lib.hid (T0.out.step hr hg)
  generalize hx : HP.num (l.take 1) = x0 at *
  clear hr hg hx T0
  go_upto_region 6 with fail
  have B1 : Hid (IBx w (w2.alloc (.cells #[vi x0, vi 0, vi 0, vi 0, vi 0, vi 0, vi 0, vi 0, vi 0, vi 0, vi 0] 50)) rb w2.heap.size (l.drop 1) #[vi x0, vi 0, vi 0, vi 0, vi 0, vi 0, vi 0, vi 0, vi 0, vi 0, vi 0]) := Lib.hid
    ⟨T1.out.old ((Below.refl _ _).alloc (Nat.le_refl _) _), Blk.new _ _ _, fun j v e => by
      rcases (by omega : j = 0 ∨ j = 1 ∨ j = 2 ∨ j = 3 ∨ j = 4 ∨ j = 5 ∨ j = 6 ∨ j = 7 ∨ j = 8 ∨ j = 9 ∨ j = 10 ∨ 11 ≤ j) with rfl | rfl | rfl | rfl | rfl | rfl | rfl | rfl | rfl | rfl | rfl | h
      all_goals first
        | (injection e with e; exact ⟨_, e.symm⟩)
        | (rw [Array.getElem?_eq_none (by simpa using h)] at e; cases e), T1.out.f.lt⟩
  change Code.wp _ _ _ _ (w2.alloc (.cells #[vi x0, vi 0, vi 0, vi 0, vi 0, vi 0, vi 0, vi 0, vi 0, vi 0, vi 0] 50))
  generalize w2.alloc (.cells #[vi x0, vi 0, vi 0, vi 0, vi 0, vi 0, vi 0, vi 0, vi 0, vi 0, vi 0] 50) = w3 at *
  generalize w2.heap.size = gi at *
  clear T1
  go_wp2_with fail
  refine (take_any rb 1 (l.drop 1) _ B1.out.rd.rd (by rw [List.length_drop, HL.out]; omega) (by omega)).mono ?_
  rw [HG.out]
  rintro e w4 ⟨rfl, hr, hg⟩
  rw [List.drop_drop] at hr
  have B2 := Lib.hid (B1.out.step hr hg)
  clear hr hg B1
  go_wp2_with fail
  refine (take_any rb 2 (l.drop 2) _ B2.out.rd.rd (by rw [List.length_drop, HL.out]; omega) (by omega)).mono ?_
  rintro e w5 ⟨rfl, hr, hg⟩
  rw [List.drop_drop] at hr
  have B3 := Lib.hid (B2.out.step hr hg)
  generalize hx : HP.num ((l.drop 2).take 2) = x1 at *
  clear hr hg hx B2
  go_wp2_with fail
  refine (take_any rb 4 (l.drop 4) _ B3.out.rd.rd (by rw [List.length_drop, HL.out]; omega) (by omega)).mono ?_
  rintro e w6 ⟨rfl, hr, hg⟩
  rw [List.drop_drop] at hr
  have B4 := Lib.hid (B3.out.step hr hg)
  generalize hx : HP.num ((l.drop 4).take 4) = x2 at *
  clear hr hg hx B3
  have c1 : w6.cell? ⟨gi, 1, none⟩ = some (vi 0) := B4.out.box.cell 1
  have c2 : w6.cell? ⟨gi, 2, none⟩ = some (vi 0) := B4.out.box.cell 2
  have z1 := B4.out.box.frozen 1
  have z2 := B4.out.box.frozen 2
  have B5 : Hid (IBx w ((w6.setCell ⟨gi, 1, none⟩ (vi x1)).setCell ⟨gi, 2, none⟩ (vi x2)) rb gi (l.drop 8) #[vi x0, vi x1, vi x2, vi 0, vi 0, vi 0, vi 0, vi 0, vi 0, vi 0, vi 0]) := Lib.hid ((B4.out.set 1 x1).set 2 x2)
  go_upto_region 8 with fail
  clear c1 c2 z1 z2 B4
  change Code.wp _ _ _ _ ((w6.setCell ⟨gi, 1, none⟩ (vi x1)).setCell ⟨gi, 2, none⟩ (vi x2))
  generalize (w6.setCell ⟨gi, 1, none⟩ (vi x1)).setCell ⟨gi, 2, none⟩ (vi x2) = w7 at *
  generalize hx3 : HP.num ((l.drop 8).take 2) = x3 at *
  generalize hx4 : HP.num ((l.drop 10).take 2) = x4 at *
  generalize hx5 : HP.num ((l.drop 12).take 2) = x5 at *
  generalize hx6 : HP.num ((l.drop 14).take 2) = x6 at *
  generalize hx7 : HP.num ((l.drop 16).take 2) = x7 at *
  generalize hx8 : HP.num ((l.drop 18).take 2) = x8 at *
  generalize hx9 : HP.num ((l.drop 20).take 2) = x9 at *
  generalize hx10 : HP.num ((l.drop 22).take 2) = x10 at *
  have HX : Hid (HP.num ((l.drop 8).take 2) = x3 ∧ HP.num ((l.drop 10).take 2) = x4 ∧ HP.num ((l.drop 12).take 2) = x5 ∧ HP.num ((l.drop 14).take 2) = x6 ∧ HP.num ((l.drop 16).take 2) = x7 ∧ HP.num ((l.drop 18).take 2) = x8 ∧ HP.num ((l.drop 20).take 2) = x9 ∧ HP.num ((l.drop 22).take 2) = x10) :=
    Lib.hid ⟨hx3, hx4, hx5, hx6, hx7, hx8, hx9, hx10⟩
  clear hx3 hx4 hx5 hx6 hx7 hx8 hx9 hx10
  go_wp2_with fail
  go_loopw [26, 8] (fun i _ wr => ∃ k : Nat, k ≤ 6 ∧ i = vi k ∧ Hid (IBx w wr rb gi (l.drop (8 + 2 * k)) #[vi x0, vi x1, vi x2, vi (if 0 < k then (x3 : Int) else 0), vi (if 1 < k then (x4 : Int) else 0), vi (if 2 < k then (x5 : Int) else 0), vi (if 3 < k then (x6 : Int) else 0), vi (if 4 < k then (x7 : Int) else 0), vi (if 5 < k then (x8 : Int) else 0), vi 0, vi 0])) (fun i _ _ => 6 - (intOf i).toNat)
  case atStart => exact ⟨0, by decide, rfl, B5⟩
  case round =>
    clear B5
    obtain ⟨k, hk6, rfl, hb⟩ := hrel
    by_cases h6 : k = 6
    · subst h6
      have B6 : Hid (IBx w wr rb gi (l.drop 20) #[vi x0, vi x1, vi x2, vi x3, vi x4, vi x5, vi x6, vi x7, vi x8, vi 0, vi 0]) := hb
      clear hb hk6
      go_wp2_with fail
      refine (take_any rb 2 (l.drop 20) _ B6.out.rd.rd (by rw [List.length_drop, HL.out]; omega) (by omega)).mono ?_
      rw [HX.out.2.2.2.2.2.2.1]
      rintro e w8 ⟨rfl, hr, hg⟩
      rw [List.drop_drop] at hr
      have B7 := Lib.hid (B6.out.step hr hg)
      clear hr hg B6
      go_wp2_with fail
      refine (take_any rb 2 (l.drop 22) _ B7.out.rd.rd (by rw [List.length_drop, HL.out]; omega) (by omega)).mono ?_
      rw [HX.out.2.2.2.2.2.2.2]
      rintro e w9 ⟨rfl, hr, hg⟩
      rw [List.drop_drop] at hr
      have B8 := Lib.hid (B7.out.step hr hg)
      clear hr hg B7
      have c1 : w9.cell? ⟨gi, 9, none⟩ = some (vi 0) := B8.out.box.cell 9
      have c2 : w9.cell? ⟨gi, 10, none⟩ = some (vi 0) := B8.out.box.cell 10
      have z1 := B8.out.box.frozen 9
      have z2 := B8.out.box.frozen 10
      have B9 : Hid (IBx w ((w9.setCell ⟨gi, 9, none⟩ (vi x9)).setCell ⟨gi, 10, none⟩ (vi x10)) rb gi (l.drop 24) #[vi x0, vi x1, vi x2, vi x3, vi x4, vi x5, vi x6, vi x7, vi x8, vi x9, vi x10]) := Lib.hid ((B8.out.set 9 x9).set 10 x10)
      go_upto_region 14 with fail
      clear c1 c2 z1 z2 B8
      change Code.wp _ _ _ _ ((w9.setCell ⟨gi, 9, none⟩ (vi x9)).setCell ⟨gi, 10, none⟩ (vi x10))
      generalize (w9.setCell ⟨gi, 9, none⟩ (vi x9)).setCell ⟨gi, 10, none⟩ (vi x10) = w10 at *
      have g0 : w10.cell? ⟨gi, 0, none⟩ = some (vi x0) := B9.out.box.cell 0
      have g1 : w10.cell? ⟨gi, 1, none⟩ = some (vi x1) := B9.out.box.cell 1
      have g2 : w10.cell? ⟨gi, 2, none⟩ = some (vi x2) := B9.out.box.cell 2
      have g3 : w10.cell? ⟨gi, 3, none⟩ = some (vi x3) := B9.out.box.cell 3
      have g4 : w10.cell? ⟨gi, 4, none⟩ = some (vi x4) := B9.out.box.cell 4
      have g5 : w10.cell? ⟨gi, 5, none⟩ = some (vi x5) := B9.out.box.cell 5
      have g6 : w10.cell? ⟨gi, 6, none⟩ = some (vi x6) := B9.out.box.cell 6
      have g7 : w10.cell? ⟨gi, 7, none⟩ = some (vi x7) := B9.out.box.cell 7
      have g8 : w10.cell? ⟨gi, 8, none⟩ = some (vi x8) := B9.out.box.cell 8
      have g9 : w10.cell? ⟨gi, 9, none⟩ = some (vi x9) := B9.out.box.cell 9
      have g10 : w10.cell? ⟨gi, 10, none⟩ = some (vi x10) := B9.out.box.cell 10
      go_wp2_with fail
      rw [HV.out] at HRT
      refine (HRT.out w10).mono ?_
      rintro e w11 ⟨rfl, hb⟩
      have BA := Lib.hid (B9.out.old hb)
      clear hb B9 g0 g1 g2 g3 g4 g5 g6 g7 g8 g9 g10
      have g0 : w11.cell? ⟨gi, 0, none⟩ = some (vi x0) := BA.out.box.cell 0
      have g1 : w11.cell? ⟨gi, 1, none⟩ = some (vi x1) := BA.out.box.cell 1
      have g2 : w11.cell? ⟨gi, 2, none⟩ = some (vi x2) := BA.out.box.cell 2
      have g3 : w11.cell? ⟨gi, 3, none⟩ = some (vi x3) := BA.out.box.cell 3
      have g4 : w11.cell? ⟨gi, 4, none⟩ = some (vi x4) := BA.out.box.cell 4
      have g5 : w11.cell? ⟨gi, 5, none⟩ = some (vi x5) := BA.out.box.cell 5
      have g6 : w11.cell? ⟨gi, 6, none⟩ = some (vi x6) := BA.out.box.cell 6
      have g7 : w11.cell? ⟨gi, 7, none⟩ = some (vi x7) := BA.out.box.cell 7
      have g8 : w11.cell? ⟨gi, 8, none⟩ = some (vi x8) := BA.out.box.cell 8
      have g9 : w11.cell? ⟨gi, 9, none⟩ = some (vi x9) := BA.out.box.cell 9
      have g10 : w11.cell? ⟨gi, 10, none⟩ = some (vi x10) := BA.out.box.cell 10
      have r0 : w11.cell? ⟨w.heap.size, 0, none⟩ = some (vi 0) := BA.out.rd.f.cell 0
      have f0 := BA.out.rd.f.frozen 0
      have r1 : w11.cell? ⟨w.heap.size, 1, none⟩ = some (vi 0) := BA.out.rd.f.cell 1
      have f1 := BA.out.rd.f.frozen 1
      have r2 : w11.cell? ⟨w.heap.size, 2, none⟩ = some (vi 0) := BA.out.rd.f.cell 2
      have f2 := BA.out.rd.f.frozen 2
      have r3 : w11.cell? ⟨w.heap.size, 3, none⟩ = some (vi 0) := BA.out.rd.f.cell 3
      have f3 := BA.out.rd.f.frozen 3
      have r4 : w11.cell? ⟨w.heap.size, 4, none⟩ = some (vi 0) := BA.out.rd.f.cell 4
      have f4 := BA.out.rd.f.frozen 4
      have r5 : w11.cell? ⟨w.heap.size, 5, none⟩ = some (vi 0) := BA.out.rd.f.cell 5
      have f5 := BA.out.rd.f.frozen 5
      have r6 : w11.cell? ⟨w.heap.size, 6, none⟩ = some (vi 0) := BA.out.rd.f.cell 6
      have f6 := BA.out.rd.f.frozen 6
      have r7 : w11.cell? ⟨w.heap.size, 7, none⟩ = some (vi 0) := BA.out.rd.f.cell 7
      have f7 := BA.out.rd.f.frozen 7
      have r8 : w11.cell? ⟨w.heap.size, 8, none⟩ = some (vi 0) := BA.out.rd.f.cell 8
      have f8 := BA.out.rd.f.frozen 8
      have r9 : w11.cell? ⟨w.heap.size, 9, none⟩ = some (vi 0) := BA.out.rd.f.cell 9
      have f9 := BA.out.rd.f.frozen 9
      have r10 : w11.cell? ⟨w.heap.size, 10, none⟩ = some (vi 0) := BA.out.rd.f.cell 10
      have f10 := BA.out.rd.f.frozen 10
      go_wp2_with fail
      obtain ⟨hf, hw⟩ := ino_fill (vi x0) (vi x1) (vi x2) (vi x3) (vi x4) (vi x5) (vi x6) (vi x7) (vi x8) (vi x9) (vi x10) BA.out.rd.f BA.out.rd.below (Nat.le_refl _)
      exact bodyPost_ret (read_result hf _ rfl rfl) rfl ⟨by rw [HV.out], hw⟩
    · rcases (by omega : k = 0 ∨ k = 1 ∨ k = 2 ∨ k = 3 ∨ k = 4 ∨ k = 5) with rfl | rfl | rfl | rfl | rfl | rfl
      · clear hk6 h6
        have B6 : Hid (IBx w wr rb gi (l.drop 8) #[vi x0, vi x1, vi x2, vi 0, vi 0, vi 0, vi 0, vi 0, vi 0, vi 0, vi 0]) := hb
        clear hb
        go_wp2_with fail
        refine (take_any rb 2 (l.drop 8) _ B6.out.rd.rd (by rw [List.length_drop, HL.out]; omega) (by omega)).mono ?_
        rw [HX.out.1]
        rintro e w8 ⟨rfl, hr, hg⟩
        rw [List.drop_drop] at hr
        have B7 := Lib.hid (B6.out.step hr hg)
        have c1 : w8.cell? ⟨gi, 3, none⟩ = some (vi 0) := B7.out.box.cell 3
        have z1 := B7.out.box.frozen 3
        have B8 : Hid (IBx w (w8.setCell ⟨gi, 3, none⟩ (vi x3)) rb gi (l.drop 10) #[vi x0, vi x1, vi x2, vi x3, vi 0, vi 0, vi 0, vi 0, vi 0, vi 0, vi 0]) := Lib.hid (B7.out.set 3 x3)
        clear hr hg B6 B7
        go_wp2_with fail
        go_roundw
        case rel => exact ⟨1, by decide, rfl, B8⟩
        case measure => simp [intOf]
      · clear hk6 h6
        have B6 : Hid (IBx w wr rb gi (l.drop 10) #[vi x0, vi x1, vi x2, vi x3, vi 0, vi 0, vi 0, vi 0, vi 0, vi 0, vi 0]) := hb
        clear hb
        go_wp2_with fail
        refine (take_any rb 2 (l.drop 10) _ B6.out.rd.rd (by rw [List.length_drop, HL.out]; omega) (by omega)).mono ?_
        rw [HX.out.2.1]
        rintro e w8 ⟨rfl, hr, hg⟩
        rw [List.drop_drop] at hr
        have B7 := Lib.hid (B6.out.step hr hg)
        have c1 : w8.cell? ⟨gi, 4, none⟩ = some (vi 0) := B7.out.box.cell 4
        have z1 := B7.out.box.frozen 4
        have B8 : Hid (IBx w (w8.setCell ⟨gi, 4, none⟩ (vi x4)) rb gi (l.drop 12) #[vi x0, vi x1, vi x2, vi x3, vi x4, vi 0, vi 0, vi 0, vi 0, vi 0, vi 0]) := Lib.hid (B7.out.set 4 x4)
        clear hr hg B6 B7
        go_wp2_with fail
        go_roundw
        case rel => exact ⟨2, by decide, rfl, B8⟩
        case measure => simp [intOf]
      · clear hk6 h6
        have B6 : Hid (IBx w wr rb gi (l.drop 12) #[vi x0, vi x1, vi x2, vi x3, vi x4, vi 0, vi 0, vi 0, vi 0, vi 0, vi 0]) := hb
        clear hb
        go_wp2_with fail
        refine (take_any rb 2 (l.drop 12) _ B6.out.rd.rd (by rw [List.length_drop, HL.out]; omega) (by omega)).mono ?_
        rw [HX.out.2.2.1]
        rintro e w8 ⟨rfl, hr, hg⟩
        rw [List.drop_drop] at hr
        have B7 := Lib.hid (B6.out.step hr hg)
        have c1 : w8.cell? ⟨gi, 5, none⟩ = some (vi 0) := B7.out.box.cell 5
        have z1 := B7.out.box.frozen 5
        have B8 : Hid (IBx w (w8.setCell ⟨gi, 5, none⟩ (vi x5)) rb gi (l.drop 14) #[vi x0, vi x1, vi x2, vi x3, vi x4, vi x5, vi 0, vi 0, vi 0, vi 0, vi 0]) := Lib.hid (B7.out.set 5 x5)
        clear hr hg B6 B7
        go_wp2_with fail
        go_roundw
        case rel => exact ⟨3, by decide, rfl, B8⟩
        case measure => simp [intOf]
      · clear hk6 h6
        have B6 : Hid (IBx w wr rb gi (l.drop 14) #[vi x0, vi x1, vi x2, vi x3, vi x4, vi x5, vi 0, vi 0, vi 0, vi 0, vi 0]) := hb
        clear hb
        go_wp2_with fail
        refine (take_any rb 2 (l.drop 14) _ B6.out.rd.rd (by rw [List.length_drop, HL.out]; omega) (by omega)).mono ?_
        rw [HX.out.2.2.2.1]
        rintro e w8 ⟨rfl, hr, hg⟩
        rw [List.drop_drop] at hr
        have B7 := Lib.hid (B6.out.step hr hg)
        have c1 : w8.cell? ⟨gi, 6, none⟩ = some (vi 0) := B7.out.box.cell 6
        have z1 := B7.out.box.frozen 6
        have B8 : Hid (IBx w (w8.setCell ⟨gi, 6, none⟩ (vi x6)) rb gi (l.drop 16) #[vi x0, vi x1, vi x2, vi x3, vi x4, vi x5, vi x6, vi 0, vi 0, vi 0, vi 0]) := Lib.hid (B7.out.set 6 x6)
        clear hr hg B6 B7
        go_wp2_with fail
        go_roundw
        case rel => exact ⟨4, by decide, rfl, B8⟩
        case measure => simp [intOf]
      · clear hk6 h6
        have B6 : Hid (IBx w wr rb gi (l.drop 16) #[vi x0, vi x1, vi x2, vi x3, vi x4, vi x5, vi x6, vi 0, vi 0, vi 0, vi 0]) := hb
        clear hb
        go_wp2_with fail
        refine (take_any rb 2 (l.drop 16) _ B6.out.rd.rd (by rw [List.length_drop, HL.out]; omega) (by omega)).mono ?_
        rw [HX.out.2.2.2.2.1]
        rintro e w8 ⟨rfl, hr, hg⟩
        rw [List.drop_drop] at hr
        have B7 := Lib.hid (B6.out.step hr hg)
        have c1 : w8.cell? ⟨gi, 7, none⟩ = some (vi 0) := B7.out.box.cell 7
        have z1 := B7.out.box.frozen 7
        have B8 : Hid (IBx w (w8.setCell ⟨gi, 7, none⟩ (vi x7)) rb gi (l.drop 18) #[vi x0, vi x1, vi x2, vi x3, vi x4, vi x5, vi x6, vi x7, vi 0, vi 0, vi 0]) := Lib.hid (B7.out.set 7 x7)
        clear hr hg B6 B7
        go_wp2_with fail
        go_roundw
        case rel => exact ⟨5, by decide, rfl, B8⟩
        case measure => simp [intOf]
      · clear hk6 h6
        have B6 : Hid (IBx w wr rb gi (l.drop 18) #[vi x0, vi x1, vi x2, vi x3, vi x4, vi x5, vi x6, vi x7, vi 0, vi 0, vi 0]) := hb
        clear hb
        go_wp2_with fail
        refine (take_any rb 2 (l.drop 18) _ B6.out.rd.rd (by rw [List.length_drop, HL.out]; omega) (by omega)).mono ?_
        rw [HX.out.2.2.2.2.2.1]
        rintro e w8 ⟨rfl, hr, hg⟩
        rw [List.drop_drop] at hr
        have B7 := Lib.hid (B6.out.step hr hg)
        have c1 : w8.cell? ⟨gi, 8, none⟩ = some (vi 0) := B7.out.box.cell 8
        have z1 := B7.out.box.frozen 8
        have B8 : Hid (IBx w (w8.setCell ⟨gi, 8, none⟩ (vi x8)) rb gi (l.drop 20) #[vi x0, vi x1, vi x2, vi x3, vi x4, vi x5, vi x6, vi x7, vi x8, vi 0, vi 0]) := Lib.hid (B7.out.set 8 x8)
        clear hr hg B6 B7
        go_wp2_with fail
        go_roundw
        case rel => exact ⟨6, by decide, rfl, B8⟩
        case measure => simp [intOf]
end Go.Proofs.YtnfhlocflpdlcaaGreat.ino

