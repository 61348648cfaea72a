/-
  Lemmas for a law's proof, put together from several texts: each part says what it shows, and its conditions.
-/
import Derived.Test.YtnfhlocflpdlcaaGreatZT05
import Derived.Test.YtnfhlocflpdlcaaGreatZT06
import Derived.Deep.RegionLaw
import Derived.Deep.DeepCutAuto
/-
  tag's reader of numbers (the closure of Read). Conditions: a row that is read.
-/
namespace Go.Proofs.YtnfhlocflpdlcaaGreat
open Go.RowKit

/-- A reader, and what is left of its bytes. -/
def RD (w : World) (g : Nat) (l : List Nat) : Prop := ∃ a c, Blk w g 56 #[.slice a l.length c] ∧ BRow w a l ∧ l.length ≤ c ∧ c ≤ maxLen ∧ ∀ ad, a = some ad → ad.block < g

theorem block_add (a : Addr) (n : Nat) : (a.add n).block = a.block := by unfold Addr.add; split <;> rfl
theorem BRow.dropped {w : World} {a : Option Addr} {l : List Nat} (h : BRow w a l) (n : Nat) : BRow w (Option.map (fun x => x.add n) a) (l.drop n) := by
  rcases h.at_ with rfl | ⟨b, o, rfl, h1⟩
  · simpa using BRow.nil w _
  · rw [Option.map_some, add_plain]
    exact h.drop n
theorem BRow.set_reader {w : World} {g : Nat} {v u : Value} {a : Option Addr} {m : List Nat} (hm : BRow w a m) (hb : Blk w g 56 #[v]) (hv : ∀ n, v ≠ vb n) : BRow (w.setCell ⟨g, 0, none⟩ u) a m := by
  refine ⟨hm.small, ?_⟩
  rcases hm.at_ with h0 | ⟨b, o, rfl, h1⟩
  · exact .inl h0
  · by_cases hbg : b = g
    · refine .inl ?_
      subst hbg
      rcases m with _ | ⟨x, m⟩
      · rfl
      · have h2 := h1 0 (by simp)
        rw [hb.cell] at h2
        rcases o with _ | o
        · simp at h2
          exact absurd h2 (hv x)
        · simp at h2
    · refine .inr ⟨b, o, rfl, fun i hi => ?_⟩
      rw [World.cell?_setCell_other _ _ _ _ (fun e => hbg (by injection e with e1; exact e1.symm))]
      exact h1 i hi
/-- The reader's cell turned to what is left. -/
theorem RD.turn {w : World} {g n c : Nat} {a : Option Addr} {l : List Nat} (hb : Blk w g 56 #[.slice a l.length c]) (hr : BRow w a l) (hn : n ≤ l.length) (hc : l.length ≤ c) (hm : c ≤ maxLen) (ho : ∀ ad, a = some ad → ad.block < g) {u : Value}
    (hu : (c = n ∧ u = .slice a (l.length - n) 0) ∨ u = .slice (Option.map (fun x => x.add n) a) (l.length - n) (c - n)) :
    BRow (w.setCell ⟨g, 0, none⟩ u) a (l.take n) ∧ RD (w.setCell ⟨g, 0, none⟩ u) g (l.drop n) ∧ w.grownBy (w.setCell ⟨g, 0, none⟩ u) (some g) := by
  have hset := hb.set_ 0 u
  refine ⟨(hr.take n).set_reader hb (by simp), ?_, ⟨rfl, rfl, rfl, by simp [World.setCell], fun k _ hne => Below.heap_setCell w _ u k (fun e => hne (by rw [e]))⟩⟩
  rcases hu with ⟨rfl, rfl⟩ | rfl
  · have e : l.drop c = [] := List.drop_eq_nil_of_le hc
    refine ⟨a, 0, ?_, by rw [e]; exact BRow.nil _ _, by rw [e]; exact Nat.le_refl _, Nat.zero_le _, ho⟩
    rw [List.length_drop]
    exact hset
  · refine ⟨_, c - n, ?_, (hr.dropped n).set_reader hb (by simp), by rw [List.length_drop]; omega, by omega, fun ad hd => ?_⟩
    · rw [List.length_drop]
      exact hset
    · cases a with
      | none => cases hd
      | some a0 =>
        injection hd with hd
        subst hd
        rw [block_add]
        exact ho a0 rfl


theorem or_more (z x : Nat) (hz : z < 72057594037927936) (hx : x < 256) : bits .or .u64 (IntKind.u64.wrap ((z : Int) * 256)) (x : Int) = ((x + 256 * z : Nat) : Int) := by
  have e : IntKind.u64.wrap ((z : Int) * 256) = ((z * 256 : Nat) : Int) := by
    simp only [IntKind.wrap, IntKind.bits, IntKind.signed]
    simp
    omega
  rw [e, u64_or_nat _ _ (by omega) (by omega), nat_join 8 (z * 256) x (by omega) (by omega)]
  congr 1
  omega
theorem or_more' (z x : Nat) (hz : z < 72057594037927936) (hx : x < 256) : bits .or .u64 ((z : Int) * 256) (x : Int) = ((x + 256 * z : Nat) : Int) := by
  rw [show (z : Int) * 256 = ((z * 256 : Nat) : Int) by simp, u64_or_nat _ _ (by omega) (by omega), nat_join 8 (z * 256) x (by omega) (by omega)]
  congr 1
  omega
theorem num_drop {l : List Nat} {j : Nat} (hj : j < l.length) : HP.num (l.drop j) = l.getD j 0 + 256 * HP.num (l.drop (j + 1)) := by
  rw [List.drop_eq_getElem_cons hj, HP.num]
  simp [List.getD, hj, Nat.mul_comm]
theorem num_drop_lt {l : List Nat} (h : ∀ y ∈ l, y < 256) {j : Nat} (hl : l.length ≤ 8) (hj : 0 < j) : HP.num (l.drop j) < 72057594037927936 := by
  have h1 := HP.num_lt (l.drop j) (fun y hy => h y (List.mem_of_mem_drop hy))
  have h2 : 256 ^ (l.drop j).length ≤ 256 ^ 7 := Nat.pow_le_pow_right (by omega) (by rw [List.length_drop]; omega)
  omega
set_option maxHeartbeats 2000000 in
theorem take_any (g k : Nat) (l : List Nat) (w : World) (h : RD w g l) (hk : k ≤ l.length) (hk8 : k ≤ 8) :
    Calls Tryz.prog 168 #[vi k, .pointer (some ⟨g, 0, none⟩)] w fun e w' => e = .returned (vq (HP.num (l.take k))) ∧ RD w' g (l.drop k) ∧ w.grownBy w' (some g) := by
  obtain ⟨a, c, hb, hr, hc, hm, ho⟩ := h
  have g0 : w.cell? ⟨g, 0, none⟩ = some (.slice a l.length c) := hb.cell 0
  have f0 := hb.frozen 0
  have HB := Lib.hid hb
  have HR := Lib.hid hr
  have HO := Lib.hid ho
  have HT : Hid ((l.take k).length = k ∧ ∀ y ∈ l.take k, y < 256) := Lib.hid ⟨by rw [List.length_take]; omega, fun y hy => hr.small y (List.mem_of_mem_take hy)⟩
  clear hb hr ho
  go_enter Tryz.func168, Tryz.ntmps168
  go_wp2_with fail
  go_loop [4, 5] (fun x i => ∃ j z : Nat, j ≤ k ∧ i = vi ((j : Int) - 1) ∧ x = vq z ∧ Hid (z = HP.num ((l.take k).drop j))) (fun _ i => (intOf i + 1).toNat)
  case atStart => exact ⟨k, 0, Nat.le_refl _, by go_num, rfl, Lib.hid (by rw [List.drop_eq_nil_of_le (by rw [HT.out.1]; exact Nat.le_refl _)]; rfl)⟩
  case round =>
    obtain ⟨j, z, hj, rfl, rfl, hz⟩ := hrel
    by_cases h0 : 0 < j
    · have hjl : j - 1 < l.length := by omega
      obtain ⟨b, o, rfl, hcell, hsm⟩ := HR.out.lookup hjl
      have HX : Hid (HP.num ((l.take k).drop (j - 1)) = l.getD (j - 1) 0 + 256 * z) := Lib.hid (by
        rw [num_drop (by rw [HT.out.1]; omega), hz.out, show j - 1 + 1 = j by omega]
        congr 1
        simp only [List.getD_eq_getElem?_getD, List.getElem?_take]
        rw [if_pos (by omega)])
      have hzl : z < 72057594037927936 := by rw [hz.out]; exact num_drop_lt HT.out.2 (by rw [HT.out.1]; exact hk8) h0
      have hor := or_more z _ hzl hsm
      have hor' := or_more' z _ hzl hsm
      have hi : ((j : Int) - 1).toNat = j - 1 := by omega
      have hi0 : (0 : Int) ≤ (j : Int) - 1 := by omega
      have hi1 : (j : Int) - 1 < (l.length : Int) := by omega
      generalize l.getD (j - 1) 0 = x at hcell hsm HX hor hor'
      clear HT
      go_wp2_with fail
      go_round
      case rel => exact ⟨j - 1, x + 256 * z, by omega, by go_num, by go_num, Lib.hid (by rw [HX.out])⟩
      case measure => simp [intOf]; omega
    · obtain rfl : j = 0 := by omega
      have HZ := hz
      go_wp2_with fail
      all_goals go_ret
      all_goals refine ⟨by have := HZ.out; rw [List.drop_zero] at this; rw [this]; rfl, ?_⟩
      all_goals exact (RD.turn HB.out HR.out hk hc hm HO.out (by first | exact .inr rfl | exact .inl ⟨by assumption, rfl⟩ | exact .inl ⟨rfl, rfl⟩)).2

theorem tag_box {w w' : World} {t : TP.Tag} (h : Blk w' w.heap.size 202 #[vi t.kind, vw t.page, vq t.seq, vq t.epoch]) : w'.cell? ⟨w.heap.size, 0, none⟩ = some (vi t.kind) ∧ w'.cell? ⟨w.heap.size, 1, none⟩ = some (vw t.page) ∧ w'.cell? ⟨w.heap.size, 2, none⟩ = some (vq t.seq) ∧ w'.cell? ⟨w.heap.size, 3, none⟩ = some (vq t.epoch) :=
  ⟨h.cell 0, h.cell 1, h.cell 2, h.cell 3⟩
theorem kind_wrap (k : Int) : k % 256 = ((TP.kindB k : Nat) : Int) := by
  unfold TP.kindB
  omega
theorem right_small {t : TP.Tag} (h : TP.right t = true) : t.page < 8192 ∧ t.seq < 4611686018427387904 ∧ t.epoch < 4611686018427387904 := by
  unfold TP.right at h
  simp only [Bool.and_eq_true, decide_eq_true_eq] at h
  obtain ⟨⟨⟨⟨⟨_, h1⟩, _⟩, h2⟩, _⟩, h3⟩ := h
  exact ⟨h1, h2, h3⟩
theorem sized_le {n : Int} (h : TP.sized n = true) : 64 ≤ n ∧ n ≤ 512 := by
  unfold TP.sized at h
  simp only [Bool.or_eq_true, beq_iff_eq] at h
  omega
set_option maxRecDepth 100000 in
set_option maxHeartbeats 4000000 in
theorem tWrite_any (t : TP.Tag) (a : Option Addr) (p : List Nat) (c : Nat) (w : World) (h : BRow w a p) (hl : p.length ≤ 900000) :
    Calls Tryz.prog 191 #[vtag t, .slice a p.length c] w fun e w' => ∃ v, e = .returned (.tuple #[v, vi (TP.write t p).2]) ∧ Own w' w.heap.size v (TP.write t p).1 ∧ Below w.heap.size w w' := by
  obtain ⟨kd, pg, sq, ep⟩ := t
  have HD : Hid (TP.write ⟨kd, pg, sq, ep⟩ p = if TP.right ⟨kd, pg, sq, ep⟩ && TP.sized p.length then (TP.bytes ⟨kd, pg, sq, ep⟩ p, 0) else ([], 1)) := Lib.hid rfl
  have F0 : Hid (Blk (w.alloc (.cells #[vi kd, vw pg, vq sq, vq ep] 202)) w.heap.size 202 #[vi kd, vw pg, vq sq, vq ep]) := Lib.hid (Blk.new _ _ _)
  have HB : Hid (Below w.heap.size w (w.alloc (.cells #[vi kd, vw pg, vq sq, vq ep] 202))) := Lib.hid ((Below.refl _ _).alloc (Nat.le_refl _) _)
  have HR := Lib.hid (h.below HB.out)
  have HSP := Lib.hid h.small
  clear h
  go_enter Tryz.func191, Tryz.ntmps191
  go_wp2_with fail
  generalize w.alloc (.cells #[vi kd, vw pg, vq sq, vq ep] 202) = w0 at *
  refine (tRight_any ⟨kd, pg, sq, ep⟩ _).mono ?_
  rintro e w1 ⟨rfl, hb1⟩
  have HB1 := Lib.hid (HB.out.trans (hb1.mono HB.out.size))
  have F1 := Lib.hid (F0.out.old hb1)
  have HR1 := Lib.hid (HR.out.below hb1)
  clear hb1 HB F0 HR
  cases hrt : TP.right ⟨kd, pg, sq, ep⟩
  · rw [hrt] at HD
    go_wp2_with fail
    go_ret2
    rw [HD.out]
    exact ⟨_, rfl, Own.nil _ _, HB1.out⟩
  · rw [hrt] at HD
    go_wp2_with fail
    refine (sized_any _ _).mono ?_
    rintro e w' ⟨rfl, rfl⟩
    cases hsz : TP.sized p.length
    · rw [hsz] at HD
      go_wp2_with fail
      go_ret2
      rw [HD.out]
      exact ⟨_, rfl, Own.nil _ _, HB1.out⟩
    · rw [hsz] at HD
      obtain ⟨h1, h2, h3⟩ := right_small hrt
      have hse := sized_le hsz
      dsimp only at h1 h2 h3
      have HD2 : Hid (TP.write ⟨kd, pg, sq, ep⟩ p = (TP.head ⟨kd, pg, sq, ep⟩ p ++ HP.le 4 (HP.sum (TP.head ⟨kd, pg, sq, ep⟩ p)) ++ HP.le 4 0, 0)) := HD
      obtain ⟨i0, hi, hz0, hz1, hz2⟩ := info_parts byte_info
      obtain ⟨wm, hmk, hom, hgm⟩ := run_make_own (P := Tryz.prog) w' w.heap.size 56 5 i0 _ 1 Tryz.underlying56 hi hz0 hz1 .i64 .i64 (p.length + 32) (by rw [hz2]; omega) (by unfold maxLen; omega) HB1.out.size
      rw [show ((p.length + 32 : Nat) : Int) = (p.length : Int) + 32 by simp] at hmk
      have HO : Hid (Own wm w.heap.size (.slice (some ⟨w'.heap.size, 0, none⟩) 0 (p.length + 32)) []) := Lib.hid hom
      have hbm : Below w'.heap.size w' wm := (Below.refl _ _).grown hgm (Nat.le_refl _) (fun k hk => by cases hk)
      have HBm := Lib.hid (HB1.out.trans (hbm.mono HB1.out.size))
      have Fm := Lib.hid (F1.out.old hbm)
      have HRm := Lib.hid (HR1.out.below hbm)
      clear hom hgm hbm HB1 F1 HR1 hi hz0 hz1 hz2
      obtain ⟨v1, wa, hr1, ho1, hs1⟩ := append_bytes (c := c) HO.out HRm.out (by simp; omega) HBm.out.size
      have HO1 := Lib.hid ho1
      have RA : AppRun 56 56 56 (.slice (some ⟨w'.heap.size, 0, none⟩) 0 (p.length + 32)) (.slice a p.length c) wm v1 wa := ⟨hr1⟩
      have HS1 := Lib.hid ((Stp.of_below HBm.out (Nat.le_refl _)).trans hs1)
      have Fa := Lib.hid (hs1.blk _ _ _ (by decide) Fm.out)
      clear ho1 hr1 hs1 HO HRm HBm Fm
      have hwa := HS1.out.size
      have hkd := kind_wrap kd
      have hk256 := TP.kindB_lt kd
      obtain ⟨v2, wb, hr2, ho2, hs2⟩ := append_new HO1.out [67, 85, TP.kindB kd, 0] (by simp; omega) rfl rfl (cs := #[.int .u8 67, .int .u8 85, .int .u8 (kd % 256), .int .u8 0]) (by rw [hkd]; rfl) (by simp; omega) hwa
      have HO2 := Lib.hid ho2
      have RB : AppRun 56 56 56 v1 (.slice (some ⟨wa.heap.size, 0, none⟩) 4 4) (wa.alloc (.cells #[.int .u8 67, .int .u8 85, .int .u8 (kd % 256), .int .u8 0] 5)) v2 wb := ⟨hr2⟩
      have HS2 := Lib.hid (HS1.out.trans hs2)
      have Fb := Lib.hid (hs2.blk _ _ _ (by decide) Fa.out)
      obtain ⟨d0, d1, d2, d3⟩ := tag_box (t := ⟨kd, pg, sq, ep⟩) Fa.out
      obtain ⟨e0, e1, e2, e3⟩ := tag_box (t := ⟨kd, pg, sq, ep⟩) Fb.out
      clear ho2 hr2 hs2 HO1 HS1 hkd hk256 hwa
      go_wp2_with (at_builtin; first | refine wpList_append_run rfl (.tmp 20) (.tmp 21) rfl rfl rfl RA.run ?_ | refine wpList_append_run rfl (.tmp 23) (.tmp 27) rfl rfl rfl RB.run ?_)
      refine (tput_any w.heap.size v2 _ pg 4 _ HO2.out HS2.out.size (by omega) (by simp; omega) (by decide)).mono ?_
      rintro e wc ⟨v3, rfl, ho3, hs3⟩
      have HO3 := Lib.hid ho3
      have HS3 := Lib.hid (HS2.out.trans hs3)
      have Fc := Lib.hid (hs3.blk _ _ _ (by decide) Fb.out)
      clear d0 d1 d2 d3 e0 e1 e2 e3 HO2 HS2 Fb Fa RA RB ho3 hs3
      obtain ⟨d0, d1, d2, d3⟩ := tag_box (t := ⟨kd, pg, sq, ep⟩) Fc.out
      go_wp2_with fail
      refine (tput_any w.heap.size v3 _ sq 8 _ HO3.out HS3.out.size (by omega) (by simp [HP.le_length]; omega) (by decide)).mono ?_
      rintro e wd ⟨v4, rfl, ho4, hs4⟩
      have HO4 := Lib.hid ho4
      have HS4 := Lib.hid (HS3.out.trans hs4)
      have Fd := Lib.hid (hs4.blk _ _ _ (by decide) Fc.out)
      clear d0 d1 d2 d3 HO3 HS3 Fc ho4 hs4
      obtain ⟨d0, d1, d2, d3⟩ := tag_box (t := ⟨kd, pg, sq, ep⟩) Fd.out
      go_wp2_with fail
      refine (tput_any w.heap.size v4 _ ep 8 _ HO4.out HS4.out.size (by omega) (by simp [HP.le_length]; omega) (by decide)).mono ?_
      rintro e we ⟨v5, rfl, ho5, hs5⟩
      have HS5 := Lib.hid (HS4.out.trans hs5)
      have hhead : [] ++ p ++ [67, 85, TP.kindB kd, 0] ++ HP.le 4 pg ++ HP.le 8 sq ++ HP.le 8 ep = TP.head ⟨kd, pg, sq, ep⟩ p := by simp [TP.head]
      rw [hhead] at ho5
      have HSM := Lib.hid (TP.head_small (t := ⟨kd, pg, sq, ep⟩) HSP.out)
      obtain ⟨a5, c5, rfl, hr5, _⟩ := ho5.row HSM.out
      have HO5 := Lib.hid ho5
      have HR5 := Lib.hid hr5
      have HHL := Lib.hid (TP.head_length ⟨kd, pg, sq, ep⟩ p)
      clear d0 d1 d2 d3 HO4 HS4 Fd ho5 hs5 hhead hr5
      go_wp2_with fail
      have HL9 : Hid ((TP.head ⟨kd, pg, sq, ep⟩ p).length ≤ 9000000 ∧ (TP.head ⟨kd, pg, sq, ep⟩ p).length + 8 ≤ 1000000) := Lib.hid ⟨by rw [HHL.out]; omega, by rw [HHL.out]; omega⟩
      have hsum := HP.sum_lt (TP.head ⟨kd, pg, sq, ep⟩ p)
      have HCS := CSum_any a5 (TP.head ⟨kd, pg, sq, ep⟩ p) c5 we HR5.out HL9.out.1
      generalize TP.head ⟨kd, pg, sq, ep⟩ p = hd at *
      generalize HP.sum hd = sm at *
      refine HCS.mono ?_
      rintro e wf ⟨rfl, rfl⟩
      go_wp2_with fail
      refine (tput_any w.heap.size _ _ sm 4 _ HO5.out HS5.out.size (by omega) (by have := HL9.out; omega) (by decide)).mono ?_
      rintro e wg ⟨v6, rfl, ho6, hs6⟩
      have HO6 := Lib.hid ho6
      have HS6 := Lib.hid (HS5.out.trans hs6)
      clear HO5 HS5 HR5 ho6 hs6
      go_wp2_with fail
      refine (tput_any w.heap.size v6 _ 0 4 _ HO6.out HS6.out.size (by omega) (by rw [List.length_append, HP.le_length]; have := HL9.out; omega) (by decide)).mono ?_
      rintro e wh ⟨v7, rfl, ho7, hs7⟩
      have HO7 := Lib.hid ho7
      have HS7 := Lib.hid (HS6.out.trans hs7)
      clear HO6 HS6 ho7 hs7
      go_wp2_with fail
      go_ret2
      rw [HD2.out]
      exact ⟨_, rfl, HO7.out, HS7.out.below⟩

theorem read_result {w' : World} {g : Nat} {v0 v1 v2 v3 r : Value} {n : Int} (hb : Blk w' g 202 #[v0, v1, v2, v3]) (tmps : Array Value) (h2 : tmps[2]? = some (.pointer (some ⟨g, 0, none⟩))) (h3 : tmps[3]? = some r) (h4 : tmps[4]? = some (vi n)) :
    (results Tryz.f127 tmps).run Tryz.prog w' = .ok (.tuple #[.agg #[v0, v1, v2, v3], r, vi n]) w' := by
  have g0 : w'.cell? ⟨g, 0, none⟩ = some v0 := hb.cell 0
  have g1 : w'.cell? ⟨g, 1, none⟩ = some v1 := hb.cell 1
  have g2 : w'.cell? ⟨g, 2, none⟩ = some v2 := hb.cell 2
  have g3 : w'.cell? ⟨g, 3, none⟩ = some v3 := hb.cell 3
  simp only [results, Tryz.results127]
  simp [go_sem, h2, h3, h4, g0, g1, g2, g3]
theorem tag_fill {w W : World} {g : Nat} {u0 u1 u2 u3 : Value} (v0 v1 v2 v3 : Value) (hb : Blk W g 202 #[u0, u1, u2, u3]) (hw : Below w.heap.size w W) (hg : w.heap.size ≤ g) :
    Blk ((((W.setCell ⟨g, 0, none⟩ v0).setCell ⟨g, 1, none⟩ v1).setCell ⟨g, 2, none⟩ v2).setCell ⟨g, 3, none⟩ v3) g 202 #[v0, v1, v2, v3] ∧
      Below w.heap.size w ((((W.setCell ⟨g, 0, none⟩ v0).setCell ⟨g, 1, none⟩ v1).setCell ⟨g, 2, none⟩ v2).setCell ⟨g, 3, none⟩ v3) := by
  refine ⟨(((hb.set_ 0 v0).set_ 1 v1).set_ 2 v2).set_ 3 v3, ?_⟩
  exact (((hw.setCell hg v0).setCell hg v1).setCell hg v2).setCell hg v3
theorem num_take_lt {l : List Nat} (h : ∀ y ∈ l, y < 256) (m k : Nat) : HP.num ((l.drop m).take k) < 256 ^ k := by
  have h1 := HP.num_lt ((l.drop m).take k) (fun y hy => h y (List.mem_of_mem_drop (List.mem_of_mem_take hy)))
  exact Nat.lt_of_lt_of_le h1 (Nat.pow_le_pow_right (by omega) (by rw [List.length_take]; omega))
theorem tag_no (a b c d : Nat) : ∀ j n : Nat, (#[vi a, vw b, vq c, vq d] : Array Value)[j]? ≠ some (vb n) := by
  intro j n
  match j with
  | 0 => simp
  | 1 => simp
  | 2 => simp
  | 3 => simp
  | j + 4 => simp
theorem step_appT {w w' : World} {ops : Array Oper} {o : Oper} {a : Act} {K : Act → World → Prop} {Q : Exit → Act → World → Prop} {E : Prop} (s x : Operand) {t u : TypeId} {v src v' : Value}
    (hrun : AppRun t u o.type v src w v' w') (hgd : o.guard = none) (ho : o.op = .call { callee := .builtin .append, args := #[s, x], argTypes := #[t, u] }) (hs : a.eval s = v) (hx : a.eval x = src) (h : K (a.put o.dst v') w') : if Region.wanted o (yielded ops a.tmps) = true then Oper.wp Tryz.prog o a w K Q else E :=
  step_append_run hgd s x ho hs hx hrun.run h
/-- What stands while the numbers are taken. -/
structure TRd (w W : World) (g bb oo : Nat) (b l : List Nat) : Prop where
  f : Blk W w.heap.size 202 #[vi 0, vw 0, vq 0, vq 0]
  below : Below w.heap.size w W
  rd : RD W g l
  row : BRow W (some ⟨bb, oo, none⟩) b
  lt : w.heap.size < g
  bg : bb < g
theorem TRd.step {w W W' : World} {g bb oo : Nat} {b l l' : List Nat} (h : TRd w W g bb oo b l) (hr : RD W' g l') (hg : W.grownBy W' (some g)) : TRd w W' g bb oo b l' :=
  ⟨h.f.grown hg (by have := h.lt; simp; omega), h.below.grown hg h.below.size (fun k hk => by injection hk with hk; have := h.lt; omega), hr, h.row.grown hg (by have := h.bg; simp; omega), h.lt, h.bg⟩
theorem RD.old {W W' : World} {g : Nat} {l : List Nat} (h : RD W g l) (hb : Below W.heap.size W W') : RD W' g l := by
  obtain ⟨a, c, h1, h2, h3⟩ := h
  exact ⟨a, c, h1.old hb, h2.below hb, h3⟩
theorem TRd.old {w W W' : World} {g bb oo : Nat} {b l : List Nat} (h : TRd w W g bb oo b l) (hb : Below W.heap.size W W') : TRd w W' g bb oo b l :=
  ⟨h.f.old hb, h.below.trans (hb.mono h.below.size), h.rd.old hb, h.row.below hb, h.lt, h.bg⟩
theorem RD.set_far {W : World} {g q j : Nat} {l : List Nat} {u : Value} {cs : Array Value} (h : RD W g l) (hq : Blk W q 202 cs) (hv : ∀ j n : Nat, cs[j]? ≠ some (vb n)) : RD (W.setCell ⟨q, j, none⟩ u) g l := by
  obtain ⟨a, c, h1, h2, h3⟩ := h
  have hne : g ≠ q := by
    intro e
    subst e
    unfold Blk at h1 hq
    rw [h1] at hq
    injection hq with hq
    injection hq with _ hq
    exact absurd hq (by decide)
  exact ⟨a, c, h1.far (p := ⟨q, j, none⟩) hne u, h2.set_far hq hv, h3⟩
/-- A tag of its own is written to. -/
theorem TRd.set {w W : World} {g bb oo q j : Nat} {b l : List Nat} {u : Value} {cs : Array Value} (h : TRd w W g bb oo b l) (hq : Blk W q 202 cs) (hv : ∀ j n : Nat, cs[j]? ≠ some (vb n)) (hn : w.heap.size < q) : TRd w (W.setCell ⟨q, j, none⟩ u) g bb oo b l :=
  ⟨h.f.far (p := ⟨q, j, none⟩) (by dsimp only; omega) u, h.below.setCell (p := ⟨q, j, none⟩) (by dsimp only; omega) u, h.rd.set_far hq hv, h.row.set_far hq hv, h.lt, h.bg⟩
theorem RD.len {W : World} {g : Nat} {l : List Nat} (h : RD W g l) : ∀ y ∈ l, y < 256 := by
  obtain ⟨a, c, h1, h2, h3⟩ := h
  exact h2.small
theorem Own.far {w : World} {base g j : Nat} {v u : Value} {l : List Nat} {t : TypeId} {cs : Array Value} (h : Own w base v l) (hg : Blk w g t cs) (ht : t ≠ 5) : Own (w.setCell ⟨g, j, none⟩ u) base v l :=
  World.ownsRow.kept h (row := some g) ⟨rfl, rfl, rfl, by simp [World.setCell], fun k _ hk => Below.heap_setCell w _ u k (fun e => hk (by rw [e]))⟩ (.inr (own_blk_ne h hg ht).symm)
theorem Own.tag_far {w : World} {base g : Nat} {v v0 v1 v2 v3 u0 u1 u2 u3 : Value} {l : List Nat} (h : Own w base v l) (hb : Blk w g 202 #[u0, u1, u2, u3]) :
    Own ((((w.setCell ⟨g, 0, none⟩ v0).setCell ⟨g, 1, none⟩ v1).setCell ⟨g, 2, none⟩ v2).setCell ⟨g, 3, none⟩ v3) base v l :=
  (((h.far hb (by decide)).far (hb.set_ 0 v0) (by decide)).far ((hb.set_ 0 v0).set_ 1 v1) (by decide)).far (((hb.set_ 0 v0).set_ 1 v1).set_ 2 v2) (by decide)
def TRPost (b : List Nat) (w : World) (e : Ending) (w' : World) : Prop := ∃ v, e = .returned (.tuple #[vtag (TP.read b).1, v, vi (TP.read b).2.2]) ∧ Own w' w.heap.size v (TP.read b).2.1 ∧ Below w.heap.size w w'
theorem TRPost.none {b : List Nat} {w w' : World} {n : Int} (h : TP.read b = (TP.zero, [], n)) (hb : Below w.heap.size w w') : TRPost b w (.returned (.tuple #[.agg #[vi 0, vw 0, vq 0, vq 0], .slice none 0 0, vi n])) w' := by
  unfold TRPost
  rw [h]
  exact ⟨_, rfl, Own.nil _ _, hb⟩
set_option maxRecDepth 100000 in
set_option maxHeartbeats 4000000 in
theorem tRead_any (a : Option Addr) (b : List Nat) (c : Nat) (w : World) (h : BRow w a b) (hc : b.length ≤ c) (hm : c ≤ maxLen) : Calls Tryz.prog 127 #[.slice a b.length c] w (TRPost b w) := by
  have HD : Hid (TP.read b = if TP.sized ((b.length : Int) - 32) = false then (TP.zero, [], 1) else if TP.ones b then (TP.zero, [], 20) else
    if TP.goodB b (b.drop (b.length - 32)) (b.length - 32) then (TP.tagOf (b.drop (b.length - 32)), b.take (b.length - 32), 0) else (TP.zero, [], 21)) := Lib.hid rfl
  have F0 : Hid (Blk (w.alloc (.cells #[vi 0, vw 0, vq 0, vq 0] 202)) w.heap.size 202 #[vi 0, vw 0, vq 0, vq 0]) := Lib.hid (Blk.new _ _ _)
  have HB : Hid (Below w.heap.size w (w.alloc (.cells #[vi 0, vw 0, vq 0, vq 0] 202))) := Lib.hid ((Below.refl _ _).alloc (Nat.le_refl _) _)
  have HR := Lib.hid (h.below HB.out)
  clear h
  have hml : maxLen = 9223372036854775807 := rfl
  have HM := Lib.hid hml
  rw [hml] at hm
  clear hml
  by_cases h32 : b.length < 32
  · have hlt : (b.length : Int) - 32 < 0 := by omega
    have hs : TP.sized ((b.length : Int) - 32) = false := by
      cases hq : TP.sized ((b.length : Int) - 32)
      · rfl
      · have := sized_le hq; omega
    rw [if_pos hs] at HD
    go_enter Tryz.func127, Tryz.ntmps127
    go_upto_region 2 with fail
    generalize w.alloc (.cells #[vi 0, vw 0, vq 0, vq 0] 202) = w0 at *
    obtain ⟨d0, d1, d2, d3⟩ := tag_box (t := TP.zero) F0.out
    have f0 := F0.out.frozen 0
    have f1 := F0.out.frozen 1
    have f2 := F0.out.frozen 2
    have f3 := F0.out.frozen 3
    go_wp2_with fail
    obtain ⟨hf, hw⟩ := tag_fill (vi 0) (vw 0) (vq 0) (vq 0) F0.out HB.out (Nat.le_refl _)
    exact bodyPost_ret (read_result hf _ rfl rfl rfl) rfl (TRPost.none HD.out hw)
  · obtain ⟨n, hn⟩ : ∃ n, b.length = n + 32 := ⟨b.length - 32, by omega⟩
    have HN := Lib.hid hn
    have HER := erased_any a b c (w.alloc (.cells #[vi 0, vw 0, vq 0, vq 0] 202)) HR.out
    rw [hn] at HER hc HD
    rw [show ((n + 32 : Nat) : Int) - 32 = n by omega, show n + 32 - 32 = n by omega] at HD
    rw [hn]
    clear hn h32
    go_enter Tryz.func127, Tryz.ntmps127
    go_upto_region 2 with fail
    generalize w.alloc (.cells #[vi 0, vw 0, vq 0, vq 0] 202) = w0 at *
    obtain ⟨d0, d1, d2, d3⟩ := tag_box (t := TP.zero) F0.out
    have f0 := F0.out.frozen 0
    have f1 := F0.out.frozen 1
    have f2 := F0.out.frozen 2
    have f3 := F0.out.frozen 3
    go_wp2_with fail
    refine (sized_any _ _).mono ?_
    rintro e w' ⟨rfl, rfl⟩
    cases hsz : TP.sized n
    · rw [hsz] at HD
      go_wp2_with fail
      obtain ⟨hf, hw⟩ := tag_fill (vi 0) (vw 0) (vq 0) (vq 0) F0.out HB.out (Nat.le_refl _)
      exact bodyPost_ret (read_result hf _ rfl rfl rfl) rfl (TRPost.none HD.out hw)
    · rw [hsz] at HD
      have hse := sized_le hsz
      have HER2 := Lib.hid (HER (by omega))
      clear HER
      go_wp2_with fail
      refine HER2.out.mono ?_
      rintro e w1 ⟨rfl, rfl⟩
      clear HER2
      cases hone : TP.ones b
      · rw [hone] at HD
        have HDD : Hid (TP.read b = if TP.goodB b (b.drop n) n then (TP.tagOf (b.drop n), b.take n, 0) else (TP.zero, [], 21)) := HD
        clear HD
        have hb0 : 0 < b.length := by rw [HN.out]; omega
        obtain ⟨bb, oo, rfl, hcell, _⟩ := HR.out.lookup hb0
        have hbb := cell_lt hcell
        clear hcell hb0
        have hcn : ¬ c = n := by omega
        clear d0 d1 d2 d3 f0 f1 f2 f3
        go_upto_region 7 with fail
        have hdl : (b.drop n).length = 32 := by rw [List.length_drop, HN.out]; omega
        have T1 : Hid (TRd w (w1.alloc (.cells #[.slice (some ⟨bb, oo + n, none⟩) 32 (c - n)] 56)) w1.heap.size bb oo b (b.drop n)) := Lib.hid
          ⟨F0.out.alloc _, HB.out.alloc HB.out.size _, ⟨some ⟨bb, oo + n, none⟩, c - n, by rw [hdl]; exact Blk.new _ _ _, (HR.out.drop n).below ((Below.refl _ _).alloc (Nat.le_refl _) _), by rw [hdl]; omega, by rw [HM.out]; omega,
            fun ad e => by injection e with e; rw [← e]; exact hbb⟩, HR.out.below ((Below.refl _ _).alloc (Nat.le_refl _) _), F0.out.lt, hbb⟩
        clear F0 HB HR hbb hcn
        generalize w1.alloc (.cells #[.slice (some ⟨bb, oo + n, none⟩) 32 (c - n)] 56) = w2 at *
        generalize w1.heap.size = g at *
        have HDL := Lib.hid hdl
        clear hdl
        obtain ⟨r, hr0⟩ : ∃ r, r = b.drop n := ⟨_, rfl⟩
        have HRD := Lib.hid hr0
        rw [← hr0] at HDD HDL T1
        clear hr0
        have hsml := T1.out.rd.len
        have HSM := Lib.hid hsml
        clear hsml
        go_wp2_with fail
        refine (take_any g 2 r _ T1.out.rd (by rw [HDL.out]; omega) (by omega)).mono ?_
        rintro e w3 ⟨rfl, hr, hg⟩
        have T2 := Lib.hid (T1.out.step hr hg)
        generalize hx : HP.num (r.take 2) = x0
        have X0 := Lib.hid hx
        clear hr hg hx T1
        go_wp2_with fail
        refine (take_any g 1 _ _ T2.out.rd (by rw [List.length_drop, HDL.out]; omega) (by omega)).mono ?_
        rintro e w4 ⟨rfl, hr, hg⟩
        rw [List.drop_drop] at hr
        have T3 := Lib.hid (T2.out.step hr hg)
        have hb1 := num_take_lt HSM.out 2 1
        generalize hx : HP.num ((r.drop 2).take 1) = x1 at *
        have X1 := Lib.hid hx
        clear hr hg hx T2
        go_wp2_with fail
        refine (take_any g 1 _ _ T3.out.rd (by rw [List.length_drop, HDL.out]; omega) (by omega)).mono ?_
        rintro e w5 ⟨rfl, hr, hg⟩
        rw [List.drop_drop] at hr
        have T4 := Lib.hid (T3.out.step hr hg)
        generalize hx : HP.num ((r.drop (2 + 1)).take 1) = x3
        have X3 := Lib.hid hx
        have hw1 : wrap64 (x1 : Int) = x1 := by unfold wrap64; omega
        clear hr hg hx T3
        go_wp2_with fail
        refine (take_any g 4 _ _ T4.out.rd (by rw [List.length_drop, HDL.out]; omega) (by omega)).mono ?_
        rintro e w6 ⟨rfl, hr, hg⟩
        rw [List.drop_drop] at hr
        have T5 := Lib.hid (T4.out.step hr hg)
        have hb4 := num_take_lt HSM.out (2 + 1 + 1) 4
        generalize hx : HP.num ((r.drop (2 + 1 + 1)).take 4) = x4 at *
        have X4 := Lib.hid hx
        have hw4 : (x4 : Int) % 4294967296 = x4 := by omega
        clear hr hg hx T4
        go_upto_region 10 with fail
        have T6 : Hid (TRd w (w6.alloc (.cells #[vi x1, vw x4, vq 0, vq 0] 202)) g bb oo b (r.drop (2 + 1 + 1 + 4))) := Lib.hid (T5.out.old ((Below.refl _ _).alloc (Nat.le_refl _) _))
        have G6 : Hid (Blk (w6.alloc (.cells #[vi x1, vw x4, vq 0, vq 0] 202)) w6.heap.size 202 #[vi x1, vw x4, vq 0, vq 0]) := Lib.hid (Blk.new _ _ _)
        have HLT : Hid (w.heap.size < w6.heap.size) := Lib.hid T5.out.f.lt
        have HGH : Hid (some w6.heap.size ≠ some g) := Lib.hid (fun e => by
          injection e with e
          obtain ⟨_, _, hq, _⟩ := T5.out.rd
          have := hq.lt; omega)
        clear T5 hw1 hw4
        generalize (w6.alloc (.cells #[vi x1, vw x4, vq 0, vq 0] 202)) = w7 at *
        generalize w6.heap.size = h at *
        go_wp2_with fail
        refine (take_any g 8 _ _ T6.out.rd (by rw [List.length_drop, HDL.out]; omega) (by omega)).mono ?_
        rintro e w8 ⟨rfl, hr, hg⟩
        rw [List.drop_drop] at hr
        have T8 := Lib.hid (T6.out.step hr hg)
        have G8 := Lib.hid (G6.out.grown hg HGH.out)
        have hb8 := num_take_lt HSM.out (2 + 1 + 1 + 4) 8
        generalize hx : HP.num ((r.drop (2 + 1 + 1 + 4)).take 8) = x8 at *
        have X8 := Lib.hid hx
        clear hr hg hx T6 G6
        go_wp2_with fail
        refine (take_any g 8 _ _ T8.out.rd (by rw [List.length_drop, HDL.out]; omega) (by omega)).mono ?_
        rintro e w9 ⟨rfl, hr, hg⟩
        rw [List.drop_drop] at hr
        have T9 := Lib.hid (T8.out.step hr hg)
        have G9 := Lib.hid (G8.out.grown hg HGH.out)
        have hb16 := num_take_lt HSM.out (2 + 1 + 1 + 4 + 8) 8
        generalize hx : HP.num ((r.drop (2 + 1 + 1 + 4 + 8)).take 8) = x16 at *
        have X16 := Lib.hid hx
        have hf2 := G9.out.frozen 2
        have hf3 := G9.out.frozen 3
        have hc2 : w9.cell? ⟨h, 2, none⟩ = some (vq 0) := G9.out.cell 2
        have hc3 : w9.cell? ⟨h, 3, none⟩ = some (vq 0) := G9.out.cell 3
        have TA := Lib.hid ((T9.out.set (j := 2) (u := vq x8) G9.out (tag_no _ _ _ _) HLT.out).set (j := 3) (u := vq x16) (G9.out.set_ 2 (vq x8)) (tag_no x1 x4 x8 0) HLT.out)
        have GA : Hid (Blk ((w9.setCell ⟨h, 2, none⟩ (vq x8)).setCell ⟨h, 3, none⟩ (vq x16)) h 202 #[vi x1, vw x4, vq x8, vq x16]) := Lib.hid ((G9.out.set_ 2 (vq x8)).set_ 3 (vq x16))
        clear hr hg hx T8 G8 T9 G9
        go_upto_region 11 with fail
        clear hb8 hb16 hf2 hf3 hc2 hc3
        generalize ((w9.setCell ⟨h, 2, none⟩ (vq x8)).setCell ⟨h, 3, none⟩ (vq x16)) = wa at *
        go_wp2_with fail
        refine (take_any g 4 _ _ TA.out.rd (by rw [List.length_drop, HDL.out]; omega) (by omega)).mono ?_
        rintro e wb ⟨rfl, hr, hg⟩
        rw [List.drop_drop] at hr
        have TB := Lib.hid (TA.out.step hr hg)
        have GB := Lib.hid (GA.out.grown hg HGH.out)
        generalize hx : HP.num ((r.drop (2 + 1 + 1 + 4 + 8 + 8)).take 4) = x24 at *
        have X24 := Lib.hid hx
        clear hr hg hx TA GA
        go_wp2_with fail
        refine (take_any g 4 _ _ TB.out.rd (by rw [List.length_drop, HDL.out]; omega) (by omega)).mono ?_
        rintro e wc ⟨rfl, hr, hg⟩
        have TC := Lib.hid (TB.out.step hr hg)
        have GC := Lib.hid (GB.out.grown hg HGH.out)
        generalize hx : HP.num ((r.drop (2 + 1 + 1 + 4 + 8 + 8 + 4)).take 4) = x28 at *
        have X28 := Lib.hid hx
        clear hr hg hx TB GB
        have HTG : Hid (TP.tagOf r = ⟨x1, x4, x8, x16⟩) := Lib.hid (by rw [← X1.out, ← X4.out, ← X8.out, ← X16.out]; rfl)
        have HGD : Hid (TP.goodB b r n = (x0 == 21827 && x3 == 0 && x28 == 0 && TP.right ⟨x1, x4, x8, x16⟩ && x24 == HP.sum (b.take (n + 24)))) := Lib.hid (by
          unfold TP.goodB
          rw [HTG.out, ← X0.out, ← X3.out, ← X28.out, ← X24.out])
        clear X0 X1 X3 X4 X8 X16 X24 X28 HSM HRD HDL
        have k0 : wc.cell? ⟨h, 0, none⟩ = some (vi x1) := GC.out.cell 0
        have k1 : wc.cell? ⟨h, 1, none⟩ = some (vw x4) := GC.out.cell 1
        have k2 : wc.cell? ⟨h, 2, none⟩ = some (vq x8) := GC.out.cell 2
        have k3 : wc.cell? ⟨h, 3, none⟩ = some (vq x16) := GC.out.cell 3
        obtain ⟨d0, d1, d2, d3⟩ := tag_box (t := TP.zero) TC.out.f
        have f0 := TC.out.f.frozen 0
        have f1 := TC.out.f.frozen 1
        have f2 := TC.out.f.frozen 2
        have f3 := TC.out.f.frozen 3
        by_cases q0 : x0 = 21827
        · subst q0
          by_cases q3 : x3 = 0
          · subst q3
            by_cases q28 : x28 = 0
            · subst q28
              go_wp2_with fail
              refine (tRight_any ⟨x1, x4, x8, x16⟩ _).mono ?_
              rintro e wd ⟨rfl, hbl⟩
              have TD := Lib.hid (TC.out.old hbl)
              have GDD := Lib.hid (GC.out.old hbl)
              clear hbl TC GC k0 k1 k2 k3 d0 d1 d2 d3 f0 f1 f2 f3
              have k0 : wd.cell? ⟨h, 0, none⟩ = some (vi x1) := GDD.out.cell 0
              have k1 : wd.cell? ⟨h, 1, none⟩ = some (vw x4) := GDD.out.cell 1
              have k2 : wd.cell? ⟨h, 2, none⟩ = some (vq x8) := GDD.out.cell 2
              have k3 : wd.cell? ⟨h, 3, none⟩ = some (vq x16) := GDD.out.cell 3
              obtain ⟨d0, d1, d2, d3⟩ := tag_box (t := TP.zero) TD.out.f
              have f0 := TD.out.f.frozen 0
              have f1 := TD.out.f.frozen 1
              have f2 := TD.out.f.frozen 2
              have f3 := TD.out.f.frozen 3
              cases hrt : TP.right ⟨x1, x4, x8, x16⟩
              · rw [hrt] at HGD
                go_wp2_with fail
                obtain ⟨hf, hw⟩ := tag_fill (vi 0) (vw 0) (vq 0) (vq 0) TD.out.f TD.out.below (Nat.le_refl _)
                exact bodyPost_ret (read_result hf _ rfl rfl rfl) rfl (TRPost.none (by rw [HDD.out, if_neg (by rw [HGD.out]; simp)]) hw)
              · rw [hrt] at HGD
                have hcs := CSum_any (some ⟨bb, oo, none⟩) (b.take (n + 24)) c wd (TD.out.row.take _) (by rw [List.length_take, HN.out]; omega)
                rw [show (b.take (n + 24)).length = n + 24 by rw [List.length_take, HN.out]; omega] at hcs
                have HCS := Lib.hid hcs
                have hsl := HP.sum_lt (b.take (n + 24))
                generalize HP.sum (b.take (n + 24)) = sm at *
                clear hcs
                go_wp2_with fail
                refine HCS.out.mono ?_
                rintro e we ⟨rfl, rfl⟩
                clear HCS
                by_cases q24 : x24 = sm
                · subst q24
                  have hlt : (b.take n).length = n := by rw [List.length_take, HN.out]; omega
                  obtain ⟨v5, w5, hrun, ho5, hs5⟩ := append_bytes (c := c) (Own.nil we.drew w.heap.size) (TD.out.row.take n).drew (by rw [hlt]; simp; omega) TD.out.below.size
                  rw [hlt] at hrun
                  have RA : AppRun 56 56 56 (.slice none 0 0) (.slice (some ⟨bb, oo, none⟩) n c) we.drew v5 w5 := ⟨hrun⟩
                  have F5 := Lib.hid (hs5.blk _ _ _ (by decide) TD.out.f.drew)
                  have G5 := Lib.hid (hs5.blk _ _ _ (by decide) GDD.out.drew)
                  have B5 := Lib.hid ((TD.out.below.drew).trans hs5.below)
                  have HO5 := Lib.hid ho5
                  clear hrun ho5 hs5 hlt
                  have k0' : w5.cell? ⟨h, 0, none⟩ = some (vi x1) := G5.out.cell 0
                  have k1' : w5.cell? ⟨h, 1, none⟩ = some (vw x4) := G5.out.cell 1
                  have k2' : w5.cell? ⟨h, 2, none⟩ = some (vq x8) := G5.out.cell 2
                  have k3' : w5.cell? ⟨h, 3, none⟩ = some (vq x16) := G5.out.cell 3
                  obtain ⟨d0', d1', d2', d3'⟩ := tag_box (t := TP.zero) F5.out
                  have f0' := F5.out.frozen 0
                  have f1' := F5.out.frozen 1
                  have f2' := F5.out.frozen 2
                  have f3' := F5.out.frozen 3
                  have hnc : n ≤ c := by omega
                  go_upto_region 14 with fail
                  go_region_law (refine step_appT (.const (.slice none 0 0)) (.tmp 85) RA (by rfl) (by rfl) (by go_simp) (by go_simp) ?_)
                  all_goals go_wp2_with fail
                  all_goals obtain ⟨hf, hw⟩ := tag_fill (vi x1) (vw x4) (vq x8) (vq x16) F5.out B5.out (Nat.le_refl _)
                  all_goals refine bodyPost_ret (read_result hf _ rfl rfl rfl) rfl ?_
                  all_goals unfold TRPost
                  all_goals rw [HDD.out, if_pos (by rw [HGD.out]; simp), HTG.out]
                  all_goals exact ⟨_, rfl, by
                    have := HO5.out
                    rw [List.nil_append] at this
                    exact this.tag_far F5.out, hw⟩
                · have q24' : ((x24 : Int) != (sm : Int)) = true := by simp; omega
                  go_wp2_with fail
                  obtain ⟨hf, hw⟩ := tag_fill (vi 0) (vw 0) (vq 0) (vq 0) TD.out.f TD.out.below (Nat.le_refl _)
                  exact bodyPost_ret (read_result hf _ rfl rfl rfl) rfl (TRPost.none (by rw [HDD.out, if_neg (by rw [HGD.out]; simp [q24])]) hw)
            · have q28' : ((x28 : Int) != 0) = true := by simp; omega
              go_wp2_with fail
              obtain ⟨hf, hw⟩ := tag_fill (vi 0) (vw 0) (vq 0) (vq 0) TC.out.f TC.out.below (Nat.le_refl _)
              exact bodyPost_ret (read_result hf _ rfl rfl rfl) rfl (TRPost.none (by rw [HDD.out, if_neg (by rw [HGD.out]; simp [q28])]) hw)
          · have q3' : ((x3 : Int) != 0) = true := by simp; omega
            go_wp2_with fail
            obtain ⟨hf, hw⟩ := tag_fill (vi 0) (vw 0) (vq 0) (vq 0) TC.out.f TC.out.below (Nat.le_refl _)
            exact bodyPost_ret (read_result hf _ rfl rfl rfl) rfl (TRPost.none (by rw [HDD.out, if_neg (by rw [HGD.out]; simp [q3])]) hw)
        · have q0' : ((x0 : Int) != 21827) = true := by simp; omega
          go_wp2_with fail
          obtain ⟨hf, hw⟩ := tag_fill (vi 0) (vw 0) (vq 0) (vq 0) TC.out.f TC.out.below (Nat.le_refl _)
          exact bodyPost_ret (read_result hf _ rfl rfl rfl) rfl (TRPost.none (by rw [HDD.out, if_neg (by rw [HGD.out]; simp [q0])]) hw)
      · rw [hone] at HD
        go_wp2_with fail
        obtain ⟨hf, hw⟩ := tag_fill (vi 0) (vw 0) (vq 0) (vq 0) F0.out HB.out (Nat.le_refl _)
        exact bodyPost_ret (read_result hf _ rfl rfl rfl) rfl (TRPost.none HD.out hw)

end Go.Proofs.YtnfhlocflpdlcaaGreat

