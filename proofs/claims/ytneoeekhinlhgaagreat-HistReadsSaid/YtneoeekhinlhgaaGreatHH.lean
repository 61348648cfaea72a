/-
  Operations written, by the program and by the reference. Conditions: fewer than 900000 bytes.
-/
import Derived.Test.YtneoeekhinlhgaaGreatHG
import Derived.Lib.SlBytesConst
import Derived.ArgAppend
namespace Go.Proofs.YtneoeekhinlhgaaGreat
open Go.RowKit

/-- A full row of bytes, whatever its marks. -/
def Full (w : World) (v : Value) (l : List Nat) : Prop := ∃ g, v = .slice (some ⟨g, 0, none⟩) l.length l.length ∧ BRow w (some ⟨g, 0, none⟩) l
def App (w : World) (base : Nat) (v : Value) (l : List Nat) : Prop := Own w base v l ∨ Full w v l
theorem app_new {w : World} {base : Nat} {v : Value} {l : List Nat} (hown : App w base v l) (x : Nat) (hx : x < 256) {cs : Array Value} (hc : cs = (bv [x]).toArray)
    (hn : l.length + 1 ≤ 1000000) (hb : base ≤ w.heap.size) :
    ∃ v' w', (Builtin.append_ #[25, 25] 25 #[v, .slice (some ⟨w.heap.size, 0, none⟩) 1 1]).run Tryz.prog (w.alloc (.cells cs 5)) = .ok v' w' ∧ Own w' base v' (l ++ [x]) ∧ Stp base w w' := by
  rcases hown with hown | ⟨g, rfl, hr⟩
  · exact append_new hown [x] (by simpa using hx) (n := 1) rfl rfl hc hn hb
  · obtain ⟨i0, hi, hz0, hz1, hz2⟩ := info_parts byte_info
    have hr' := hr.below ((Below.refl _ w).alloc (Nat.le_refl _) (.cells cs 5))
    have hx' := BRow.of_blk (Blk.new w 5 cs) hc (by simpa using hx)
    obtain ⟨v', w', hrun, r1, r2⟩ := run_append_arg_grows (P := Tryz.prog) (w.alloc (.cells cs 5)) 25 25 5 i0 _ 1 1 Tryz.underlying25 hi hz0 hz1 hz2 rfl (by omega) ⟨g, 0, none⟩ l.length l.length (bv l) (by rw [bv_length]; omega) hr'.news
      ⟨w.heap.size, 0, none⟩ 1 1 (bv [x]) rfl hx'.news (by omega) (by unfold maxLen; omega) (by omega)
    have hbel : Below (w.alloc (.cells cs 5)).heap.size (w.alloc (.cells cs 5)) w' := (Below.refl _ _).grown r2 (Nat.le_refl _) (fun k hk => by cases hk)
    refine ⟨v', w', hrun, ?_, ((Stp.refl base w).alloc hb _).trans (Stp.of_below hbel (by simp; omega))⟩
    have : Own w' (w.alloc (.cells cs 5)).heap.size v' (l ++ [x]) := by
      unfold Own
      rw [List.length_append, bv_append]
      exact r1
    exact this.more (by simp; omega)

theorem number_step' {w wr : World} {base j x y : Nat} {m : Value} {l : List Nat} (hy : y = x / 256 ^ j) (hown : App wr base m (l ++ HP.le j x)) (hb : base ≤ wr.heap.size) (hB : Stp base w wr) (hn : l.length + j + 1 ≤ 1000000) :
    ∃ v' w', (Builtin.append_ #[25, 25] 25 #[m, .slice (some ⟨wr.heap.size, 0, none⟩) 1 1]).run Tryz.prog (wr.alloc (.cells #[.int .u8 ((y : Int) % 256)] 5)) = .ok v' w' ∧
      Own w' base v' (l ++ HP.le (j + 1) x) ∧ base ≤ w'.heap.size ∧ Stp base w w' := by
  subst hy
  obtain ⟨v', w', hrun, ho, hg⟩ := app_new hown (x / 256 ^ j % 256) (by omega) (cs := #[.int .u8 (((x / 256 ^ j : Nat) : Int) % 256)]) rfl (by simp [HP.le_length]; omega) hb
  have hst := hB.trans hg
  refine ⟨v', w', hrun, ?_, by have := hg.size; omega, hst⟩
  rw [HP.le_snoc, ← List.append_assoc]
  exact ho

set_option maxHeartbeats 1000000 in
theorem number_full (base : Nat) (v : Value) (l : List Nat) (x k : Nat) (w : World) (hown : App w base v l) (hb : base ≤ w.heap.size) (hx : x < 18446744073709551616) (hn : l.length + k ≤ 1000000) (hk : k ≤ 8) (hk0 : 0 < k) :
    Calls Tryz.prog 22 #[v, vq x, vi k] w fun e w' => ∃ v', e = .returned v' ∧ Own w' base v' (l ++ HP.le k x) ∧ Stp base w w' := by
  have HO := Lib.hid hown
  clear hown
  go_enter Tryz.func22, Tryz.ntmps22
  go_wp2_with fail
  go_loopw [0, 1, 8] (fun m y i wr => ∃ j z : Nat, j ≤ k ∧ i = vi j ∧ y = vq z ∧ Hid (z = x / 256 ^ j) ∧ z < 18446744073709551616 ∧ Hid (App wr base m (l ++ HP.le j x) ∧ (0 < j → Own wr base m (l ++ HP.le j x))) ∧ Hid (base ≤ wr.heap.size ∧ Stp base w wr)) (fun _ _ i _ => k - (intOf i).toNat)
  case atStart => exact ⟨0, x, Nat.zero_le _, rfl, rfl, Lib.hid (by simp), hx, Lib.hid ⟨by simpa [HP.le] using HO.out, fun h => absurd h (by omega)⟩, Lib.hid ⟨hb, Stp.refl _ _⟩⟩
  case round =>
    obtain ⟨j, y, hj, rfl, rfl, hy, hyl, ho, hB⟩ := hrel
    by_cases hlt : j < k
    · obtain ⟨v', w', hrun, ho', hb', hB'⟩ := number_step' hy.out ho.out.1 hB.out.1 hB.out.2 (by omega)
      have HRun := Lib.hid hrun
      have HO2 := Lib.hid ho'
      have HB2 := Lib.hid (And.intro hb' hB')
      clear hrun ho' hb' hB' ho hB
      go_wp2_with (at_builtin; refine wpList_append_run rfl (.tmp 10) (.tmp 13) rfl rfl rfl HRun.out ?_)
      go_roundw
      case rel => exact ⟨j + 1, y / 256, by omega, rfl, rfl, Lib.hid (div_more hy.out), by omega, Lib.hid ⟨.inl HO2.out, fun _ => HO2.out⟩, HB2⟩
      case measure => simp [intOf]; omega
    · obtain rfl : j = k := by omega
      have HB2 := hB
      have HO2 := ho
      go_wp2_with fail
      go_ret
      exact ⟨_, rfl, HO2.out.2 hk0, HB2.out.2⟩

abbrev opsOf (es : List OpE) : List HP.HOp := es.map (·.o)
/-- The bytes of the first operations. -/
def pre (es : List OpE) (k : Nat) : List Nat := [72, 73, 83, 84] ++ HP.le 4 es.length ++ (es.take k).flatMap fun e => HP.enc e.o
theorem pre_succ {es : List OpE} {k : Nat} (h : k < es.length) : pre es (k + 1) = pre es k ++ HP.enc (es.getD k default).o := by
  simp only [pre, take_snoc_op h, List.flatMap_append, List.flatMap_cons, List.flatMap_nil, List.append_nil, List.append_assoc]
theorem pre_all (es : List OpE) : pre es es.length = HP.bodyL (opsOf es) := by
  simp [pre, HP.bodyL, opsOf, List.flatMap_map]
theorem pre_le (es : List OpE) (k : Nat) : (pre es k).length ≤ (HP.bodyL (opsOf es)).length := by
  have h : (es.take k).flatMap (fun e => HP.enc e.o) ++ (es.drop k).flatMap (fun e => HP.enc e.o) = es.flatMap fun e => HP.enc e.o := by
    rw [← List.flatMap_append, List.take_append_drop]
  have h' := congrArg List.length h
  rw [← pre_all]
  simp only [pre, List.take_length, List.length_append] at *
  omega
theorem pre_small {es : List OpE} (hf : ∀ e ∈ es, e.o.fits) (k : Nat) : ∀ x ∈ pre es k, x < 256 := by
  intro x hx
  simp only [pre, List.mem_append, List.mem_cons, List.not_mem_nil, or_false, List.mem_flatMap] at hx
  rcases hx with ((rfl | rfl | rfl | rfl) | h) | ⟨e, he, h⟩
  · omega
  · omega
  · omega
  · omega
  · exact HP.le_small _ _ x h
  · exact HP.enc_small (hf e (List.mem_of_mem_take he)) x h
theorem body_small_es {es : List OpE} (hf : ∀ e ∈ es, e.o.fits) : ∀ x ∈ HP.bodyL (opsOf es), x < 256 := by
  rw [← pre_all]
  exact pre_small hf _

set_option maxRecDepth 100000 in
set_option maxHeartbeats 2000000 in
theorem Body_any (a : Option Addr) (es : List OpE) (c : Nat) (w : World) (h : ORow w a es) (hl : es.length ≤ 10000) (hn : (HP.bodyL (opsOf es)).length ≤ 900000) :
    Calls Tryz.prog 28 #[.slice a es.length c] w fun e w' => ∃ v', e = .returned v' ∧ Own w' w.heap.size v' (HP.bodyL (opsOf es)) ∧ Below w.heap.size w w' := by
  have HR := Lib.hid h
  clear h
  generalize hw1 : w.alloc (.cells #[vb 72, vb 73, vb 83, vb 84] 5) = w1
  have ho1 : Own w1 w.heap.size (.slice (some ⟨w.heap.size, 0, none⟩) 4 4) [72, 73, 83, 84] := by
    rw [← hw1]
    exact Own.lit (Nat.le_refl _) [72, 73, 83, 84] (by simp) rfl
  have hb1 : Below w.heap.size w w1 := by rw [← hw1]; exact (Below.refl _ _).alloc (Nat.le_refl _) _
  have W1 := Lib.hid hw1
  have O1 := Lib.hid ho1
  have B1 := Lib.hid hb1
  clear hw1 ho1 hb1
  go_enter Tryz.func28, Tryz.ntmps28
  go_wp2_with fail
  rw [show w.alloc (.cells #[.int .u8 72, .int .u8 73, .int .u8 83, .int .u8 84] 5) = w1 from W1.out]
  refine (Big_any es.length 4 _ (by omega) (by omega)).mono ?_
  rintro e w2 ⟨v2, rfl, ho2, hb2⟩
  obtain ⟨a2, c2, rfl, hr2, -⟩ := ho2.row (HP.le_small _ _)
  rw [HP.le_length]
  obtain ⟨v3, w3, hrun3, ho3, hs3⟩ := append_bytes (c := c2) (O1.out.old hb2) hr2 (by simp [HP.le_length]) (Nat.le_trans B1.out.size hb2.size)
  rw [HP.le_length] at hrun3
  have R3 : AppRun 25 25 25 (.slice (some ⟨w.heap.size, 0, none⟩) 4 4) (.slice a2 4 c2) w2 v3 w3 := ⟨hrun3⟩
  have B3 := Lib.hid ((B1.out.trans (hb2.mono B1.out.size)).trans hs3.below)
  have O3 := Lib.hid ho3
  clear hrun3 ho3 hs3 hr2 ho2 hb2 O1 B1 W1
  go_wp2_with (at_builtin; refine wpList_append_run rfl (.tmp 6) (.tmp 10) rfl rfl rfl R3.run ?_)
  go_loopw [3, 4] (fun v i wr => ∃ k : Nat, k ≤ es.length ∧ i = vi k ∧ Hid (Own wr w.heap.size v (pre es k)) ∧ w.heap.size ≤ wr.heap.size ∧ Hid (Below w.heap.size w wr)) (fun _ i _ => es.length - (intOf i).toNat)
  case atStart => exact ⟨0, Nat.zero_le _, rfl, Lib.hid (by simpa [pre] using O3.out), B3.out.size, B3⟩
  case round =>
    obtain ⟨k, hk, rfl, ho, hbase, hb⟩ := hrel
    by_cases hlt : k < es.length
    · obtain ⟨b, o, rfl, hc, hbr, hfits, -⟩ := (HR.out.below hb.out).lookup hlt
      have HP1 := Lib.hid (pre_succ hlt)
      have hle := pre_le es (k + 1)
      rw [HP1.out, List.length_append] at hle
      have hpl : (pre es k).length + (HP.enc (es.getD k default).o).length ≤ 1000000 := by omega
      clear hle
      generalize es.getD k default = x at hc HP1 hbr hfits hpl
      have g0 := hc 0 _ rfl
      have g1 := hc 1 _ rfl
      have g2 := hc 2 _ rfl
      have g3 := hc 3 _ rfl
      have g4 := hc 4 _ rfl
      have g5 := hc 5 _ rfl
      have g6 := hc 6 _ rfl
      clear hc
      rw [Nat.add_zero] at g0
      have HBR := Lib.hid hbr
      have HF := Lib.hid hfits
      have HPL := Lib.hid hpl
      clear hbr hfits hpl
      go_wp2_with fail
      refine (bytes_any x _ HBR.out HF.out (by have := HPL.out; omega)).mono ?_
      rintro e w4 ⟨v4, rfl, ho4, hb4⟩
      obtain ⟨a4, c4, rfl, hr4, -⟩ := ho4.row (HP.enc_small HF.out)
      obtain ⟨v5, w5, hrun5, ho5, hs5⟩ := append_bytes (c := c4) (ho.out.old hb4) hr4 HPL.out (Nat.le_trans hbase hb4.size)
      have R5 : AppRun 25 25 25 _ (.slice a4 (HP.enc x.o).length c4) w4 v5 w5 := ⟨hrun5⟩
      have HB5 := Lib.hid ((hb.out.trans (hb4.mono hbase)).trans hs5.below)
      have HO5 := Lib.hid ho5
      have hz5 := HB5.out.size
      clear hrun5 ho5 hs5 hb4 hr4 ho4 ho hb g0 g1 g2 g3 g4 g5 g6
      go_wp2_with (at_builtin; refine wpList_append_run rfl (.tmp 18) (.tmp 23) rfl rfl rfl R5.run ?_)
      go_roundw
      case rel => exact ⟨k + 1, by omega, by go_num, Lib.hid (by rw [HP1.out]; exact HO5.out), hz5, HB5⟩
      case measure => simp [intOf]; omega
    · obtain rfl : k = es.length := by omega
      have HO := ho
      have HB := hb
      clear ho hb
      go_wp2_with fail
      go_ret
      exact ⟨_, rfl, by have := HO.out; rw [pre_all] at this; exact this, HB.out⟩

theorem all_take_succ {es : List OpE} {k : Nat} (h : k < es.length) (ha : (opsOf (es.take k)).all HP.rightB = true) (hr : HP.rightB (es.getD k default).o = true) : (opsOf (es.take (k + 1))).all HP.rightB = true := by
  simp only [opsOf, take_snoc_op h, List.map_append, List.map_cons, List.map_nil, List.all_append, List.all_cons, List.all_nil, Bool.and_true, Bool.and_eq_true]
  exact ⟨ha, hr⟩
theorem all_false {es : List OpE} {k : Nat} (h : k < es.length) (hr : HP.rightB (es.getD k default).o = false) : (opsOf es).all HP.rightB = false := by
  rw [List.all_eq_false]
  exact ⟨_, List.mem_map_of_mem (getD_mem_op h), by rw [hr]; decide⟩

set_option maxRecDepth 100000 in
set_option maxHeartbeats 4000000 in
theorem RWrite_any (a : Option Addr) (es : List OpE) (c : Nat) (w : World) (h : ORow w a es) (hl : es.length ≤ 10000) (hn : (HP.bodyL (opsOf es)).length ≤ 900000) :
    Calls Tryz.prog 11 #[.slice a es.length c] w fun e w' => ∃ v', e = .returned (.tuple #[v', vi (HP.writeL (opsOf es)).2]) ∧ Own w' w.heap.size v' (HP.writeL (opsOf es)).1 ∧ Below w.heap.size w w' := by
  have HR := Lib.hid h
  clear h
  by_cases h4 : 4096 < es.length
  · have HW := Lib.hid (show HP.writeL (opsOf es) = ([], 2) by rw [HP.writeL, if_pos (by simpa using h4)])
    go_enter Tryz.func11, Tryz.ntmps11
    go_wp2_with fail
    go_ret2
    exact ⟨_, by rw [HW.out]; rfl, by rw [HW.out]; exact Own.nil _ _, Below.refl _ _⟩
  have HW := Lib.hid (show HP.writeL (opsOf es) = if (opsOf es).all HP.rightB then (HP.bodyL (opsOf es) ++ HP.le 4 (HP.sum (HP.bodyL (opsOf es))), 0) else ([], 1) by rw [HP.writeL, if_neg (by simpa using h4)])
  go_enter Tryz.func11, Tryz.ntmps11
  go_wp2_with fail
  go_loopw [4] (fun i wr => ∃ k : Nat, k ≤ es.length ∧ i = vi k ∧ Hid ((opsOf (es.take k)).all HP.rightB = true) ∧ w.heap.size ≤ wr.heap.size ∧ Hid (Below w.heap.size w wr)) (fun i _ => es.length - (intOf i).toNat)
  case atStart => exact ⟨0, Nat.zero_le _, rfl, Lib.hid rfl, Nat.le_refl _, Lib.hid (Below.refl _ _)⟩
  case round =>
    obtain ⟨k, hk, rfl, ha, hbase, hb⟩ := hrel
    by_cases hlt : k < es.length
    · obtain ⟨b, o, rfl, hc, -, -, -⟩ := (HR.out.below hb.out).lookup hlt
      have HA := Lib.hid (fun hr => all_take_succ hlt ha.out hr)
      have HAF := Lib.hid (fun hr => all_false (es := es) hlt hr)
      generalize es.getD k default = x at hc HA HAF
      have g0 := hc 0 _ rfl
      have g1 := hc 1 _ rfl
      have g2 := hc 2 _ rfl
      have g3 := hc 3 _ rfl
      have g4 := hc 4 _ rfl
      have g5 := hc 5 _ rfl
      have g6 := hc 6 _ rfl
      clear hc
      rw [Nat.add_zero] at g0
      go_wp2_with fail
      refine (Right_any x _).mono ?_
      rintro e w1 ⟨rfl, hb1⟩
      have HB1 := Lib.hid (hb.out.trans (hb1.mono hbase))
      have hz1 := HB1.out.size
      clear hb1 hb g0 g1 g2 g3 g4 g5 g6
      cases hr : HP.rightB x.o
      · have HRr := Lib.hid hr
        clear hr
        go_wp2_with fail
        go_ret2
        have hf := HAF.out HRr.out
        exact ⟨_, by rw [HW.out, hf]; rfl, by rw [HW.out, hf]; exact Own.nil _ _, HB1.out⟩
      · have HRr := Lib.hid hr
        clear hr
        go_wp2_with fail
        go_roundw
        case rel => exact ⟨k + 1, by omega, by go_num, Lib.hid (HA.out HRr.out), hz1, HB1⟩
        case measure => simp [intOf]; omega
    · obtain rfl : k = es.length := by omega
      have ha' := ha.out
      rw [List.take_length] at ha'
      have HA := Lib.hid ha'
      clear ha' ha
      go_wp2_with fail
      refine (Body_any a es c _ (HR.out.below hb.out) hl hn).mono ?_
      rintro e w2 ⟨v2, rfl, ho2, hb2⟩
      have hsm := body_small_es HR.out.fits
      obtain ⟨a2, c2, rfl, hr2, -⟩ := ho2.row hsm
      have HB2 := Lib.hid (hb.out.trans (hb2.mono hbase))
      have hsl := HP.sum_lt (HP.bodyL (opsOf es))
      have HO2 := Lib.hid ho2
      have HR2 := Lib.hid hr2
      clear hr2 ho2 hb2 hb hsm
      generalize HP.bodyL (opsOf es) = L at *
      go_wp2_with fail
      refine (RSum_any a2 L c2 _ HR2.out (by omega)).mono ?_
      rintro e w3 ⟨rfl, rfl⟩
      go_wp2_with fail
      refine (Big_any (HP.sum L) 4 _ (by omega) (by omega)).mono ?_
      rintro e w4 ⟨v4, rfl, ho4, hb4⟩
      obtain ⟨a4, c4, rfl, hr4, -⟩ := ho4.row (HP.le_small _ _)
      rw [HP.le_length]
      obtain ⟨v5, w5, hrun5, ho5, hs5⟩ := append_bytes (c := c4) ((HO2.out.more hbase).old hb4) hr4 (by simp [HP.le_length]; omega) (Nat.le_trans HB2.out.size hb4.size)
      rw [HP.le_length] at hrun5
      have R5 : AppRun 25 25 25 (.slice a2 L.length c2) (.slice a4 4 c4) w4 v5 w5 := ⟨hrun5⟩
      have HB5 := Lib.hid ((HB2.out.trans (hb4.mono HB2.out.size)).trans hs5.below)
      have HO5 := Lib.hid ho5
      clear hrun5 ho5 hs5 hr4 ho4 hb4 HO2 HR2 HB2
      go_wp2_with (at_builtin; refine wpList_append_run rfl (.tmp 23) (.tmp 27) rfl rfl rfl R5.run ?_)
      go_ret2
      have hw := HW.out
      rw [if_pos HA.out] at hw
      exact ⟨_, by rw [hw]; rfl, by rw [hw]; exact HO5.out, HB5.out⟩

set_option maxRecDepth 100000 in
set_option maxHeartbeats 4000000 in
theorem Write_any (a : Option Addr) (es : List OpE) (c : Nat) (w : World) (h : ORow w a es) (hl : es.length ≤ 10000) (hn : (HP.bodyL (opsOf es)).length ≤ 900000) :
    Calls Tryz.prog 9 #[.slice a es.length c] w fun e w' => ∃ v', e = .returned (.tuple #[v', vi (HP.writeL (opsOf es)).2]) ∧ Own w' w.heap.size v' (HP.writeL (opsOf es)).1 ∧ Below w.heap.size w w' := by
  have HR := Lib.hid h
  clear h
  by_cases h4 : 4096 < es.length
  · have HW := Lib.hid (show HP.writeL (opsOf es) = ([], 2) by rw [HP.writeL, if_pos (by simpa using h4)])
    go_enter Tryz.func9, Tryz.ntmps9
    go_wp2_with fail
    go_ret2
    exact ⟨_, by rw [HW.out]; rfl, by rw [HW.out]; exact Own.nil _ _, Below.refl _ _⟩
  have HW := Lib.hid (show HP.writeL (opsOf es) = if (opsOf es).all HP.rightB then (HP.bodyL (opsOf es) ++ HP.le 4 (HP.sum (HP.bodyL (opsOf es))), 0) else ([], 1) by rw [HP.writeL, if_neg (by simpa using h4)])
  have kc := fun (w : World) (C : Array Value) (n c : Nat) => Lib.run_convert_bytes_const (P := Tryz.prog) w 25 5 C n c Tryz.underlying25 Tryz.underlying5
  generalize hw1 : w.alloc (.cells #[vb 72, vb 73, vb 83, vb 84] 5 (4, 5)) = w1
  have ho1 : App w1 w.heap.size (.slice (some ⟨w.heap.size, 0, none⟩) 4 4) [72, 73, 83, 84] := by
    rw [← hw1]
    refine .inr ⟨w.heap.size, rfl, by simp, .inr ⟨_, 0, rfl, fun i hi => ?_⟩⟩
    have hc := World.cell?_alloc_mark w #[vb 72, vb 73, vb 83, vb 84] 5 (4, 5) i
    rw [Nat.zero_add, hc]
    match i, hi with
    | 0, _ => rfl
    | 1, _ => rfl
    | 2, _ => rfl
    | 3, _ => rfl
  have hb1 : Stp w.heap.size w w1 := by rw [← hw1]; exact (Stp.refl _ _).alloc (Nat.le_refl _) _
  have W1 := Lib.hid hw1
  have O1 := Lib.hid ho1
  have B1 := Lib.hid hb1
  clear hw1 ho1 hb1
  go_enter Tryz.func9, Tryz.ntmps9
  go_wp2_with fail
  rw [show w.alloc (.cells #[.int .u8 72, .int .u8 73, .int .u8 83, .int .u8 84] 5 (4, 5)) = w1 from W1.out]
  clear kc
  refine (number_full w.heap.size _ _ es.length 4 _ O1.out B1.out.size (by omega) (by simp) (by omega) (by omega)).mono ?_
  rintro e w3 ⟨v3, rfl, ho3, hs3⟩
  have B3 := Lib.hid (B1.out.trans hs3)
  have O3 := Lib.hid ho3
  clear ho3 hs3 O1 B1 W1
  go_wp2_with fail
  go_loopw [4, 18] (fun v i wr => ∃ k : Nat, k ≤ es.length ∧ i = vi k ∧ Hid (Own wr w.heap.size v (pre es k)) ∧ Hid ((opsOf (es.take k)).all HP.rightB = true) ∧ w.heap.size ≤ wr.heap.size ∧ Hid (Below w.heap.size w wr)) (fun _ i _ => es.length - (intOf i).toNat)
  case atStart => exact ⟨0, Nat.zero_le _, rfl, Lib.hid (by simpa [pre] using O3.out), Lib.hid rfl, B3.out.size, Lib.hid B3.out.below⟩
  case round =>
    obtain ⟨k, hk, rfl, ho, ha, hbase, hb⟩ := hrel
    by_cases hlt : k < es.length
    · obtain ⟨b, o, rfl, hc, -, hfits, -⟩ := (HR.out.below hb.out).lookup hlt
      have hbr := HR.out.bytes _ (getD_mem_op hlt)
      have HP1 := Lib.hid (pre_succ hlt)
      have hle := pre_le es (k + 1)
      rw [HP1.out, List.length_append] at hle
      have hpl : (pre es k).length + (HP.enc (es.getD k default).o).length ≤ 1000000 := by omega
      clear hle
      have HA := Lib.hid (fun hr => all_take_succ hlt ha.out hr)
      have HAF := Lib.hid (fun hr => all_false (es := es) hlt hr)
      generalize es.getD k default = x at hc HP1 hbr hfits hpl HA HAF
      have g0 := hc 0 _ rfl
      have g1 := hc 1 _ rfl
      have g2 := hc 2 _ rfl
      have g3 := hc 3 _ rfl
      have g4 := hc 4 _ rfl
      have g5 := hc 5 _ rfl
      have g6 := hc 6 _ rfl
      clear hc
      rw [Nat.add_zero] at g0
      have HBR := Lib.hid hbr
      have HF := Lib.hid hfits
      have HPL := Lib.hid hpl
      clear hbr hfits hpl
      have kb : Blk (wr.alloc (.cells x.cs 53)) wr.heap.size 53 x.cs := Blk.new _ _ _
      have bb : Below w.heap.size w (wr.alloc (.cells x.cs 53)) := hb.out.alloc hbase _
      have oo := ho.out.old ((Below.refl _ wr).alloc (Nat.le_refl _) (.cells x.cs 53))
      have KB := Lib.hid kb
      have BB := Lib.hid bb
      have OO := Lib.hid oo
      clear kb bb oo
      go_wp2_with fail
      refine (right_any x _).mono ?_
      rintro e w4 ⟨rfl, hb4⟩
      have kb4 := KB.out.old hb4
      have hb4' := Lib.hid (BB.out.trans (hb4.mono BB.out.size))
      have hz4 := hb4'.out.size
      have OO4 := Lib.hid (OO.out.old hb4)
      have k0 : w4.cell? ⟨wr.heap.size, 0, none⟩ = some (vi x.o.kind) := kb4.cell 0
      have k1 : w4.cell? ⟨wr.heap.size, 1, none⟩ = some (.string (bs x.o.path)) := kb4.cell 1
      have k2 : w4.cell? ⟨wr.heap.size, 2, none⟩ = some (.string (bs x.o.dest)) := kb4.cell 2
      have k3 : w4.cell? ⟨wr.heap.size, 3, none⟩ = some (vi x.o.handle) := kb4.cell 3
      have k4 : w4.cell? ⟨wr.heap.size, 4, none⟩ = some (vi x.o.n) := kb4.cell 4
      have k5 : w4.cell? ⟨wr.heap.size, 5, none⟩ = some (vi x.o.off) := kb4.cell 5
      have k6 : w4.cell? ⟨wr.heap.size, 6, none⟩ = some (.slice x.s x.o.bytes.length x.c) := kb4.cell 6
      clear kb4 hb4 KB BB OO g0 g1 g2 g3 g4 g5 g6 hb ho
      cases hr : HP.rightB x.o
      · have HRr := Lib.hid hr
        clear hr
        go_wp2_with fail
        go_ret2
        have hf := HAF.out HRr.out
        exact ⟨_, by rw [HW.out, hf]; rfl, by rw [HW.out, hf]; exact Own.nil _ _, hb4'.out⟩
      · have HRr := Lib.hid hr
        clear hr
        go_wp2_with fail
        refine (put_any w.heap.size x _ _ _ OO4.out hz4 (Nat.le_refl _) hb4'.out HBR.out HF.out HPL.out).mono ?_
        rintro e w5 ⟨v5, rfl, ho5, hs5⟩
        have HO5 := Lib.hid ho5
        have HB5 := Lib.hid (hb4'.out.trans hs5.below)
        have hz5 := HB5.out.size
        clear ho5 hs5 k0 k1 k2 k3 k4 k5 k6
        go_wp2_with fail
        go_roundw
        case rel => exact ⟨k + 1, by omega, by go_num, Lib.hid (by rw [HP1.out]; exact HO5.out), Lib.hid (HA.out HRr.out), hz5, HB5⟩
        case measure => simp [intOf]; omega
    · obtain rfl : k = es.length := by omega
      have ha' := ha.out
      rw [List.take_length] at ha'
      have HA := Lib.hid ha'
      have hsm := body_small_es HR.out.fits
      have ho' := ho.out
      rw [pre_all] at ho'
      have hsl := HP.sum_lt (HP.bodyL (opsOf es))
      have HB2 := hb
      clear ha' ha ho hb
      generalize HP.bodyL (opsOf es) = L at *
      obtain ⟨a2, c2, rfl, hr2, -⟩ := ho'.row hsm
      have HO2 := Lib.hid ho'
      have HR2 := Lib.hid hr2
      clear ho' hr2 hsm
      go_wp2_with fail
      refine (CSum_any a2 L c2 _ HR2.out (by omega)).mono ?_
      rintro e w3 ⟨rfl, rfl⟩
      go_wp2_with fail
      refine (number_any w.heap.size _ L (HP.sum L) 4 _ HO2.out hbase (by omega) (by omega) (by omega)).mono ?_
      rintro e w5 ⟨v5, rfl, ho5, hs5⟩
      go_wp2_with fail
      go_ret2
      have hw := HW.out
      rw [if_pos HA.out] at hw
      exact ⟨_, by rw [hw]; rfl, by rw [hw]; exact ho5, HB2.out.trans hs5.below⟩

end Go.Proofs.YtneoeekhinlhgaaGreat
