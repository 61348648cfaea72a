/-
  NandKeeps: a page that is programmed has its bytes, whatever is done in other blocks, or refused in its own. No conditions.
-/
import Derived.Test.YtpggkehfbhffbaaQE
import Derived.Test.YtpggkehfbhffbaaQG
import Derived.Test.YtpggkehfbhffbaaQH
import Derived.Test.YtpggkehfbhffbaaFrame
import Derived.Deep.DeepCutAuto
import Derived.Deep.CutBlock
namespace Go.Proofs.Ytpggkehfbhffbaa.nandKeeps
open Go.ChangeShapes Go.WideShapes Go.ChangeAt Go.RowKit Go.Deep
attribute [local go_sem] Oper.semAt_some

theorem act_dims (c : NP.Chp) (a : NP.Act) : (NP.act c a).B = c.B ∧ (NP.act c a).P = c.P ∧ (NP.act c a).S = c.S := by
  cases a with
  | program k p b =>
    unfold NP.act NP.program
    dsimp only
    split
    · split
      · split
        · exact ⟨rfl, rfl, rfl⟩
        · split
          · exact ⟨rfl, rfl, rfl⟩
          · split
            · exact ⟨rfl, rfl, rfl⟩
            · split
              · exact ⟨rfl, rfl, rfl⟩
              · split <;> exact ⟨rfl, rfl, rfl⟩
      · exact ⟨rfl, rfl, rfl⟩
    · exact ⟨rfl, rfl, rfl⟩
  | erase k =>
    unfold NP.act NP.erase
    dsimp only
    split
    · split
      · exact ⟨rfl, rfl, rfl⟩
      · split
        · exact ⟨rfl, rfl, rfl⟩
        · split
          · exact ⟨rfl, rfl, rfl⟩
          · split <;> exact ⟨rfl, rfl, rfl⟩
    · exact ⟨rfl, rfl, rfl⟩
  | mark k =>
    unfold NP.act NP.mark
    dsimp only
    split <;> exact ⟨rfl, rfl, rfl⟩
  | read k p =>
    unfold NP.act NP.readP
    dsimp only
    split <;> exact ⟨rfl, rfl, rfl⟩
  | lose => exact ⟨rfl, rfl, rfl⟩
  | start => exact ⟨rfl, rfl, rfl⟩
  | none => exact ⟨rfl, rfl, rfl⟩
  | script l =>
    show (NP.script c l).2.B = c.B ∧ (NP.script c l).2.P = c.P ∧ (NP.script c l).2.S = c.S
    unfold NP.script
    split <;> exact ⟨rfl, rfl, rfl⟩
/-- An operation that is none in a block does not erase it. -/
theorem actOf_ne {o : OpM} {i : Nat} (h : ¬ (o.kind = 2 ∧ o.block = i)) : actOf o ≠ .erase i := by
  unfold actOf
  split
  · intro e; cases e
  split
  · rename_i h2
    intro e
    injection e with e
    exact h ⟨h2, e⟩
  split
  · intro e; cases e
  split
  · intro e; cases e
  split
  · intro e; cases e
  split
  · intro e; cases e
  split
  · intro e; cases e
  · intro e; cases e
theorem foot_cells {base : Nat} {w : World} {D n : Nat} (h : Mine base w n) (hD : w.heap[D]? = some (.deferred (some []))) : n ≠ D := by
  rintro rfl
  obtain ⟨_, t, cur, _, hb⟩ := h
  unfold Blk at hb
  rw [hb] at hD
  cases hD
theorem asked_up {c : NP.Chp} (h : c.down = false) (k p : Int) : NP.asked c k p = 0 ∨ NP.asked c k p = 12 := by
  unfold NP.asked
  rw [h]
  split
  · rename_i e; cases e
  · split
    · exact .inl rfl
    · exact .inr rfl
/-- What is read of a page. -/
def readB (c : NP.Chp) (i p : Nat) : List Nat := if (c.blk i).page p = [] then List.replicate c.full 255 else (c.blk i).page p
theorem read_up {c : NP.Chp} {i p : Nat} (h : NP.asked c i p = 0) : NP.readP c i p = ((readB c i p, 0), { c with reads := NP.w64 (c.reads + 1) }) := by
  unfold NP.readP
  dsimp only
  rw [if_pos h, Int.toNat_natCast, Int.toNat_natCast]
  rfl
/-- What the play keeps of a page. -/
structure Pl (V V' V2 : NP.Chp) (i pg : Nat) : Prop where
  g1 : V'.good
  g2 : V2.good
  B : V'.B = V.B
  P : V'.P = V.P
  S : V'.S = V.S
  kept : (V.blk i).page pg ≠ [] → (V'.blk i).page pg = (V.blk i).page pg
/-- What the loop over the pages keeps. -/
def LoopSt (w5 : World) (box : Nat) (Pr : Prop) (W : World) : Prop := ∃ z : Bool, Blk W box 4 #[.bool z] ∧ (z = true → Pr) ∧ Kept box w5.heap.size w5 W
theorem loopSt_own (w5 : World) (box : Nat) (Pr : Prop) (hb : box < w5.heap.size) {β : Type} : OwnFrom w5.heap.size (fun (_ : β) W => LoopSt w5 box Pr W) := by
  intro s W W' row hs hg hr
  obtain ⟨z, h1, h2, h3⟩ := hs
  refine ⟨z, (hg.block box h1.lt (fun e => ?_)).trans h1, h2, ?_⟩
  · have := (hr box e.symm).1
    omega
  · exact h3.grown hg (fun k e => .inr (hr k e).1)

set_option maxRecDepth 100000 in
set_option maxHeartbeats 8000000 in
theorem walk (b p s : Int) (x : RowE Int) (y : RowE OpM) (block page : Int) (z : RowE OpM) (w : World) (hx : IRow w x.a x.l) (hxl : x.l.length ≤ 140737488355328) (hy : OpRow w.heap.size w y.a y.l) (hz : OpRow w.heap.size w z.a z.l) :
    Calls Try.prog 3 #[.agg #[vi b, vi p, vi s], x.v, y.v, vi block, vi page, z.v] w fun e w' => e = .returned (.bool true) ∧ Below w.heap.size w w' := by
  obtain ⟨xa, xl, xc⟩ := x
  obtain ⟨ya, yl, yc⟩ := y
  obtain ⟨za, zl, zc⟩ := z
  dsimp only at hx hxl hy hz ⊢
  change Calls Try.prog 3 #[.agg #[vi b, vi p, vi s], .slice xa xl.length xc, .slice ya yl.length yc, vi block, vi page, .slice za zl.length zc] w _
  have HX := Lib.hid hx
  have HY := Lib.hid hy
  have HZ := Lib.hid hz
  have g0 := Blk.new w 23 #[vi b, vi p, vi s]
  have g1 := Blk.new (w.alloc (.cells #[vi b, vi p, vi s] 23)) 3 #[vi page]
  have hb1 : Below w.heap.size w ((w.alloc (.cells #[vi b, vi p, vi s] 23)).alloc (.cells #[vi page] 3)) := ((alloc_box w #[vi b, vi p, vi s] 23)).alloc (by simp) _
  have G0 := Lib.hid (g0.alloc (.cells #[vi page] 3))
  have G1 := Lib.hid g1
  have HB := Lib.hid hb1
  have hsz : (w.alloc (.cells #[vi b, vi p, vi s] 23)).heap.size = w.heap.size + 1 := size_alloc _ _
  rw [hsz] at G1
  clear hx hy hz g0 g1 hb1 hsz
  refine callsIn_wide.1 (callsIn_of_wp_marks (F := Fence.wide) (n := 6) Try.func3 rfl trivial (wpIn_wide.2 ?_) rfl)
  simp only [Try.ntmps3, List.size_toArray, List.length_cons, List.length_nil, Nat.reduceAdd, Nat.reduceSub, Array.replicate_succ, Array.replicate_zero, List.push_toArray, List.append_toArray, List.nil_append, List.cons_append]
  go_upto_region 1 with fail
  generalize (w.alloc (.cells #[vi b, vi p, vi s] 23)).alloc (.cells #[vi page] 3) = w1 at *
  have c0 : w1.cell? ⟨w.heap.size, 0, none⟩ = some (vi b) := G0.out.cell 0
  have c1 : w1.cell? ⟨w.heap.size, 1, none⟩ = some (vi p) := G0.out.cell 1
  have c2 : w1.cell? ⟨w.heap.size, 2, none⟩ = some (vi s) := G0.out.cell 2
  go_wp2_with fail
  refine (made_any (base := w.heap.size) b p s xa xl xc ya yl yc _ (HX.out.below HB.out) (by omega) (HY.out.old HB.out) HB.out.size).mono ?_
  rintro e w2 (⟨rfl, hb2⟩ | ⟨k, q, M, R, V, rfl, hm, hv, hv2, hg, hn, hwd, hsm, h200⟩)
  · have HB2 := Lib.hid (HB.out.trans (hb2.mono HB.out.size))
    clear c0 c1 c2 hb2
    go_wp2_with fail
    refine (known02_any _).mono ?_
    rintro e w3 ⟨rfl, hb3⟩
    have HB3 := Lib.hid (HB2.out.trans (hb3.mono HB2.out.size))
    clear hb3
    go_wp2_with fail
    exact marks_ret0 (v := .bool true) (fun w => by simp [results, Try.results3, go_sem]) ⟨rfl, HB3.out⟩
  · have HO1 := Lib.hid hm.own
    have HL1 : Hid (w.heap.size + 2 ≤ w1.heap.size) := Lib.hid (by have := G1.out.lt; omega)
    have HS2 : Hid (w1.heap.size ≤ w2.heap.size) := Lib.hid hm.below.size
    have HM := Lib.hid (hm.more HB.out)
    have HG := Lib.hid hg
    have HN := Lib.hid hn
    have G02 := Lib.hid (G0.out.old hm.below)
    have G12 := Lib.hid (G1.out.old hm.below)
    clear c0 c1 c2 hm hv hv2 hg hn hwd hsm h200 G0 G1
    go_wp2_with fail
    refine (long_any zc (HZ.out.old HM.out.below)).mono ?_
    rintro e w' ⟨t, rfl, rfl, ht⟩
    cases t
    · have HLW := Lib.hid (ht rfl)
      clear ht
      go_wp2_with fail
      refine (Start_any HM.out.at_.a).mono ?_
      rintro e w3 ⟨rfl, hg3⟩
      have HM3 := Lib.hid (HM.out.goes (HM.out.at_.left hg3))
      have HG3 : Hid ((ChM.view { M with down := false }).good) := Lib.hid (HG.out.act .start trivial (fun l e => by cases e))
      have HB3 := Lib.hid (HM.out.below.trans (hg3.chg.to_below (fun n _ hn => HM.out.at_.a.low n hn) HM.out.below.size |> fun h => h))
      have HOWN := Lib.hid HO1.out
      have G03 := Lib.hid (G02.out.chg hg3.chg (fun e => by have := HO1.out _ (.inl e); have := HL1.out; omega))
      have G13 := Lib.hid (G12.out.chg hg3.chg (fun e => by have := HO1.out _ (.inl e); have := HL1.out; omega))
      have HD3 : Hid ((ChM.view { M with down := false }).down = false) := Lib.hid rfl
      have HO3 : Hid (∀ n, ChM.foot { M with down := false } k n → w.heap.size + 2 ≤ n) := Lib.hid (fun n hn => by
        rcases hg3.foot n hn with e | e
        · exact Nat.le_trans HL1.out (HO1.out n (.inl e))
        · have := HM.out.below.size; have := HS2.out; have := HL1.out; omega)
      have HZ3 : Hid (w'.heap.size ≤ w3.heap.size) := Lib.hid hg3.chg.size
      clear hg3 HG HM G02 G12
      generalize ({ M with down := false } : ChM) = M3 at *
      have c10 : w3.cell? ⟨w.heap.size + 1, 0, none⟩ = some (vi page) := G13.out.cell 0
      go_wp2_with fail
      refine (Read_any HM3.out.at_.a HG3.out.ok block page).mono ?_
      by_cases he : NP.asked M3.view block page = 0
      · obtain ⟨-, hj0, hj1, hp0, hp1⟩ := NP.asked_zero he
        change block < (M3.B : Int) at hj1
        change page < (M3.P : Int) at hp1
        obtain ⟨i, rfl⟩ : ∃ i : Nat, block = i := ⟨block.toNat, by omega⟩
        obtain ⟨pg, rfl⟩ : ∃ j : Nat, page = j := ⟨page.toNat, by omega⟩
        have HE := Lib.hid he
        rw [read_up he]
        rintro e w4 ⟨v4, M4, rfl, ho4, hg4, hv4⟩
        have HV4 : Hid (M4.view = { M3.view with reads := NP.w64 (M3.view.reads + 1) }) := Lib.hid hv4
        have HP4 : Hid (∀ a b, (M4.view.blk a).page b = (M3.view.blk a).page b) := Lib.hid (fun a b => by rw [HV4.out])
        have HGD4 : Hid (M4.view.good) := Lib.hid (by
          have := HG3.out.act (.read i pg) trivial (fun l e => by cases e)
          rw [show NP.act M3.view (.read i pg) = (NP.readP M3.view i pg).2 from rfl, read_up HE.out] at this
          rw [HV4.out]; exact this)
        obtain ⟨a4, c4, rfl, hs4, -⟩ := ho4.srow (base := w.heap.size) (by
          have := NP.read_small HG3.out.ok (i : Int) (pg : Int)
          rw [read_up HE.out] at this
          exact this)
        have HWAS := Lib.hid hs4
        have HT4 := Lib.hid (HM3.out.goes (HM3.out.at_.left hg4))
        have G04 := Lib.hid (G03.out.chg hg4.chg (fun e => by have := HO3.out _ e; omega))
        have G14 := Lib.hid (G13.out.chg hg4.chg (fun e => by have := HO3.out _ e; omega))
        have HO4 : Hid (∀ n, M4.foot k n → w.heap.size + 2 ≤ n) := Lib.hid (fun n hn => by
          rcases hg4.foot n hn with e | e
          · exact HO3.out n e
          · have := HM3.out.below.size; have := HS2.out; have := HL1.out; have := HZ3.out; omega)
        have HD4 : Hid (M4.down = false) := Lib.hid (by
          have : M4.view.down = false := by rw [HV4.out]; exact HD3.out
          exact this)
        have hi4 : i < M4.bs.length := by
          rw [ok_len HGD4.out.ok]
          have : M4.view.B = M3.view.B := by rw [HV4.out]
          change M4.B = M3.B at this
          omega
        clear c10 hg4 hv4 ho4 hs4 he hj0 hj1 hp0 hp1 G03 G13 HM3
        have HLBL : Hid (readB M3.view i pg = readB M3.view i pg) := Lib.hid rfl
        generalize hrb : readB M3.view i pg = was at *
        have HRB := Lib.hid hrb
        clear hrb HLBL
        go_upto_region 9 with fail
        have HT5 := Lib.hid (HT4.out.at_.old (alloc_box w4 #[.bool false] 4))
        have HB5 := Lib.hid (HT4.out.below.alloc HT4.out.below.size (.cells #[.bool false] 4))
        have G05 := Lib.hid (G04.out.alloc (.cells #[.bool false] 4))
        have G15 := Lib.hid (G14.out.alloc (.cells #[.bool false] 4))
        have HX5 := Lib.hid (Blk.new w4 4 #[.bool false])
        have HLT5 := Lib.hid HT4.out.at_.a.lt
        have HWAS5 := Lib.hid (HWAS.out.old (alloc_box w4 #[.bool false] 4))
        have HSZ5 : Hid (w4.heap.size < (w4.alloc (.cells #[.bool false] 4)).heap.size) := Lib.hid (by rw [size_alloc]; omega)
        have HLW4 : Hid (w.heap.size + 2 ≤ w4.heap.size) := Lib.hid (by have := G14.out.lt; omega)
        clear HT4 HWAS G04 G14
        generalize w4.alloc (.cells #[.bool false] 4) = w5 at *
        generalize w4.heap.size = box at *
        go_wp2_with fail
        refine (Pages_any (some ⟨k, 0, none⟩) (i : Int)).mono ?_
        rintro e w6 ⟨rfl, hw6⟩
        have F1 : Blk w6 w5.heap.size 26 #[ptr k] := by rw [hw6]; exact (Blk.new _ _ _).alloc _
        have F2 : Blk w6 (w5.heap.size + 1) 3 #[vi i] := by
          rw [hw6, ← size_alloc w5 (.cells #[.pointer (some ⟨k, 0, none⟩)] 26)]
          exact Blk.new _ _ _
        have hb6 : Below w5.heap.size w5 w6 := by rw [hw6]; exact (alloc_box w5 _ _).alloc (by rw [size_alloc]; omega) _
        clear hw6
        have HT6 := Lib.hid (HT5.out.old hb6)
        have HB6 := Lib.hid (HB5.out.trans (hb6.mono HB5.out.size))
        have G06 := Lib.hid (G05.out.old hb6)
        have G16 := Lib.hid (G15.out.old hb6)
        have HX6 := Lib.hid (HX5.out.old hb6)
        have HWAS6 := Lib.hid (HWAS5.out.old hb6)
        have HSZ6 : Hid (box < w6.heap.size) := Lib.hid HX6.out.lt
        have heq := eql_seq_nil
        generalize w5.heap.size = s5 at *
        clear HT5 HB5 G05 G15 HX5 HWAS5 hb6 HSZ5
        go_wp2_with fail
        clear heq
        refine wp_rangeFunc_first (gf := 61) (lb := #[.pointer (some ⟨s5, 0, none⟩), .pointer (some ⟨s5 + 1, 0, none⟩)]) rfl (enter_of Try.func61 (by kernel_rfl) rfl)
          (Pages1_some 5 (by decide) HT6.out.a HGD4.out.ok HD4.out i hi4 s5 (s5 + 1) box (F1.cell 0) (F2.cell 0) ⟨by have := HLW4.out; omega, _, _, (by decide), HX6.out⟩ (fun e => by have := HLT5.out _ e; omega))
          (fun h1 h2 => h1.trans h2 (fun n hn e => by rcases e with e | e; exact .inl e; exact .inr e)) (fun W l o o' hl hlo _ _ => ?_) (fun x => vi x.1.i) (fun x => .slice x.1.a x.1.l.length x.1.c) (fun _ => rfl) (by decide) (by simp)
          (fun _ W => LoopSt w6 box ((M4.view.blk i).page pg ≠ []) W) (loopSt_own w6 box _ HSZ6.out) ⟨false, HX6.out, (fun e => by cases e), Chg.refl _ _⟩ ?_ ?_
        · exact ⟨rfl, rfl, rfl, by simp, fun k _ hk => World.putObj_heap_other (fun e => hk (.inr (by omega)))⟩
        · rintro l pre x W ⟨z, hz, hP, hK⟩ _
          have cb : W.cell? ⟨box, 0, none⟩ = some (.bool z) := hz.cell 0
          have zb := hz.frozen 0
          have cp : W.cell? ⟨w.heap.size + 1, 0, none⟩ = some (vi pg) := (G16.out.chg hK (fun e => by have := G16.out.lt; have := HLW4.out; omega)).cell 0
          have HZ2 := Lib.hid hz
          have HK2 := Lib.hid hK
          have HPP := Lib.hid hP
          obtain ⟨⟨xi, xa2, xl2, xc2⟩, hx0, hxp⟩ := x
          dsimp only at hx0 hxp ⊢
          have HXP := Lib.hid hxp
          clear hz hK hP
          simp only [List.setIfInBounds_toArray, List.set_cons_zero, List.set_cons_succ]
          cases z
          · by_cases hx : xi = pg
            · subst hx
              have hq : ((pg : Int) == (pg : Int)) = true := by simp
              gi_wp2
              exact ⟨KeepsOthers.setCell _ _ _, Chg.set W (p := ⟨box, 0, none⟩) (.inl rfl) _, true, HZ2.out.set_ 0 _, (fun _ => by have := HXP.out; rwa [Int.toNat_natCast] at this), HK2.out.setCell (p := ⟨box, 0, none⟩) (.inl (.inl rfl)) _⟩
            · have hq : (xi == (pg : Int)) = false := by simp [hx]
              gi_wp2
              exact ⟨KeepsOthers.setCell _ _ _, Chg.set W (p := ⟨box, 0, none⟩) (.inl rfl) _, false, HZ2.out.set_ 0 _, (fun e => by cases e), HK2.out.setCell (p := ⟨box, 0, none⟩) (.inl (.inl rfl)) _⟩
          · gi_wp2
            exact ⟨KeepsOthers.setCell _ _ _, Chg.set W (p := ⟨box, 0, none⟩) (.inl rfl) _, true, HZ2.out.set_ 0 _, (fun _ => HPP.out trivial), HK2.out.setCell (p := ⟨box, 0, none⟩) (.inl (.inl rfl)) _⟩
        · rintro D xs W hD ⟨z, hz, hP, hK⟩ hdf
          have hKb : Chg (fun n => n = box) w6 W := hK.mono (fun n hn e => by rcases e with e | e; exact e; omega)
          have hmb : ∀ n, n = box → Mine w.heap.size w6 n := fun n e => by rw [e]; exact ⟨by have := HLW4.out; omega, _, _, (by decide), HX6.out⟩
          have HA7 := Lib.hid (HT6.out.a.chg hKb hmb (fun n hn e => by have := HLT5.out _ hn; omega))
          have HG7 := Lib.hid (G06.out.chg hKb (fun e => by have := G06.out.lt; have := HLW4.out; omega))
          have HWS7 := Lib.hid (HWAS6.out.chg hKb hmb)
          have HG17 := Lib.hid (G16.out.chg hKb (fun e => by have := G16.out.lt; have := HLW4.out; omega))
          have HLW7 : Hid (w.heap.size + 2 ≤ W.heap.size) := Lib.hid (by have := hKb.size; have := G16.out.lt; omega)
          have HB7 := Lib.hid (HB6.out.trans (hKb.to_below (fun n _ e => by have := HLW4.out; omega) HB6.out.size |> fun h => h))
          have HZ7 := Lib.hid hz
          have HDF := Lib.hid hdf
          have HP7 := Lib.hid hP
          have HDB : Hid (box < D ∧ w.heap.size ≤ D) := Lib.hid ⟨by have := HSZ6.out; omega, by have := HB6.out.size; omega⟩
          have HLB7 : Hid (∀ n, M4.foot k n → n < box) := Lib.hid HLT5.out
          clear hz hP hK hdf hKb hmb HT6 G06 G16 HX6 HWAS6 HB6 hD F1 F2 HLT5 HSZ6
          have c0 : W.cell? ⟨w.heap.size, 0, none⟩ = some (vi b) := HG7.out.cell 0
          have c1 : W.cell? ⟨w.heap.size, 1, none⟩ = some (vi p) := HG7.out.cell 1
          have c2 : W.cell? ⟨w.heap.size, 2, none⟩ = some (vi s) := HG7.out.cell 2
          go_wp2_with fail
          refine (rNew_any w.heap.size b p s xa xl xc _ (HX.out.below HB7.out) (by omega) HB7.out.size).mono ?_
          rw [HN.out]
          rintro e W2 ⟨q2, R5, rfl, hm2, hv2⟩
          have HT8 : Hid (Two w.heap.size W2 k M4 q2 R5) := Lib.hid ⟨HA7.out.old hm2.below, hm2.at_, fun n hn hr => by have h1 := HA7.out.lt n hn; have h2 := hm2.own n hr; omega⟩
          have HB8 := Lib.hid (HB7.out.trans (hm2.below.mono HB7.out.size))
          have HWS8 := Lib.hid (HWS7.out.old hm2.below)
          have HZ8 := Lib.hid (HZ7.out.old hm2.below)
          have HDF8 : Hid (W2.heap[D]? = some (.deferred (some []))) := Lib.hid ((hm2.below.block D (Array.getElem?_eq_some_iff.1 HDF.out).1).trans HDF.out)
          have HG18 := Lib.hid (HG17.out.old hm2.below)
          have HNL : Hid (∀ n, foot2 k M4 q2 R5 n → w.heap.size + 2 ≤ n) := Lib.hid (fun n hn => by
            rcases hn with hn | hn
            · exact HO4.out n hn
            · have := hm2.own n hn; have := HLW7.out; omega)
          have HGR : Hid (R5.view.good) := Lib.hid (by rw [hv2]; exact new_good HN.out)
          have HNB : Hid (∀ n, foot2 k M4 q2 R5 n → n ≠ box) := Lib.hid (fun n hn => by
            rcases hn with hn | hn
            · have := HLB7.out n hn; omega
            · have h1 := hm2.own n hn; have h2 := HZ7.out.lt; omega)
          clear hm2 hv2 HA7 HG7 HWS7 HB7 HZ7 HDF c0 c1 c2 HLB7
          have HTG := Lib.hid (TwoGoes.refl HT8.out)
          have HGG : Hid (Pl M4.view M4.view R5.view i pg) := Lib.hid ⟨HGD4.out, HGR.out, rfl, rfl, rfl, fun _ => rfl⟩
          have hzl := HZ.out.len
          go_wp2_with fail
          go_loopw [23] (fun v wr => ∃ (j : Nat) (M' : ChM) (R' : RefM), j ≤ zl.length ∧ v = vi j ∧ Hid (TwoGoes w.heap.size W2 k M4 q2 R5 wr M' R') ∧ Hid (Pl M4.view M'.view R'.view i pg)) (fun v _ => zl.length - (intOf v).toNat)
          case atStart => exact ⟨0, M4, R5, Nat.zero_le _, rfl, HTG, HGG⟩
          case round =>
            clear HTG HGG
            obtain ⟨j, M', R', hj, rfl, HTG, HGG⟩ := hrel
            by_cases hlt : j < zl.length
            · obtain ⟨zb, zo, rfl, hcell, hok⟩ := (HTG.out.oprow HT8.out (HZ.out.old HB8.out)).lookup hlt
              have HSM := Lib.hid (owt_small HLW.out (getD_mem (d := default) hlt))
              have HOK := Lib.hid hok
              have d0 : wr.cell? ⟨zb, zo + j * 5, none⟩ = some (vi (zl.getD j default).kind) := hcell 0 _ rfl
              have d1 : wr.cell? ⟨zb, zo + j * 5 + 1, none⟩ = some (vi (zl.getD j default).block) := hcell 1 _ rfl
              have d2 : wr.cell? ⟨zb, zo + j * 5 + 2, none⟩ = some (vi (zl.getD j default).page) := hcell 2 _ rfl
              have d3 : wr.cell? ⟨zb, zo + j * 5 + 3, none⟩ = some (.slice (zl.getD j default).ba (zl.getD j default).b.length (zl.getD j default).bc) := hcell 3 _ rfl
              have d4 : wr.cell? ⟨zb, zo + j * 5 + 4, none⟩ = some (.slice (zl.getD j default).fa (zl.getD j default).fs.length (zl.getD j default).fc) := hcell 4 _ rfl
              clear hcell hok
              generalize zl.getD j default = o at *
              obtain ⟨kind, oblock, opage, oba, obb, obc, ofa, ofs, ofc⟩ := o
              dsimp only at d0 d1 d2 d3 d4
              have hq0 : (0 : Int) ≤ (j : Int) := by omega
              have hq1 : (j : Int) < (zl.length : Int) := by omega
              by_cases hko : kind = 2 ∧ oblock = i
              · obtain ⟨rfl, rfl⟩ := hko
                have hq : ((i : Int) == (i : Int)) = true := by simp
                clear d2 d3 d4
                go_wp2_with fail
                go_roundw
                case rel => exact ⟨j + 1, M', R', by omega, by go_num, HTG, HGG⟩
                case measure => simp [intOf]; omega
              · have HNE := Lib.hid (actOf_ne (o := ⟨kind, oblock, opage, oba, obb, obc, ofa, ofs, ofc⟩) hko)
                go_upto_region 19 with fail
                go_cut [97] from 83 to 97 (fun sv wx => sv = .bool false ∧ wx = wr)
                case first =>
                  by_cases hk2 : kind = 2
                  · have hob : (oblock == (i : Int)) = false := by
                      have : ¬ oblock = i := fun e => hko ⟨hk2, e⟩
                      simp [this]
                    subst hk2
                    clear hko
                    go_wp2_with fail
                    go_meet
                    case rel => exact ⟨rfl, rfl⟩
                  · have hkb : (kind == 2) = false := by simp [hk2]
                    clear hko
                    go_wp2_with fail
                    go_meet
                    case rel => exact ⟨rfl, rfl⟩
                case rest =>
                  obtain ⟨rfl, rfl⟩ := hcut
                  clear hko
                  go_wp2_with fail
                  refine (gplays_any HTG.out.at_ HGG.out.g1.ok HGG.out.g2.ok ⟨kind, oblock, opage, oba, obb, obc, ofa, ofs, ofc⟩ HOK.out HSM.out (by have := HTG.out.size; have := HB8.out.size; omega)).mono ?_
                  rintro e w9 ⟨M9, R9, zz, rfl, hg9, h91, h92, -⟩
                  have HT9 := Lib.hid (HTG.out.trans hg9)
                  have HG9 : Hid (Pl M4.view M9.view R9.view i pg) := Lib.hid ⟨by rw [h91]; exact HGG.out.g1.act _ (actOf_fine HOK.out) (actOf_few HSM.out.2.1), by rw [h92]; exact HGG.out.g2.act _ (actOf_fine HOK.out) (actOf_few HSM.out.2.1),
                    by rw [h91, (act_dims _ _).1, HGG.out.B], by rw [h91, (act_dims _ _).2.1, HGG.out.P], by rw [h91, (act_dims _ _).2.2, HGG.out.S], fun hne => by
                      have e1 := HGG.out.kept hne
                      rw [h91, NP.keeps HGG.out.g1.ok HGG.out.g1.order (actOf ⟨kind, oblock, opage, oba, obb, obc, ofa, ofs, ofc⟩) (by rw [e1]; exact hne) HNE.out, e1]⟩
                  clear hg9 h91 h92 d0 d1 d2 d3 d4
                  go_wp2_with fail
                  go_roundw
                  case rel => exact ⟨j + 1, M9, R9, by omega, by go_num, HT9, HG9⟩
                  case measure => simp [intOf]; omega
            · obtain rfl : j = zl.length := by omega
              go_wp2_with fail
              refine (Start_any HTG.out.at_.a).mono ?_
              rintro e w10 ⟨rfl, hg10⟩
              have HT10 := Lib.hid (HTG.out.trans (HTG.out.at_.left hg10))
              have HE10 : Hid (NP.asked (ChM.view { M' with down := false }) i pg = 0) := Lib.hid (by
                obtain ⟨-, hj0, hj1, hp0, hp1⟩ := NP.asked_zero HE.out
                have e1 : M'.view.B = M3.view.B := by rw [HGG.out.B, HV4.out]
                have e2 : M'.view.P = M3.view.P := by rw [HGG.out.P, HV4.out]
                unfold NP.asked
                rw [if_neg (by intro h; cases h), if_pos ⟨hj0, by show (i : Int) < (M'.view.B : Int); rw [e1]; exact hj1, hp0, by show (pg : Int) < (M'.view.P : Int); rw [e2]; exact hp1⟩])
              have HGD10 : Hid ((ChM.view { M' with down := false }).good) := Lib.hid (HGG.out.g1.act .start trivial (fun l e => by cases e))
              have HRD : Hid (z = true → readB (ChM.view { M' with down := false }) i pg = was) := Lib.hid (fun hzt => by
                have hne := HP7.out hzt
                have e1 := HGG.out.kept hne
                have e2 : ((ChM.view { M' with down := false }).blk i).page pg = (M3.view.blk i).page pg := by
                  rw [← HP4.out i pg, ← e1]; rfl
                have e3 : (M3.view.blk i).page pg ≠ [] := by rw [← HP4.out]; exact hne
                rw [← HRB.out]
                unfold readB
                rw [e2, if_neg e3, if_neg e3])
              clear hg10 HTG
              generalize ({ M' with down := false } : ChM) = M10 at *
              have cp : w10.cell? ⟨w.heap.size + 1, 0, none⟩ = some (vi pg) := (HG18.out.chg HT10.out.chg (fun e => by have := HNL.out _ e; omega)).cell 0
              go_wp2_with fail
              refine (Read_any HT10.out.at_.a HGD10.out.ok (i : Int) (pg : Int)).mono ?_
              rw [read_up HE10.out]
              rintro e w11 ⟨v11, M11, rfl, ho11, hg11, -⟩
              obtain ⟨a11, c11, rfl, hr11, -⟩ := ho11.row (by
                have := NP.read_small HGD10.out.ok (i : Int) (pg : Int)
                rw [read_up HE10.out] at this
                exact this)
              have HT11 := Lib.hid (HT10.out.trans (HT10.out.at_.left hg11))
              have HR11 := Lib.hid hr11
              have HWS11 := Lib.hid (HWS8.out.chg HT11.out.chg HT8.out.mine).row
              have HDF11 : Hid (w11.heap[D]? = some (.deferred (some []))) := Lib.hid ((HT11.out.chg.block D (Array.getElem?_eq_some_iff.1 HDF8.out).1 (fun e => foot_cells (HT8.out.mine D e) HDF8.out rfl)).trans HDF8.out)
              have HB11 : Hid (Below w.heap.size w w11) := Lib.hid (HB8.out.trans (HT11.out.chg.to_below (fun n _ hn => hn.elim (HT8.out.a.low n) (HT8.out.b.low n)) HB8.out.size |> fun h => h))
              have cb : w11.cell? ⟨box, 0, none⟩ = some (.bool z) := (HZ8.out.chg HT11.out.chg (fun e => HNB.out _ e rfl)).cell 0
              clear hg11 ho11 hr11 HT10 cp
              generalize readB M10.view i pg = now at *
              cases z
              · go_wp2_with fail
                refine (known02_any _).mono ?_
                rintro e w12 ⟨rfl, hb12⟩
                have HDF12 := Lib.hid ((hb12.block D (Array.getElem?_eq_some_iff.1 HDF11.out).1).trans HDF11.out)
                have HB12 := Lib.hid (HB11.out.trans (hb12.mono HB11.out.size))
                clear hb12
                go_wp2_with fail
                exact marks_ret (v := .bool true) HDF12.out (fun w => by simp [results, Try.results3, go_sem]) ⟨rfl, below_taken HB12.out HDB.out.2⟩
              · have hnow := HRD.out rfl
                subst hnow
                go_wp2_with fail
                refine (SameBytes_any c4 c11 HWS11.out HR11.out).mono ?_
                rw [decide_eq_true rfl]
                rintro e w' ⟨rfl, rfl⟩
                go_wp2_with fail
                refine (known02_any _).mono ?_
                rintro e w12 ⟨rfl, hb12⟩
                have HDF12 := Lib.hid ((hb12.block D (Array.getElem?_eq_some_iff.1 HDF11.out).1).trans HDF11.out)
                have HB12 := Lib.hid (HB11.out.trans (hb12.mono HB11.out.size))
                clear hb12
                go_wp2_with fail
                exact marks_ret (v := .bool true) HDF12.out (fun w => by simp [results, Try.results3, go_sem]) ⟨rfl, below_taken HB12.out HDB.out.2⟩
      · have he12 : NP.asked M3.view block page = 12 := (asked_up HD3.out block page).resolve_left he
        have hrd : NP.readP M3.view block page = (([], 12), M3.view) := by
          unfold NP.readP
          dsimp only
          rw [if_neg he, he12]
        rw [hrd]
        rintro e w4 ⟨v4, M4, rfl, -, hg4, -⟩
        have HB4 := Lib.hid (HM3.out.below.trans (hg4.chg.to_below (fun n _ hn => HM3.out.at_.a.low n hn) HM3.out.below.size |> fun h => h))
        clear he he12 hrd hg4
        go_wp2_with fail
        refine (known02_any _).mono ?_
        rintro e w5 ⟨rfl, hb5⟩
        have HB5 := Lib.hid (HB4.out.trans (hb5.mono HB4.out.size))
        clear hb5
        go_wp2_with fail
        exact marks_ret0 (v := .bool true) (fun w => by simp [results, Try.results3, go_sem]) ⟨rfl, HB5.out⟩
    · clear ht
      go_wp2_with fail
      refine (known02_any _).mono ?_
      rintro e w4 ⟨rfl, hb4⟩
      have HB4 := Lib.hid (HM.out.below.trans (hb4.mono HM.out.below.size))
      clear hb4
      go_wp2_with fail
      exact marks_ret0 (v := .bool true) (fun w => by simp [results, Try.results3, go_sem]) ⟨rfl, HB4.out⟩

set_option maxRecDepth 100000 in
theorem lifted (os : Os) (started : os.Started) (H : Type) (enc : TypeId × Value → H) :
    ReturnsInHanded {} Try.checked os 3 .any (Rows.nandKeepsSpec.pre6 enc Try.prog Try.f3 Rows.nandKeepsRow.domain false) (Rows.nandKeepsSpec.post enc Try.prog Try.f3 false true false false) := by
  refine returnsInHanded_of_change_sized (C := Try.checked) own started (by kernel_rfl) Try.func3
    (ChangeSpec.witness6 (enc := enc) (C := Try.checked) false ⟨#[], #[.agg #[vi 0, vi 0, vi 0], .slice none 0 0, .slice none 0 0, .int .i64 0, .int .i64 0, .slice none 0 0], []⟩ 8 (by kernel_rfl) (by kernel_rfl) (by kernel_rfl) (by kernel_rfl)) ?_
  intro W base args ds gs before hval0 hW hcnd hwt _
  have hval : ∀ (j : Nat) t v, Try.f3.params[j]? = some t → args[j]? = some v → Value.okWide Try.prog W .any base t v := hval0
  have hW' := hW
  obtain ⟨p, q, hA0, hV, rfl, hfz, hnd⟩ := hW
  have hA : DataW.TrodAll enc Try.prog W 0 (fun _ => true) true Try.f3.params.toList args.toList ds p := hA0
  rw [Try.params3] at hA hval hwt
  obtain ⟨v0, vs0, d0, ds0, p0, q0, hargs, rfl, rfl, h0, r0⟩ := trodAll_cons hA
  obtain ⟨v1, vs1, d1, ds1, p1, q1, rfl, rfl, rfl, h1, r1⟩ := trodAll_cons r0
  obtain ⟨v2, vs2, d2, ds2, p2, q2, rfl, rfl, rfl, h2, r2⟩ := trodAll_cons r1
  obtain ⟨v3, vs3, d3, ds3, p3, q3, rfl, rfl, rfl, h3, r3⟩ := trodAll_cons r2
  obtain ⟨v4, vs4, d4, ds4, p4, q4, rfl, rfl, rfl, h4, r4⟩ := trodAll_cons r3
  obtain ⟨v5, vs5, d5, ds5, p5, q5, rfl, rfl, rfl, h5, r5⟩ := trodAll_cons r4
  obtain ⟨rfl, rfl, rfl⟩ := trodAll_nil r5
  obtain rfl : args = #[v0, v1, v2, v3, v4, v5] := by cases args; simp_all
  obtain ⟨rfl, rfl⟩ := trodVars_none hV
  obtain ⟨b0, p0, s0, rfl⟩ := arg_geo h0 (hval 0 23 v0 rfl rfl) (weights_at hwt (j := 0) rfl rfl)
  obtain ⟨x1, rfl, hr1, hl1⟩ := arg_ints h1 (hval 1 24 v1 rfl rfl) (weights_at hwt (j := 1) rfl rfl)
  obtain ⟨x2, rfl, hr2⟩ := arg_ops h2 (hval 2 25 v2 rfl rfl) (weights_at hwt (j := 2) rfl rfl)
  obtain ⟨a3, rfl, rfl, rfl, w3⟩ := open_int Try.underlying3 (hval 3 3 v3 rfl rfl) h3
  obtain ⟨a4, rfl, rfl, rfl, w4⟩ := open_int Try.underlying3 (hval 4 3 v4 rfl rfl) h4
  obtain ⟨x5, rfl, hr5⟩ := arg_ops h5 (hval 5 25 v5 rfl rfl) (weights_at hwt (j := 5) rfl rfl)
  refine (walk b0 p0 s0 x1 x2 a3 a4 x5 W hr1 hl1 hr2 hr5).mono fun e W' ⟨he, bel⟩ => ?_
  subst he
  exact ⟨_, rfl, law_close laidOut (by kernel_rfl) hW' rfl bel rfl Try.underlying4 rfl⟩

set_option maxRecDepth 100000 in
set_option maxHeartbeats 20000000 in
theorem facts : joinedFacts Try.pinned.checked.prog 3 Try.f3 Rows.nandKeepsSpec Rows.nandKeepsRow = true := by
  unfold joinedFacts
  simp only [Bool.and_eq_true]
  and_intros
  all_goals as_aux_lemma => kernel_rfl

theorem over : Rows.nandKeepsRow.holds Try.pinned (OpenSpec.ofChange Rows.nandKeepsSpec) :=
  OpenClaim.holds_of_wide 3 Try.f3 rfl rfl rfl rfl rfl rfl rfl ⟨rfl, rfl, rfl, rfl, rfl⟩ rfl rfl rfl rfl rfl (by kernel_rfl) Try.func3 facts
    (of_decide_eq_true (by kernel_rfl)) (by unfold Func.isWrapper; first | (rw [if_pos (by decide +kernel)]; kernel_rfl) | (rw [if_neg (by decide +kernel)]; exact ⟨rfl, rfl⟩))
    (fun os started H enc _ => lifted os started H enc)

theorem proved : Rows.NandKeepsSaid := over
#print axioms proved
end Go.Proofs.Ytpggkehfbhffbaa.nandKeeps
