/-
  Lemmas for a law's proof, put together from several texts: each part says what it shows, and its conditions.
-/
import Derived.Test.YtjkaioonppmkjaaGreatZP34
import Derived.Test.YtjkaioonppmkjaaGreatZP35
import Derived.Test.YtjkaioonppmkjaaGreatZP31
/-
  The blocks of a translation that is opened are taken in hand. Conditions: a translation told by FtHf, its pages on the chip.
-/
namespace Go.Proofs.YtjkaioonppmkjaaGreat.ft
open Go.RowKit Go.Proofs.YtjkaioonppmkjaaGreat.mgr
attribute [local go_sem] Oper.semAt_some

/-- How many pages each block holds is counted. -/
structure LvSt (w : World) (bs lb la rr B : Nat) (cnt : List Int) (left : Mp FP.Plc) (wr : World) : Prop where
  below : Below w.heap.size w wr
  it : MpIt wr rr bs .u32 encP left
  arr : Arr wr 3 1 la B B (cnt.map vi)
  box : Blk wr lb 61 #[.slice (some ⟨la, 0, none⟩) B B]
  young : w.heap.size ≤ la ∧ w.heap.size ≤ lb ∧ w.heap.size ≤ rr ∧ bs < w.heap.size
section
variable {w wr w' : World} {bs lb la rr B : Nat} {cnt : List Int} {left : Mp FP.Plc}
theorem LvSt.old (h : LvSt w bs lb la rr B cnt left wr) (q : Below wr.heap.size wr w') : LvSt w bs lb la rr B cnt left w' := ⟨h.below.trans (q.mono h.below.size), h.it.old q, h.arr.old q, h.box.old q, h.young⟩
theorem LvSt.next (h : LvSt w bs lb la rr B cnt left wr) : (left = [] ∧ NxtRun (.pointer (some ⟨rr, 0, none⟩)) (.tuple #[.bool false]) wr wr) ∨
    ∃ (k : Int) (pb pp : Int) (wn : World), (k, (⟨pb, pp⟩ : FP.Plc)) ∈ left ∧ NxtRun (.pointer (some ⟨rr, 0, none⟩)) (.tuple #[.bool true, .int .u32 k, .agg #[vi pb, vi pp]]) wr wn ∧ LvSt w bs lb la rr B cnt (MP.del left k) wn ∧ (MP.del left k).length < left.length ∧
      left.Perm ((k, ⟨pb, pp⟩) :: MP.del left k) ∧ (Instr.entry (.pointer (some ⟨rr, 0, none⟩))).run Tryz.prog wn = .ok (.tuple #[.int .u32 k, .agg #[vi pb, vi pp]]) wn := by
  rcases h.it.next (P := Tryz.prog) with ⟨h1, h2⟩ | ⟨⟨k, pb, pp⟩, wn, h1, h2, h3, h4, h5, h6⟩
  · exact .inl ⟨h1, ⟨h2⟩⟩
  · have hok : MP.Ok left := by obtain ⟨_, _, _, _, _, _, _, _, _, _, _, _, hok⟩ := h.it; exact hok
    have hg := MP.mem_get hok h1
    obtain ⟨cur, hb, _⟩ := h.arr.blk
    refine .inr ⟨k, pb, pp, wn, h1, ⟨h2⟩, ⟨h.below.trans ⟨h4.os, h4.tape, h4.output, h4.size, fun i hi => h4.block i (Nat.lt_of_lt_of_le hi h.below.size) (by have := h.young.2.2.1; omega)⟩, h3, h.arr.chg h4 (fun e => noblk h.it _ _ (e ▸ hb)), h.box.chg h4 (fun e => noblk h.it _ _ (e ▸ h.box)), h.young⟩,
      by have := MP.del_len hg; dsimp only at this ⊢; omega, MP.perm_del hg, h6⟩
theorem LvSt.count (h : LvSt w bs lb la rr B cnt left wr) (x : Int × FP.Plc) (q : Nat) (hq : x.2.block = q) : LvSt w bs lb la rr B (FP.liveIn cnt x) left (wr.setCell ⟨la, q, none⟩ (vi (cnt.getD q 0 + 1))) := by
  have hc : Chg (fun n => n = la) wr (wr.setCell ⟨la, q, none⟩ (vi (cnt.getD q 0 + 1))) := Chg.set (F := fun n => n = la) wr (p := ⟨la, q, none⟩) rfl _
  obtain ⟨cur, hb, _⟩ := h.arr.blk
  refine ⟨h.below.setCell (p := ⟨la, q, none⟩) h.young.1 _, h.it.chg hc (fun e => by have := h.young; omega) (fun e => noblk h.it _ _ (e ▸ hb)), ?_, h.box.far (p := ⟨la, q, none⟩) (h.arr.ne_blk h.box (by decide)).symm _, h.young⟩
  have := h.arr.set q (vi (cnt.getD q 0 + 1))
  rw [← List.map_set (f := vi)] at this
  unfold FP.liveIn
  rw [hq]
  exact this
end
/-- What may change while the manager's blocks are told: the count, and what is laid anew. -/
def IdIn {α : Type} (w1 : World) (ib : Nat) (_ : List α) (W : World) : Prop := (∃ n : Int, Blk W ib 3 #[vi n]) ∧ KeptB ib w1.heap.size w1 W
theorem idIn_own {α : Type} (w1 : World) (ib : Nat) (hb : ib < w1.heap.size) : OwnFrom w1.heap.size (IdIn (α := α) w1 ib) := by
  intro s W W' row hs hg hr
  obtain ⟨⟨n, h1⟩, h3⟩ := hs
  exact ⟨⟨n, (hg.block ib h1.lt (fun e => by have := (hr ib e.symm).1; omega)).trans h1⟩, Chg.grown h3 hg (fun k e => .inl (.inr (hr k e).1))⟩
section
variable {base : Nat} {w : World} {f : Nat} {X : FtM}
set_option maxRecDepth 100000 in
set_option maxHeartbeats 8000000 in
theorem manages_any (h : FtHf base w f X) (hg : Good6 X.M.view) (hbase : base ≤ w.heap.size) (fa : Option Addr) (fresh : List Bool) (fc : Nat) (hf : BoRow w fa fresh) (hfl : fresh.length = X.M.B)
    (hS : ∀ x ∈ X.S, 0 ≤ x.2.block ∧ x.2.block < X.M.B) (hSl : X.S.length ≤ 100000) (g : Mg) (ho : openG X.M.view fresh (X.S.foldl FP.liveIn (List.replicate X.M.B 0)) X.reserve X.bad = (0, some g)) :
    Calls Tryz.prog 61 #[ptr f, .slice fa fresh.length fc] w fun e w' => ∃ m G ov, e = .returned (.tuple #[]) ∧ FtAt base w' f { X with m := m, G := G, over := ov } ∧ G.k = X.G.k ∧ G.view = g ∧ Chg (X.hfoot f) w w' ∧ ∀ n, G.foot m n → w.heap.size ≤ n := by
  have hdim : 8 ≤ X.M.B ∧ X.M.B ≤ 128 ∧ X.M.P ≤ 32 ∧ 64 ≤ X.M.S ∧ X.M.S ≤ 512 := by
    have : NP.rightB X.M.B X.M.P X.M.S = true := hg.ok.right
    unfold NP.rightB at this
    simp only [Bool.and_eq_true, Bool.or_eq_true, beq_iff_eq, decide_eq_true_eq] at this
    omega
  have HDIM := Lib.hid hdim
  have H := Lib.hid h
  have HG := Lib.hid hg
  have HFR := Lib.hid hf
  have HS := Lib.hid hS
  have HO := Lib.hid ho
  have hmk := make_ints fresh.length (by omega)
  have HFL := Lib.hid hfl
  have HSL := Lib.hid hSl
  have c5 : w.cell? ⟨f, 5, none⟩ = some (.map (some X.bs)) := h.obj.cell 5
  clear h hg hf hS ho hfl hSl hdim
  refine callsIn_wide.1 (callsIn_of_wp_marks (F := Fence.wide) (n := 6) Tryz.func61 rfl trivial (wpIn_wide.2 ?_) rfl)
  simp only [Tryz.ntmps61, List.size_toArray, List.length_cons, List.length_nil, Nat.reduceAdd, Nat.reduceSub, Array.replicate_succ, Array.replicate_zero, List.push_toArray, List.append_toArray, List.nil_append, List.cons_append]
  go_upto_region 1 with fail
  rw [HFL.out]
  have HB1 : Hid (Below w.heap.size w ((w.alloc (.cells (madeCells #[vi 0] X.M.B) 3)).alloc (.cells #[.slice (some ⟨w.heap.size, 0, none⟩) X.M.B X.M.B] 61))) := Lib.hid (((Below.refl _ _).alloc (Nat.le_refl _) _).alloc (by simp) _)
  have HA1 : Hid (Arr ((w.alloc (.cells (madeCells #[vi 0] X.M.B) 3)).alloc (.cells #[.slice (some ⟨w.heap.size, 0, none⟩) X.M.B X.M.B] 61)) 3 1 w.heap.size X.M.B X.M.B ((List.replicate X.M.B (0 : Int)).map vi)) := Lib.hid (by
    have := Arr.lit w 3 1 X.M.B (madeCells #[vi 0] X.M.B) (by have := HDIM.out; unfold maxLen; omega) (by simp [madeCells])
    rw [toList_madeCells_one] at this
    rw [List.map_replicate]
    exact this.old (alloc_box _ _ _))
  have HL1 : Hid (Blk ((w.alloc (.cells (madeCells #[vi 0] X.M.B) 3)).alloc (.cells #[.slice (some ⟨w.heap.size, 0, none⟩) X.M.B X.M.B] 61)) (w.heap.size + 1) 61 #[.slice (some ⟨w.heap.size, 0, none⟩) X.M.B X.M.B]) := Lib.hid (by
    have := Blk.new (w.alloc (.cells (madeCells #[vi 0] X.M.B) 3)) 61 #[.slice (some ⟨w.heap.size, 0, none⟩) X.M.B X.M.B]
    rwa [size_alloc] at this)
  clear hmk
  generalize (w.alloc (.cells (madeCells #[vi 0] X.M.B) 3)).alloc (.cells #[.slice (some ⟨w.heap.size, 0, none⟩) X.M.B X.M.B] 61) = w1 at *
  obtain ⟨la, hla⟩ : ∃ la, la = w.heap.size := ⟨_, rfl⟩
  obtain ⟨lb, hlb⟩ : ∃ lb, lb = w.heap.size + 1 := ⟨_, rfl⟩
  have c5 := cell_below c5 HB1.out
  obtain ⟨w2, hrng, hit, hb2, hsz⟩ := (H.out.sld.old HB1.out).range (P := Tryz.prog) Tryz.underlying89
  obtain ⟨rr, hrr⟩ : ∃ rr, rr = w1.heap.size := ⟨_, rfl⟩
  have HRN : Hid (RngRun 89 (.map (some X.bs)) (.pointer (some ⟨rr, 0, none⟩)) w1 w2) := Lib.hid (by rw [hrr]; exact ⟨hrng⟩)
  have HST : Hid (LvSt w X.bs lb la rr X.M.B (List.replicate X.M.B 0) X.S w2) := Lib.hid (by
    rw [hla, hlb, hrr]
    exact ⟨HB1.out.trans (hb2.mono HB1.out.size), hit, HA1.out.old hb2, HL1.out.old hb2, Nat.le_refl _, by omega, HB1.out.size, H.out.sld.lt⟩)
  have HYG : Hid (w.heap.size ≤ la ∧ w.heap.size ≤ lb) := Lib.hid (by omega)
  clear hrng hit hb2 hsz HB1 HA1 HL1
  rw [← hlb, ← hla]
  clear hla hlb hrr
  go_wp2_with (at_range; refine wpList_range_run rfl (.tmp 16) rfl rfl HRN.out.run ?_)
  go_frame
  clear HRN c5
  go_loopg [6] X.S.length (fun k _ wr => ∃ done left, left.length ≤ k ∧ Hid (LvSt w X.bs lb la rr X.M.B (done.foldl FP.liveIn (List.replicate X.M.B 0)) left wr ∧ (done ++ left).Perm X.S))
  case atStart => exact ⟨[], X.S, Nat.le_refl _, Lib.hid ⟨HST.out, List.Perm.refl _⟩⟩
  case round =>
    clear HST
    obtain ⟨done, left, hlk, hrd⟩ := hrel
    rcases hrd.out.1.next with ⟨hnil, hnx⟩ | ⟨k, pb, pp, wn, hmem, hnx, hst2, hlt2, hpm2, hen⟩
    · have HNX := Lib.hid hnx
      have HLV : Hid (done.foldl FP.liveIn (List.replicate X.M.B 0) = X.S.foldl FP.liveIn (List.replicate X.M.B 0)) := Lib.hid (by
        have := hrd.out.2
        rw [hnil, List.append_nil] at this
        exact FP.live_perm this _)
      have HLS := Lib.hid hrd.out.1
      rw [HLV.out] at HLS
      clear hrd hnx hnil HLV hlk
      go_upto_region 5 with (at_next; refine wpList_next_run rfl (.tmp 17) rfl rfl (HNX.out.run _) ?_)
      have HF5 := Lib.hid (H.out.old HLS.out.below)
      have e0 : wr.cell? ⟨f, 0, none⟩ = some (ptr X.G.k) := HF5.out.obj.cell 0
      have e1 : wr.cell? ⟨f, 1, none⟩ = some (.pointer none) := HF5.out.obj.cell 1
      have e2 : wr.cell? ⟨f, 2, none⟩ = some (vi X.reserve) := HF5.out.obj.cell 2
      have e3 : wr.cell? ⟨f, 3, none⟩ = some (vi X.bad) := HF5.out.obj.cell 3
      have z1 : wr.frozen? ⟨f, 1, none⟩ = false := HF5.out.obj.frozen 1
      have b0 : wr.cell? ⟨lb, 0, none⟩ = some (.slice (some ⟨la, 0, none⟩) X.M.B X.M.B) := HLS.out.box.cell 0
      have HSD : Hid (wr.drew.cell? ⟨f, 0, none⟩ = some (ptr X.G.k) ∧ wr.drew.cell? ⟨f, 2, none⟩ = some (vi X.reserve) ∧ wr.drew.cell? ⟨f, 3, none⟩ = some (vi X.bad) ∧ wr.drew.cell? ⟨lb, 0, none⟩ = some (.slice (some ⟨la, 0, none⟩) X.M.B X.M.B)) := Lib.hid ⟨e0, e2, e3, b0⟩
      have HIR : Hid (IRow wr (some ⟨la, 0, none⟩) (X.S.foldl FP.liveIn (List.replicate X.M.B 0))) := Lib.hid (.inr ⟨la, 0, rfl, fun i hi => by
        rw [FP.live_len, List.length_replicate] at hi
        rw [Nat.zero_add, HLS.out.arr.cell (by omega), List.getElem?_map, List.getElem?_eq_getElem (by rw [FP.live_len, List.length_replicate]; exact hi), List.getD_eq_getElem?_getD, List.getElem?_eq_getElem (by rw [FP.live_len, List.length_replicate]; exact hi)]
        rfl⟩)
      have HDW : Hid (Below wr.heap.size wr wr.drew) := Lib.hid (Below.refl _ _).drew
      have HOP := Lib.hid (mgr.Open_any (HF5.out.chip.old HDW.out) HG.out.ok (Nat.le_trans hbase (Nat.le_trans HLS.out.below.size HDW.out.size)) fa fresh fc ((HFR.out.old HLS.out.below).old HDW.out) _ _ X.M.B (IRow.below HIR.out HDW.out) X.reserve X.bad)
      rw [HO.out, FP.live_len, List.length_replicate, HFL.out] at HOP
      have HFD := Lib.hid (HF5.out.old HDW.out)
      have HKB : Hid (∀ W, Below wr.drew.heap.size wr.drew W → (W.cell? ⟨f, 0, none⟩ = some (ptr X.G.k) ∧ W.cell? ⟨f, 2, none⟩ = some (vi X.reserve) ∧ W.cell? ⟨f, 3, none⟩ = some (vi X.bad) ∧ W.cell? ⟨lb, 0, none⟩ = some (.slice (some ⟨la, 0, none⟩) X.M.B X.M.B))) :=
        Lib.hid (fun W hb => ⟨cell_below HSD.out.1 hb, cell_below HSD.out.2.1 hb, cell_below HSD.out.2.2.1 hb, cell_below HSD.out.2.2.2 hb⟩)
      have HNL : Hid (¬ lb = f) := Lib.hid (fun e => by
        have h1 := HLS.out.box
        rw [e] at h1
        exact absurd (blk_type h1 HF5.out.obj) (by decide))
      have HNA : Hid (¬ la = f) := Lib.hid (HLS.out.arr.ne_blk HF5.out.obj (by decide))
      have HKS : Hid (∀ (W : World) u, (W.cell? ⟨f, 0, none⟩ = some (ptr X.G.k) ∧ W.cell? ⟨f, 2, none⟩ = some (vi X.reserve) ∧ W.cell? ⟨f, 3, none⟩ = some (vi X.bad) ∧ W.cell? ⟨lb, 0, none⟩ = some (.slice (some ⟨la, 0, none⟩) X.M.B X.M.B)) →
          ((W.setCell ⟨f, 1, none⟩ u).cell? ⟨f, 0, none⟩ = some (ptr X.G.k) ∧ (W.setCell ⟨f, 1, none⟩ u).cell? ⟨f, 2, none⟩ = some (vi X.reserve) ∧ (W.setCell ⟨f, 1, none⟩ u).cell? ⟨f, 3, none⟩ = some (vi X.bad) ∧ (W.setCell ⟨f, 1, none⟩ u).cell? ⟨lb, 0, none⟩ = some (.slice (some ⟨la, 0, none⟩) X.M.B X.M.B))) := Lib.hid (fun W u h => by
        rw [World.cell?_setCell_other _ _ _ _ (fun e => by injection e with _ e; exact absurd e (by decide)), World.cell?_setCell_other _ _ _ _ (fun e => by injection e with _ e; exact absurd e (by decide)), World.cell?_setCell_other _ _ _ _ (fun e => by injection e with _ e; exact absurd e (by decide)), World.cell?_setCell_other _ _ _ _ (fun e => by injection e with e; exact HNL.out e.symm)]
        exact h)
      clear HNX
      go_region_held3 (fun w' => w'.cell? ⟨f, 0, none⟩ = some (ptr X.G.k) ∧ w'.cell? ⟨f, 2, none⟩ = some (vi X.reserve) ∧ w'.cell? ⟨f, 3, none⟩ = some (vi X.bad) ∧ w'.cell? ⟨lb, 0, none⟩ = some (.slice (some ⟨la, 0, none⟩) X.M.B X.M.B))
        (first | exact HSD.out | exact HKB.out _ (by assumption) | exact HKS.out _ _ (HKB.out _ (by assumption)))
        (first | (go_at_call 55; refine HOP.out.mono ?_; rintro e w5 ⟨hb5, m, G, rfl, hheld, hGk, hGv, hGf⟩
                  have d1 : w5.cell? ⟨f, 1, none⟩ = some (.pointer none) := (HFD.out.old hb5).obj.cell 1
                  have d2 : w5.frozen? ⟨f, 1, none⟩ = false := (HFD.out.old hb5).obj.frozen 1))
      have HB5 := Lib.hid (HLS.out.below.trans ((HDW.out.trans (hb5.mono HDW.out.size)).mono HLS.out.below.size))
      have HA6 := Lib.hid ((HFD.out.old hb5).manage hheld hGk)
      have HL6 := Lib.hid (((HLS.out.arr.old HDW.out).old hb5).far (p := ⟨f, 1, none⟩) HNA.out (ptr m))
      have HX6 := Lib.hid (((HLS.out.box.old HDW.out).old hb5).far (p := ⟨f, 1, none⟩) HNL.out (ptr m))
      have HQ6 : Hid (Chg (X.hfoot f) w (w5.setCell ⟨f, 1, none⟩ (ptr m))) := Lib.hid ((Chg.of_below HB5.out).setCell (p := ⟨f, 1, none⟩) (.inl (.inl rfl)) _)
      have HGK := Lib.hid hGk
      have HGV := Lib.hid hGv
      have HGF : Hid (∀ n, G.foot m n → w.heap.size ≤ n) := Lib.hid (fun n e => Nat.le_trans (Nat.le_trans HLS.out.below.size HDW.out.size) (hGf n e))
      have HGL : Hid (G.l.length = X.M.B) := Lib.hid (by
        have := (openG_ok HO.out).1.len
        rw [← hGv] at this
        exact this)
      change Exit.then _ _ _ _ (w5.setCell ⟨f, 1, none⟩ (ptr m))
      clear hheld hGk hGv hGf hb5 d1 d2 e0 e1 e2 e3 z1 b0 HKS HKB HSD HOP HIR HFD HF5 HLS HDW HO HFR HB5 HNL
      generalize w5.setCell ⟨f, 1, none⟩ (ptr m) = w6 at *
      go_upto_region 7 with fail
      have HI7 := Lib.hid (Blk.new w6 3 #[vi 0])
      have HB7 : Hid (Below w6.heap.size w6 (w6.alloc (.cells #[vi 0] 3))) := Lib.hid ((Below.refl _ _).alloc (Nat.le_refl _) _)
      have HA7 := Lib.hid (HA6.out.old HB7.out)
      have HL7 := Lib.hid (HL6.out.old HB7.out)
      have HX7 := Lib.hid (HX6.out.old HB7.out)
      have HQ7 := Lib.hid (HQ6.out.below HB7.out)
      change Code.wp _ _ _ _ (w6.alloc (.cells #[vi 0] 3))
      obtain ⟨ib, hib⟩ : ∃ ib, ib = w6.heap.size := ⟨_, rfl⟩
      have HIY : Hid (w.heap.size ≤ ib ∧ ¬ X.hfoot f ib ∧ ¬ ({ X with m := m, G := G } : FtM).foot f ib) := Lib.hid (by
        rw [hib]
        exact ⟨HQ6.out.size, fun e => by have h1 := H.out.lt _ e; have h2 := HQ6.out.size; omega, fun e => by have h1 := HA6.out.lt _ e; omega⟩)
      rw [← hib] at HI7 ⊢
      have HIL : Hid (lb < ib ∧ la < ib) := Lib.hid (by
        have h1 := HX6.out.lt
        have h2 := HL6.out.lt
        omega)
      clear HB7 HA6 HL6 HX6 HQ6 hib
      generalize w6.alloc (.cells #[vi 0] 3) = w7 at *
      have e1 : w7.cell? ⟨f, 1, none⟩ = some (ptr m) := HA7.out.obj.cell 1
      have heq := eql_seqB
      go_wp2_with fail
      refine (mgr.All_any (some ⟨m, 0, none⟩)).mono ?_
      rintro e w' ⟨rfl, rfl⟩
      go_wp2_with fail
      clear heq e1
      have HB8 : Hid (Below w7.heap.size w7 (w7.alloc (.cells #[ptr m] 88))) := Lib.hid ((Below.refl _ _).alloc (Nat.le_refl _) _)
      have HR8 := Lib.hid (Blk.new w7 88 #[ptr m])
      have HA8 := Lib.hid (HA7.out.old HB8.out)
      have HL8 := Lib.hid (HL7.out.old HB8.out)
      have HX8 := Lib.hid (HX7.out.old HB8.out)
      have HQ8 := Lib.hid (HQ7.out.below HB8.out)
      have HI8 := Lib.hid (HI7.out.old HB8.out)
      obtain ⟨rb, hrb⟩ : ∃ rb, rb = w7.heap.size := ⟨_, rfl⟩
      rw [← hrb] at HR8 ⊢
      change Code.wp _ _ _ _ (w7.alloc (.cells #[ptr m] 88))
      clear HB8 HA7 HL7 HX7 HQ7 HI7 hrb
      generalize w7.alloc (.cells #[ptr m] 88) = w8 at *
      have HLV : Hid ((X.S.foldl FP.liveIn (List.replicate X.M.B 0)).length = X.M.B) := Lib.hid (by rw [FP.live_len, List.length_replicate])
      generalize X.S.foldl FP.liveIn (List.replicate X.M.B 0) = lv at *
      have HNI : Hid (¬ (lb = ib ∨ w8.heap.size ≤ lb) ∧ ¬ (la = ib ∨ w8.heap.size ≤ la)) := Lib.hid (by
        have h1 := HX8.out.lt
        have h2 := HL8.out.lt
        have h3 := HIL.out
        omega)
      refine wpIn_wide.1 (wpIn_rangeFunc_ownH (F := Fence.wide) (n := 6) rfl (by omega) (gf := 142) (lb := #[.pointer (some ⟨rb, 0, none⟩)]) rfl trivial (enter_of Tryz.func142 (by kernel_rfl) rfl)
        (All1_fin (G := G) 5 (by decide) HA8.out.held.mgr (by rw [HGL.out]; exact HDIM.out.2.1) rb ib (HR8.out.cell 0) (fun e => HIY.out.2.2 (.inr (.inr (.inr (.inr (.inr (.inl e))))))))
        (fun h1 h2 => h1.trans h2 (fun _ _ e => e)) (fun W l o o' hl0 _ _ _ => ⟨rfl, rfl, rfl, by simp, fun k _ hk => World.putObj_heap_other (fun e => hk (.inr (by omega)))⟩) (Below.refl _ _) (fun _ => rfl)
        (IdIn w8 ib) (fun _ _ _ => False) (idIn_own w8 ib HI8.out.lt) (fun _ _ _ _ _ h _ _ => h) ⟨⟨_, HI8.out⟩, Chg.refl _ _⟩
        (fun x a' W => ∃ g, a' = ({ tmps := #[ptr f, .slice fa X.M.B fc, undef, undef, .pointer (some ⟨lb, 0, none⟩), undef, u6, .pointer (some ⟨ib, 0, none⟩), vi (x.1 : Int), .pointer (some ⟨g, 0, none⟩), .slice fa X.M.B fc, .int .i64 X.M.B, .slice (some ⟨la, 0, none⟩) X.M.B X.M.B, ptr f, .pointer (some ⟨f, 0, none⟩), .pointer (some ⟨f, 5, none⟩), .map (some X.bs), .pointer (some ⟨rr, 0, none⟩), .tuple #[.bool false], .bool false, u20, u21, u22, u23, u24, u25, u26, u27, u28, .tuple #[ptr m, vi 0], ptr f, ptr f, .pointer (some ⟨f, 0, none⟩), .pointer (some ⟨f, 0, none⟩), ptr X.G.k, .slice fa X.M.B fc, .slice (some ⟨la, 0, none⟩) X.M.B X.M.B, ptr f, .pointer (some ⟨f, 0, none⟩), .pointer (some ⟨f, 2, none⟩), vi X.reserve, ptr f, .pointer (some ⟨f, 0, none⟩), .pointer (some ⟨f, 3, none⟩), vi X.bad, .tuple #[ptr m, vi 0], ptr m, vi 0, .pointer (some ⟨f, 0, none⟩), .pointer (some ⟨f, 1, none⟩), ptr f, .pointer (some ⟨f, 0, none⟩), .pointer (some ⟨f, 1, none⟩), ptr m, .func (.func 142) #[] #[.pointer (some ⟨rb, 0, none⟩)], vi (x.1 : Int), .agg #[vi (G.l.getD x.1 default).s, vi (G.l.getD x.1 default).l, vi (G.l.getD x.1 default).r, vi (G.l.getD x.1 default).n], undef, undef, undef, undef, undef, undef, undef, undef, undef, undef, undef, undef, undef, undef, undef, undef, undef], defers := [] } : Act) ∧ Blk W g 173 #[vi (G.l.getD x.1 default).s, vi (G.l.getD x.1 default).l, vi (G.l.getD x.1 default).r, vi (G.l.getD x.1 default).n]) ?_ ?_ ?_ ?_ (fun _ _ _ _ _ _ h => h.elim))
      · intro x a' s W W' row hs hg hr
        obtain ⟨g, e, hb⟩ := hs
        refine ⟨g, e, (hg.block g hb.lt (fun e2 => ?_)).trans hb⟩
        obtain ⟨_, o, ho, hc⟩ := hr g e2.symm
        unfold Blk at hb
        rw [hb] at ho
        cases ho
        cases hc
      · rintro l pre ⟨j, hj⟩ W K hI hK
        have HI := Lib.hid hI
        have HK := Lib.hid hK
        clear hI hK
        simp only [finEncs] at HK ⊢
        generalize G.l.getD j default = x at *
        gi_wp2
        exact HK.out _ _ (keeps_grownB (World.grownBy_alloc W _ none) (fun r e => by cases e)) ((Chg.refl _ W).alloc _) ((idIn_own w8 _ HI8.out.lt).alloc _ HI.out) ⟨W.heap.size, rfl, Blk.new W _ _⟩
      · rintro l pre ⟨j, hj⟩ a' W hlw hrec ⟨⟨n, hbx⟩, hkp⟩ ⟨g9, rfl, hg⟩ hlen
        simp only [] at hg ⊢
        generalize (G.l.getD j default).s = xs at *
        generalize (G.l.getD j default).l = xl at *
        generalize (G.l.getD j default).r = xr at *
        generalize (G.l.getD j default).n = xn at *
        have g0 : W.cell? ⟨g9, 0, none⟩ = some (vi xs) := hg.cell 0
        have b0 : W.cell? ⟨lb, 0, none⟩ = some (.slice (some ⟨la, 0, none⟩) X.M.B X.M.B) := hkp.cell (HX8.out.cell 0) HNI.out.1
        have hjB : j < X.M.B := by rw [← HGL.out]; exact hj
        have a0 : W.cell? ⟨la, j, none⟩ = some (vi (lv.getD j 0)) := hkp.cell (by
          rw [HL8.out.cell (by omega), List.getElem?_map, List.getElem?_eq_getElem (by have := HLV.out; omega), List.getD_eq_getElem?_getD, List.getElem?_eq_getElem (by have := HLV.out; omega)]
          rfl) HNI.out.2
        have i0 : W.cell? ⟨ib, 0, none⟩ = some (vi n) := hbx.cell 0
        have z0 := hbx.frozen 0
        have q0 : (0 : Int) ≤ (j : Int) := by omega
        have q1 : (j : Int) < (X.M.B : Int) := by omega
        generalize lv.getD j 0 = n0 at *
        have HBX := Lib.hid hbx
        have HKP := Lib.hid hkp
        clear hbx hkp hg hrec hlen hlw
        have HSAME : Hid (KeepsFrom w8.heap.size W W ∧ KeptB ib w8.heap.size W W ∧ IdIn (α := Fin G.l.length) w8 ib [] W) := Lib.hid ⟨⟨Nat.le_refl _, fun _ _ _ h _ => h⟩, Chg.refl _ _, ⟨n, HBX.out⟩, HKP.out⟩
        by_cases hs : xs = 4
        · have hs' : (xs != 4) = false := by simp [hs]
          clear hs
          gi_wp2
          exact HSAME.out
        · have hs' : (xs != 4) = true := by simp [hs]
          clear hs
          by_cases hn : n0 = 0
          · have hn' : (n0 == 0) = true := by simp [hn]
            clear hn
            gi_wp2
            refine ⟨keeps_grownB (set_grown W ib 0 _) (fun r e => by cases e; exact ⟨_, _, HBX.out⟩), Chg.set (F := fun m => m = ib ∨ w8.heap.size ≤ m) W (p := ⟨ib, 0, none⟩) (.inl rfl) _, ⟨_, HBX.out.set_ 0 _⟩, ?_⟩
            exact Chg.setCell HKP.out (p := ⟨ib, 0, none⟩) (.inl (.inl rfl)) _
          · have hn' : (n0 == 0) = false := by simp [hn]
            clear hn
            gi_wp2
            exact HSAME.out
      · rintro D xs W hD _ ⟨⟨n, hbx⟩, hkp⟩ hdf
        have HLS : Hid (∀ k, (k = ib ∨ w8.heap.size ≤ k) → Loose base w8 k) := Lib.hid (fun k e => by
          rcases e with e | e
          · rw [e]; exact Loose.blk (Nat.le_trans hbase HIY.out.1) HI8.out
          · exact ⟨Nat.le_trans (Nat.le_trans hbase HQ8.out.size) e, fun t cur hb => by have := hb.lt; omega⟩)
        have HAW := Lib.hid (HA8.out.chg hkp HLS.out (fun k e e2 => by
          rcases e2 with e2 | e2
          · exact HIY.out.2.2 (e2 ▸ e)
          · have := HA8.out.lt _ e; omega))
        have i0 : W.cell? ⟨ib, 0, none⟩ = some (vi n) := hbx.cell 0
        have c11 : W.cell? ⟨f, 11, none⟩ = some (.bool X.over) := HAW.out.obj.cell 11
        have z11 := HAW.out.obj.frozen 11
        have HQW : Hid (Chg (X.hfoot f) w W) := Lib.hid (HQ8.out.trans hkp (fun k hk e => by
          rcases e with e | e
          · have := HIY.out.1; omega
          · have := HQ8.out.size; omega))
        have HWZ : Hid (base ≤ W.heap.size ∧ w8.heap.size ≤ W.heap.size) := Lib.hid ⟨Nat.le_trans hbase HQW.out.size, hkp.size⟩
        have HDF := Lib.hid hdf
        have HD := Lib.hid hD
        clear hdf hD hkp hbx
        obtain ⟨ov, hov⟩ : ∃ ov, ov = (n == 0) := ⟨_, rfl⟩
        have hov' := hov.symm
        clear hov
        go_wp2_with fail
        have HAE := HAW.out.field (X' := { X with m := m, G := G, over := ov }) 11 (.bool ov) rfl ⟨rfl, rfl, rfl⟩ ⟨HAW.out.text, HAW.out.tlen⟩ ⟨rfl, rfl⟩ ⟨rfl, rfl⟩ ⟨rfl, rfl⟩ ⟨rfl, rfl, rfl⟩ HWZ.out.1
        have hfD : f < D := by have h1 := HA8.out.obj.lt; have h2 := HD.out; omega
        have hdw : (W.setCell ⟨f, 11, none⟩ (.bool ov)).heap[D]? = some (.deferred (some [])) := (Below.heap_setCell W ⟨f, 11, none⟩ (.bool ov) D (fun e => by dsimp only at e; omega)).trans HDF.out
        have hgr := grownBy_putObj' (W.setCell ⟨f, 11, none⟩ (.bool ov)) D (.deferred none)
        have hcd : Chg (fun k => k = D) (W.setCell ⟨f, 11, none⟩ (.bool ov)) ((W.setCell ⟨f, 11, none⟩ (.bool ov)).putObj D (.deferred none)) := (Chg.refl _ _).grown hgr (fun k e => by cases e; exact .inl rfl)
        refine ⟨by simp, .inl ⟨_, _, rfl, run_takeDeferred hdw, ⟨_, results_none rfl _ _ _, ⟨m, G, ov, rfl, ?_, HGK.out, HGV.out, ?_, HGF.out⟩⟩⟩⟩
        · refine HAE.at_.chg hcd (fun k e => ?_) (fun k e e2 => ?_)
          · rw [e]
            refine ⟨Nat.le_trans (Nat.le_trans hbase HQ8.out.size) HD.out, fun t cur hb => ?_⟩
            unfold Blk at hb
            rw [hdw] at hb
            cases hb
          · have h1 : k < w8.heap.size := HA8.out.lt k e
            have h2 := HD.out
            omega
        · exact (HQW.out.setCell (p := ⟨f, 11, none⟩) (.inl (.inl rfl)) (.bool ov)).grown hgr (fun k e => by cases e; exact .inr (by have h1 := HQ8.out.size; have h2 := HD.out; omega))
    · have hin := HS.out _ (hrd.out.2.subset (List.mem_append_right _ hmem))
      dsimp only at hin
      obtain ⟨q, rfl⟩ : ∃ q : Nat, pb = q := ⟨pb.toNat, by omega⟩
      have HNX := Lib.hid hnx
      have HPM : Hid ((done ++ [(k, (⟨(q : Int), pp⟩ : FP.Plc))] ++ MP.del left k).Perm X.S) := Lib.hid (by
        rw [List.append_assoc]
        exact (hpm2.symm.append_left done).trans hrd.out.2)
      have HDL : Hid (done.length ≤ 100000) := Lib.hid (by
        have h1 := hrd.out.2.length_eq
        have h2 := HSL.out
        rw [List.length_append] at h1
        omega)
      have HRG := Lib.hid (FP.live_rng done (FP.zeros_rng X.M.B) q)
      have HLN : Hid ((done.foldl FP.liveIn (List.replicate X.M.B 0)).length = X.M.B) := Lib.hid (by rw [FP.live_len, List.length_replicate])
      have HLC : Hid (FP.liveIn (done.foldl FP.liveIn (List.replicate X.M.B 0)) (k, (⟨(q : Int), pp⟩ : FP.Plc)) = (done ++ [(k, (⟨(q : Int), pp⟩ : FP.Plc))]).foldl FP.liveIn (List.replicate X.M.B 0)) := Lib.hid (by rw [List.foldl_append]; rfl)
      have HST2 := Lib.hid hst2
      have hlt3 : (MP.del left k).length < gk := by omega
      clear hrd hnx hpm2 hst2 hmem
      generalize done.foldl FP.liveIn (List.replicate X.M.B 0) = cnt at *
      go_upto_region 4 with (at_next; refine wpList_next_run rfl (.tmp 17) rfl rfl (HNX.out.run _) ?_)
      have HS4 := Lib.hid (HST2.out.old ((Below.refl wn.heap.size wn).alloc (Nat.le_refl _) (.cells #[vi q, vi pp] 85)))
      have P4 := Lib.hid (Blk.new wn 85 #[vi q, vi pp])
      clear HNX hen HST2
      change Code.wp _ _ _ _ (wn.alloc (.cells #[vi q, vi pp] 85))
      generalize wn.alloc (.cells #[vi q, vi pp] 85) = w4 at *
      generalize wn.heap.size = g4 at *
      have p0 : w4.cell? ⟨g4, 0, none⟩ = some (vi q) := P4.out.cell 0
      have b0 : w4.cell? ⟨lb, 0, none⟩ = some (.slice (some ⟨la, 0, none⟩) X.M.B X.M.B) := HS4.out.box.cell 0
      have a0 : w4.cell? ⟨la, q, none⟩ = some (vi (cnt.getD q 0)) := by
        rw [HS4.out.arr.cell (by omega), List.getElem?_map, List.getElem?_eq_getElem (by have := HLN.out; omega), List.getD_eq_getElem?_getD, List.getElem?_eq_getElem (by have := HLN.out; omega)]
        rfl
      have z0 := HS4.out.arr.frozen q
      have HC4 := Lib.hid (HS4.out.count (k, (⟨(q : Int), pp⟩ : FP.Plc)) q rfl)
      rw [HLC.out] at HC4
      have q0 : (0 : Int) ≤ (q : Int) := by omega
      have q1 : (q : Int) < (X.M.B : Int) := hin.2
      have hrg := HRG.out
      have hdl := HDL.out
      generalize cnt.getD q 0 = n0 at *
      have q2 : IntKind.i64.wrap (n0 + 1) = n0 + 1 := IntWalk.i64_in _ (by omega)
      go_wp2_with fail
      go_roundg (MP.del left k).length
      case measure => omega
      case rel => exact ⟨done ++ [(k, (⟨(q : Int), pp⟩ : FP.Plc))], MP.del left k, Nat.le_refl _, Lib.hid ⟨HC4.out, HPM.out⟩⟩
end
end Go.Proofs.YtjkaioonppmkjaaGreat.ft

