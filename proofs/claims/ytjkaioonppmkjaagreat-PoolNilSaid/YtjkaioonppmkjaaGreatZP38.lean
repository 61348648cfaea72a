/-
  Lemmas for a law's proof, put together from several texts: each part says what it shows, and its conditions.
-/
import Derived.Test.YtjkaioonppmkjaaGreatZP37
/-
  A chip that holds a translation is opened. Conditions: a chip told by ChipAt, that is opened in plain words.
-/
namespace Go.Proofs.YtjkaioonppmkjaaGreat.ft
open Go.RowKit Go.Proofs.YtjkaioonppmkjaaGreat.mgr

/-- A translation in which so many pages that were seen are told. -/
abbrev FtM.laid (X : FtM) (last B : Nat) (l : List FP.Sn) : FtM := { X with seq := FP.maxSeq l, epoch := FP.maxEpoch l, later := l.foldl (FP.laterIn last) (List.replicate B false) }
section
variable {base : Nat} {w : World} {k : Nat} {M : ChM}
set_option maxRecDepth 100000 in
set_option maxHeartbeats 8000000 in
theorem Open_new (h : ChipAt base w k M) (hg : Good6 M.view) (hbase : base ≤ w.heap.size) (F : FP.Ft) (c' : NP.Chp) (hq : FP.openF M.view = some (0, some F, c')) (hk : FP.openOk M.view = true) :
    Calls Tryz.prog 11 #[ptr k] w fun e w' => ∃ f X, e = .returned (.tuple #[ptr f, vi 0]) ∧ FtNew base w k M w' f X ∧ X.view = { F with over := X.over } ∧ X.Fit := by
  obtain ⟨hdown, hgood, hlast, htag, hz, hr0, hr1, hr2, g, hopen, hF⟩ := FP.openF_some hq
  have HFIT := Lib.hid (open_fit hg hq hk)
  have HFE := Lib.hid hF
  have HOK := Lib.hid (FP.openOk_out hk)
  have hdim : 8 ≤ M.B ∧ M.B ≤ 128 ∧ M.P ≤ 32 ∧ 64 ≤ M.S ∧ M.S ≤ 512 := by
    have : NP.rightB M.B M.P M.S = true := hg.ok.right
    unfold NP.rightB at this
    simp only [Bool.and_eq_true, Bool.or_eq_true, beq_iff_eq, decide_eq_true_eq] at this
    omega
  have HDIM := Lib.hid hdim
  have HSG := Lib.hid (scan_good hg)
  have HLL : Hid ((FP.scan M.view).l.length ≤ 100000) := Lib.hid (by
    have h1 := HSG.out.2.2
    have h2 : M.view.B = M.B := rfl
    rw [h2] at h1
    omega)
  have H := Lib.hid h
  have HG := Lib.hid hg
  have HU := Lib.hid (Up_any h)
  have hdown' : M.down = false := hdown
  rw [hdown'] at HU
  have HSC := Lib.hid (scan_any h hg hbase)
  rw [hgood] at HSC
  have HTG := Lib.hid htag
  have HZ := Lib.hid hz
  have HR0 := Lib.hid hr0
  have HR1 := Lib.hid hr1
  have HR2 := Lib.hid hr2
  have HOP := Lib.hid hopen
  have HGD := Lib.hid hgood
  have hl0 : ((FP.oLast M.view : Int) == 0) = false := by simp; exact hlast
  have HLE : Hid (FP.lastEpoch (FP.scan M.view).l = FP.oLast M.view) := Lib.hid rfl
  have HAL : Hid (FP.chosen (FP.newest (FP.scan M.view).l (FP.oLast M.view)) = FP.oAll M.view) := Lib.hid rfl
  have HNL : Hid ((FP.newest (FP.scan M.view).l (FP.oLast M.view)).length ≤ 100000) := Lib.hid (Nat.le_trans (List.length_filter_le _ _) HLL.out)
  clear h hg hdown hdown' hgood hlast htag hz hr0 hr1 hr2 hopen hF hdim hq hk
  go_enter Tryz.func11, Tryz.ntmps11
  go_wp2_with fail
  refine HU.out.mono ?_
  rintro e w' ⟨rfl, rfl⟩
  go_wp2_with fail
  refine HSC.out.mono ?_
  rintro e w1 ⟨v, fb, gb, Mj, rfl, hst⟩
  obtain ⟨a, c, rfl, hrow⟩ := hst.own.srow
  have HST := Lib.hid hst
  have HRW := Lib.hid hrow
  clear hst hrow HU HSC
  have HLA := Lib.hid (lastEpoch_any a (FP.scan M.view).l c w1 HRW.out HLL.out)
  rw [HLE.out] at HLA
  go_wp2_with fail
  refine HLA.out.mono ?_
  rintro e w2 ⟨rfl, hb2⟩
  have HB2 := Lib.hid hb2
  clear hb2 HLA
  have HNA := Lib.hid (newest_any a (FP.scan M.view).l c (FP.oLast M.view) w2 (HRW.out.old HB2.out) HLL.out)
  go_wp2_with fail
  refine HNA.out.mono ?_
  rintro e w3 ⟨v3, rfl, ho3, hb3⟩
  obtain ⟨a3, c3, rfl, hrow3⟩ := ho3.srow
  have HB3 := Lib.hid (HB2.out.trans (hb3.mono HB2.out.size))
  have HCH := Lib.hid (chosen_any a3 _ c3 w3 hrow3 HNL.out)
  rw [HAL.out] at HCH
  clear HNA ho3 hrow3 hb3 HB2
  go_wp2_with fail
  refine HCH.out.mono ?_
  rintro e w4 ⟨bs, rfl, hm4, hbs, hb4⟩
  have HB4 := Lib.hid (HB3.out.trans (hb4.mono HB3.out.size))
  have HM4 := Lib.hid hm4
  have HBS : Hid (w1.heap.size ≤ bs) := Lib.hid (Nat.le_trans HB3.out.size hbs)
  clear hm4 hbs hb4 HCH HB3
  have hmm := @run_makeMap Tryz.prog
  go_wp2_with fail
  have HMB : Hid (Mj.B = M.B) := Lib.hid ((congrArg NP.Chp.B HST.out.view).trans (scanTo_B M.view M.B))
  have HB5 : Hid (Below w4.heap.size w4 ((w4.alloc (.map #[] 0)).alloc (.map #[] 0))) := Lib.hid (((Below.refl _ _).alloc (Nat.le_refl _) _).alloc (by simp) _)
  have HN5 : Hid (MpAt ((w4.alloc (.map #[] 0)).alloc (.map #[] 0)) w4.heap.size .u32 encP []) := Lib.hid ((MpAt.made w4 .u32 encP).alloc _)
  have HD5 : Hid (MpAt ((w4.alloc (.map #[] 0)).alloc (.map #[] 0)) (w4.heap.size + 1) .u32 encP []) := Lib.hid (by
    have := MpAt.made (w4.alloc (.map #[] 0)) .u32 encP
    rwa [size_alloc] at this)
  have HGE := Lib.hid (Geo_any (((HST.out.goes.at_.old HB4.out).old HB5.out)))
  rw [HMB.out] at HGE
  obtain ⟨bn, hbn⟩ : ∃ bn, bn = w4.heap.size := ⟨_, rfl⟩
  have HM5 := Lib.hid (HM4.out.old HB5.out)
  have HBL : Hid (w1.heap.size ≤ bn ∧ bs < bn) := Lib.hid (by rw [hbn]; exact ⟨HB4.out.size, HM4.out.lt⟩)
  have HC5 := Lib.hid (HB4.out.trans (HB5.out.mono HB4.out.size))
  rw [← hbn] at HN5 HD5 ⊢
  clear HB5 HB4 HM4 hbn hmm
  generalize (w4.alloc (.map #[] 0)).alloc (.map #[] 0) = w5 at *
  refine HGE.out.mono ?_
  rintro e w6 ⟨rfl, hb6⟩
  have HC6 := Lib.hid (HC5.out.trans (hb6.mono HC5.out.size))
  have HM6 := Lib.hid (HM5.out.old hb6)
  have HN6 := Lib.hid (HN5.out.old hb6)
  have HD6 := Lib.hid (HD5.out.old hb6)
  clear hb6 HGE HM5 HN5 HD5 HC5
  have hmk := make_bools M.B (by have := HDIM.out; omega)
  have hf0 := geo_f0 M.B Mj.P Mj.S
  go_upto_region 10 with fail
  obtain ⟨lg, hlg⟩ : ∃ lg, lg = w6.heap.size := ⟨_, rfl⟩
  have HBB : Hid (Below w6.heap.size w6 ((w6.alloc (.cells (madeCells #[.bool false] M.B) 4)).alloc (.cells #[ptr k, (.pointer none : Value), vi 0, vi 0, .slice none 0 0, .map (some bs), .map (some bn), .map (some (bn + 1)), vq 0, vq 0, .slice (some ⟨lg, 0, none⟩) M.B M.B, .bool false] 93))) :=
    Lib.hid (((Below.refl _ _).alloc (Nat.le_refl _) _).alloc (by simp) _)
  have HOS : Hid (OpSt base w' k M (lg + 1) ((w6.alloc (.cells (madeCells #[.bool false] M.B) 4)).alloc (.cells #[ptr k, (.pointer none : Value), vi 0, vi 0, .slice none 0 0, .map (some bs), .map (some bn), .map (some (bn + 1)), vq 0, vq 0, .slice (some ⟨lg, 0, none⟩) M.B M.B, .bool false] 93))
      (⟨0, ⟨k, [], 0, 0, 0, 0, 0, false⟩, Mj, 0, 0, none, [], 0, bs, bn, bn + 1, FP.oAll M.view, [], [], 0, 0, lg, M.B, List.replicate M.B false, false⟩ : FtM)) := Lib.hid (by
    have h1 : w'.heap.size ≤ w1.heap.size := HST.out.goes.size
    have h2 := HBL.out
    have h3 := HBS.out
    have h4 := HC6.out.size
    have h5 : bn < w6.heap.size := HN6.out.lt
    have h5' : bn + 1 < w6.heap.size := HD6.out.lt
    have hgo := (HST.out.goes.old HC6.out).old HBB.out
    have hobj := Blk.new (w6.alloc (.cells (madeCells #[.bool false] M.B) 4)) 93 #[ptr k, (.pointer none : Value), vi 0, vi 0, .slice none 0 0, .map (some bs), .map (some bn), .map (some (bn + 1)), vq 0, vq 0, .slice (some ⟨lg, 0, none⟩) M.B M.B, .bool false]
    rw [size_alloc, ← hlg] at hobj
    have hlat := (arr_bools w6 M.B (by have := HDIM.out; omega)).old (alloc_box _ #[ptr k, (.pointer none : Value), vi 0, vi 0, .slice none 0 0, .map (some bs), .map (some bn), .map (some (bn + 1)), vq 0, vq 0, .slice (some ⟨lg, 0, none⟩) M.B M.B, .bool false] 93)
    rw [← hlg] at hlat
    refine ⟨⟨?_, hgo.at_, SRow.nil _ _ _, ⟨Nat.le_refl _, Nat.zero_le _⟩, HM6.out.old HBB.out, HN6.out.old HBB.out, HD6.out.old HBB.out, ?_, ⟨by omega, by dsimp only; omega, by dsimp only; omega, by dsimp only; omega, by dsimp only; omega⟩, ⟨by dsimp only; omega, by dsimp only; omega, by dsimp only; omega⟩⟩, hgo.chg, ?_, rfl⟩
    · show Blk _ _ _ #[ptr k, (.pointer none : Value), vi 0, vi 0, .slice none 0 0, .map (some bs), .map (some bn), .map (some (bn + 1)), vq 0, vq 0, .slice (some ⟨lg, 0, none⟩) (List.replicate M.B false).length M.B, .bool false]
      rw [List.length_replicate]
      exact hobj
    · dsimp only
      rw [List.length_replicate]
      exact hlat
    · intro n e
      rcases e with e | e | e | e | e | e
      · exact .inr (by omega)
      · exact .inr (by dsimp only at e; omega)
      · exact .inr (by dsimp only at e; omega)
      · exact .inr (by dsimp only at e; omega)
      · exact .inr (by dsimp only at e; omega)
      · exact HST.out.goes.foot n e)
  have HB7 := Lib.hid (HC6.out.trans (HBB.out.mono HC6.out.size))
  have HFL : Hid (w1.heap.size ≤ lg) := Lib.hid (by rw [hlg]; exact HC6.out.size)
  rw [← hlg]
  change Code.wp _ _ _ _ ((w6.alloc (.cells (madeCells #[.bool false] M.B) 4)).alloc (.cells #[ptr k, (.pointer none : Value), vi 0, vi 0, .slice none 0 0, .map (some bs), .map (some bn), .map (some (bn + 1)), vq 0, vq 0, .slice (some ⟨lg, 0, none⟩) M.B M.B, .bool false] 93))
  clear HBB hlg hmk hf0 HM6 HN6 HD6 HC6
  generalize (w6.alloc (.cells (madeCells #[.bool false] M.B) 4)).alloc (.cells #[ptr k, (.pointer none : Value), vi 0, vi 0, .slice none 0 0, .map (some bs), .map (some bn), .map (some (bn + 1)), vq 0, vq 0, .slice (some ⟨lg, 0, none⟩) M.B M.B, .bool false] 93) = w7 at *
  obtain ⟨X0, hX0⟩ : ∃ X0, X0 = (⟨0, ⟨k, [], 0, 0, 0, 0, 0, false⟩, Mj, 0, 0, none, [], 0, bs, bn, bn + 1, FP.oAll M.view, [], [], 0, 0, lg, M.B, List.replicate M.B false, false⟩ : FtM) := ⟨_, rfl⟩
  rw [← hX0] at HOS
  have HX0 : Hid (X0.M = Mj ∧ X0.reserve = 0 ∧ X0.bad = 0 ∧ X0.bs = bs ∧ X0.S = FP.oAll M.view ∧ X0.N = [] ∧ X0.D = [] ∧ X0.lg = lg ∧ X0.lc = M.B ∧ X0.G.k = k) := Lib.hid (by rw [hX0]; exact ⟨rfl, rfl, rfl, rfl, rfl, rfl, rfl, rfl, rfl, rfl⟩)
  have HOS : Hid (OpSt base w' k M (lg + 1) w7 (X0.laid (FP.oLast M.view) M.B [])) := Lib.hid (by
    have h := HOS.out
    rw [hX0] at h ⊢
    exact h)
  clear hX0
  obtain ⟨f, hf⟩ : ∃ f, f = lg + 1 := ⟨_, rfl⟩
  have HFF : Hid (w1.heap.size ≤ f) := Lib.hid (by have := HFL.out; omega)
  rw [← hf] at HOS ⊢
  clear hf
  go_wp2_with fail
  go_loopw [48] (fun i wr => ∃ j : Nat, j ≤ (FP.scan M.view).l.length ∧ i = vi j ∧ Hid (OpSt base w' k M f wr (X0.laid (FP.oLast M.view) M.B ((FP.scan M.view).l.take j))) ∧ Hid (Below w1.heap.size w1 wr)) (fun i _ => (FP.scan M.view).l.length - (intOf i).toNat)
  case atStart => exact ⟨0, Nat.zero_le _, rfl, HOS, HB7⟩
  case round =>
    clear HOS HB7
    obtain ⟨j, hj, rfl, hos, hb⟩ := hrel
    by_cases hlt : j < (FP.scan M.view).l.length
    · have HTK : Hid ((FP.scan M.view).l.take (j + 1) = (FP.scan M.view).l.take j ++ [(FP.scan M.view).l.getD j default]) := Lib.hid (by
        rw [List.take_succ_eq_append_getElem hlt, List.getD_eq_getElem?_getD, List.getElem?_eq_getElem hlt]
        rfl)
      have HXI : Hid (0 ≤ ((FP.scan M.view).l.getD j default).at_.block ∧ ((FP.scan M.view).l.getD j default).at_.block < M.B) := Lib.hid (FP.scanTo_in M.view M.B _ (by
        rw [List.getD_eq_getElem?_getD, List.getElem?_eq_getElem hlt]
        exact List.getElem_mem _))
      obtain ⟨b, o, rfl, hx⟩ := (HRW.out.old hb.out).lookup hlt
      generalize (FP.scan M.view).l.getD j default = x at *
      obtain ⟨g0, g1, g2, g3, g4, g5⟩ := hx
      go_upto_region 13 with fail
      have G := Lib.hid (Blk.new wr 112 (snC x))
      have HBA : Hid (Below wr.heap.size wr (wr.alloc (.cells (snC x) 112))) := Lib.hid ((Below.refl _ _).alloc (Nat.le_refl _) _)
      have HO2 := Lib.hid (hos.out.old HBA.out)
      have HB2 := Lib.hid (hb.out.trans (HBA.out.mono hb.out.size))
      change Code.wp _ _ _ _ (wr.alloc (.cells (snC x) 112))
      obtain ⟨g, hgg⟩ : ∃ g, g = wr.heap.size := ⟨_, rfl⟩
      rw [← hgg] at G ⊢
      have HGY : Hid (w1.heap.size ≤ g) := Lib.hid (by rw [hgg]; exact hb.out.size)
      clear g0 g1 g2 g3 g4 g5 hb hos HBA hgg
      generalize wr.alloc (.cells (snC x) 112) = w8 at *
      have HLD : Hid (X0.laid (FP.oLast M.view) M.B ((FP.scan M.view).l.take (j + 1)) = { X0 with seq := max (FP.maxSeq ((FP.scan M.view).l.take j)) x.tag.seq, epoch := max (FP.maxEpoch ((FP.scan M.view).l.take j)) x.tag.epoch, later := FP.laterIn (FP.oLast M.view) (((FP.scan M.view).l.take j).foldl (FP.laterIn (FP.oLast M.view)) (List.replicate M.B false)) x }) := Lib.hid (by
        rw [HTK.out]
        simp only [FtM.laid, FP.maxSeq, FP.maxEpoch, List.foldl_append, List.foldl_cons, List.foldl_nil])
      have HLT : Hid ((((FP.scan M.view).l.take j).foldl (FP.laterIn (FP.oLast M.view)) (List.replicate M.B false)).length = M.B) := Lib.hid (by rw [FP.later_len, List.length_replicate])
      change Hid (OpSt base w' k M f w8 { X0 with seq := FP.maxSeq ((FP.scan M.view).l.take j), epoch := FP.maxEpoch ((FP.scan M.view).l.take j), later := ((FP.scan M.view).l.take j).foldl (FP.laterIn (FP.oLast M.view)) (List.replicate M.B false) }) at HO2
      generalize FP.maxSeq ((FP.scan M.view).l.take j) = n8 at *
      generalize FP.maxEpoch ((FP.scan M.view).l.take j) = n9 at *
      generalize ((FP.scan M.view).l.take j).foldl (FP.laterIn (FP.oLast M.view)) (List.replicate M.B false) = lt at *
      have e8 : w8.cell? ⟨f, 8, none⟩ = some (vq n8) := HO2.out.at_.obj.cell 8
      have e9 : w8.cell? ⟨f, 9, none⟩ = some (vq n9) := HO2.out.at_.obj.cell 9
      have z8 : w8.frozen? ⟨f, 8, none⟩ = false := HO2.out.at_.obj.frozen 8
      have z9 : w8.frozen? ⟨f, 9, none⟩ = false := HO2.out.at_.obj.frozen 9
      have t2 : w8.cell? ⟨g, 2, none⟩ = some (vq x.tag.seq) := G.out.cell 2
      have t3 : w8.cell? ⟨g, 3, none⟩ = some (vq x.tag.epoch) := G.out.cell 3
      have HNG : Hid (¬ g = f ∧ ¬ g = lg) := Lib.hid ⟨fun e => by
        have h1 := G.out
        rw [e] at h1
        exact absurd (blk_type h1 HO2.out.at_.obj) (by decide), fun e => by
        obtain ⟨cur, hb, _⟩ := HO2.out.at_.later.blk
        have h1 := G.out
        rw [e, ← HX0.out.2.2.2.2.2.2.2.1] at h1
        exact absurd (blk_type h1 hb) (by decide)⟩
      have HLI : Hid (FP.laterIn (FP.oLast M.view) lt x = if FP.oLast M.view < x.tag.epoch then lt.set x.at_.block.toNat true else lt) := Lib.hid rfl
      have t4 : w8.cell? ⟨g, 4, none⟩ = some (vi x.at_.block) := G.out.cell 4
      obtain ⟨q, hq⟩ : ∃ q : Nat, x.at_.block = q := ⟨x.at_.block.toNat, by have := HXI.out; omega⟩
      have HQ : Hid (q < M.B) := Lib.hid (by have := HXI.out; omega)
      have G : Hid (Blk w8 g 112 #[vi x.tag.kind, vw x.tag.page, vq x.tag.seq, vq x.tag.epoch, vi x.at_.block, vi x.at_.page]) := G
      rw [hq, Int.toNat_natCast] at HLI
      rw [hq] at t4 G
      clear hq HXI
      generalize FP.laterIn (FP.oLast M.view) lt x = lx at *
      generalize x.tag.seq = xs at *
      generalize x.tag.epoch = xe at *
      as_aux_lemma =>
        go_region
        rw [vq_max, vq_max]
        change Exit.then _ _ _ _ (((w8.setCell ⟨f, 8, none⟩ (vq (max n8 xs))).setCell ⟨f, 9, none⟩ (vq (max n9 xe))).drew)
        have HO3 : Hid (OpSt base w' k M f (((w8.setCell ⟨f, 8, none⟩ (vq (max n8 xs))).setCell ⟨f, 9, none⟩ (vq (max n9 xe))).drew) { X0 with seq := max n8 xs, epoch := max n9 xe, later := lt }) := Lib.hid (by
          have hb8 : base ≤ w8.heap.size := Nat.le_trans hbase HO2.out.size
          have h1 := HO2.out.at_.field (X' := { X0 with seq := max n8 xs, epoch := n9, later := lt }) 8 (vq (max n8 xs)) rfl ⟨rfl, rfl⟩ ⟨HO2.out.at_.text, HO2.out.at_.tlen⟩ ⟨rfl, rfl⟩ ⟨rfl, rfl⟩ ⟨rfl, rfl⟩ ⟨rfl, rfl, rfl⟩ hb8
          have h2 := h1.at_.field (X' := { X0 with seq := max n8 xs, epoch := max n9 xe, later := lt }) 9 (vq (max n9 xe)) rfl ⟨rfl, rfl⟩ ⟨h1.at_.text, h1.at_.tlen⟩ ⟨rfl, rfl⟩ ⟨rfl, rfl⟩ ⟨rfl, rfl⟩ ⟨rfl, rfl, rfl⟩ (Nat.le_trans hb8 h1.size)
          exact ((HO2.out.go h1).go h2).old (Below.refl _ _).drew)
        have HB3 : Hid (Below w1.heap.size w1 (((w8.setCell ⟨f, 8, none⟩ (vq (max n8 xs))).setCell ⟨f, 9, none⟩ (vq (max n9 xe))).drew)) := Lib.hid (((HB2.out.setCell (p := ⟨f, 8, none⟩) HFF.out _).setCell (p := ⟨f, 9, none⟩) HFF.out _).drew)
        have t3' : (((w8.setCell ⟨f, 8, none⟩ (vq (max n8 xs))).setCell ⟨f, 9, none⟩ (vq (max n9 xe))).drew).cell? ⟨g, 3, none⟩ = some (vq xe) := (((G.out.far (p := ⟨f, 8, none⟩) HNG.out.1 _).far (p := ⟨f, 9, none⟩) HNG.out.1 _).drew).cell 3
        have t4' : (((w8.setCell ⟨f, 8, none⟩ (vq (max n8 xs))).setCell ⟨f, 9, none⟩ (vq (max n9 xe))).drew).cell? ⟨g, 4, none⟩ = some (vi q) := (((G.out.far (p := ⟨f, 8, none⟩) HNG.out.1 _).far (p := ⟨f, 9, none⟩) HNG.out.1 _).drew).cell 4
        clear e8 e9 z8 z9 t2 t3 t4 HO2 HB2 G
        generalize (((w8.setCell ⟨f, 8, none⟩ (vq (max n8 xs))).setCell ⟨f, 9, none⟩ (vq (max n9 xe))).drew) = w9 at *
        by_cases hgt : FP.oLast M.view < xe
        · have HLI := Lib.hid (HLI.out.trans (if_pos hgt))
          have e10 : w9.cell? ⟨f, 10, none⟩ = some (.slice (some ⟨lg, 0, none⟩) M.B M.B) := by
            have h := HO3.out.at_.obj.cell 10
            have h1 : X0.lg = lg := HX0.out.2.2.2.2.2.2.2.1
            have h2 : X0.lc = M.B := HX0.out.2.2.2.2.2.2.2.2.1
            change w9.cell? ⟨f, 10, none⟩ = some (.slice (some ⟨X0.lg, 0, none⟩) lt.length X0.lc) at h
            rw [h1, h2, HLT.out] at h
            exact h
          have a0 : w9.cell? ⟨lg, q, none⟩ = some (.bool (lt.getD q false)) := by
            have h1 : X0.lg = lg := HX0.out.2.2.2.2.2.2.2.1
            have h := HO3.out.at_.later.cell (j := q) (by have := HQ.out; have := HLT.out; dsimp only; omega)
            dsimp only at h
            rw [h1, List.getElem?_map, List.getElem?_eq_getElem (by have := HQ.out; have := HLT.out; omega)] at h
            rw [h, List.getD_eq_getElem?_getD, List.getElem?_eq_getElem (by have := HQ.out; have := HLT.out; omega)]
            rfl
          have za : w9.frozen? ⟨lg, q, none⟩ = false := by
            have h1 : X0.lg = lg := HX0.out.2.2.2.2.2.2.2.1
            have h := HO3.out.at_.later.frozen q
            dsimp only at h
            rw [h1] at h
            exact h
          have i0 : (0 : Int) ≤ (q : Int) := by omega
          have i1 : (q : Int) < (M.B : Int) := by have := HQ.out; omega
          generalize lt.getD q false = bq at *
          go_upto_region 15 with fail
          go_region
          have HO4 : Hid (OpSt base w' k M f ((w9.setCell ⟨lg, q, none⟩ (.bool true)).drew) { X0 with seq := max n8 xs, epoch := max n9 xe, later := lx }) := Lib.hid (by
            have h1 : X0.lg = lg := HX0.out.2.2.2.2.2.2.2.1
            rw [HLI.out]
            have h := (HO3.out.go (HO3.out.at_.laterSet q true)).old (Below.refl _ _).drew
            dsimp only at h
            rw [← h1]
            exact h)
          have HB4 : Hid (Below w1.heap.size w1 ((w9.setCell ⟨lg, q, none⟩ (.bool true)).drew)) := Lib.hid ((HB3.out.setCell (p := ⟨lg, q, none⟩) HFL.out _).drew)
          change Exit.inBlock _ _ _ _ ((w9.setCell ⟨lg, q, none⟩ (.bool true)).drew)
          clear e10 a0 za t3' t4'
          generalize (w9.setCell ⟨lg, q, none⟩ (.bool true)).drew = w10 at *
          have hll := HLL.out
          go_wp2_with fail
          go_roundw
          case rel => exact ⟨j + 1, by omega, by go_num, by rw [HLD.out]; exact HO4, HB4⟩
          case measure => simp [intOf]; omega
        · have HLI := Lib.hid (HLI.out.trans (if_neg hgt))
          rw [HLI.out] at HLD
          have hll := HLL.out
          go_wp2_with fail
          go_roundw
          case rel => exact ⟨j + 1, by omega, by go_num, by rw [HLD.out]; exact HO3, HB3⟩
          case measure => simp [intOf]; omega
    · obtain rfl : j = (FP.scan M.view).l.length := by omega
      have HO2 := Lib.hid hos.out
      rw [List.take_length] at HO2
      have HB2 := Lib.hid hb.out
      clear hos hb hlt hj
      have HSE : Hid (FP.maxSeq (FP.scan M.view).l ≤ 2305843009213693952 ∧ FP.maxEpoch (FP.scan M.view).l ≤ 2305843009213693952) := Lib.hid (by
        have h1 := FP.scanTo_modest M.view M.view.B HGD.out
        exact ⟨FP.max_rng (fun x : FP.Sn => x.tag.seq) _ _ 0 (by decide) (fun x hx => (h1 x hx).1), FP.max_rng (fun x : FP.Sn => x.tag.epoch) _ _ 0 (by decide) (fun x hx => (h1 x hx).2)⟩)
      have HFB : Hid (Arr wr 4 1 fb M.B M.B ((FP.scan M.view).fresh.map .bool) ∧ fb < w1.heap.size) := Lib.hid ⟨HST.out.arr.old HB2.out, HST.out.arr.lt⟩
      have HSI : Hid (∀ s ∈ (FP.scan M.view).l, s.tag.page < 4294967296) := Lib.hid HOK.out.2.2
      change Hid (OpSt base w' k M f wr { X0 with seq := FP.maxSeq (FP.scan M.view).l, epoch := FP.maxEpoch (FP.scan M.view).l, later := FP.oLater M.view }) at HO2
      have HSX : Hid (F.seq = FP.maxSeq (FP.scan M.view).l + 1 ∧ F.epoch = FP.maxEpoch (FP.scan M.view).l + 1) := Lib.hid (by rw [HFE.out]; exact ⟨rfl, rfl⟩)
      have HMV : Hid (Mj.view = (FP.scan M.view).c) := Lib.hid HST.out.view
      clear HST HRW
      as_aux_lemma =>
        generalize FP.maxSeq (FP.scan M.view).l = n8 at *
        generalize FP.maxEpoch (FP.scan M.view).l = n9 at *
        have hse := HSE.out
        have e8 : wr.cell? ⟨f, 8, none⟩ = some (vq n8) := HO2.out.at_.obj.cell 8
        have e9 : wr.cell? ⟨f, 9, none⟩ = some (vq n9) := HO2.out.at_.obj.cell 9
        have z8 : wr.frozen? ⟨f, 8, none⟩ = false := HO2.out.at_.obj.frozen 8
        have z9 : wr.frozen? ⟨f, 9, none⟩ = false := HO2.out.at_.obj.frozen 9
        have q8 : IntKind.u64.wrap ((n8 : Int) + 1) = (n8 : Int) + 1 := by simp only [IntKind.wrap, IntKind.bits, IntKind.signed]; simp; omega
        have q9 : IntKind.u64.wrap ((n9 : Int) + 1) = (n9 : Int) + 1 := by simp only [IntKind.wrap, IntKind.bits, IntKind.signed]; simp; omega
        go_upto_region 19 with fail
        change Code.wp _ _ _ _ ((wr.setCell ⟨f, 8, none⟩ (vq (n8 + 1))).setCell ⟨f, 9, none⟩ (vq (n9 + 1)))
        have HO3 : Hid (OpSt base w' k M f ((wr.setCell ⟨f, 8, none⟩ (vq (n8 + 1))).setCell ⟨f, 9, none⟩ (vq (n9 + 1))) { X0 with seq := n8 + 1, epoch := n9 + 1, later := FP.oLater M.view }) := Lib.hid (by
          have hb8 : base ≤ wr.heap.size := Nat.le_trans hbase HO2.out.size
          have h1 := HO2.out.at_.field (X' := { X0 with seq := n8 + 1, epoch := n9, later := FP.oLater M.view }) 8 (vq (n8 + 1)) rfl ⟨rfl, rfl⟩ ⟨HO2.out.at_.text, HO2.out.at_.tlen⟩ ⟨rfl, rfl⟩ ⟨rfl, rfl⟩ ⟨rfl, rfl⟩ ⟨rfl, rfl, rfl⟩ hb8
          have h2 := h1.at_.field (X' := { X0 with seq := n8 + 1, epoch := n9 + 1, later := FP.oLater M.view }) 9 (vq (n9 + 1)) rfl ⟨rfl, rfl⟩ ⟨h1.at_.text, h1.at_.tlen⟩ ⟨rfl, rfl⟩ ⟨rfl, rfl⟩ ⟨rfl, rfl⟩ ⟨rfl, rfl, rfl⟩ (Nat.le_trans hb8 h1.size)
          exact (HO2.out.go h1).go h2)
        have HFB3 : Hid (Arr ((wr.setCell ⟨f, 8, none⟩ (vq (n8 + 1))).setCell ⟨f, 9, none⟩ (vq (n9 + 1))) 4 1 fb M.B M.B ((FP.scan M.view).fresh.map .bool)) := Lib.hid (by
          have hn : fb ≠ f := HFB.out.1.ne_blk HO2.out.at_.obj (by decide)
          exact (HFB.out.1.far (p := ⟨f, 8, none⟩) hn _).far (p := ⟨f, 9, none⟩) hn _)
        have HFN : Hid (fb ≠ X0.lg) := Lib.hid (by
          have h1 : X0.lg = lg := HX0.out.2.2.2.2.2.2.2.1
          have h2 := HFB.out.2
          have h3 := HFL.out
          omega)
        clear e8 e9 z8 z9 q8 q9 hse HO2 HB2 HFB HSE
        generalize (wr.setCell ⟨f, 8, none⟩ (vq (n8 + 1))).setCell ⟨f, 9, none⟩ (vq (n9 + 1)) = w11 at *
        have HHD := Lib.hid (headed_any HO3.out.at_ (by show Good6 X0.M.view; rw [HX0.out.1, HMV.out]; exact HSG.out.1) (Nat.le_trans hbase HO3.out.size) (FP.oPlc M.view) (by show (MP.get X0.S 0).getD default = _; rw [HX0.out.2.2.2.2.1]; rfl)
          (FP.oRead M.view).1.1 (TP.read (FP.oRead M.view).1.1).1 (FP.oPay M.view) (by show (NP.readP X0.M.view _ _).1.1 = _; rw [HX0.out.1, HMV.out]; rfl) (by rw [← HTG.out]; rfl) HOK.out.1 HZ.out
          (FP.oRead M.view).2 (by show (NP.readP X0.M.view _ _).2 = _; rw [HX0.out.1, HMV.out]; rfl) HR0.out HR1.out (by show 2 ≤ FP.dataB X0.M.B _ _; rw [HX0.out.1, HMB.out]; exact HR2.out))
        go_wp2_with fail
        refine HHD.out.mono ?_
        rintro e w12 ⟨M', ta, tc, rfl, hv', hg'⟩
        obtain ⟨X3, hX3⟩ : ∃ X3 : FtM, X3 = { X0 with M := M', reserve := FP.oRes (FP.oPay M.view), bad := FP.oBad (FP.oPay M.view), ta := ta, tx := (FP.oPay M.view).drop 8, tc := tc, seq := n8 + 1, epoch := n9 + 1, later := FP.oLater M.view } := ⟨_, rfl⟩
        have HO4 : Hid (OpSt base w' k M f w12 X3) := Lib.hid (by rw [hX3]; exact HO3.out.go hg')
        have HFB4 := Lib.hid (HFB3.out.chg hg'.chg (HO3.out.at_.bools_ne HFB3.out HFN.out))
        have HX3 : Hid (X3.M.view = (FP.oRead M.view).2 ∧ X3.reserve = FP.oRes (FP.oPay M.view) ∧ X3.bad = FP.oBad (FP.oPay M.view) ∧ X3.tx = (FP.oPay M.view).drop 8 ∧ X3.S = FP.oAll M.view ∧ X3.N = [] ∧ X3.D = [] ∧ X3.seq = n8 + 1 ∧ X3.epoch = n9 + 1 ∧ X3.later = FP.oLater M.view) :=
          Lib.hid (by rw [hX3]; exact ⟨hv', rfl, rfl, rfl, HX0.out.2.2.2.2.1, HX0.out.2.2.2.2.2.1, HX0.out.2.2.2.2.2.2.1, rfl, rfl, rfl⟩)
        have HMB3 : Hid (X3.M.B = M.B) := Lib.hid ((congrArg NP.Chp.B HX3.out.1).trans (oRead_B M.view))
        have HCAP : Hid (∀ S', ({ X3 with S := S' } : FtM).view.cap = FP.oCap M.view (FP.oPay M.view)) := Lib.hid (fun S' => by
          show FP.dataB X3.M.view.B X3.reserve X3.bad * X3.M.view.P - 2 = _
          have h1 : X3.M.view.B = M.view.B := HMB3.out
          have h2 : X3.M.view.P = M.view.P := by
            rw [HX3.out.1]
            exact (act_dims6 (FP.scan M.view).c (.read (FP.oPlc M.view).block (FP.oPlc M.view).page)).2.1.trans (scanTo_good HG.out (by have := HDIM.out; exact this.2.2.1) M.view.B).2.1
          rw [h1, h2, HX3.out.2.1, HX3.out.2.2.1]
          rfl)
        have HGX : Hid (Good6 X3.M.view) := Lib.hid (by rw [HX3.out.1]; exact readAct_good HSG.out.1 _ _)
        clear hg' hv' hX3 HHD HO3 HFB3 HFN HX0 HMV
        generalize hcp : FP.oCap M.view (FP.oPay M.view) = cap at *
        have HCP := Lib.hid hcp
        clear hcp
        have c5 : w12.cell? ⟨f, 5, none⟩ = some (.map (some X3.bs)) := HO4.out.at_.obj.cell 5
        obtain ⟨w13, hrng, hit, hb13, hsz⟩ := HO4.out.at_.sld.range (P := Tryz.prog) Tryz.underlying89
        obtain ⟨rr, hrr⟩ : ∃ rr, rr = w12.heap.size := ⟨_, rfl⟩
        have HRN : Hid (RngRun 89 (.map (some X3.bs)) (.pointer (some ⟨rr, 0, none⟩)) w12 w13) := Lib.hid (by rw [hrr]; exact ⟨hrng⟩)
        have HDS : Hid (DlSt base w' k M f rr fb M.B (FP.scan M.view).fresh X3 (X3.S.filter (FP.keep cap [])) X3.S w13) := Lib.hid (by
          rw [FP.keep_nil]
          refine ⟨HO4.out.old hb13, by rw [hrr]; exact hit, HFB4.out.old hb13, by rw [hrr]; exact HO4.out.size, hbase, fun e => ?_⟩
          have := HO4.out.at_.lt _ e
          omega)
        have HSO : Hid (MP.Ok X3.S) := Lib.hid (by rw [HX3.out.2.2.2.2.1]; exact FP.chosen_ok _)
        have HSK : Hid (∀ x ∈ X3.S, 0 ≤ x.1 ∧ x.1 < 4294967296) := Lib.hid (by
          rw [HX3.out.2.2.2.2.1]
          exact FP.oAll_in M.view (P := fun x => 0 ≤ x.1 ∧ x.1 < 4294967296) (fun s hs => by have := HSI.out s hs; dsimp only; omega))
        have HXD : Hid ((8 ≤ X3.M.B ∧ X3.M.B ≤ 128 ∧ X3.M.P ≤ 32) ∧ (0 ≤ X3.reserve ∧ X3.reserve ≤ 65535 ∧ 0 ≤ X3.bad ∧ X3.bad ≤ 65535)) := Lib.hid (by
          refine ⟨?_, ?_⟩
          · have : NP.rightB X3.M.B X3.M.P X3.M.S = true := HGX.out.ok.right
            unfold NP.rightB at this
            simp only [Bool.and_eq_true, Bool.or_eq_true, beq_iff_eq, decide_eq_true_eq] at this
            omega
          · rw [HX3.out.2.1, HX3.out.2.2.1]
            exact FP.oPay_rng (oPay_small HG.out HTG.out))
        clear hrng hit hb13 hsz hrr HO4 HFB4
        go_wp2_with (at_range; refine wpList_range_run rfl (.tmp 108) rfl rfl HRN.out.run ?_)
        go_frame
        clear HRN c5
        go_loopg [11] X3.S.length (fun kk _ wr => ∃ done left, left.length ≤ kk ∧ Hid (DlSt base w' k M f rr fb M.B (FP.scan M.view).fresh X3 (X3.S.filter (FP.keep cap done)) left wr ∧ (done ++ left).Perm X3.S))
        case atStart => exact ⟨[], X3.S, Nat.le_refl _, Lib.hid ⟨HDS.out, List.Perm.refl _⟩⟩
        case round =>
          clear HDS
          obtain ⟨done, left, hlk, hrd⟩ := hrel
          rcases hrd.out.1.next with ⟨hnil, hnx⟩ | ⟨k', pb, pp, wn, hmem, hnx, hst2, hlt2, hpm2, hgn, hen⟩
          · have HNX := Lib.hid hnx
            have HLS := Lib.hid hrd.out.1
            rw [FP.keep_all (by have := hrd.out.2; rwa [hnil, List.append_nil] at this)] at HLS
            clear hrd hnx hnil hlk
            have HSE : Hid (X3.S.filter (fun y => decide (y.1 < cap)) = FP.oSld M.view) := Lib.hid (by rw [HX3.out.2.2.2.2.1, ← HCP.out]; rfl)
            rw [HSE.out] at HLS
            have HLW : Hid (Low (FP.oSld M.view)) := Lib.hid (open_low HG.out HTG.out)
            have hlw := HLW.out.len
            have HFRL : Hid ((FP.scan M.view).fresh.length = X3.M.B) := Lib.hid (HSG.out.2.1.trans HMB3.out.symm)
            have HMN := Lib.hid (manages_any (X := { X3 with S := FP.oSld M.view }) HLS.out.st.at_ HGX.out (Nat.le_trans hbase HLS.out.st.size) (some ⟨fb, 0, none⟩) (FP.scan M.view).fresh M.B (bo_arr HLS.out.arr (HSG.out.2.1)) HFRL.out
              (fun x hx => by have := (FP.oSld_in M.view x hx).1; rw [HMB3.out]; exact this) (by dsimp only; omega) g (by
                show openG X3.M.view (FP.scan M.view).fresh ((FP.oSld M.view).foldl FP.liveIn (List.replicate X3.M.B 0)) X3.reserve X3.bad = _
                rw [HX3.out.1, HX3.out.2.1, HX3.out.2.2.1, HMB3.out]
                exact HOP.out))
            rw [HSG.out.2.1] at HMN
            clear hlw HLW HFRL
            go_wp2_with (at_next; refine wpList_next_run rfl (.tmp 109) rfl rfl (HNX.out.run _) ?_)
            refine HMN.out.mono ?_
            rintro e w20 ⟨m, G, ov, rfl, hfa, hgk, hgv, hch, hgf⟩
            have HFA := Lib.hid hfa
            have HGK := Lib.hid hgk
            have HGV := Lib.hid hgv
            have HCG := Lib.hid hch
            have HGF := Lib.hid hgf
            clear hfa hgk hgv hch hgf HMN HNX
            go_wp2_with fail
            go_ret2
            have hvw : (({ X3 with S := FP.oSld M.view, m := m, G := G, over := ov } : FtM).view : FP.Ft) = { F with over := ov } := by
              show FP.Ft.mk X3.M.view G.view X3.reserve X3.bad X3.tx (FP.oSld M.view) X3.N X3.D X3.seq X3.epoch X3.later ov = _
              obtain ⟨h1, h2, h3, h4, h5, h6, h7, h8, h9, h10⟩ := HX3.out
              rw [h1, h2, h3, h4, h6, h7, h8, h9, h10, HGV.out, ← HSX.out.1, ← HSX.out.2]
              have hf := HFE.out
              generalize FP.oRead M.view = R at *
              rw [hf]
            refine ⟨f, { X3 with S := FP.oSld M.view, m := m, G := G, over := ov }, rfl, ⟨HFA.out, HGK.out.trans HLS.out.st.key, ?_, ?_⟩, hvw, ?_⟩
            · refine HLS.out.st.chg.trans HCG.out fun n hn e => ?_
              rcases HLS.out.st.foot n e with h1 | h1
              · exact h1
              · omega
            · intro n e
              have hft := HLS.out.st.foot n
              rcases e with e | e | e | e | e | e | e
              · exact hft (.inl e)
              · exact hft (.inr (.inl e))
              · exact hft (.inr (.inr (.inl e)))
              · exact hft (.inr (.inr (.inr (.inl e))))
              · exact hft (.inr (.inr (.inr (.inr (.inl e)))))
              · exact .inr (Nat.le_trans HLS.out.st.size (HGF.out n e))
              · exact hft (.inr (.inr (.inr (.inr (.inr (by rw [← HGK.out]; exact e))))))
            · show Fit _
              rw [hvw]
              exact HFIT.out ov
          · have hky := HSK.out _ (hrd.out.2.subset (List.mem_append_right _ hmem))
            dsimp only at hky
            have HNX := Lib.hid hnx
            have HPM : Hid ((done ++ [(k', (⟨pb, pp⟩ : FP.Plc))] ++ MP.del left k').Perm X3.S) := Lib.hid (by
              rw [List.append_assoc]
              exact (hpm2.symm.append_left done).trans hrd.out.2)
            have HST2 := Lib.hid hst2
            have HGN := Lib.hid hgn
            have hlt3 : (MP.del left k').length < gk := by omega
            clear hrd hnx hpm2 hst2 hmem hgn
            have wk : IntKind.i64.wrap k' = k' := IntWalk.i64_in _ (by omega)
            go_wp2_with (at_next; refine wpList_next_run rfl (.tmp 109) rfl rfl (HNX.out.run _) ?_)
            refine (Capacity_hf HST2.out.st.at_ HXD.out.1 HXD.out.2).mono ?_
            rw [HCAP.out]
            rintro e w14 ⟨rfl, hb14⟩
            have HS4 := Lib.hid (HST2.out.old hb14)
            clear hb14 HST2 HNX hen
            by_cases hc : cap ≤ k'
            · obtain ⟨w15, hdl, hd15⟩ := HS4.out.strike k' HGN.out
              have HDL := Lib.hid hdl
              have HS5 : Hid (DlSt base w' k M f rr fb M.B (FP.scan M.view).fresh X3 (X3.S.filter (FP.keep cap (done ++ [(k', (⟨pb, pp⟩ : FP.Plc))]))) (MP.del left k') w15) := Lib.hid (by
                rw [FP.keep_strike HSO.out hc]
                exact hd15)
              have c5 : w14.cell? ⟨f, 5, none⟩ = some (.map (some X3.bs)) := HS4.out.st.at_.obj.cell 5
              clear hdl hd15 HS4
              go_wp2_with (at_delete; refine wpList_delete_run rfl (.tmp 122) (.tmp 123) rfl rfl rfl (HDL.out.run _) ?_)
              go_roundg (MP.del left k').length
              case measure => omega
              case rel => exact ⟨done ++ [(k', (⟨pb, pp⟩ : FP.Plc))], MP.del left k', Nat.le_refl _, Lib.hid ⟨HS5.out, HPM.out⟩⟩
            · have hc2 : k' < cap := by omega
              have HS5 : Hid (DlSt base w' k M f rr fb M.B (FP.scan M.view).fresh X3 (X3.S.filter (FP.keep cap (done ++ [(k', (⟨pb, pp⟩ : FP.Plc))]))) (MP.del left k') w14) := Lib.hid (by
                rw [FP.keep_stay (x := (k', (⟨pb, pp⟩ : FP.Plc))) hc2]
                exact HS4.out)
              clear HS4
              go_wp2_with fail
              go_roundg (MP.del left k').length
              case measure => omega
              case rel => exact ⟨done ++ [(k', (⟨pb, pp⟩ : FP.Plc))], MP.del left k', Nat.le_refl _, Lib.hid ⟨HS5.out, HPM.out⟩⟩
end
end Go.Proofs.YtjkaioonppmkjaaGreat.ft

