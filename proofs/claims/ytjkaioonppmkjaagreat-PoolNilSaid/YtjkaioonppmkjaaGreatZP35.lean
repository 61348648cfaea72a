/-
  Lemmas for a law's proof, put together from several texts: each part says what it shows, and its conditions.
-/
import Derived.Test.YtjkaioonppmkjaaGreatZP34
import Derived.Test.YtjkaioonppmkjaaGreatZP17
import Derived.WalkMore
import Derived.RangeFuncNested
import Derived.RangeFuncBound
import Derived.RangeFuncCalls
import Derived.RangeFuncLeaves
import Derived.OwnWalkIn
import Derived.TacticsInMore
import Derived.LoopNIn
import Derived.LoopIn
/-
  The seal of a translation that is opened is read. Conditions: a translation told by FtHf.
-/
namespace Go.Proofs.YtjkaioonppmkjaaGreat.ft
open Go.RowKit Go.Proofs.YtjkaioonppmkjaaGreat.mgr

theorem tread_small {l pl : List Nat} {tg : TP.Tag} {n : Int} (h : TP.read l = (tg, pl, n)) (hs : ∀ y ∈ l, y < 256) : ∀ y ∈ pl, y < 256 := by
  unfold TP.read at h
  dsimp only at h
  split at h
  · cases h; intro y hy; cases hy
  · split at h
    · cases h; intro y hy; cases hy
    · split at h
      · cases h; exact fun y hy => hs y (List.mem_of_mem_take hy)
      · cases h; intro y hy; cases hy
theorem or_nat (a b : Nat) (ha : a < 65536) (hb : b < 65536) : bits .or .i64 (a : Int) (b : Int) = ((a ||| b : Nat) : Int) := by
  have h1 : a ||| b < 65536 := Nat.or_lt_two_pow (n := 16) ha hb
  have h2 : (BitVec.ofInt 64 (a : Int) ||| BitVec.ofInt 64 (b : Int)).toNat = a ||| b := by
    rw [BitVec.toNat_or, BitVec.ofInt_natCast, BitVec.ofInt_natCast, BitVec.toNat_ofNat, BitVec.toNat_ofNat, Nat.mod_eq_of_lt (by omega), Nat.mod_eq_of_lt (by omega)]
  show IntKind.i64.wrap ((BitVec.ofInt 64 (a : Int) ||| BitVec.ofInt 64 (b : Int)).toNat : Int) = _
  rw [h2]
  exact IntWalk.i64_in _ (by omega)
theorem or_pair (x y : Nat) (hx : x < 256) (hy : y < 256) : bits .or .i64 (x : Int) ((y : Int) * 256) = (x : Int) + 256 * y := by
  rw [show (y : Int) * 256 = ((y * 256 : Nat) : Int) by simp, or_nat _ _ (by omega) (by omega), Nat.or_comm, nat_join 8 (y * 256) x (by omega) (by omega)]
  simp
  omega
section
variable {base : Nat} {w : World} {f : Nat} {X : FtM}
set_option maxRecDepth 100000 in
set_option maxHeartbeats 8000000 in
/-- The first part: up to the seal's payload. -/
theorem headed_any (h : FtHf base w f X) (hg : Good6 X.M.view) (hbase : base ≤ w.heap.size) (p : FP.Plc) (hp : (MP.get X.S 0).getD default = p) (l : List Nat) (tg : TP.Tag) (pl : List Nat)
    (hl : (NP.readP X.M.view p.block p.page).1.1 = l) (ht : TP.read l = (tg, pl, 0)) (h8 : 8 ≤ pl.length) (hz : pl.getD 4 0 = 0 ∧ pl.getD 5 0 = 0 ∧ pl.getD 6 0 = 0 ∧ pl.getD 7 0 = 0)
    (c' : NP.Chp) (hc' : (NP.readP X.M.view p.block p.page).2 = c') (hr0 : 0 < FP.oRes pl) (hr1 : FP.oBad pl ≤ FP.bads c') (hr2 : 2 ≤ FP.dataB X.M.B (FP.oRes pl) (FP.oBad pl)) :
    Calls Tryz.prog 60 #[ptr f] w fun e w' => ∃ M' ta tc, e = .returned (.bool true) ∧ M'.view = c' ∧ FHg base w f X w' { X with M := M', reserve := FP.oRes pl, bad := FP.oBad pl, ta := ta, tx := pl.drop 8, tc := tc } := by
  have H := Lib.hid h
  have HG := Lib.hid hg
  have L : (Instr.lookup 89 (.map (some X.bs)) (.int .u32 0) false).run Tryz.prog w = .ok (.agg #[vi p.block, vi p.page]) w := by
    have := h.sld.lookup Tryz.underlying89 Tryz.underlying22 (zero_plc w) 0
    cases hq : MP.get X.S 0 with
    | none => rw [hq] at this hp; subst hp; exact this
    | some q => rw [hq] at this hp; subst hp; exact this
  have c5 : w.cell? ⟨f, 5, none⟩ = some (.map (some X.bs)) := h.obj.cell 5
  clear h hg hp
  go_enter Tryz.func60, Tryz.ntmps60
  go_upto_region 2 with fail
  have F3 := Lib.hid (Blk.new w 85 #[vi p.block, vi p.page])
  have HB3 : Hid (Below w.heap.size w (w.alloc (.cells #[vi p.block, vi p.page] 85))) := Lib.hid ((Below.refl _ _).alloc (Nat.le_refl _) _)
  have H3 := Lib.hid (H.out.old HB3.out)
  have HG3 := Lib.hid (FHg.of_old H.out HB3.out)
  clear L c5
  generalize w.alloc (.cells #[vi p.block, vi p.page] 85) = w3 at *
  generalize hgg : w.heap.size = g at *
  have HGG := Lib.hid hgg
  clear hgg
  obtain ⟨d0, d1, _, _⟩ := plc_cells F3.out
  have c0 : w3.cell? ⟨f, 0, none⟩ = some (ptr X.G.k) := H3.out.obj.cell 0
  have HS : Hid (w3.drew.cell? ⟨f, 0, none⟩ = some (ptr X.G.k) ∧ w3.drew.cell? ⟨g, 0, none⟩ = some (vi p.block) ∧ w3.drew.cell? ⟨g, 1, none⟩ = some (vi p.page)) := Lib.hid ⟨c0, d0, d1⟩
  have HRD := Lib.hid (_root_.Go.Proofs.YtjkaioonppmkjaaGreat.Read_any (H3.out.chip.old (Below.refl _ _).drew) HG.out.ok p.block p.page)
  have hfn : ¬ X.M.foot X.G.k f := fun e => H3.out.obj_ne.2.2.2.2 e
  have HGN : Hid (¬ X.M.foot X.G.k g) := Lib.hid (ChipAt_not H3.out.chip F3.out (by decide))
  have HKP : Hid (∀ W M', Goes base w3.drew X.G.k X.M W M' → (W.cell? ⟨f, 0, none⟩ = some (ptr X.G.k) ∧ W.cell? ⟨g, 0, none⟩ = some (vi p.block) ∧ W.cell? ⟨g, 1, none⟩ = some (vi p.page))) :=
    Lib.hid (fun W M' q => ⟨q.chg.cell HS.out.1 hfn, q.chg.cell HS.out.2.1 HGN.out, q.chg.cell HS.out.2.2 HGN.out⟩)
  go_region_held3 (fun w' => w'.cell? ⟨f, 0, none⟩ = some (ptr X.G.k) ∧ w'.cell? ⟨g, 0, none⟩ = some (vi p.block) ∧ w'.cell? ⟨g, 1, none⟩ = some (vi p.page))
    (first | exact HS.out | exact HKP.out _ _ (by assumption))
    (first | (go_at_call 46; refine HRD.out.mono ?_; rintro e w4 ⟨v4, M4, rfl, ho4, hg4, hv4⟩))
  have HGR := Lib.hid (HG3.out.trans ((FHg.of_old H3.out (Below.refl _ _).drew).trans ((H3.out.old (Below.refl _ _).drew).chipGoes hg4)))
  have HSM := Lib.hid (readP_small HG.out.ok p.block p.page)
  rw [hl] at ho4 HSM
  obtain ⟨a4, k4, rfl, hs4, hl4, hc4, _⟩ := ho4.srow (base := base) HSM.out
  have HR4 := Lib.hid hs4.row
  have HV4 : Hid (M4.view = c') := Lib.hid (hv4.trans hc')
  have HD4 : Hid (M4.B = X.M.B ∧ Good6 c') := Lib.hid ⟨(congrArg NP.Chp.B hv4).trans (act_dims6 X.M.view (.read p.block p.page)).1, by rw [← hc']; exact readAct_good HG.out _ _⟩
  clear hs4 ho4 hg4 hv4 HKP HGN HRD HS c0 d0 d1 hfn HSM
  have HTR := Lib.hid (tRead_any a4 l k4 w4 HR4.out hl4 hc4)
  unfold TRPost at HTR
  rw [ht] at HTR
  go_wp2_with fail
  refine HTR.out.mono ?_
  rintro e w5 ⟨v5, rfl, ho5, hb5⟩
  have HG5 := Lib.hid (HGR.out.old hb5)
  have HO5 := Lib.hid ho5
  clear hb5 ho5 HGR HR4 hl4 hc4
  go_upto_region 6 with fail
  have HB6 : Hid (Below w5.heap.size w5 (w5.alloc (.cells #[vi tg.kind, vw tg.page, vq tg.seq, vq tg.epoch] 96))) := Lib.hid ((Below.refl _ _).alloc (Nat.le_refl _) _)
  have HG6 := Lib.hid (HG5.out.old HB6.out)
  have HO6 := Lib.hid (HO5.out.old HB6.out)
  change Code.wp _ _ _ _ (w5.alloc (.cells #[vi tg.kind, vw tg.page, vq tg.seq, vq tg.epoch] 96))
  clear HB6 HG5 HO5
  generalize w5.alloc (.cells #[vi tg.kind, vw tg.page, vq tg.seq, vq tg.epoch] 96) = w6 at *
  as_aux_lemma =>
    have HPS : Hid (∀ y ∈ pl, y < 256) := Lib.hid (tread_small ht (by rw [← hl]; exact readP_small HG.out.ok p.block p.page))
    obtain ⟨a6, k6, rfl, hs6, hl6, hc6, hnn⟩ := HO6.out.srow (base := base) HPS.out
    obtain ⟨b6, o6, hae, hcell⟩ : ∃ b o, a6 = some ⟨b, o, none⟩ ∧ ∀ i, i < pl.length → w6.cell? ⟨b, o + i, none⟩ = some (vb (pl.getD i 0)) := by
      rcases hs6.row.at_ with h | h
      · rw [h] at h8; simp at h8
      · exact h
    subst hae
    have b0 := hcell 0 (by omega)
    have b1 := hcell 1 (by omega)
    have b2 := hcell 2 (by omega)
    have b3 := hcell 3 (by omega)
    have HBC := Lib.hid hcell
    have hin : ∀ i, i < pl.length → pl.getD i 0 < 256 := fun i hi => HPS.out _ (by rw [List.getD_eq_getElem?_getD, List.getElem?_eq_getElem hi]; exact List.getElem_mem _)
    have hx0 := hin 0 (by omega)
    have hx1 := hin 1 (by omega)
    have hx2 := hin 2 (by omega)
    have hx3 := hin 3 (by omega)
    have HRV : Hid ((pl.getD 0 0 : Int) + 256 * pl.getD 1 0 = FP.oRes pl) := Lib.hid rfl
    have HBV : Hid ((pl.getD 2 0 : Int) + 256 * pl.getD 3 0 = FP.oBad pl) := Lib.hid rfl
    generalize pl.getD 0 0 = x0 at b0 hx0 HRV
    generalize pl.getD 1 0 = x1 at b1 hx1 HRV
    generalize pl.getD 2 0 = x2 at b2 hx2 HBV
    generalize pl.getD 3 0 = x3 at b3 hx3 HBV
    have wo0 := or_pair x0 x1 hx0 hx1
    have wo1 := or_pair x2 x3 hx2 hx3
    rw [HRV.out] at wo0
    rw [HBV.out] at wo1
    have wr0 : IntKind.i64.wrap (x0 : Int) = x0 := IntWalk.i64_in _ (by omega)
    have wr1 : IntKind.i64.wrap (x1 : Int) = x1 := IntWalk.i64_in _ (by omega)
    have wr2 : IntKind.i64.wrap (x2 : Int) = x2 := IntWalk.i64_in _ (by omega)
    have wr3 : IntKind.i64.wrap (x3 : Int) = x3 := IntWalk.i64_in _ (by omega)
    have wm1 : IntKind.i64.wrap ((x1 : Int) * 256) = x1 * 256 := IntWalk.i64_in _ (by omega)
    have wm3 : IntKind.i64.wrap ((x3 : Int) * 256) = x3 * 256 := IntWalk.i64_in _ (by omega)
    have HR0 := Lib.hid hr0
    have HR1 := Lib.hid hr1
    have HR2 : Hid (2 ≤ (X.M.B : Int) - FP.oBad pl - FP.oRes pl - 1) := Lib.hid hr2
    clear hr0 hr1 hr2
    have HRB : Hid (0 ≤ FP.oRes pl ∧ FP.oRes pl ≤ 65535 ∧ 0 ≤ FP.oBad pl ∧ FP.oBad pl ≤ 65535) := Lib.hid (by rw [← HRV.out, ← HBV.out]; omega)
    clear hin
    generalize hrv : FP.oRes pl = rv at *
    generalize hbv : FP.oBad pl = bv at *
    have HRE := Lib.hid hrv
    have HBE := Lib.hid hbv
    clear hrv hbv
    have e2 : w6.cell? ⟨f, 2, none⟩ = some (vi X.reserve) := HG6.out.at_.obj.cell 2
    have e3 : w6.cell? ⟨f, 3, none⟩ = some (vi X.bad) := HG6.out.at_.obj.cell 3
    have z2 : w6.frozen? ⟨f, 2, none⟩ = false := HG6.out.at_.obj.frozen 2
    have z3 : w6.frozen? ⟨f, 3, none⟩ = false := HG6.out.at_.obj.frozen 3
    have HS6 := Lib.hid hs6
    have HH8 := Lib.hid h8
    clear hs6 hcell hnn
    have HNB : Hid (¬ b6 = f) := Lib.hid (fun e => by
      subst e
      rcases HS6.out.safe with h0 | ⟨b, o, he, hsf⟩
      · have := HH8.out; rw [h0] at this; simp at this
      · injection he with he
        injection he with h1 h2
        subst h1
        exact hsf.no' (Loose.blk HG6.out.at_.low.1 HG6.out.at_.obj))
    have i0 : (0 : Int) < (pl.length : Int) := by omega
    have i0' : 0 < pl.length := by omega
    have i1 : (1 : Int) < (pl.length : Int) := by omega
    have i2 : (2 : Int) < (pl.length : Int) := by omega
    have i3 : (3 : Int) < (pl.length : Int) := by omega
    have HS7 : Hid (w6.drew.cell? ⟨b6, o6, none⟩ = some (vb x0) ∧ w6.drew.cell? ⟨b6, o6 + 1, none⟩ = some (vb x1) ∧ w6.drew.cell? ⟨b6, o6 + 2, none⟩ = some (vb x2) ∧ w6.drew.cell? ⟨b6, o6 + 3, none⟩ = some (vb x3)) := Lib.hid ⟨b0, b1, b2, b3⟩
    have HKS : Hid (∀ (W : World) j u, (W.cell? ⟨b6, o6, none⟩ = some (vb x0) ∧ W.cell? ⟨b6, o6 + 1, none⟩ = some (vb x1) ∧ W.cell? ⟨b6, o6 + 2, none⟩ = some (vb x2) ∧ W.cell? ⟨b6, o6 + 3, none⟩ = some (vb x3)) → ((W.setCell ⟨f, j, none⟩ u).cell? ⟨b6, o6, none⟩ = some (vb x0) ∧ (W.setCell ⟨f, j, none⟩ u).cell? ⟨b6, o6 + 1, none⟩ = some (vb x1) ∧ (W.setCell ⟨f, j, none⟩ u).cell? ⟨b6, o6 + 2, none⟩ = some (vb x2) ∧ (W.setCell ⟨f, j, none⟩ u).cell? ⟨b6, o6 + 3, none⟩ = some (vb x3))) := Lib.hid (fun W j u h => by
      have ho : ∀ i, (W.setCell ⟨f, j, none⟩ u).cell? ⟨b6, i, none⟩ = W.cell? ⟨b6, i, none⟩ := fun i => World.cell?_setCell_other _ _ _ _ (fun e => HNB.out (by injection e with e1; exact e1.symm))
      rw [ho, ho, ho, ho]; exact h)
    go_region_held3 (fun W => W.cell? ⟨b6, o6, none⟩ = some (vb x0) ∧ W.cell? ⟨b6, o6 + 1, none⟩ = some (vb x1) ∧ W.cell? ⟨b6, o6 + 2, none⟩ = some (vb x2) ∧ W.cell? ⟨b6, o6 + 3, none⟩ = some (vb x3))
      (first | exact HS7.out | exact HKS.out _ _ _ HS7.out | exact HKS.out _ _ _ (HKS.out _ _ _ HS7.out))
      (fail)
    have HG7 : Hid (FHg base w f X (((w6.setCell ⟨f, 2, none⟩ (vi rv)).setCell ⟨f, 3, none⟩ (vi bv)).drew) { X with M := M4, reserve := rv, bad := bv }) := Lib.hid (by
      have hb6 : base ≤ w6.heap.size := by have h1 := HG6.out.size; have h2 := HGG.out; omega
      have h1 := HG6.out.at_.field (X' := { X with M := M4, reserve := rv }) 2 (vi rv) rfl ⟨rfl, rfl⟩ ⟨HG6.out.at_.text, HG6.out.at_.tlen⟩ ⟨rfl, rfl⟩ ⟨rfl, rfl⟩ ⟨rfl, rfl⟩ ⟨rfl, rfl, rfl⟩ hb6
      have h2 := h1.at_.field (X' := { X with M := M4, reserve := rv, bad := bv }) 3 (vi bv) rfl ⟨rfl, rfl⟩ ⟨h1.at_.text, h1.at_.tlen⟩ ⟨rfl, rfl⟩ ⟨rfl, rfl⟩ ⟨rfl, rfl⟩ ⟨rfl, rfl, rfl⟩ (Nat.le_trans hb6 h1.size)
      exact ((HG6.out.trans h1).trans h2).old (Below.refl _ _).drew)
    change Exit.then _ _ _ _ (((w6.setCell ⟨f, 2, none⟩ (vi rv)).setCell ⟨f, 3, none⟩ (vi bv)).drew)
    have HS7' : Hid (SRow base (((w6.setCell ⟨f, 2, none⟩ (vi rv)).setCell ⟨f, 3, none⟩ (vi bv)).drew) (some ⟨b6, o6, none⟩) pl) := Lib.hid (by
      have hl : ∀ n, n = f → Loose base w6 n := fun n e => HG6.out.at_.loose n (.inl e)
      have q : Chg (fun n => n = f) w6 (((w6.setCell ⟨f, 2, none⟩ (vi rv)).setCell ⟨f, 3, none⟩ (vi bv)).drew) := (((Chg.refl (fun n => n = f) w6).setCell (p := ⟨f, 2, none⟩) (.inl rfl) (vi rv)).setCell (p := ⟨f, 3, none⟩) (.inl rfl) (vi bv)).drew
      exact HS6.out.chg' q hl)
    generalize (((w6.setCell ⟨f, 2, none⟩ (vi rv)).setCell ⟨f, 3, none⟩ (vi bv)).drew) = w7 at *
    clear HS7 HKS HS6 HG6 HBC b0 b1 b2 b3 e2 e3 z2 z3 wo0 wo1 wr0 wr1 wr2 wr3 wm1 wm3
    have e4 : w7.cell? ⟨f, 4, none⟩ = some (.slice X.ta X.tx.length X.tc) := HG7.out.at_.obj.cell 4
    have z4 : w7.frozen? ⟨f, 4, none⟩ = false := HG7.out.at_.obj.frozen 4
    have l0 : (8 : Int) ≤ (pl.length : Int) := by omega
    have l1 : pl.length ≤ k6 := hl6
    go_upto_region 8 with fail
    obtain ⟨ta8, hta⟩ : ∃ ta8, ta8 = (if k6 = 8 then some (⟨b6, o6, none⟩ : Addr) else some ⟨b6, o6 + 8, none⟩) := ⟨_, rfl⟩
    rw [← hta]
    have HG8 : Hid (FHg base w f X (w7.setCell ⟨f, 4, none⟩ (.slice ta8 (pl.length - 8) (k6 - 8))) { X with M := M4, reserve := rv, bad := bv, ta := ta8, tx := pl.drop 8, tc := k6 - 8 }) := Lib.hid (by
      have hb7 : base ≤ w7.heap.size := by have h1 := HG7.out.size; have h2 := HGG.out; omega
      have hsr : SRow base w7 ta8 (pl.drop 8) := by
        rw [hta]
        split
        · rename_i h
          rw [List.drop_eq_nil_of_le (by omega)]
          exact SRow.nil _ _ _
        · exact HS7'.out.drop 8
      have h1 := HG7.out.at_.field (X' := { X with M := M4, reserve := rv, bad := bv, ta := ta8, tx := pl.drop 8, tc := k6 - 8 }) 4 (.slice ta8 (pl.length - 8) (k6 - 8)) (by rw [show pl.length - 8 = (pl.drop 8).length by simp]; rfl) ⟨rfl, rfl⟩ ⟨hsr, by dsimp only; rw [List.length_drop]; omega, by dsimp only; have := hc6; omega⟩ ⟨rfl, rfl⟩ ⟨rfl, rfl⟩ ⟨rfl, rfl⟩ ⟨rfl, rfl, rfl⟩ hb7
      exact HG7.out.trans h1)
    have HS8 : Hid (SRow base (w7.setCell ⟨f, 4, none⟩ (.slice ta8 (pl.length - 8) (k6 - 8))) (some ⟨b6, o6, none⟩) pl) := Lib.hid (by
      have hl : ∀ n, n = f → Loose base w7 n := fun n e => HG7.out.at_.loose n (.inl e)
      exact HS7'.out.chg' (Chg.set (F := fun n => n = f) w7 (p := ⟨f, 4, none⟩) rfl _) hl)
    generalize w7.setCell ⟨f, 4, none⟩ (.slice ta8 (pl.length - 8) (k6 - 8)) = w8 at *
    clear hta e4 z4 l0 HG7 HS7' l1
    have hcl : ∀ i, i < pl.length → w8.cell? ⟨b6, o6 + i, none⟩ = some (vb (pl.getD i 0)) := by
      rcases HS8.out.row.at_ with h | ⟨b, o, he, h⟩
      · intro i hi; rw [h] at hi; simp at hi
      · injection he with he
        injection he with e1 e2
        subst e1 e2
        exact h
    have b4 := hcl 4 (by omega)
    have b5 := hcl 5 (by omega)
    have b6' := hcl 6 (by omega)
    have b7 := hcl 7 (by omega)
    rw [hz.1] at b4
    rw [hz.2.1] at b5
    rw [hz.2.2.1] at b6'
    rw [hz.2.2.2] at b7
    have i4 : (4 : Int) < (pl.length : Int) := by omega
    have i5 : (5 : Int) < (pl.length : Int) := by omega
    have i6 : (6 : Int) < (pl.length : Int) := by omega
    have i7 : (7 : Int) < (pl.length : Int) := by omega
    have ob : bits .or .u8 0 0 = 0 := by decide
    clear hcl
    have b4 := Sub.cell b4
    have b5 := Sub.cell b5
    have b6' := Sub.cell b6'
    have b7 := Sub.cell b7
    refine wp_region_sub (by kernel_rfl) (by kernel_rfl) ?_
    repeat (go_big_quiet_step (fail))
    refine wpQuiet_nil ?_
    rintro _ ⟨nq, rfl⟩
    have HG9 := Lib.hid (HG8.out.old nq.below)
    clear b4 b5 b6' b7 HS8 HG8
    generalize nq.w = w9 at *
    go_upto_region 9 with fail
    have HCH : Hid (ChipAt base w9 X.G.k M4) := Lib.hid HG9.out.at_.chip
    have HOK4 : Hid M4.view.ok := Lib.hid (by rw [HV4.out]; exact HD4.out.2.ok)
    have hdim : 8 ≤ M4.B ∧ M4.B ≤ 128 ∧ M4.P ≤ 32 := by
      have : NP.rightB M4.B M4.P M4.S = true := HOK4.out.right
      unfold NP.rightB at this
      simp only [Bool.and_eq_true, Bool.or_eq_true, beq_iff_eq, decide_eq_true_eq] at this
      omega
    have HBA : Hid (∀ n : Sub w9, Calls Tryz.prog 51 #[ptr X.G.k] n.w fun e w' => e = .returned (vi (FP.bads c')) ∧ Below n.w.heap.size n.w w') :=
      Lib.hid (fun n => by rw [← HV4.out]; exact badBlocks_any (HCH.out.old n.below) HOK4.out)
    have HGE : Hid (∀ n : Sub w9, Calls Tryz.prog 49 #[ptr X.G.k] n.w fun e w' => e = .returned (.agg #[vi M4.B, vi M4.P, vi M4.S]) ∧ Below n.w.heap.size n.w w') :=
      Lib.hid (fun n => Geo_any (HCH.out.old n.below))
    have HDB : Hid (∀ n : Sub w9, Calls Tryz.prog 50 #[.agg #[vi M4.B, vi M4.P, vi M4.S], vi rv, vi bv] n.w fun e w' => e = .returned (vi ((M4.B : Int) - bv - rv - 1)) ∧ Below n.w.heap.size n.w w') :=
      Lib.hid (fun n => dataBlocks_any _ _ _ _ _ n.w (by have := HRB.out; omega))
    have r2 : 2 ≤ (M4.B : Int) - bv - rv - 1 := by rw [HD4.out.1]; exact HR2.out
    have r0 := HR0.out
    have r1 := HR1.out
    have e0 : w9.cell? ⟨f, 0, none⟩ = some (ptr X.G.k) := HG9.out.at_.obj.cell 0
    have e2 : w9.cell? ⟨f, 2, none⟩ = some (vi rv) := HG9.out.at_.obj.cell 2
    have e3 : w9.cell? ⟨f, 3, none⟩ = some (vi bv) := HG9.out.at_.obj.cell 3
    have e0 := Sub.cell e0
    have e2 := Sub.cell e2
    have e3 := Sub.cell e3
    generalize FP.bads c' = bd at *
    generalize (M4.B : Int) - bv - rv - 1 = dw at *
    clear hdim
    refine wp_region_sub (by kernel_rfl) (by kernel_rfl) ?_
    repeat (go_big_quiet_step (first | exact ext_of (HBA.out _) | exact ext_of (HGE.out _) | exact ext_of (HDB.out _)))
    refine wpQuiet_nil ?_
    rintro _ ⟨nq, rfl⟩
    have HG10 := Lib.hid (HG9.out.old nq.below)
    clear e0 e2 e3 HBA HGE HDB HG9 HCH
    generalize nq.w = w10 at *
    go_wp2_with fail
    go_ret
    refine ⟨M4, ta8, k6 - 8, rfl, HV4.out, ?_⟩
    rw [HRE.out, HBE.out]
    exact HG10.out
end
end Go.Proofs.YtjkaioonppmkjaaGreat.ft

/-
  The blocks of a manager told one by one, each with a number of the row. Conditions: a manager told by MgrAt, of few blocks.
-/
namespace Go.Proofs.YtjkaioonppmkjaaGreat.mgr
open Go.RowKit
attribute [local go_sem] Oper.semAt_some

section
variable {w : World}
theorem All_any (p : Option Addr) : Calls Tryz.prog 115 #[.pointer p] w fun e w' => e = .returned (.func (.func 142) #[] #[.pointer (some ⟨w.heap.size, 0, none⟩)]) ∧ w' = w.alloc (.cells #[.pointer p] 88) := by
  go_enter Tryz.func115, Tryz.ntmps115
  go_wp2_with fail
  go_ret
  exact ⟨rfl, rfl⟩
theorem eql_seqB (w : World) (f : Fn) (a b : Array Value) : (binOp .eql 178 (.func f a b) .nilFunc).run Tryz.prog w = .ok (.bool false) w := by
  have h : ∀ d : Nat, (Op.equalIn (d + 1) 178 (.func f a b) .nilFunc).run Tryz.prog w = .ok false w := fun d => by
    simp [Op.equalIn, run_underlying Tryz.underlying178]
  simp only [binOp]
  simp [Op.equal, Op.maxDepth, h 9999]
/-- A function that holds one range over a function returns. -/
theorem marksB_ret {n : Nat} {fn : Func} {R : Ending → World → Prop} {tmps : Array Value} {D : Nat} {v : Value} (hK : w.heap[D]? = some (.deferred (some []))) (hres : ∀ w, (results fn tmps).run Tryz.prog w = .ok v w)
    (h : R (.returned v) (w.putObj D (.deferred none))) : bodyPostM Fence.wide n Tryz.prog fn R .ret { tmps, defers := [{ target := .collected D, args := #[] }] } w :=
  ⟨by simp, .inl ⟨_, _, rfl, run_takeDeferred hK, ⟨_, hres _, h⟩⟩⟩
end
abbrev finEncs (l : List gcs.Blk) (x : Fin l.length) : Array Value := #[vi (x.1 : Int), .agg #[vi (l.getD x.1 default).s, vi (l.getD x.1 default).l, vi (l.getD x.1 default).r, vi (l.getD x.1 default).n]]
theorem fin_take {n j : Nat} (h : j < n) : (List.finRange n).take (j + 1) = (List.finRange n).take j ++ [⟨j, h⟩] := by
  rw [List.take_succ_eq_append_getElem (by rw [List.length_finRange]; exact h), List.getElem_finRange]
  rfl
/-- What a round may change. -/
def KeptB (box B : Nat) (W W' : World) : Prop := Chg (fun m => m = box ∨ B ≤ m) W W'
section
variable {base : Nat} {w w' wr : World} {m : Nat} {G : MgM}
theorem KeptB.join {box : Nat} (h : Chg (fun m => m = box) w wr) (q : KeptB box w.heap.size wr w') : Chg (fun m => m = box) w w' := h.trans q (fun n hn e => by rcases e with e | e; exact e; omega)
theorem abidesB {β : Type} {B : Nat} {J : β → World → Prop} (hJ : AbidesFrom B J) {s : β} (hs : J s w) (h : Below w.heap.size w w') : J s w' :=
  hJ s w w' none hs ⟨h.os, h.tape, h.output, h.size, fun k hk _ => h.block k hk⟩ (fun r e => by cases e)
theorem keeps_grownB {B : Nat} {W W' : World} {row : Option Nat} (hg : W.grownBy W' row) (hr : ∀ r, row = some r → ∃ t cur, Blk W r t cur) : KeepsFrom B W W' :=
  ⟨hg.size, fun k o _ hk ho => (hg.block k (Array.getElem?_eq_some_iff.1 hk).1 (fun e => by
    obtain ⟨t, cur, hb⟩ := hr k e.symm
    unfold Blk at hb
    rw [hb] at hk
    cases hk
    cases ho)).trans hk⟩
set_option maxRecDepth 100000 in
set_option maxHeartbeats 4000000 in
theorem All1_fin (n : Nat) (hn : 1 ≤ n) (h : MgrAt base w m G) (hl : G.l.length ≤ 128) (b1 box : Nat) (h1 : w.cell? ⟨b1, 0, none⟩ = some (ptr m)) (hf : ¬ G.foot m box) :
    SeqStopsK Fence.wide n Tryz.prog 142 #[.pointer (some ⟨b1, 0, none⟩)] (finEncs G.l) (KeptB box w.heap.size) (fun _ => True) (fun _ => True) 129 w := by
  intro l J Jx W hW hJ hJx hY h0
  have c1 := cell_below h1 hW
  have H0 := Lib.hid h
  have HCW : Hid (Chg (fun m => m = box) w W) := Lib.hid (Chg.of_below hW)
  have d1 : W.cell? ⟨m, 1, none⟩ = some (.slice (some ⟨G.gl, 0, none⟩) G.l.length G.cl) := (h.old hW).mgr.cell 1
  have HY := Lib.hid hY
  have HJ := Lib.hid hJ
  have HJ0 : Hid (J ((List.finRange G.l.length).take 0) W) := Lib.hid h0
  have HF := Lib.hid (fun (n : Nat) (hn : G.foot m n) (e : n = box) => hf (by rw [← e]; exact hn))
  clear hY hJ hJx h1 h h0 hf hW
  refine callsIn_of_wp Tryz.func142 rfl trivial ?_ rfl
  simp only [Tryz.ntmps142, List.size_toArray, List.length_cons, List.length_nil, Nat.reduceAdd, Nat.reduceSub, Array.replicate_succ, Array.replicate_zero, List.push_toArray, List.append_toArray, List.nil_append, List.cons_append]
  gi_wp2
  gi_loopw [12] (fun v wr => ∃ (j : Nat), j ≤ G.l.length ∧ v = vi j ∧ Hid (J ((List.finRange G.l.length).take j) wr) ∧ Hid (Chg (fun m => m = box) w wr)) (fun v _ => G.l.length - (intOf v).toNat)
  case atStart => exact ⟨0, Nat.zero_le _, rfl, HJ0, HCW⟩
  case round =>
    clear HJ0 HCW c1 d1
    obtain ⟨j, hj, rfl, hJs, hcs⟩ := hrel
    by_cases hlt : j < G.l.length
    · have HA := Lib.hid (H0.out.chg hcs.out HF.out)
      have e0 := HA.out.cell (j := 0) hlt (by decide)
      have e1 := HA.out.cell (j := 1) hlt (by decide)
      have e2 := HA.out.cell (j := 2) hlt (by decide)
      have e3 := HA.out.cell (j := 3) hlt (by decide)
      have HTK := Lib.hid (fin_take hlt)
      change wr.cell? ⟨G.gl, j * 4, none⟩ = some (vi (G.l.getD j default).s) at e0
      change wr.cell? ⟨G.gl, j * 4 + 1, none⟩ = some (vi (G.l.getD j default).l) at e1
      change wr.cell? ⟨G.gl, j * 4 + 2, none⟩ = some (vi (G.l.getD j default).r) at e2
      change wr.cell? ⟨G.gl, j * 4 + 3, none⟩ = some (vi (G.l.getD j default).n) at e3
      have hq0 : (0 : Int) ≤ (j : Int) := by omega
      have hq1 : (j : Int) < (G.l.length : Int) := by omega
      have HJ3 := abidesB HJ.out hJs.out (w' := wr.alloc (.cells #[vi (G.l.getD j default).s, vi (G.l.getD j default).l, vi (G.l.getD j default).r, vi (G.l.getD j default).n] 173)) ((Below.refl _ _).alloc (Nat.le_refl _) _)
      have HC3 : Hid (Chg (fun m => m = box) w (wr.alloc (.cells #[vi (G.l.getD j default).s, vi (G.l.getD j default).l, vi (G.l.getD j default).r, vi (G.l.getD j default).n] 173))) := Lib.hid (hcs.out.alloc _)
      have hlen : ((List.finRange G.l.length).take j).length < 129 := by rw [List.length_take, List.length_finRange]; omega
      obtain ⟨fn, tmps, assign, body, hy, hR⟩ := HY.out ((List.finRange G.l.length).take j) ⟨j, hlt⟩ _ HJ3 hlen
      have HR := Lib.hid hR
      change (Instr.yield l #[vi (j : Int), .agg #[vi (G.l.getD j default).s, vi (G.l.getD j default).l, vi (G.l.getD j default).r, vi (G.l.getD j default).n]]).run Tryz.prog (wr.alloc (.cells #[vi (G.l.getD j default).s, vi (G.l.getD j default).l, vi (G.l.getD j default).r, vi (G.l.getD j default).n] 173)) = _ at hy
      clear HJ3 hR hcs hJs
      generalize G.l.getD j default = x at *
      obtain ⟨xs, xl, xr, xn⟩ := x
      dsimp only at *
      gi_wp2
      refine HR.out.mono ?_
      rintro e W4 (⟨rfl, hJ4, hk4⟩ | ⟨rfl, hJx4⟩)
      · have HJ4 : Hid (J ((List.finRange G.l.length).take (j + 1)) W4) := Lib.hid (by rw [HTK.out]; exact hJ4)
        have HC4 := Lib.hid (KeptB.join HC3.out hk4)
        clear hJ4 hk4 HC3 hy
        gi_wp2
        go_roundw
        case rel => exact ⟨j + 1, by omega, by go_num, HJ4, HC4⟩
        case measure => simp [intOf]; omega
      · have HJX := Lib.hid hJx4
        clear hJx4 HC3 hy
        gi_wp2
        refine bodyPost_ret (results_none rfl _ _ _) rfl ?_
        exact ⟨⟨_, rfl⟩, .inr ⟨_, trivial, HJX.out⟩⟩
    · obtain rfl : j = G.l.length := by omega
      gi_wp2
      go_end0
      exact ⟨⟨_, rfl⟩, .inl ⟨_, trivial, hJs.out⟩⟩
end
end Go.Proofs.YtjkaioonppmkjaaGreat.mgr

