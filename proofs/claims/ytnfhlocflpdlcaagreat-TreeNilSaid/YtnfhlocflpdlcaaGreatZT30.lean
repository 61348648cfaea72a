/-
  Lemmas for a law's proof, put together from several texts: each part says what it shows, and its conditions.
-/
import Derived.Test.YtnfhlocflpdlcaaGreatZT29
import Derived.Deep.LoopGhost
/-
  A translation is sealed, where no block has to be freed for it. Conditions: a translation told by FtAt, of moderate numbers.
-/
namespace Go.Proofs.YtnfhlocflpdlcaaGreat.ft
open Go.RowKit Go.Proofs.YtnfhlocflpdlcaaGreat.mgr

section
variable {base : Nat} {w w' : World} {f : Nat} {X X' : FtM}
theorem FGoes.fill {W : World} {Y : FtM} {g : Nat} {u0 u1 : Value} (h : FGoes base w f X W Y) (hg : w.heap.size ≤ g) (hb : Blk W g 197 #[u0, u1]) (hn : ¬ Y.foot f g) (hbase : base ≤ g) (u v : Value) :
    Blk ((W.setCell ⟨g, 0, none⟩ u).setCell ⟨g, 1, none⟩ v) g 197 #[u, v] ∧ FGoes base w f X ((W.setCell ⟨g, 0, none⟩ u).setCell ⟨g, 1, none⟩ v) Y :=
  ⟨(hb.set_ 0 u).set_ 1 v, h.young (young_below u v h.size hg) (h.at_.chg (two_chg W g 0 1 u v) (fun n e => by subst e; exact Loose.blk hbase hb) (fun n e e2 => hn (e2 ▸ e)))⟩
theorem plc_f0 (x y : Int) (w : World) : (Instr.field 197 (.agg #[vi x, vi y]) 0).run Tryz.prog w = .ok (vi x) w := by kernel_rfl
theorem FGoes.fresh {wr : World} {Z : FtM} (h : FGoes base w f X wr Z) (hbase : base ≤ wr.heap.size) :
    FGoes base w f X ((((wr.alloc (.map #[] 0)).alloc (.map #[] 0)).setCell ⟨f, 6, none⟩ (.map (some wr.heap.size))).setCell ⟨f, 7, none⟩ (.map (some (wr.heap.size + 1)))) { Z with bn := wr.heap.size, N := [], bg := wr.heap.size + 1, D := [] } := by
  have hb : Below wr.heap.size wr ((wr.alloc (.map #[] 0)).alloc (.map #[] 0)) := ((Below.refl _ _).alloc (Nat.le_refl _) _).alloc (by simp) _
  have q2 := two_chg ((wr.alloc (.map #[] 0)).alloc (.map #[] 0)) f 6 7 (.map (some wr.heap.size)) (.map (some (wr.heap.size + 1)))
  have q : Chg (fun n => n = f) wr ((((wr.alloc (.map #[] 0)).alloc (.map #[] 0)).setCell ⟨f, 6, none⟩ (.map (some wr.heap.size))).setCell ⟨f, 7, none⟩ (.map (some (wr.heap.size + 1)))) :=
    (Chg.of_below (F := fun n => n = f) hb).trans q2 (fun _ _ e => e)
  have hlt := h.at_.obj.lt
  have m1 : MpAt ((wr.alloc (.map #[] 0)).alloc (.map #[] 0)) wr.heap.size .u32 encP [] := (MpAt.made wr .u32 encP).alloc _
  have m2 : MpAt ((wr.alloc (.map #[] 0)).alloc (.map #[] 0)) (wr.heap.size + 1) .u32 encP [] := by
    have := MpAt.made (wr.alloc (.map #[] 0)) .u32 encP
    simpa using this
  have hl : ∀ n, n = f → Loose base wr n := fun n e => h.at_.loose n (.inl e)
  refine h.trans (h.at_.fields q (((h.at_.obj.old hb).set_ 6 _).set_ 7 _) ⟨rfl, rfl, rfl⟩ ⟨h.at_.text.chg' q hl, h.at_.tlen⟩ ⟨rfl, rfl⟩ ⟨m1.chg q2 (fun e => ?_), .inr (Nat.le_refl _)⟩ ⟨m2.chg q2 (fun e => ?_), .inr (by dsimp only; omega)⟩ ⟨rfl, rfl, rfl⟩ (by dsimp only; omega) hbase)
  · omega
  · omega
set_option maxRecDepth 100000 in
set_option maxHeartbeats 16000000 in
theorem Seal_quiet (h : FtAt base w f X) (hx : X.Fit) (hbase : base ≤ w.heap.size) (a : Option Addr) (b : List Nat) (c : Nat) (hr : SRow base w a b) (hl : b.length ≤ 10000) (r : Int × FP.Ft) (hq : X.view.sealed b = some r) :
    Calls Tryz.prog 117 #[ptr f, .slice a b.length c] w (FIPost base w f X r) := by
  have H := Lib.hid h
  have HX := Lib.hid hx
  have HR := Lib.hid hr
  rw [sealed_eq] at hq
  have HSZ : Hid (X.view.c.S = X.M.S) := Lib.hid rfl
  rw [HSZ.out] at hq
  have HQ := Lib.hid hq
  have hS512 := hx.size
  have hS64 := hx.dims.2.2.2.2
  have q8 : IntKind.i64.wrap ((X.M.S : Int) - 8) = (X.M.S : Int) - 8 := IntWalk.i64_in _ (by omega)
  clear h hx hr hq
  go_enter Tryz.func117, Tryz.ntmps117
  go_wp2_with fail
  refine (ready_any H.out).mono ?_
  rintro e w' ⟨rfl, rfl⟩
  generalize X.view.ready = lg at *
  by_cases h0 : lg = 0
  · subst h0
    have HQ : Hid _ := Lib.hid ((if_neg (by simp)).symm.trans HQ.out)
    go_wp2_with fail
    refine (size_any H.out).mono ?_
    rintro e w3 ⟨rfl, hb3⟩
    have HB3 := Lib.hid hb3
    have H3 := Lib.hid (H.out.old hb3)
    clear hb3
    by_cases hS : (b.length : Int) = X.M.S - 8
    · have HQ : Hid _ := Lib.hid ((if_neg (by simpa using hS)).symm.trans HQ.out)
      have hS' : ((b.length : Int) != (X.M.S : Int) - 8) = false := by simp [hS]
      have HS := Lib.hid hS
      clear hS
      go_wp2_with fail
      refine (ReadOnly_any H3.out HX.out).mono ?_
      rintro e w4 ⟨rfl, hb4⟩
      have HB4 := Lib.hid (HB3.out.trans (hb4.mono HB3.out.size))
      have H4 := Lib.hid (H3.out.old hb4)
      clear hb4 H3 HB3
      generalize X.view.shut = sh at *
      cases sh
      · have HQ : Hid _ := Lib.hid ((if_neg (by simp)).symm.trans HQ.out)
        cases hput : X.view.put 2 0 (FP.headP X.view.reserve X.view.bad b) with
        | none =>
          rw [hput] at HQ
          cases HQ.out
        | some q =>
          obtain ⟨⟨qb, qp⟩, V⟩ := q
          rw [hput] at HQ
          have HQE : Hid (some ((0 : Int), sealF V ⟨qb, qp⟩ b) = some r) := HQ
          have HPUT := Lib.hid hput
          have HEP : Hid (V.epoch < 4611686018427387904) := Lib.hid (by
            have h1 := (write_seq (put_some hput).2.2.1).2.1
            have h2 := (Fit.put HX.out (head_small (reserve := X.view.reserve) (bad := X.view.bad) HR.out.row.small) hput).2.2.2.2.2.2.2.2.2.1
            rw [h2]; exact h1)
          have HSM := Lib.hid (head_small (reserve := X.view.reserve) (bad := X.view.bad) HR.out.row.small)
          have HFV := Lib.hid (Fit.put HX.out HSM.out hput)
          have HHL : Hid ((FP.headP X.view.reserve X.view.bad b).length ≤ 900000) := Lib.hid (by unfold FP.headP; simp; omega)
          clear hput
          go_upto_region 8 with fail
          have c2 : w4.cell? ⟨f, 2, none⟩ = some (vi X.reserve) := H4.out.obj.cell 2
          have c3 : w4.cell? ⟨f, 3, none⟩ = some (vi X.bad) := H4.out.obj.cell 3
          have HS : Hid (w4.drew.cell? ⟨f, 2, none⟩ = some (vi X.reserve) ∧ w4.drew.cell? ⟨f, 3, none⟩ = some (vi X.bad)) := Lib.hid ⟨c2, c3⟩
          have H4D := Lib.hid (H4.out.old (Below.refl _ _).drew)
          have HG4 := Lib.hid ((FGoes.of_old H.out HB4.out).trans (FGoes.of_old H4.out (Below.refl _ _).drew))
          have HRD := Lib.hid (HR.out.old HB4.out.drew)
          have HHD : Hid (∀ W, Below w4.drew.heap.size w4.drew W → Calls Tryz.prog 162 #[vi X.reserve, vi X.bad, .slice a b.length c] W fun e w' => ∃ v, e = .returned v ∧ Own w' W.heap.size v (FP.headP X.reserve X.bad b) ∧ Below W.heap.size W w') :=
            Lib.hid (fun W hb => head_any X.reserve X.bad a b c W (HRD.out.old hb).row hl ⟨HX.out.res.1, HX.out.res.2.1⟩ ⟨HX.out.res.2.2.1, HX.out.res.2.2.2⟩)
          have HPT : Hid (∀ W a5 k5, Below w4.drew.heap.size w4.drew W → SRow base W a5 (FP.headP X.reserve X.bad b) → Calls Tryz.prog 161 #[ptr f, .agg #[.int .i64 2, .int .u32 0, .int .u64 0, .int .u64 0], .slice a5 (FP.headP X.reserve X.bad b).length k5] W (PlcPost base W f X ⟨qb, qp⟩ V)) :=
            Lib.hid (fun W a5 k5 hb hs => put_quiet (H4D.out.old hb) HX.out (Nat.le_trans hbase (Nat.le_trans HB4.out.size hb.size)) 2 0 a5 _ k5 hs HHL.out ⟨qb, qp⟩ V HPUT.out)
          have HK1 : Hid (∀ W, Below w4.drew.heap.size w4.drew W → (W.cell? ⟨f, 2, none⟩ = some (vi X.reserve) ∧ W.cell? ⟨f, 3, none⟩ = some (vi X.bad))) := Lib.hid (fun W hb => ⟨cell_below HS.out.1 hb, cell_below HS.out.2 hb⟩)
          have HK2 : Hid (∀ W W' Y, FGoes base W f X W' Y → Y.view = V → (W'.cell? ⟨f, 2, none⟩ = some (vi X.reserve) ∧ W'.cell? ⟨f, 3, none⟩ = some (vi X.bad))) := Lib.hid (fun W W' Y q e => by
            have e1 : Y.reserve = X.reserve := (congrArg FP.Ft.reserve e).trans HFV.out.2.2.2.2.2.1
            have e2 : Y.bad = X.bad := (congrArg FP.Ft.bad e).trans HFV.out.2.2.2.2.2.2.1
            rw [← e1, ← e2]
            exact ⟨q.at_.obj.cell 2, q.at_.obj.cell 3⟩)
          have HK3 : Hid (∀ (W : World) o, (W.cell? ⟨f, 2, none⟩ = some (vi X.reserve) ∧ W.cell? ⟨f, 3, none⟩ = some (vi X.bad)) → ((W.alloc o).cell? ⟨f, 2, none⟩ = some (vi X.reserve) ∧ (W.alloc o).cell? ⟨f, 3, none⟩ = some (vi X.bad))) :=
            Lib.hid (fun W o h => ⟨cell_below h.1 ((Below.refl _ _).alloc (Nat.le_refl _) _), cell_below h.2 ((Below.refl _ _).alloc (Nat.le_refl _) _)⟩)
          have HFW : Hid (f < w4.heap.size) := Lib.hid H4.out.obj.lt
          have HK4 : Hid (∀ (W : World) g u v, w4.heap.size ≤ g → (W.cell? ⟨f, 2, none⟩ = some (vi X.reserve) ∧ W.cell? ⟨f, 3, none⟩ = some (vi X.bad)) → (((W.setCell ⟨g, 0, none⟩ u).setCell ⟨g, 1, none⟩ v).cell? ⟨f, 2, none⟩ = some (vi X.reserve) ∧ ((W.setCell ⟨g, 0, none⟩ u).setCell ⟨g, 1, none⟩ v).cell? ⟨f, 3, none⟩ = some (vi X.bad))) :=
            Lib.hid (fun W g u v hg h => ⟨(two_chg W g 0 1 u v).cell h.1 (by have := HFW.out; dsimp only; omega), (two_chg W g 0 1 u v).cell h.2 (by have := HFW.out; dsimp only; omega)⟩)
          have HNF : Hid (∀ g, w4.heap.size ≤ g → ¬ X.foot f g) := Lib.hid (fun g hg e => by have := H4.out.lt _ e; omega)
          generalize FP.headP X.reserve X.bad b = hd at *
          go_cut [6, 7] from 29 to 135 (fun v6 v7 wx => ∃ g7 X6, v6 = .pointer (some ⟨g7, 0, none⟩) ∧ v7 = vi 0 ∧ Hid (Blk wx g7 197 #[vi qb, vi qp]) ∧ Hid (FGoes base w' f X wx X6 ∧ X6.view = V))
          case first =>
            go_region_held3 (fun w' => w'.cell? ⟨f, 2, none⟩ = some (vi X.reserve) ∧ w'.cell? ⟨f, 3, none⟩ = some (vi X.bad))
              (first
                | exact HS.out
                | exact HK3.out _ _ HS.out
                | exact HK1.out _ (by assumption)
                | exact HK3.out _ _ (HK1.out _ (by assumption))
                | exact HK2.out _ _ _ (by assumption) (by assumption)
                | exact HK3.out _ _ (HK2.out _ _ _ (by assumption) (by assumption))
                | exact HK4.out _ _ _ _ (by assumption) (HK2.out _ _ _ (by assumption) (by assumption)))
              (first
                | (go_at_call 162; first
                    | (refine (HHD.out _ (Below.refl _ _)).mono ?_; rintro e w5 ⟨v5, rfl, ho5, hb5⟩; obtain ⟨a5, k5, rfl, hs5, hl5, hc5, _⟩ := ho5.srow (base := base) HSM.out)
                    | (refine (HHD.out (w4.drew.alloc (.cells #[vi 0, vi 0] 197)) ((Below.refl _ _).alloc (Nat.le_refl _) _)).mono ?_; rintro e w5 ⟨v5, rfl, ho5, hbx⟩; obtain ⟨a5, k5, rfl, hs5, hl5, hc5, _⟩ := ho5.srow (base := base) HSM.out
                       have hb5 := ((Below.refl w4.drew.heap.size w4.drew).alloc (Nat.le_refl _) (.cells #[vi 0, vi 0] 197)).trans (hbx.mono (by simp))
                       have fb5 := (Blk.new w4.drew 197 #[vi 0, vi 0]).old hbx))
                | (go_at_call 161; first
                    | (refine (HPT.out (w5.alloc (.cells #[vi 0, vi 0] 197)) _ _ (hb5.alloc hb5.size _) (hs5.old ((Below.refl _ _).alloc (Nat.le_refl _) _))).mono ?_; rintro e w6 ⟨X6, rfl, hg6, hv6⟩
                       have hge : w4.heap.size ≤ w5.heap.size := hb5.size
                       have fb6 := hg6.far (Blk.new w5 197 #[vi 0, vi 0]) (HNF.out _ hge)
                       obtain ⟨z0, z1, z2, z3⟩ := plc_cells fb6)
                    | (refine (HPT.out _ _ _ hb5 hs5).mono ?_; rintro e w6 ⟨X6, rfl, hg6, hv6⟩
                       have hge : w4.heap.size ≤ w4.heap.size := Nat.le_refl _
                       have fb6 : Blk w6 w4.heap.size 197 #[vi 0, vi 0] := hg6.far fb5 (HNF.out _ hge)
                       obtain ⟨z0, z1, z2, z3⟩ := plc_cells fb6)
                    | (refine (HPT.out _ _ _ hb5 hs5).mono ?_; rintro e w6 ⟨X6, rfl, hg6, hv6⟩)))
            · go_wp2_with fail
              go_meet
              exact ⟨w6.heap.size, X6, rfl, rfl, Lib.hid (Blk.new _ _ _), Lib.hid ⟨(HG4.out.trans ((FGoes.of_old H4D.out hb5).trans hg6)).old ((Below.refl _ _).alloc (Nat.le_refl _) _), hv6⟩⟩
            · have hw := HG4.out.trans ((FGoes.of_old H4D.out (hb5.alloc hb5.size (.cells #[vi 0, vi 0] 197))).trans hg6)
              have hsz : w'.heap.size ≤ w4.heap.size := HB4.out.size
              have ff := hw.fill (g := w5.heap.size) (by omega) fb6 (fun e => by
                rcases hg6.foot _ e with h1 | h1
                · exact HNF.out _ hge h1
                · simp at h1; omega) (by omega) (vi qb) (vi qp)
              go_wp2_with fail
              go_meet
              exact ⟨w5.heap.size, X6, rfl, rfl, Lib.hid ff.1, Lib.hid ⟨ff.2, hv6⟩⟩
            · have hw := HG4.out.trans ((FGoes.of_old H4D.out hb5).trans hg6)
              have hsz : w'.heap.size ≤ w4.heap.size := HB4.out.size
              have ff := hw.fill (g := w4.heap.size) hsz fb6 (fun e => by
                rcases hg6.foot _ e with h1 | h1
                · exact HNF.out _ hge h1
                · have h2 : w4.heap.size < w5.heap.size := fb5.lt
                  omega) (by omega) (vi qb) (vi qp)
              go_wp2_with fail
              go_meet
              exact ⟨w4.heap.size, X6, rfl, rfl, Lib.hid ff.1, Lib.hid ⟨ff.2, hv6⟩⟩
          case rest =>
          obtain ⟨g7, X6, rfl, rfl, FB7, hcut⟩ := hcut
          have HG7 := Lib.hid hcut.1
          have HV6 := Lib.hid hcut.2
          clear hcut HHD HPT HK1 HK2 HK3 HK4 HS c2 c3 H4D H4 HB4 HSM HHL HPUT HNF HFW HG4 HRD
          go_upto_region 11 with fail
          obtain ⟨y0, y1, _, _⟩ := plc_cells FB7.out
          have c6 : wc.cell? ⟨f, 6, none⟩ = some (.map (some X6.bn)) := HG7.out.at_.obj.cell 6
          obtain ⟨w8, hupd, hm, hgr⟩ := updRun (HG7.out.at_.old (Below.refl _ _).drew).now 0 qb qp
          have HG8 := Lib.hid ((HG7.out.old (Below.refl _ _).drew).trans ((HG7.out.at_.old (Below.refl _ _).drew).nowPut hgr hm))
          have hup : (Instr.mapUpdate 185 (.map (some X6.bn)) (.int .u32 0) (.agg #[vi qb, vi qp])).run Tryz.prog wc.drew = .ok () w8 := hupd.run
          have hne7 : X6.bn ≠ g7 := HG7.out.at_.now.ne_blk FB7.out
          have HS8 : Hid (w8.cell? ⟨f, 6, none⟩ = some (.map (some X6.bn)) ∧ w8.cell? ⟨g7, 0, none⟩ = some (vi qb) ∧ w8.cell? ⟨g7, 1, none⟩ = some (vi qp)) := Lib.hid ⟨HG8.out.at_.obj.cell 6,
            (FB7.out.drew.grown hgr (fun e => by injection e with e; exact hne7 e.symm)).cell 0, (FB7.out.drew.grown hgr (fun e => by injection e with e; exact hne7 e.symm)).cell 1⟩
          have HS7 : Hid (wc.drew.cell? ⟨f, 6, none⟩ = some (.map (some X6.bn)) ∧ wc.drew.cell? ⟨g7, 0, none⟩ = some (vi qb) ∧ wc.drew.cell? ⟨g7, 1, none⟩ = some (vi qp)) := Lib.hid ⟨c6, y0, y1⟩
          clear hupd hm hgr hne7
          go_region_held3 (fun W => W.cell? ⟨f, 6, none⟩ = some (.map (some X6.bn)) ∧ W.cell? ⟨g7, 0, none⟩ = some (vi qb) ∧ W.cell? ⟨g7, 1, none⟩ = some (vi qp))
            (first | exact HS7.out | exact HS8.out)
            (fail)
          have c6b := HS8.out.1
          clear hup c6 y0 y1 FB7 HS7 HS8
          -- what was written is told
          have HFIT := Lib.hid HFV.out.1
          have HVN : Hid (X6.N = V.now ∧ X6.S = V.sld ∧ X6.D = V.gone) := Lib.hid ⟨congrArg FP.Ft.now HV6.out, congrArg FP.Ft.sld HV6.out, congrArg FP.Ft.gone HV6.out⟩
          have HN8 : Hid (Low (MP.put V.now 0 ⟨qb, qp⟩)) := Lib.hid (HFIT.out.nlow.put (k := 0) (by decide) _)
          have HTK : Hid (∀ done : Mp FP.Plc, (∀ x ∈ done, x ∈ MP.put V.now 0 ⟨qb, qp⟩) → SlOk V.c V.g.reserve V.g.bad (done.foldl FP.Sl.take ⟨V.g, V.sld, V.gone⟩)) :=
            Lib.hid (fun done hd => SlOk.takes (fun x hx => HN8.out.2 x (hd x hx)) ⟨HFIT.out.gok, ⟨rfl, rfl⟩, HFIT.out.slow, HFIT.out.dlow⟩)
          have HV8 : Hid ({ X6 with N := MP.put X6.N 0 ⟨qb, qp⟩ : FtM }.view = { V with now := MP.put V.now 0 ⟨qb, qp⟩ }) := Lib.hid (by rw [← HV6.out])
          have HNQ : Hid ({ X6 with N := MP.put X6.N 0 ⟨qb, qp⟩ : FtM }.N = MP.put V.now 0 ⟨qb, qp⟩) := Lib.hid (by show MP.put X6.N 0 _ = _; rw [HVN.out.1])
          have HB68 : Hid (({ X6 with N := MP.put X6.N 0 ⟨qb, qp⟩ } : FtM).bn = X6.bn) := Lib.hid rfl
          generalize hX8 : ({ X6 with N := MP.put X6.N 0 ⟨qb, qp⟩ } : FtM) = X8 at *
          generalize hN8 : MP.put V.now 0 ⟨qb, qp⟩ = N8 at *
          have HTS : Hid (takeS V ⟨qb, qp⟩ = N8.foldl FP.Sl.take ⟨V.g, V.sld, V.gone⟩) := Lib.hid (by rw [← hN8]; rfl)
          clear hX8 hN8 HG7 HV6 HVN
          obtain ⟨w9, hrng, hit⟩ := It1.begin (b := X6.bn) HG8.out (.inl HB68.out.symm) hbase (by rw [← HB68.out]; exact HG8.out.at_.now)
          have HRN := Lib.hid hrng
          have HIT := Lib.hid hit
          rw [HNQ.out] at HIT
          clear hrng hit
          generalize w8.heap.size = rr at *
          go_wp2_with (at_range; refine wpList_range_run rfl (.tmp 55) rfl rfl HRN.out.run ?_)
          go_frame
          clear HRN c6b
          generalize X6.bn = bn at *
          go_loopg [8] N8.length (fun k _ wr => ∃ done left Y, left.length ≤ k ∧ Hid (It1 base w' f X rr bn left wr Y ∧ Y.bn = bn ∧ Y.view = { V with now := N8, g := (done.foldl FP.Sl.take ⟨V.g, V.sld, V.gone⟩).g, sld := (done.foldl FP.Sl.take ⟨V.g, V.sld, V.gone⟩).sld, gone := (done.foldl FP.Sl.take ⟨V.g, V.sld, V.gone⟩).gone } ∧ (done ++ left).Perm N8))
          case atStart => exact ⟨[], N8, X8, Nat.le_refl _, Lib.hid ⟨HIT.out, HB68.out, HV8.out, List.Perm.refl _⟩⟩
          case round =>
            obtain ⟨done, left, Y, hlk, hrd⟩ := hrel
            have HIY := Lib.hid hrd.out.1
            have HYB := Lib.hid hrd.out.2.1
            have HYV := Lib.hid hrd.out.2.2.1
            have HPM := Lib.hid hrd.out.2.2.2
            clear hrd HIT HG8
            rcases HIY.out.next with ⟨hnil, hnx⟩ | ⟨k, pb, pp, wn, hmem, hnx, hit2, hlt2, hpm2, hen⟩
            · have HNX := Lib.hid hnx
              have HNL := Lib.hid hnil
              clear hnx hnil
              have HS1 : Hid (done.foldl FP.Sl.take ⟨V.g, V.sld, V.gone⟩ = takeS V ⟨qb, qp⟩) := Lib.hid (by
                have hp := HPM.out
                rw [HNL.out, List.append_nil] at hp
                rw [takes_perm HN8.out.1 hp HFIT.out.slow.1 HFIT.out.dlow.1, HTS.out])
              rw [HS1.out] at HYV
              have HK1 : Hid (SlOk V.c V.g.reserve V.g.bad (takeS V ⟨qb, qp⟩)) := Lib.hid (by rw [HTS.out]; exact HTK.out N8 (fun _ h => h))
              clear HS1 HPM HNL HTS HTK hlk
              have HSF : Hid (sealF V ⟨qb, qp⟩ b = { V with g := (strikeS (takeS V ⟨qb, qp⟩)).g, sld := (strikeS (takeS V ⟨qb, qp⟩)).sld, now := [], gone := [], epoch := V.epoch + 1, text := b }) := Lib.hid rfl
              have HST : Hid (strikeS (takeS V ⟨qb, qp⟩) = (takeS V ⟨qb, qp⟩).gone.foldl FP.Sl.strike (takeS V ⟨qb, qp⟩)) := Lib.hid rfl
              generalize takeS V ⟨qb, qp⟩ = s1 at *
              generalize strikeS s1 = s2 at *
              have HFN : Hid (Fit { V with now := N8 }) := Lib.hid (HFIT.out.now HN8.out)
              have HYD : Hid (Y.D = s1.gone) := Lib.hid (congrArg FP.Ft.gone HYV.out)
              obtain ⟨w2, hrng, hit⟩ := It1.begin (b := Y.bg) HIY.out.goes (.inr rfl) hbase HIY.out.goes.at_.gone
              have HRN := Lib.hid hrng
              have HIT := Lib.hid hit
              rw [HYD.out] at HIT
              have c7 : wr.cell? ⟨f, 7, none⟩ = some (.map (some Y.bg)) := HIY.out.goes.at_.obj.cell 7
              clear hrng hit HYD HIY
              generalize wr.heap.size = r2 at *
              go_wp2_with (first | (at_next; refine wpList_next_run rfl (.tmp 56) rfl rfl (HNX.out.run _) ?_) | (at_range; refine wpList_range_run rfl (.tmp 93) rfl rfl HRN.out.run ?_))
              go_frame
              clear c7 HRN HNX
              generalize hyg : Y.bg = bg at *
              have HYG := Lib.hid hyg
              clear hyg
              go_loopg [12] s1.gone.length (fun k _ wr => ∃ done left Z, left.length ≤ k ∧ Hid (It1 base w' f X r2 bg left wr Z ∧ Z.bg = bg ∧ Z.view = { V with now := N8, g := (done.foldl FP.Sl.strike s1).g, sld := (done.foldl FP.Sl.strike s1).sld, gone := (done.foldl FP.Sl.strike s1).gone } ∧ (done ++ left).Perm s1.gone))
              case atStart => exact ⟨[], s1.gone, Y, Nat.le_refl _, Lib.hid ⟨HIT.out, HYG.out, HYV.out, List.Perm.refl _⟩⟩
              case round =>
                obtain ⟨done2, left2, Z, hlk2, hrd⟩ := hrel
                have HIZ := Lib.hid hrd.out.1
                have HZB := Lib.hid hrd.out.2.1
                have HZV := Lib.hid hrd.out.2.2.1
                have HPZ := Lib.hid hrd.out.2.2.2
                clear hrd HIT HYV HYB
                rcases HIZ.out.next with ⟨hnil, hnx⟩ | ⟨k, pb, pp, wn, hmem, hnx, hit2, hlt2, hpm2, hen⟩
                · have HNX := Lib.hid hnx
                  have HNL := Lib.hid hnil
                  clear hnx hnil
                  have HS2 : Hid (done2.foldl FP.Sl.strike s1 = s2) := Lib.hid (by
                    have hp := HPZ.out
                    rw [HNL.out, List.append_nil] at hp
                    rw [strikes_perm HK1.out.dlow.1 hp HK1.out.slow.1, HST.out])
                  have HS3 : Hid (s2.gone = s1.gone) := Lib.hid (by rw [HST.out, strikes_gone])
                  rw [HS2.out] at HZV
                  clear HS2 HPZ HNL hlk2
                  have HGZ := Lib.hid HIZ.out.goes
                  clear HIZ
                  have hmm := @run_makeMap Tryz.prog
                  go_upto_region 25 with (at_next; refine wpList_next_run rfl (.tmp 94) rfl rfl (HNX.out.run _) ?_)
                  have HB2 : Hid (Below wr.heap.size wr ((wr.alloc (.map #[] 0)).alloc (.map #[] 0))) := Lib.hid (((Below.refl _ _).alloc (Nat.le_refl _) _).alloc (by simp) _)
                  have HGA := Lib.hid (HGZ.out.old HB2.out)
                  have c6 : ((wr.alloc (.map #[] 0)).alloc (.map #[] 0)).cell? ⟨f, 6, none⟩ = some (.map (some Z.bn)) := HGA.out.at_.obj.cell 6
                  have c7 : ((wr.alloc (.map #[] 0)).alloc (.map #[] 0)).cell? ⟨f, 7, none⟩ = some (.map (some Z.bg)) := HGA.out.at_.obj.cell 7
                  have z6 : ((wr.alloc (.map #[] 0)).alloc (.map #[] 0)).frozen? ⟨f, 6, none⟩ = false := HGA.out.at_.obj.frozen 6
                  have z7 : ((wr.alloc (.map #[] 0)).alloc (.map #[] 0)).frozen? ⟨f, 7, none⟩ = false := HGA.out.at_.obj.frozen 7
                  go_upto_region 26 with fail
                  have HLE : Hid (base ≤ wr.heap.size) := Lib.hid (Nat.le_trans hbase HGZ.out.size)
                  have HGB := Lib.hid (HGZ.out.fresh HLE.out)
                  have HBV : Hid (({ Z with bn := wr.heap.size, N := [], bg := wr.heap.size + 1, D := [] } : FtM).view = { V with g := s2.g, sld := s2.sld, now := [], gone := [] }) := Lib.hid (by
                    show ({ Z.view with now := [], gone := [] } : FP.Ft) = _
                    rw [HZV.out])
                  clear HGA HB2 c6 c7 z6 z7 HLE HZV HGZ HZB HNX hmm
                  generalize ((((wr.alloc (.map #[] 0)).alloc (.map #[] 0)).setCell ⟨f, 6, none⟩ (.map (some wr.heap.size))).setCell ⟨f, 7, none⟩ (.map (some (wr.heap.size + 1)))) = wk at *
                  generalize ({ Z with bn := wr.heap.size, N := [], bg := wr.heap.size + 1, D := [] } : FtM) = Zb at *
                  have HBE : Hid (Zb.epoch = V.epoch) := Lib.hid (congrArg FP.Ft.epoch HBV.out)
                  have c9 : wk.cell? ⟨f, 9, none⟩ = some (vq Zb.epoch) := HGB.out.at_.obj.cell 9
                  have f9 := HGB.out.at_.obj.frozen 9
                  have HF9 := Lib.hid (HGB.out.at_.field (X' := { Zb with epoch := Zb.epoch + 1 }) 9 (vq (Zb.epoch + 1)) rfl ⟨rfl, rfl, rfl⟩ ⟨HGB.out.at_.text, HGB.out.at_.tlen⟩ ⟨rfl, rfl⟩ ⟨rfl, rfl⟩ ⟨rfl, rfl⟩ ⟨rfl, rfl, rfl⟩ (Nat.le_trans hbase HGB.out.size))
                  have hsq2 : ((Zb.epoch : Int) + 1) % 18446744073709551616 = (Zb.epoch : Int) + 1 := by have := HBE.out; have := HEP.out; omega
                  go_upto_region 27 with fail
                  change Code.wp _ _ _ _ (wk.setCell ⟨f, 9, none⟩ (vq (Zb.epoch + 1)))
                  have HG9 := Lib.hid (HGB.out.trans HF9.out)
                  have H9V : Hid (({ Zb with epoch := Zb.epoch + 1 } : FtM).view = { V with g := s2.g, sld := s2.sld, now := [], gone := [], epoch := V.epoch + 1 }) := Lib.hid (by
                    show ({ Zb.view with epoch := Zb.epoch + 1 } : FP.Ft) = _
                    rw [HBV.out, HBE.out])
                  clear c9 f9 hsq2 HF9 HGB HBV HBE
                  generalize wk.setCell ⟨f, 9, none⟩ (vq (Zb.epoch + 1)) = wl at *
                  generalize ({ Zb with epoch := Zb.epoch + 1 } : FtM) = Zc at *
                  have HRL := Lib.hid (HR.out.chg' HG9.out.chg (fun n e => H.out.loose n e))
                  go_wp2_with fail
                  refine (Clone_any a b c _ HRL.out.row (by omega)).mono ?_
                  rintro e w5 ⟨v5, rfl, ho5, hb5⟩
                  obtain ⟨a5, k5, rfl, hs5, hl5, hc5, _⟩ := ho5.srow (base := base) HR.out.row.small
                  have HG5 := Lib.hid (HG9.out.old hb5)
                  have HS5 := Lib.hid hs5
                  have c4 : w5.cell? ⟨f, 4, none⟩ = some (.slice Zc.ta Zc.tx.length Zc.tc) := HG5.out.at_.obj.cell 4
                  have f4 := HG5.out.at_.obj.frozen 4
                  have HF4 := Lib.hid (HG5.out.trans (HG5.out.at_.field (X' := { Zc with ta := a5, tx := b, tc := k5 }) 4 (.slice a5 b.length k5) rfl ⟨rfl, rfl, rfl⟩ ⟨HS5.out, hl5, hc5⟩ ⟨rfl, rfl⟩ ⟨rfl, rfl⟩ ⟨rfl, rfl⟩ ⟨rfl, rfl, rfl⟩ (Nat.le_trans hbase HG5.out.size)))
                  have HFV4 : Hid (({ Zc with ta := a5, tx := b, tc := k5 } : FtM).view = sealF V ⟨qb, qp⟩ b) := Lib.hid (by
                    rw [HSF.out]
                    show ({ Zc.view with text := b } : FP.Ft) = _
                    rw [H9V.out])
                  clear hb5 ho5 hs5 HG9 H9V
                  go_wp2_with fail
                  go_ret
                  exact FIPost.mk (by have := HQE.out; cases this; rfl) HF4.out HFV4.out
                · have HNX := Lib.hid hnx
                  have HI2 := Lib.hid hit2
                  have HPM2 := Lib.hid hpm2
                  clear hnx hpm2 hmem HIZ
                  go_upto_region 23 with (at_next; refine wpList_next_run rfl (.tmp 94) rfl rfl (HNX.out.run _) ?_)
                  generalize hsd : done2.foldl FP.Sl.strike s1 = sd at *
                  have HSD := Lib.hid hsd
                  have HZS : Hid (Z.S = sd.sld ∧ Z.G.view = sd.g) := Lib.hid ⟨congrArg FP.Ft.sld HZV.out, congrArg FP.Ft.g HZV.out⟩
                  have HZF : Hid Z.Fit := Lib.hid (FtM.fit_of HZV.out (Fit.sl HFN.out (by rw [← hsd]; exact HK1.out.strikes done2)))
                  have HI3 := Lib.hid (HI2.out.old (Below.refl _ _).drew)
                  obtain ⟨ob, op, L, hob⟩ : ∃ ob op : Int, (Instr.lookup 185 (.map (some Z.bs)) (.int .u32 k) false).run Tryz.prog wn.drew = .ok (.agg #[vi ob, vi op]) wn.drew ∧ (MP.get Z.S k).getD default = ⟨ob, op⟩ := by
                    have h := HI3.out.goes.at_.sld.lookup Tryz.underlying185 Tryz.underlying140 (zero_plc _) k
                    cases hg : MP.get Z.S k with
                    | none => rw [hg] at h; exact ⟨0, 0, h, rfl⟩
                    | some p => rw [hg] at h; exact ⟨p.block, p.page, h, rfl⟩
                  have HOB := Lib.hid hob
                  clear hsd hob HNX hit2 hen
                  have hf0 := plc_f0 ob op
                  have c1 : wn.cell? ⟨f, 1, none⟩ = some (ptr Z.m) := HI2.out.goes.at_.obj.cell 1
                  have c5 : wn.cell? ⟨f, 5, none⟩ = some (.map (some Z.bs)) := HI2.out.goes.at_.obj.cell 5
                  have HS : Hid (wn.drew.cell? ⟨f, 1, none⟩ = some (ptr Z.m) ∧ wn.drew.cell? ⟨f, 5, none⟩ = some (.map (some Z.bs))) := Lib.hid ⟨c1, c5⟩
                  have HDC := Lib.hid (drop_call1 HI3.out.goes.at_ HZF.out ob)
                  have HKP : Hid (∀ W, HGoes base wn.drew Z.m Z.G Z.M W (Z.G.view.drop ob).2 Z.M → (W.cell? ⟨f, 1, none⟩ = some (ptr Z.m) ∧ W.cell? ⟨f, 5, none⟩ = some (.map (some Z.bs)))) :=
                    Lib.hid (fun W q => ⟨(HI3.out.drop q).goes.at_.obj.cell 1, (HI3.out.drop q).goes.at_.obj.cell 5⟩)
                  go_region_held3 (fun w' => w'.cell? ⟨f, 1, none⟩ = some (ptr Z.m) ∧ w'.cell? ⟨f, 5, none⟩ = some (.map (some Z.bs)))
                    (first | exact HS.out | exact HKP.out _ (by assumption))
                    (first | (go_at_call 163; refine HDC.out.mono ?_; rintro e w3 ⟨rfl, hg3⟩))
                  have HI5 := Lib.hid (HI3.out.drop hg3)
                  clear hg3 HS HDC HKP c1 c5 L hf0 HI2 HI3 HZF
                  obtain ⟨w4, hdel, hm4, hgr4⟩ := delRun HI5.out.goes.at_.sld k
                  have HDL := Lib.hid hdel
                  have HI6 := Lib.hid (HI5.out.sld hgr4 hm4)
                  have c5 : w3.cell? ⟨f, 5, none⟩ = some (.map (some Z.bs)) := HI5.out.goes.at_.obj.cell 5
                  clear hdel hm4 hgr4
                  go_wp2_with (at_delete; refine wpList_delete_run rfl (.tmp 114) (.tmp 115) rfl rfl rfl (HDL.out.run _) ?_)
                  go_roundg (MP.del left2 k).length
                  case measure => omega
                  case rel => exact ⟨done2 ++ [(k, ⟨pb, pp⟩)], MP.del left2 k, _, Nat.le_refl _, Lib.hid ⟨HI6.out, HZB.out, by
                    rw [List.foldl_append, HSD.out]
                    show _ = ({ V with now := N8, g := (sd.g.drop ((MP.get sd.sld k).getD default).block).2, sld := MP.del sd.sld k, gone := sd.gone } : FP.Ft)
                    rw [← HZS.out.1, HOB.out, ← HZS.out.2]
                    show ({ Z.view with g := (Z.G.view.drop ob).2, sld := MP.del Z.S k } : FP.Ft) = _
                    rw [HZV.out], by
                    rw [List.append_assoc]
                    exact (HPM2.out.symm.append_left done2).trans HPZ.out⟩⟩
            · have HNX := Lib.hid hnx
              have HI2 := Lib.hid hit2
              have HPM2 := Lib.hid hpm2
              have HMEM := Lib.hid hmem
              clear hnx hit2 hpm2 hmem HIY
              go_upto_region 15 with (at_next; refine wpList_next_run rfl (.tmp 56) rfl rfl (HNX.out.run _) ?_)
              have FB9 : Hid (Blk (wn.alloc (.cells #[vi pb, vi pp] 197)) wn.heap.size 197 #[vi pb, vi pp]) := Lib.hid (Blk.new _ _ _)
              have HI3 := Lib.hid (HI2.out.old ((Below.refl _ _).alloc (Nat.le_refl _) (.cells #[vi pb, vi pp] 197)))
              have HN9 : Hid (¬ Y.foot f wn.heap.size) := Lib.hid (fun e => by have := HI2.out.goes.at_.lt _ e; omega)
              clear HI2 hen HNX
              generalize wn.alloc (.cells #[vi pb, vi pp] 197) = wa at *
              generalize wn.heap.size = g9 at *
              have c5 : wa.cell? ⟨f, 5, none⟩ = some (.map (some Y.bs)) := HI3.out.goes.at_.obj.cell 5
              obtain ⟨ob, op, ok, L, hsome, hnone⟩ := look_any HI3.out.goes.at_.sld k
              have HSO := Lib.hid hsome
              have HNO := Lib.hid hnone
              clear hsome hnone
              generalize hs : done.foldl FP.Sl.take ⟨V.g, V.sld, V.gone⟩ = st at *
              have HYS : Hid (Y.S = st.sld ∧ Y.D = st.gone) := Lib.hid ⟨congrArg FP.Ft.sld HYV.out, congrArg FP.Ft.gone HYV.out⟩
              have HST := Lib.hid hs
              clear hs
              have HSK : Hid (SlOk V.c V.g.reserve V.g.bad st) := Lib.hid (by rw [← HST.out]; exact HTK.out done (fun x hx => HPM.out.subset (List.mem_append_left _ hx)))
              have HYF : Hid Y.Fit := Lib.hid (FtM.fit_of HYV.out (Fit.sl (HFIT.out.now HN8.out) HSK.out))
              go_upto_region 16 with fail
              have FBA : Hid (Blk (wa.alloc (.cells #[vi ob, vi op] 197)) wa.heap.size 197 #[vi ob, vi op]) := Lib.hid (Blk.new _ _ _)
              have FB9A : Hid (Blk (wa.alloc (.cells #[vi ob, vi op] 197)) g9 197 #[vi pb, vi pp]) := Lib.hid (FB9.out.alloc _)
              have HI4 := Lib.hid (HI3.out.old ((Below.refl _ _).alloc (Nat.le_refl _) (.cells #[vi ob, vi op] 197)))
              have HNA : Hid (¬ Y.foot f wa.heap.size) := Lib.hid (fun e => by have := HI3.out.goes.at_.lt _ e; omega)
              clear HI3 FB9 c5 L
              generalize wa.alloc (.cells #[vi ob, vi op] 197) = wb at *
              generalize wa.heap.size = ga at *
              obtain ⟨g1, hg1⟩ : ∃ g1 : Mg, (st.take (k, (⟨pb, pp⟩ : FP.Plc))) = ⟨g1, MP.put st.sld k ⟨pb, pp⟩, MP.del st.gone k⟩ ∧ g1 = (match MP.get st.sld k with | some old => (st.g.drop old.block).2 | none => st.g) := ⟨_, rfl, rfl⟩
              have HTK2 := Lib.hid hg1.1
              have HG1 := Lib.hid hg1.2
              clear hg1
              have HYG : Hid (Y.G.view = st.g) := Lib.hid (congrArg FP.Ft.g HYV.out)
              go_upto_if 71 with fail
              go_cut [72] from 57 to 89 (fun _ wx => Hid (Blk wx g9 197 #[vi pb, vi pp]) ∧ ∃ Z, Hid (It1 base w' f X rr bn (MP.del left k) wx Z ∧ Z.bn = bn ∧ Z.view = { V with now := N8, g := g1, sld := st.sld, gone := st.gone }))
              case first =>
                cases ok
                · have HG2 : Hid (g1 = st.g) := Lib.hid (by rw [HG1.out, ← HYS.out.1, HNO.out rfl])
                  go_wp2_with fail
                  go_meet
                  exact ⟨FB9A, Y, Lib.hid ⟨HI4.out, HYB.out, by rw [HG2.out]; exact HYV.out⟩⟩
                · have HG2 : Hid (g1 = (Y.G.view.drop ob).2) := Lib.hid (by rw [HG1.out, ← HYS.out.1, HSO.out rfl, HYG.out])
                  go_upto_region 17 with fail
                  have c1 : wb.cell? ⟨f, 1, none⟩ = some (ptr Y.m) := HI4.out.goes.at_.obj.cell 1
                  obtain ⟨d0, d1, _, _⟩ := plc_cells FBA.out
                  have HS : Hid (wb.drew.cell? ⟨f, 1, none⟩ = some (ptr Y.m) ∧ wb.drew.cell? ⟨ga, 0, none⟩ = some (vi ob)) := Lib.hid ⟨c1, d0⟩
                  have HI4D := Lib.hid (HI4.out.old (Below.refl _ _).drew)
                  have HDC := Lib.hid (drop_call1 HI4D.out.goes.at_ HYF.out ob)
                  have HKP : Hid (∀ W, HGoes base wb.drew Y.m Y.G Y.M W (Y.G.view.drop ob).2 Y.M → (W.cell? ⟨f, 1, none⟩ = some (ptr Y.m) ∧ W.cell? ⟨ga, 0, none⟩ = some (vi ob))) :=
                    Lib.hid (fun W q => ⟨(HI4D.out.drop q).goes.at_.obj.cell 1, HGoes.cells q HS.out.2 (fun e => HNA.out (.inr (.inr (.inr (.inr (.inr e))))))⟩)
                  go_region_held3 (fun w' => w'.cell? ⟨f, 1, none⟩ = some (ptr Y.m) ∧ w'.cell? ⟨ga, 0, none⟩ = some (vi ob))
                    (first | exact HS.out | exact HKP.out _ (by assumption))
                    (first | (go_at_call 163; refine HDC.out.mono ?_; rintro e w3 ⟨rfl, hg3⟩))
                  have HI5 := Lib.hid (HI4D.out.drop hg3)
                  have FB5 : Hid (Blk w3 g9 197 #[vi pb, vi pp]) := Lib.hid ((FB9A.out.old (Below.refl _ _).drew).chg hg3.chg (fun e => HN9.out (.inr (.inr (.inr (.inr (.inr e)))))))
                  go_wp2_with fail
                  go_meet
                  exact ⟨FB5, { Y with G := Y.G.lay (Y.G.view.drop ob).2 }, Lib.hid ⟨HI5.out, HYB.out, by
                    rw [HG2.out]
                    show ({ Y.view with g := (Y.G.view.drop ob).2 } : FP.Ft) = _
                    rw [HYV.out]⟩⟩
              case rest =>
              obtain ⟨FBX, Z, hcut⟩ := hcut
              have HIZ := Lib.hid hcut.out.1
              have HZB := Lib.hid hcut.out.2.1
              have HZV := Lib.hid hcut.out.2.2
              have HZS : Hid (Z.S = st.sld ∧ Z.D = st.gone) := Lib.hid ⟨congrArg FP.Ft.sld HZV.out, congrArg FP.Ft.gone HZV.out⟩
              clear hcut FB9A FBA HI4 HNA HN9 HSO HNO HYV HYS HYF HYB HG1 HYG
              go_upto_region 18 with fail
              obtain ⟨y0, y1, _, _⟩ := plc_cells FBX.out
              have c5 : wc.cell? ⟨f, 5, none⟩ = some (.map (some Z.bs)) := HIZ.out.goes.at_.obj.cell 5
              have HIZD := Lib.hid (HIZ.out.old (Below.refl _ _).drew)
              obtain ⟨w5, hupd, hm, hgr⟩ := updRun HIZD.out.goes.at_.sld k pb pp
              have HI5 := Lib.hid (HIZD.out.sld hgr hm)
              have hup : (Instr.mapUpdate 185 (.map (some Z.bs)) (.int .u32 k) (.agg #[vi pb, vi pp])).run Tryz.prog wc.drew = .ok () w5 := hupd.run
              have hne9 : Z.bs ≠ g9 := HIZ.out.goes.at_.sld.ne_blk FBX.out
              have HS8 : Hid (w5.cell? ⟨f, 5, none⟩ = some (.map (some Z.bs)) ∧ w5.cell? ⟨g9, 0, none⟩ = some (vi pb) ∧ w5.cell? ⟨g9, 1, none⟩ = some (vi pp)) := Lib.hid ⟨HI5.out.goes.at_.obj.cell 5,
                (FBX.out.drew.grown hgr (fun e => by injection e with e; exact hne9 e.symm)).cell 0, (FBX.out.drew.grown hgr (fun e => by injection e with e; exact hne9 e.symm)).cell 1⟩
              have HS7 : Hid (wc.drew.cell? ⟨f, 5, none⟩ = some (.map (some Z.bs)) ∧ wc.drew.cell? ⟨g9, 0, none⟩ = some (vi pb) ∧ wc.drew.cell? ⟨g9, 1, none⟩ = some (vi pp)) := Lib.hid ⟨c5, y0, y1⟩
              clear hupd hm hgr hne9
              go_region_held3 (fun W => W.cell? ⟨f, 5, none⟩ = some (.map (some Z.bs)) ∧ W.cell? ⟨g9, 0, none⟩ = some (vi pb) ∧ W.cell? ⟨g9, 1, none⟩ = some (vi pp))
                (first | exact HS7.out | exact HS8.out)
                (fail)
              clear hup c5 y0 y1 FBX HS7 HS8 HIZD HIZ
              obtain ⟨w6, hdel, hm6, hgr6⟩ := delRun HI5.out.goes.at_.gone k
              have HDL := Lib.hid hdel
              have HI6 := Lib.hid (HI5.out.gone HZB.out.symm hgr6 hm6)
              have c7 : w5.cell? ⟨f, 7, none⟩ = some (.map (some Z.bg)) := HI5.out.goes.at_.obj.cell 7
              clear hdel hm6 hgr6
              go_wp2_with (at_delete; refine wpList_delete_run rfl (.tmp 88) (.tmp 89) rfl rfl rfl (HDL.out.run _) ?_)
              go_roundg (MP.del left k).length
              case measure => omega
              case rel => exact ⟨done ++ [(k, ⟨pb, pp⟩)], MP.del left k, _, Nat.le_refl _, Lib.hid ⟨HI6.out, HZB.out, by
                rw [List.foldl_append, HST.out]
                show _ = ({ V with now := N8, g := (st.take (k, ⟨pb, pp⟩)).g, sld := (st.take (k, ⟨pb, pp⟩)).sld, gone := (st.take (k, ⟨pb, pp⟩)).gone } : FP.Ft)
                rw [HTK2.out]
                show ({ Z.view with sld := MP.put Z.S k ⟨pb, pp⟩, gone := MP.del Z.D k } : FP.Ft) = _
                rw [HZV.out, HZS.out.1, HZS.out.2], by
                rw [List.append_assoc]
                exact (HPM2.out.symm.append_left done).trans HPM.out⟩⟩
      · have HQ : Hid _ := Lib.hid ((if_pos rfl).symm.trans HQ.out)
        have HG := Lib.hid (FGoes.of_old H.out HB4.out)
        go_wp2_with fail
        go_ret
        exact FIPost.mk (by have := HQ.out; cases this; rfl) HG.out rfl
    · have HQ : Hid _ := Lib.hid ((if_pos hS).symm.trans HQ.out)
      have hS' : ((b.length : Int) != (X.M.S : Int) - 8) = true := by simp; omega
      have HG := Lib.hid (FGoes.of_old H.out HB3.out)
      clear hS
      go_wp2_with fail
      go_ret
      exact FIPost.mk (by have := HQ.out; cases this; rfl) HG.out rfl
  · have HQ : Hid _ := Lib.hid ((if_pos h0).symm.trans HQ.out)
    have HG := Lib.hid (FGoes.refl H.out)
    go_wp2_with fail
    go_ret
    exact FIPost.mk (by have := HQ.out; cases this; rfl) HG.out rfl
end
end Go.Proofs.YtnfhlocflpdlcaaGreat.ft

