/-
  BlkReads: what was programmed is read at the place that was told, until that block is erased. No conditions.
-/
import Derived.Test.YtpggkehfbhffbaaZR24
import Derived.Test.YtpggkehfbhffbaaZR25
import Derived.StillTailTactics
namespace Go.Proofs.Ytpggkehfbhffbaa.blkReads
open Go.ChangeShapes Go.WideShapes Go.ChangeAt Go.RowKit Go.Deep
open Go.Proofs.Ytpggkehfbhffbaa.mgr
attribute [local go_sem] Oper.semAt_some

set_option maxRecDepth 100000 in
set_option maxHeartbeats 8000000 in
theorem walk (x : Set6) (y : RowE Op6) (w : World) (hx : x.ok w.heap.size w) (hy : Ops6 w.heap.size w y.a y.l) : Calls Try.prog 8 #[.agg x.cs, y.v] w fun e w' => e = .returned (.bool true) ∧ Below w.heap.size w w' := by
  obtain ⟨ya, l, yc⟩ := y
  have HX := Lib.hid hx
  have HY := Lib.hid hy
  dsimp only at HY
  change Calls Try.prog 8 #[.agg x.cs, .slice ya l.length yc] w _
  have F0 := Blk.new w 80 x.cs
  have HB := Lib.hid (alloc_box w x.cs 80)
  clear hx hy
  go_enter Try.func8, Try.ntmps8
  go_upto_region 1 with fail
  have HLW : Hid (w.heap.size < (w.alloc (.cells x.cs 80)).heap.size) := Lib.hid (by rw [size_alloc]; omega)
  generalize w.alloc (.cells x.cs 80) = w1 at *
  have G0 := Lib.hid F0
  have HXV : Hid (x.cs = #[vi x.b, vi x.p, vi x.s, .slice x.xa x.x.length x.xc, .slice x.fa x.f.length x.fc, .slice x.na x.n.length x.nc, .slice x.la x.l.length x.lc, vi x.reserve, vi x.first]) := Lib.hid rfl
  have c0 : w1.cell? ⟨w.heap.size, 0, none⟩ = some (vi x.b) := G0.out.cell 0
  have c1 : w1.cell? ⟨w.heap.size, 1, none⟩ = some (vi x.p) := G0.out.cell 1
  have c2 : w1.cell? ⟨w.heap.size, 2, none⟩ = some (vi x.s) := G0.out.cell 2
  have c3 : w1.cell? ⟨w.heap.size, 3, none⟩ = some (.slice x.xa x.x.length x.xc) := G0.out.cell 3
  have c4 : w1.cell? ⟨w.heap.size, 4, none⟩ = some (.slice x.fa x.f.length x.fc) := G0.out.cell 4
  have c5 : w1.cell? ⟨w.heap.size, 5, none⟩ = some (.slice x.na x.n.length x.nc) := G0.out.cell 5
  have c6 : w1.cell? ⟨w.heap.size, 6, none⟩ = some (.slice x.la x.l.length x.lc) := G0.out.cell 6
  have c7 : w1.cell? ⟨w.heap.size, 7, none⟩ = some (vi x.reserve) := G0.out.cell 7
  have c8 : w1.cell? ⟨w.heap.size, 8, none⟩ = some (vi x.first) := G0.out.cell 8
  go_wp2_with fail
  refine (long6_any yc (HX.out.old HB.out) (HY.out.old HB.out)).mono ?_
  rintro e w2 ⟨t, rfl, hb2, ht⟩
  have HB2 := Lib.hid (HB.out.trans (hb2.mono HB.out.size))
  cases t
  · have HW := Lib.hid (ht rfl)
    have G2 := Lib.hid (G0.out.old hb2)
    have HS2 : Hid (w1.heap.size ≤ w2.heap.size) := Lib.hid hb2.size
    clear hb2 ht c0 c1 c2 c3 c4 c5 c6 c7 c8 G0 F0
    have c0 : w2.cell? ⟨w.heap.size, 0, none⟩ = some (vi x.b) := G2.out.cell 0
    have c1 : w2.cell? ⟨w.heap.size, 1, none⟩ = some (vi x.p) := G2.out.cell 1
    have c2 : w2.cell? ⟨w.heap.size, 2, none⟩ = some (vi x.s) := G2.out.cell 2
    have c3 : w2.cell? ⟨w.heap.size, 3, none⟩ = some (.slice x.xa x.x.length x.xc) := G2.out.cell 3
    have c4 : w2.cell? ⟨w.heap.size, 4, none⟩ = some (.slice x.fa x.f.length x.fc) := G2.out.cell 4
    have c5 : w2.cell? ⟨w.heap.size, 5, none⟩ = some (.slice x.na x.n.length x.nc) := G2.out.cell 5
    have c6 : w2.cell? ⟨w.heap.size, 6, none⟩ = some (.slice x.la x.l.length x.lc) := G2.out.cell 6
    have c7 : w2.cell? ⟨w.heap.size, 7, none⟩ = some (vi x.reserve) := G2.out.cell 7
    have c8 : w2.cell? ⟨w.heap.size, 8, none⟩ = some (vi x.first) := G2.out.cell 8
    go_wp2_with fail
    refine (both_any x (HX.out.old HB2.out) HB2.out.size (by have := HW.out; unfold wt6 at this; omega)).mono ?_
    rintro e w3 (⟨rfl, hb3⟩ | ⟨m, G, M, r, H, R, V, rfl, hb6, hb3, hf, hn, hv, ho⟩)
    · have HB3 := Lib.hid (HB2.out.trans (hb3.mono HB2.out.size))
      clear hb3 c0 c1 c2 c3 c4 c5 c6 c7 c8
      go_wp2_with fail
      refine (known06_any w3).mono ?_
      rintro e w4 ⟨rfl, hb4⟩
      have HB4 := Lib.hid (HB3.out.trans (hb4.mono HB3.out.size))
      clear hb4
      go_wp2_with fail
      go_ret
      exact ⟨rfl, HB4.out⟩
    · have HB3 := Lib.hid (HB2.out.trans (hb3.mono HB2.out.size))
      have HLN : Hid (l.length ≤ 9000) := Lib.hid (by
        have h1 := HW.out
        have h2 : ∀ l : List Op6, l.length ≤ owt6 l := fun l => by
          induction l with
          | nil => exact Nat.le_refl _
          | cons o l ih => simp only [owt6, List.length_cons]; omega
        have := h2 l
        unfold wt6 at h1
        omega)
      have HRD : Hid (Rd w.heap.size w m G M r H R (.slice none 0 0) (.slice none 0 0) [] w3) := Lib.hid (Rd.nil hb6 HB3.out HB3.out.size)
      have HKK : Hid (G.k = G.k) := Lib.hid rfl
      clear hb3 c0 c1 c2 c3 c4 c5 c6 c7 c8 hb6 hf hn hv ho HX HW G2
      generalize hgk : G.k = k at HKK ⊢
      have HGK := Lib.hid hgk
      clear HKK hgk
      go_wp2_with fail
      go_loopw [10, 11, 12] (fun vp vt vi' wr => ∃ (i : Nat) (p q : Value) (ps : List Pt) (G' : MgM) (M' : ChM) (H' : R6) (R' : RefM), p = vp ∧ q = vt ∧ vi' = vi i ∧ i ≤ l.length ∧ ps.length ≤ i ∧ Hid (G'.k = k ∧ Rd w.heap.size w m G' M' r H' R' p q ps wr)) (fun _ _ v _ => l.length - (intOf v).toNat)
      case atStart => exact ⟨0, _, _, [], G, M, H, R, rfl, rfl, rfl, Nat.zero_le _, Nat.le_refl _, Lib.hid ⟨HGK.out, HRD.out⟩⟩
      case round =>
        clear HRD HGK G M H R
        obtain ⟨i, vp, vt, ps, G, M, H, R, rfl, rfl, rfl, hi, hps, HRD⟩ := hrel
        by_cases hlt : i < l.length
        · obtain ⟨ob, oo, rfl, hob, hcell, hok⟩ := (HY.out.old HRD.out.2.below).lookup hlt
          have HOK := Lib.hid hok
          obtain ⟨o, hoe⟩ : ∃ o, l.getD i default = o := ⟨_, rfl⟩
          rw [hoe] at hcell hok HOK
          obtain ⟨kind, block, ba, b, bc⟩ := o
          have HOE := Lib.hid hoe
          clear hoe
          have d0 : wr.cell? ⟨ob, oo + i * 3, none⟩ = some (vi kind) := hcell 0 _ rfl
          have d1 : wr.cell? ⟨ob, oo + i * 3 + 1, none⟩ = some (vi block) := hcell 1 _ rfl
          have d2 : wr.cell? ⟨ob, oo + i * 3 + 2, none⟩ = some (.slice ba b.length bc) := hcell 2 _ rfl
          clear hcell hok
          go_upto_region 12 with fail
          have F1 := Blk.new wr 88 #[vi kind, vi block, .slice ba b.length bc]
          have RD1 := Lib.hid (HRD.out.2.old (alloc_box wr #[vi kind, vi block, .slice ba b.length bc] 88))
          have HRW := Lib.hid (HOK.out.row.old (alloc_box wr #[vi kind, vi block, .slice ba b.length bc] 88))
          have HOK1 := Lib.hid (HOK.out.chg (F := fun _ => False) (Chg.of_below (alloc_box wr #[vi kind, vi block, .slice ba b.length bc] 88)) (fun _ e => e.elim))
          have HRK : Hid (∀ w', Below w.heap.size w w' → SRow w.heap.size w' ba b) := Lib.hid (fun w' hb => ((HY.out.good _ (NP.getD_mem (d := default) hlt)).row.old hb) |> fun h => by rw [HOE.out] at h; exact h)
          have HNF := Lib.hid HRD.out.2.b6.lt
          have HGK := Lib.hid HRD.out.1
          have HBX := Lib.hid HRD.out.2.low
          have hl9 := HLN.out
          clear HRD d0 d1 d2 HOK
          dsimp only at HRW
          generalize wr.alloc (.cells #[vi kind, vi block, .slice ba b.length bc] 88) = wa at *
          generalize wr.heap.size = go at *
          have FF := Lib.hid F1
          clear F1
          have d0 : wa.cell? ⟨go, 0, none⟩ = some (vi kind) := FF.out.cell 0
          by_cases hk1 : kind = 1
          · subst hk1
            have d2 : wa.cell? ⟨go, 2, none⟩ = some (.slice ba b.length bc) := FF.out.cell 2
            go_wp2_with fail
            refine (mgr.Program_any RD1.out.b6.held RD1.out.b6.good.ok RD1.out.b6.gok ba b bc HRW.out).mono ?_
            rintro e wb ⟨Mb, rfl, hgb, hvb⟩
            have HVB := Lib.hid hvb
            have HG1 := Lib.hid (RD1.out.b6.left hgb (by rw [hvb]; exact (program_acts6 HRW.out.row.small).good RD1.out.b6.good) (by rw [hvb]; exact program_right HRW.out.row.small RD1.out.b6.good RD1.out.b6.gok))
            have FF1 := Lib.hid (FF.out.chg HG1.out.chg (fun e => by have := HNF.out _ e; omega))
            have HRW1 := Lib.hid (HRW.out.chg HG1.out.chg RD1.out.b6.mine)
            clear d0 d2 hgb hvb
            have d2 : wb.cell? ⟨go, 2, none⟩ = some (.slice ba b.length bc) := FF1.out.cell 2
            go_wp2_with fail
            refine (rProgram6_any HG1.out.at_.ref ba b bc HRW1.out).mono ?_
            rintro e wc ⟨x0, y0, z0, H2, R2, rfl, hgc⟩
            have HG2 := Lib.hid (HG1.out.right hgc)
            have FF2 := Lib.hid (FF.out.chg HG2.out.chg (fun e => by have := HNF.out _ e; omega))
            have HRW2 := Lib.hid (HRW.out.chg HG2.out.chg RD1.out.b6.mine)
            have RD2 := Lib.hid (RD1.out.goes HG2.out (fun x hx => by
              rw [HVB.out]
              exact (RD1.out.pts x hx).kept (program_acts6 HRW.out.row.small) RD1.out.b6.good (fun _ e => e)))
            have HTH : Hid ((Mg.program b M.view G.view).1.2.2 = 0 → (⟨(Mg.program b M.view G.view).1.1, (Mg.program b M.view G.view).1.2.1, ba, b, bc⟩ : Pt).ok (Mg.program b M.view G.view).2.1) := Lib.hid (fun h0 => by
              have ht := program_there6 HRW.out.row.small RD1.out.b6.good RD1.out.b6.gok h0
              obtain ⟨t1, t2, t3, t4, t5, t6⟩ := ht
              have hd := (program_acts6 (c := M.view) (g := G.view) HRW.out.row.small).dims
              refine .inr ⟨t1, by rw [hd.1]; exact t2, t3, by rw [hd.2.1]; exact t4, ?_, t6⟩
              intro e
              have e2 : b = [] := e
              have := (ok_dims RD1.out.b6.good.ok).2.2.2.2
              rw [e2] at t5
              unfold NP.Chp.full at t5
              simp at t5)
            have HKB : Hid ((G.lay (Mg.program b M.view G.view).2.2).k = k) := Lib.hid HGK.out
            clear d2 hgc HG1 HG2 FF FF1 HRW HRW1 RD1
            generalize Mg.program b M.view G.view = q at *
            obtain ⟨⟨x1, y1, z1⟩, V1, g1⟩ := q
            dsimp only at *
            rw [← HVB.out] at HTH
            by_cases hz : z1 = 0
            · subst hz
              have HPT := Lib.hid (HTH.out rfl)
              obtain ⟨v1, w1', RA1, q1, q2, q3, q4, q5, q6, q7, q8⟩ := RD2.out.addP x1 y1 (by omega)
              obtain ⟨a1, c1, ha1⟩ := own_form RD2.out.op
              obtain ⟨a3, c3, hv1⟩ := own_form q4
              have FF3 := Lib.hid (q8 _ _ _ (by decide) FF2.out)
              have HRW3 := Lib.hid (q7 _ _ HRW2.out)
              obtain ⟨v3, w3', RA3, RD3⟩ := Rd.addT (l := ps) q1 q2 q3 ⟨x1, y1, ba, b, bc⟩ q4 q5 q6 RD2.out.dt (fun z hz => q7 _ _ (RD2.out.rows z hz)) HRW3.out RD2.out.pts HPT.out (by omega)
              have HRD3 := Lib.hid RD3
              obtain ⟨a2, c2, ha2⟩ := own_form q5
              obtain ⟨a4, c4, hv3⟩ := own_form RD3.ot
              have hv3' : v3 = .slice a4 (ps.length + 1) c4 := by rw [hv3]; simp
              subst ha1 hv1 ha2 hv3'
              have d2 : w1'.cell? ⟨go, 2, none⟩ = some (.slice ba b.length bc) := FF3.out.cell 2
              clear q1 q2 q3 q4 q5 q6 q7 q8 RD3 hv3 RD2 HTH
              go_upto_region 17 with (at_builtin; refine wpList_append_run rfl (.tmp 70) (.tmp 74) rfl rfl rfl RA1.run ?_)
              go_wp2_with (at_builtin; refine wpList_append_run rfl (.tmp 76) (.tmp 79) rfl rfl rfl RA3.run ?_)
              go_roundw
              case rel => exact ⟨i + 1, _, _, ps ++ [⟨x1, y1, ba, b, bc⟩], G.lay g1, Mb, H2, R2, rfl, rfl, by go_num, by omega, by rw [List.length_append]; show ps.length + 1 ≤ i + 1; omega, Lib.hid ⟨HKB.out, HRD3.out⟩⟩
              case measure => simp [intOf]; omega
            · have hzq : (z1 == 0) = false := beq_eq_false_iff_ne.2 hz
              go_wp2_with fail
              go_roundw
              case rel => exact ⟨i + 1, _, _, ps, G.lay g1, Mb, H2, R2, rfl, rfl, by go_num, by omega, by omega, Lib.hid ⟨HKB.out, RD2.out⟩⟩
              case measure => simp [intOf]; omega
          · have hk1' : (kind == 1) = false := beq_eq_false_iff_ne.2 hk1
            by_cases hk3 : kind = 3
            · subst hk3
              obtain ⟨a1, c1, ha1⟩ := own_form RD1.out.op
              subst ha1
              have HGO := Lib.hid (fun n e => HNF.out n e)
              go_upto_region 20 with fail
              go_loopw [17] (fun v wr2 => ∃ (n : Nat) (ps' : List Pt), v = vi n ∧ n ≤ ps.length ∧ ps'.length = ps.length ∧ Hid (Rd w.heap.size w m G M r H R (.slice a1 ps.length c1) vt ps' wr2) ∧ Hid (Blk wr2 go 88 #[vi 3, vi block, .slice ba b.length bc]) ∧ Hid (∀ j, j < n → (ps'.getD j default).k = block → (ps'.getD j default).k < 0)) (fun v _ => ps.length - (intOf v).toNat)
              case atStart => exact ⟨0, ps, rfl, Nat.zero_le _, rfl, RD1, FF, Lib.hid (fun j hj => absurd hj (Nat.not_lt_zero j))⟩
              case round =>
                clear RD1 FF d0
                obtain ⟨n, ps', rfl, hn, hpl, RD1, FF, hmk⟩ := hrel
                have HPL := Lib.hid hpl
                by_cases hlt2 : n < ps.length
                · obtain ⟨g, cg, hvg, hgl, -, -⟩ := RD1.out.at_p (by omega)
                  injection hvg with h1 h2 h3
                  subst h1
                  obtain ⟨e0, e1, ez, -⟩ := RD1.out.cell_p (i := n) (by omega)
                  obtain ⟨kk0, hk0⟩ : ∃ q, (ps'.getD n default).k = q := ⟨_, rfl⟩
                  have HK0 := Lib.hid hk0
                  rw [hk0] at e0
                  have HD := Lib.hid hmk.out
                  have RM : Hid (∀ wz, Below wr.heap.size wr wz → Rd w.heap.size w m G M r H R (.slice (some ⟨g, 0, none⟩) ps.length c1) vt (ps'.set n { ps'.getD n default with k := -1 }) (wz.setCell ⟨g, n * 2, none⟩ (vi (-1))) ∧ Blk (wz.setCell ⟨g, n * 2, none⟩ (vi (-1))) go 88 #[vi 3, vi block, .slice ba b.length bc] ∧ wz.cell? ⟨g, n * 2, none⟩ = some (vi kk0) ∧ wz.frozen? ⟨g, n * 2, none⟩ = false) := Lib.hid (fun wz hz => by
                    have h1 := RD1.out.old hz
                    have h2 := FF.out.old hz
                    obtain ⟨e0, e1, ez, -⟩ := h1.cell_p (i := n) (by rw [HPL.out]; exact hlt2)
                    refine ⟨h1.mark (i := n) (by rw [HPL.out]; exact hlt2), h2.far (p := ⟨g, n * 2, none⟩) (fun e => ?_) _, by rw [e0, HK0.out], ez⟩
                    subst e
                    obtain ⟨_, cur, hb⟩ := own_row h1.op go rfl
                    unfold Blk at hb h2
                    rw [hb] at h2
                    injection h2 with h2
                    injection h2 with _ h2
                    exact absurd h2 (by decide))
                  have HE : Hid (ps'.getD n default = ps'.getD n default) := Lib.hid rfl
                  have d1 : wr.cell? ⟨go, 1, none⟩ = some (vi block) := FF.out.cell 1
                  have HSET : Hid (∀ j, j < n + 1 → ((ps'.set n { ps'.getD n default with k := -1 }).getD j default).k = block → ((ps'.set n { ps'.getD n default with k := -1 }).getD j default).k < 0) := Lib.hid (fun j hj => by
                    rw [NP.getD_set _ _ _ _ _ (by rw [HPL.out]; exact hlt2)]
                    split
                    · intro _; show (-1 : Int) < 0; decide
                    · exact hmk.out j (by omega))
                  have q0 : (0 : Int) ≤ (n : Int) := by omega
                  have q1 : (n : Int) < (ps.length : Int) := by omega
                  have HL2 : Hid ((ps'.set n { ps'.getD n default with k := -1 }).length = ps.length) := Lib.hid (by rw [List.length_set, HPL.out])
                  generalize ps'.set n { ps'.getD n default with k := -1 } = ps2 at *
                  clear hk0 e1 HE h2 h3 hmk hpl ez
                  by_cases hkb : kk0 = block
                  · have hkb' : (kk0 == block) = true := beq_iff_eq.2 hkb
                    clear hkb
                    go_upto_region 22 with fail
                    go_quiet (fail)
                    obtain ⟨r1, r2, r3, r4⟩ := RM.out (wr.drewN nq) (below_drewN (Below.refl _ _) nq)
                    have R1 := Lib.hid r1
                    have R2 := Lib.hid r2
                    clear r1 r2 e0 d1
                    generalize wr.drewN nq = wq at *
                    go_wp2_with fail
                    go_roundw
                    case rel => exact ⟨n + 1, ps2, by go_num, by omega, HL2.out, R1, R2, HSET⟩
                    case measure => simp [intOf]; omega
                  · have hkb' : (kk0 == block) = false := beq_eq_false_iff_ne.2 hkb
                    have HSK : Hid (∀ j, j < n + 1 → (ps'.getD j default).k = block → (ps'.getD j default).k < 0) := Lib.hid (fun j hj e => by
                      by_cases hjn : j = n
                      · subst hjn
                        rw [HK0.out] at e
                        exact absurd e hkb
                      · exact HD.out j (by omega) e)
                    clear hkb
                    go_upto_region 22 with fail
                    go_quiet (fail)
                    have R1 := Lib.hid (RD1.out.old (below_drewN (Below.refl _ _) nq))
                    have R2 := Lib.hid (FF.out.old (below_drewN (Below.refl _ _) nq))
                    clear e0 d1
                    generalize wr.drewN nq = wq at *
                    go_wp2_with fail
                    go_roundw
                    case rel => exact ⟨n + 1, ps', by go_num, by omega, HPL.out, R1, R2, HSK⟩
                    case measure => simp [intOf]; omega
                · obtain rfl : n = ps.length := by omega
                  have q1 : ¬ (ps.length : Int) < (ps.length : Int) := by omega
                  have d0 : wr.cell? ⟨go, 0, none⟩ = some (vi 3) := FF.out.cell 0
                  have d1 : wr.cell? ⟨go, 1, none⟩ = some (vi block) := FF.out.cell 1
                  have d2 : wr.cell? ⟨go, 2, none⟩ = some (.slice ba b.length bc) := FF.out.cell 2
                  have HO3 : Hid ((⟨3, block, ba, b, bc⟩ : Op6).ok w.heap.size wr) := Lib.hid ⟨HRK.out wr RD1.out.below, HOK1.out.len, HOK1.out.cap, HOK1.out.most⟩
                  have HPY := Lib.hid (plays6_any RD1.out.b6 ⟨3, block, ba, b, bc⟩ HO3.out)
                  rw [HGK.out] at HPY
                  have HMK := Lib.hid hmk.out
                  clear hmk hpl
                  go_wp2_with fail
                  refine HPY.out.mono ?_
                  rintro e wb ⟨bb, G2, M2, H2, R2, rfl, hg2, hv2⟩
                  have HKB : Hid (G2.k = k) := Lib.hid (hg2.k.trans HGK.out)
                  have RD2 := Lib.hid (RD1.out.goes hg2 (fun x hx => by
                    have e := congrArg Prod.fst hv2
                    dsimp only at e
                    rw [e]
                    refine (RD1.out.pts x hx).kept (act6_acts _ HRW.out.row.small _ _) RD1.out.b6.good (fun h0 e => ?_)
                    obtain ⟨j, hj, rfl⟩ := List.getElem_of_mem hx
                    have := HMK.out j (by rw [← HPL.out]; exact hj)
                    rw [List.getD_eq_getElem?_getD, List.getElem?_eq_getElem hj] at this
                    have h1 := this e.2
                    have h2 : 0 ≤ ps'[j].k := h0
                    have h3 : ps'[j].k < 0 := h1
                    omega))
                  clear hg2 hv2 d0 d1 d2
                  go_wp2_with fail
                  go_roundw
                  case rel => exact ⟨i + 1, _, _, ps', G2, M2, H2, R2, rfl, rfl, by go_num, by omega, by rw [HPL.out]; omega, Lib.hid ⟨HKB.out, RD2.out⟩⟩
                  case measure => simp [intOf]; omega
            · have hk3' : (kind == 3) = false := beq_eq_false_iff_ne.2 hk3
              have d1 : wa.cell? ⟨go, 1, none⟩ = some (vi block) := FF.out.cell 1
              have d2 : wa.cell? ⟨go, 2, none⟩ = some (.slice ba b.length bc) := FF.out.cell 2
              have HPL := Lib.hid (plays6_any RD1.out.b6 ⟨kind, block, ba, b, bc⟩ HOK1.out)
              rw [HGK.out] at HPL
              go_wp2_with fail
              refine HPL.out.mono ?_
              rintro e wb ⟨bb, G2, M2, H2, R2, rfl, hg2, hv2⟩
              have HKB : Hid (G2.k = k) := Lib.hid (hg2.k.trans HGK.out)
              have RD2 := Lib.hid (RD1.out.goes hg2 (fun x hx => by
                have e := congrArg Prod.fst hv2
                dsimp only at e
                rw [e]
                exact (RD1.out.pts x hx).kept (act6_acts _ HRW.out.row.small _ _) RD1.out.b6.good (fun _ e => hk3 e.1)))
              clear hg2 hv2 d0 d1 d2
              go_wp2_with fail
              go_roundw
              case rel => exact ⟨i + 1, _, _, ps, G2, M2, H2, R2, rfl, rfl, by go_num, by omega, by omega, Lib.hid ⟨HKB.out, RD2.out⟩⟩
              case measure => simp [intOf]; omega
        · obtain rfl : i = l.length := by omega
          have hl9 := HLN.out
          have HGK := Lib.hid HRD.out.1
          have HR0 := Lib.hid HRD.out.2
          have q1 : ¬ (l.length : Int) < (l.length : Int) := by omega
          obtain ⟨a1, c1, ha1⟩ := own_form HR0.out.op
          obtain ⟨a2, c2, ha2⟩ := own_form HR0.out.ot
          have hs := Start_any HR0.out.b6.held.chip
          rw [HGK.out] at hs
          have HST := Lib.hid hs
          subst ha1 ha2
          clear HRD hs
          go_wp2_with fail
          refine HST.out.mono ?_
          rintro e wb ⟨rfl, hga⟩
          have HG1 := Lib.hid (HR0.out.b6.left (HR0.out.b6.held.chipGoes (M' := { M with down := false }) (by rw [HGK.out]; exact hga)) (HR0.out.b6.good.act .start trivial) (HR0.out.b6.gok.acts (ActsN.one (E := fun _ => False) .start trivial (fun k e => by cases e))))
          have RD1 := Lib.hid (HR0.out.goes HG1.out (fun x hx => (HR0.out.pts x hx).kept (ActsN.one (E := fun _ => False) .start trivial (fun k e => by cases e)) HR0.out.b6.good (fun _ e => e)))
          have HK1 : Hid ((G.lay G.view).k = k) := Lib.hid HGK.out
          have HD1 : Hid ((ChM.view { M with down := false }).down = false) := Lib.hid rfl
          clear hga HG1 HST HGK HR0
          generalize G.lay G.view = G1 at *
          generalize ({ M with down := false } : ChM) = M1 at *
          have hpl : ps.length ≤ 9000 := by omega
          clear q1
          go_upto_region 27 with fail
          go_loopw [18] (fun v wr2 => ∃ (n : Nat) (G' : MgM) (M' : ChM) (H' : R6) (R' : RefM), v = vi n ∧ n ≤ ps.length ∧ Hid (G'.k = k ∧ M'.view.down = false ∧ Rd w.heap.size w m G' M' r H' R' (.slice a1 ps.length c1) (.slice a2 ps.length c2) ps wr2)) (fun v _ => ps.length - (intOf v).toNat)
          case atStart => exact ⟨0, G1, M1, H, R, rfl, Nat.zero_le _, Lib.hid ⟨HK1.out, HD1.out, RD1.out⟩⟩
          case round =>
            clear RD1 HK1 HD1 G M G1 M1 H R
            obtain ⟨n, G, M, H, R, rfl, hn, HRR⟩ := hrel
            have HK := Lib.hid HRR.out.1
            have HD := Lib.hid HRR.out.2.1
            have RD := Lib.hid HRR.out.2.2
            clear HRR
            by_cases hlt2 : n < ps.length
            · obtain ⟨g, cg, hvg, -, -, -⟩ := RD.out.at_p (by omega)
              injection hvg with h1 h2 h3
              subst h1
              obtain ⟨g2, cg2, hvt, -⟩ := RD.out.at_t (by omega)
              injection hvt with h4 h5 h6
              subst h4
              obtain ⟨e0, e1, -, -⟩ := RD.out.cell_p hlt2
              have HXO := Lib.hid (RD.out.pts _ (NP.getD_mem (d := default) hlt2))
              have HXR := Lib.hid (RD.out.rows _ (NP.getD_mem (d := default) hlt2))
              have HCT : Hid (∀ (wz : World) (G' : MgM) (M' : ChM) (H' : R6) (R' : RefM), Rd w.heap.size w m G' M' r H' R' (.slice (some ⟨g, 0, none⟩) ps.length c1) (.slice (some ⟨g2, 0, none⟩) ps.length c2) ps wz → wz.cell? ⟨g2, n, none⟩ = some (ps.getD n default).v ∧ SRow w.heap.size wz (ps.getD n default).a (ps.getD n default).b) := Lib.hid (fun wz G' M' H' R' h => ⟨h.cell_t hlt2, h.rows _ (NP.getD_mem (d := default) hlt2)⟩)
              have q0 : (0 : Int) ≤ (n : Int) := by omega
              have q1 : (n : Int) < (ps.length : Int) := by omega
              obtain ⟨x, hxe⟩ : ∃ x, ps.getD n default = x := ⟨_, rfl⟩
              rw [hxe] at e0 e1 HXO HXR HCT
              obtain ⟨xk, xp, xa, xb, xc⟩ := x
              have HXE := Lib.hid hxe
              clear hxe
              dsimp only at e0 e1 HXO HXR HCT
              clear h2 h3 h5 h6
              by_cases hk0 : xk < 0
              · go_wp2_with fail
                go_roundw
                case rel => exact ⟨n + 1, G, M, H, R, by go_num, by omega, Lib.hid ⟨HK.out, HD.out, RD.out⟩⟩
                case measure => simp [intOf]; omega
              · have hrd := mgr.read_there HD.out HXO.out hk0
                dsimp only at hrd
                have RDd := Lib.hid (RD.out.old (Below.refl _ _).drew)
                have hre := Read_any RDd.out.b6.held.chip RDd.out.b6.good.ok xk xp
                rw [hrd, HK.out] at hre
                have HRE := Lib.hid hre
                have HRA : Hid (NP.act M.view (.read xk xp) = { M.view with reads := NP.w64 (M.view.reads + 1) }) := Lib.hid (by show (NP.readP M.view xk xp).2 = _; rw [hrd])
                have HSTEP : Hid (∀ wb M4, Goes w.heap.size wr.drew k M wb M4 → M4.view = { M.view with reads := NP.w64 (M.view.reads + 1) } → Rd w.heap.size w m (G.lay G.view) M4 r H R (.slice (some ⟨g, 0, none⟩) ps.length c1) (.slice (some ⟨g2, 0, none⟩) ps.length c2) ps wb ∧ M4.view.down = false ∧ (G.lay G.view).k = k ∧ (wb.cell? ⟨g, n * 2, none⟩ = some (vi xk) ∧ wb.cell? ⟨g, n * 2 + 1, none⟩ = some (vi xp)) ∧ wb.cell? ⟨g2, n, none⟩ = some (.slice xa xb.length xc) ∧ SRow w.heap.size wb xa xb) := Lib.hid (fun wb M4 hg4 hv4 => by
                  have hv : M4.view = NP.act M.view (.read xk xp) := by rw [HRA.out]; exact hv4
                  have hg1 := RDd.out.b6.left (RDd.out.b6.held.chipGoes (M' := M4) (by rw [HK.out]; exact hg4)) (by rw [hv]; exact RDd.out.b6.good.act (.read xk xp) trivial) (by rw [hv]; exact RDd.out.b6.gok.acts (ActsN.one (E := fun _ => False) (.read xk xp) trivial (fun k e => by cases e)))
                  have rd4 := RDd.out.goes hg1 (fun x hx => by
                    rw [hv]
                    exact (RDd.out.pts x hx).kept (ActsN.one (E := fun _ => False) (.read xk xp) trivial (fun k e => by cases e)) RDd.out.b6.good (fun _ e => e))
                  obtain ⟨ct, hxr⟩ := HCT.out _ _ _ _ _ rd4
                  obtain ⟨e2, e3, -, -⟩ := rd4.cell_p hlt2
                  rw [HXE.out] at e2 e3
                  exact ⟨rd4, by rw [hv, HRA.out]; exact HD.out, HK.out, ⟨e2, e3⟩, ct, hxr⟩)
                have HC0 : Hid (wr.drew.cell? ⟨g, n * 2, none⟩ = some (vi xk) ∧ wr.drew.cell? ⟨g, n * 2 + 1, none⟩ = some (vi xp)) := Lib.hid ⟨e0, e1⟩
                clear hre hrd HRA e1
                go_upto_region 30 with fail
                clear e0
                go_region_held3 (fun w' => w'.cell? ⟨g, n * 2, none⟩ = some (vi xk) ∧ w'.cell? ⟨g, n * 2 + 1, none⟩ = some (vi xp))
                  (first | exact HC4.out | exact HC0.out)
                  (first
                    | (go_at_call 14; refine HRE.out.mono ?_; rintro e wb ⟨v4, M4, rfl, ho4, hg4, hv4⟩; obtain ⟨a4, c4, rfl, hs4, -⟩ := ho4.srow (base := w.heap.size) HXR.out.row.small; have HS4 := Lib.hid hs4; have HQ4 := Lib.hid (HSTEP.out wb M4 hg4 hv4); have HC4 := Lib.hid HQ4.out.2.2.2.1; clear ho4 hg4 hv4 hs4))
                have RD4 := Lib.hid HQ4.out.1
                have HD4 := Lib.hid HQ4.out.2.1
                have HK4 : Hid ((G.lay G.view).k = k) := Lib.hid HQ4.out.2.2.1
                have ct := HQ4.out.2.2.2.2.1
                have HXR4 := Lib.hid HQ4.out.2.2.2.2.2
                clear HQ4 HC4 HC0 HSTEP HRE
                generalize G.lay G.view = G4 at *
                go_wp2_with fail
                refine (SameBytes_any c4 xc HS4.out.row HXR4.out.row).mono ?_
                rintro e wc ⟨rfl, rfl⟩
                rw [show decide (xb = xb) = true from decide_eq_true rfl]
                go_wp2_with fail
                go_roundw
                case rel => exact ⟨n + 1, G4, M4, H, R, by go_num, by omega, Lib.hid ⟨HK4.out, HD4.out, RD4.out⟩⟩
                case measure => simp [intOf]; omega
            · obtain rfl : n = ps.length := by omega
              have q1 : ¬ (ps.length : Int) < (ps.length : Int) := by omega
              have HB9 := Lib.hid RD.out.below
              clear RD
              go_wp2_with fail
              refine (known06_any wr).mono ?_
              rintro e w9 ⟨rfl, hb9⟩
              have HB10 := Lib.hid (HB9.out.trans (hb9.mono HB9.out.size))
              clear hb9
              go_wp2_with fail
              go_ret
              exact ⟨rfl, HB10.out⟩
  · clear hb2 ht c0 c1 c2 c3 c4 c5 c6 c7 c8
    go_wp2_with fail
    refine (known06_any w2).mono ?_
    rintro e w4 ⟨rfl, hb4⟩
    have HB4 := Lib.hid (HB2.out.trans (hb4.mono HB2.out.size))
    clear hb4
    go_wp2_with fail
    go_ret
    exact ⟨rfl, HB4.out⟩

set_option maxRecDepth 100000 in
theorem lifted (os : Os) (started : os.Started) (H : Type) (enc : TypeId × Value → H) :
    ReturnsInHanded {} Try.checked os 8 .any (Rows.blkReadsSpec.pre6 enc Try.prog Try.f8 Rows.blkReadsRow.domain false) (Rows.blkReadsSpec.post enc Try.prog Try.f8 false true false false) := by
  refine returnsInHanded_of_change_sized (C := Try.checked) own started (by kernel_rfl) Try.func8
    (ChangeSpec.witness6 (enc := enc) (C := Try.checked) false ⟨#[], #[.agg #[vi 0, vi 0, vi 0, .slice none 0 0, .slice none 0 0, .slice none 0 0, .slice none 0 0, vi 0, vi 0], .slice none 0 0], []⟩ 8 (by kernel_rfl) (by kernel_rfl) (by kernel_rfl) (by kernel_rfl)) ?_
  intro W base args ds gs before hval0 hW hcnd hwt _
  have hval : ∀ (j : Nat) t v, Try.f8.params[j]? = some t → args[j]? = some v → Value.okWide Try.prog W .any base t v := hval0
  have hW' := hW
  obtain ⟨p, q, hA0, hV, rfl, hfz, hnd⟩ := hW
  have hA : DataW.TrodAll enc Try.prog W 0 (fun _ => true) true Try.f8.params.toList args.toList ds p := hA0
  rw [Try.params8] at hA hval hwt
  obtain ⟨v0, vs0, d0, ds0, p0, q0, hargs, rfl, rfl, h0, r0⟩ := trodAll_cons hA
  obtain ⟨v1, vs1, d1, ds1, p1, q1, rfl, rfl, rfl, h1, r1⟩ := trodAll_cons r0
  obtain ⟨rfl, rfl, rfl⟩ := trodAll_nil r1
  obtain rfl : args = #[v0, v1] := by cases args; simp_all
  obtain ⟨rfl, rfl⟩ := trodVars_none hV
  obtain ⟨x0, rfl, hx0⟩ := arg_set6 h0 (hval 0 80 v0 rfl rfl) (weights_at hwt (j := 0) rfl rfl)
  obtain ⟨x1, rfl, hr1⟩ := arg_ops6 h1 (hval 1 81 v1 rfl rfl) (weights_at hwt (j := 1) rfl rfl)
  refine (walk x0 x1 W hx0 hr1).mono fun e W' ⟨he, bel⟩ => ?_
  subst he
  exact ⟨_, rfl, law_close laidOut (by kernel_rfl) hW' rfl bel rfl Try.underlying4 rfl⟩

set_option maxRecDepth 100000 in
set_option maxHeartbeats 20000000 in
theorem facts : joinedFacts Try.pinned.checked.prog 8 Try.f8 Rows.blkReadsSpec Rows.blkReadsRow = true := by
  unfold joinedFacts
  simp only [Bool.and_eq_true]
  and_intros
  all_goals as_aux_lemma => kernel_rfl

theorem over : Rows.blkReadsRow.holds Try.pinned (OpenSpec.ofChange Rows.blkReadsSpec) :=
  OpenClaim.holds_of_wide 8 Try.f8 rfl rfl rfl rfl rfl rfl rfl ⟨rfl, rfl, rfl, rfl, rfl⟩ rfl rfl rfl rfl rfl (by kernel_rfl) Try.func8 facts
    (of_decide_eq_true (by kernel_rfl)) (by unfold Func.isWrapper; first | (rw [if_pos (by decide +kernel)]; kernel_rfl) | (rw [if_neg (by decide +kernel)]; exact ⟨rfl, rfl⟩))
    (fun os started H enc _ => lifted os started H enc)

theorem proved : Rows.BlkReadsSaid := over
#print axioms proved

end Go.Proofs.Ytpggkehfbhffbaa.blkReads

