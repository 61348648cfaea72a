/-
  BlkCounts: there is at most one open block, what is needed is counted, and what is told is right. No conditions.
-/
import Derived.Test.YtpggkehfbhffbaaZC24
import Derived.Test.YtpggkehfbhffbaaZC25
import Derived.Test.YtpggkehfbhffbaaZC26
namespace Go.Proofs.Ytpggkehfbhffbaa.blkCounts
open Go.ChangeShapes Go.WideShapes Go.ChangeAt Go.RowKit Go.Deep
open Go.Proofs.Ytpggkehfbhffbaa.mgr
attribute [local go_sem] Oper.semAt_some

/-- What the play keeps. -/
structure Ct (gx : Nat) (x : Set6) (w0 : World) (m : Nat) (G : MgM) (M : ChM) (r : Nat) (H : R6) (R : RefM) (i : Nat) (wr : World) : Prop where
  b6 : B6 w0.heap.size wr m G M r H R
  below : Below w0.heap.size w0 wr
  low : w0.heap.size ≤ wr.heap.size
  up : ∀ n, mgr.foot2 m G M r H R n → gx < n
  box : Blk wr gx 80 x.cs
  wc : WearC M.view i
  wl : WearL G.l i
  P : (M.P : Int) = x.p
section
variable {gx : Nat} {x : Set6} {w0 wr w' : World} {m r i : Nat} {G G' : MgM} {M M' : ChM} {H H' : R6} {R R' : RefM}
theorem Ct.old (h : Ct gx x w0 m G M r H R i wr) (b : Below wr.heap.size wr w') : Ct gx x w0 m G M r H R i w' :=
  ⟨h.b6.old b, h.below.trans (b.mono h.low), Nat.le_trans h.low b.size, h.up, h.box.old b, h.wc, h.wl, h.P⟩
theorem Ct.goes {i' : Nat} (h : Ct gx x w0 m G M r H R i wr) (q : B6Goes w0.heap.size wr m G M r H R w' G' M' H' R') (hc : WearC M'.view i') (hl : WearL G'.l i') (hP : M'.view.P = M.view.P) : Ct gx x w0 m G' M' r H' R' i' w' :=
  ⟨q.at_, h.below.trans (q.chg.to_below (fun n _ e => h.b6.low n e) h.low), Nat.le_trans h.low q.chg.size, fun n e => by
    rcases q.foot n e with e | e
    · exact h.up n e
    · have := h.box.lt; omega, h.box.chg q.chg (fun e => by have := h.up _ e; omega), hc, hl, by
    have h1 : M'.P = M.P := hP
    rw [h1]; exact h.P⟩
end
/-- An operation that neither programs nor drops counts nothing, and erases once at most. -/
theorem act6_counts {c : NP.Chp} {g : Mg} {i : Nat} (o : Op6) (h1 : o.kind ≠ 1) (h2 : o.kind ≠ 2) (hb : ∀ y ∈ o.b, y < 256) (hg : g.ok c) (hc : WearC c i) (hl : WearL g.l i) (hi : (i : Int) ≤ 9000) :
    WearC (act6 o c g).1 ((i + 1 : Nat) : Int) ∧ WearL (act6 o c g).2.l ((i + 1 : Nat) : Int) ∧ sumL (act6 o c g).2.l = sumL g.l ∧ (act6 o c g).1.P = c.P := by
  have hP := (act6_acts o hb c g).dims.2.1
  refine ⟨?_, ?_, ?_, hP⟩
  all_goals
    unfold act6
    rw [if_neg h1, if_neg h2]
  · split
    · exact (erase_wear hl hc (by omega) (by omega) _).2
    · split
      · exact (wear_acts (retire_acts _) hc).more (by omega)
      · split
        · exact hc.more (by omega)
        · split <;> exact hc.more (by omega)
  · split
    · exact (erase_wear hl hc (by omega) (by omega) _).1
    · split
      · exact (retire_wear hl hc (by omega) _).more (by omega)
      · split
        · exact hl.more (by omega)
        · split <;> exact hl.more (by omega)
  · split
    · exact erase_sum hg _
    · split
      · exact retire_sum hg _
      · split
        · rfl
        · split <;> rfl

set_option maxRecDepth 100000 in
set_option maxHeartbeats 8000000 in
theorem walk (x : Set6) (y : RowE Op6) (w : World) (hx : x.ok w.heap.size w) (hy : Ops6 w.heap.size w y.a y.l) : Calls Try.prog 9 #[.agg x.cs, y.v] w fun e w' => e = .returned (.bool true) ∧ Below w.heap.size w w' := by
  obtain ⟨ya, l, yc⟩ := y
  have HX := Lib.hid hx
  have HY := Lib.hid hy
  dsimp only at HY
  change Calls Try.prog 9 #[.agg x.cs, .slice ya l.length yc] w _
  have F0 := Blk.new w 80 x.cs
  have HB := Lib.hid (alloc_box w x.cs 80)
  clear hx hy
  go_enter Try.func9, Try.ntmps9
  go_upto_region 1 with fail
  have HLW : Hid (w.heap.size < (w.alloc (.cells x.cs 80)).heap.size) := Lib.hid (by rw [size_alloc]; omega)
  generalize w.alloc (.cells x.cs 80) = w1 at *
  have G0 := Lib.hid F0
  have HXV : Hid (x.cs = #[vi x.b, vi x.p, vi x.s, .slice x.xa x.x.length x.xc, .slice x.fa x.f.length x.fc, .slice x.na x.n.length x.nc, .slice x.la x.l.length x.lc, vi x.reserve, vi x.first]) := Lib.hid rfl
  have c0 : w1.cell? ⟨w.heap.size, 0, none⟩ = some (vi x.b) := G0.out.cell 0
  have c1 : w1.cell? ⟨w.heap.size, 1, none⟩ = some (vi x.p) := G0.out.cell 1
  have c2 : w1.cell? ⟨w.heap.size, 2, none⟩ = some (vi x.s) := G0.out.cell 2
  have c3 : w1.cell? ⟨w.heap.size, 3, none⟩ = some (.slice x.xa x.x.length x.xc) := G0.out.cell 3
  have c4 : w1.cell? ⟨w.heap.size, 4, none⟩ = some (.slice x.fa x.f.length x.fc) := G0.out.cell 4
  have c5 : w1.cell? ⟨w.heap.size, 5, none⟩ = some (.slice x.na x.n.length x.nc) := G0.out.cell 5
  have c6 : w1.cell? ⟨w.heap.size, 6, none⟩ = some (.slice x.la x.l.length x.lc) := G0.out.cell 6
  have c7 : w1.cell? ⟨w.heap.size, 7, none⟩ = some (vi x.reserve) := G0.out.cell 7
  have c8 : w1.cell? ⟨w.heap.size, 8, none⟩ = some (vi x.first) := G0.out.cell 8
  go_wp2_with fail
  refine (long6_any yc (HX.out.old HB.out) (HY.out.old HB.out)).mono ?_
  rintro e w2 ⟨t, rfl, hb2, ht⟩
  have HB2 := Lib.hid (HB.out.trans (hb2.mono HB.out.size))
  cases t
  · have HW := Lib.hid (ht rfl)
    have G2 := Lib.hid (G0.out.old hb2)
    have HS2 : Hid (w1.heap.size ≤ w2.heap.size) := Lib.hid hb2.size
    clear hb2 ht c0 c1 c2 c3 c4 c5 c6 c7 c8 G0 F0
    have c0 : w2.cell? ⟨w.heap.size, 0, none⟩ = some (vi x.b) := G2.out.cell 0
    have c1 : w2.cell? ⟨w.heap.size, 1, none⟩ = some (vi x.p) := G2.out.cell 1
    have c2 : w2.cell? ⟨w.heap.size, 2, none⟩ = some (vi x.s) := G2.out.cell 2
    have c3 : w2.cell? ⟨w.heap.size, 3, none⟩ = some (.slice x.xa x.x.length x.xc) := G2.out.cell 3
    have c4 : w2.cell? ⟨w.heap.size, 4, none⟩ = some (.slice x.fa x.f.length x.fc) := G2.out.cell 4
    have c5 : w2.cell? ⟨w.heap.size, 5, none⟩ = some (.slice x.na x.n.length x.nc) := G2.out.cell 5
    have c6 : w2.cell? ⟨w.heap.size, 6, none⟩ = some (.slice x.la x.l.length x.lc) := G2.out.cell 6
    have c7 : w2.cell? ⟨w.heap.size, 7, none⟩ = some (vi x.reserve) := G2.out.cell 7
    have c8 : w2.cell? ⟨w.heap.size, 8, none⟩ = some (vi x.first) := G2.out.cell 8
    go_wp2_with fail
    refine (both_any x (HX.out.old HB2.out) HB2.out.size (by have := HW.out; unfold wt6 at this; omega)).mono ?_
    rintro e w3 (⟨rfl, hb3⟩ | ⟨m, G, M, r, H, R, V, rfl, hb6, hb3, hf, hn, hv, ho⟩)
    · have HB3 := Lib.hid (HB2.out.trans (hb3.mono HB2.out.size))
      clear hb3 c0 c1 c2 c3 c4 c5 c6 c7 c8
      go_wp2_with fail
      refine (known06_any w3).mono ?_
      rintro e w4 ⟨rfl, hb4⟩
      have HB4 := Lib.hid (HB3.out.trans (hb4.mono HB3.out.size))
      clear hb4
      go_wp2_with fail
      go_ret
      exact ⟨rfl, HB4.out⟩
    · have HB3 := Lib.hid (HB2.out.trans (hb3.mono HB2.out.size))
      have HLN : Hid (l.length ≤ 9000) := Lib.hid (by
        have h1 := HW.out
        have h2 : ∀ l : List Op6, l.length ≤ owt6 l := fun l => by
          induction l with
          | nil => exact Nat.le_refl _
          | cons o l ih => simp only [owt6, List.length_cons]; omega
        have := h2 l
        unfold wt6 at h1
        omega)
      have HCT : Hid (Ct w.heap.size x w m G M r H R 0 w3) := Lib.hid (by
        obtain ⟨n1, n2, n3, n4, n5, n6⟩ := NP.new_ok hn
        have hPP : M.view.P = V.P := by rw [hv]; exact (act_dims6 V (.script (x.f.map FltM.view))).2.1
        have hbs : M.view.bs = V.bs := by
          rw [hv]
          unfold NP.script
          split <;> rfl
        have hwv : WearC V 0 := new_wear hn
        have hwm : WearC M.view 0 := fun k => by
          have h1 : M.view.blk k = V.blk k := by unfold NP.Chp.blk; rw [hbs]
          rw [h1]; exact hwv k
        refine ⟨hb6, HB3.out, HB3.out.size, fun n e => by have := hf n e; have := HLW.out; have := HS2.out; omega, G2.out.old hb3, hwm, ?_, ?_⟩
        · exact openG_wear hwm ho
        · have h1 : M.P = V.P := hPP
          rw [h1]; exact n5)
      have HKK : Hid (G.k = G.k) := Lib.hid rfl
      have GL : Hid (G.l.length ≤ 128) := Lib.hid (by have h1 := HCT.out.b6.gok.len; have h2 := (ok_dims HCT.out.b6.good.ok).2.1; have h3 : G.l.length = M.view.B := h1; omega)
      clear hb3 c0 c1 c2 c3 c4 c5 c6 c7 c8 hb6 hf hn hv ho HX HW G2
      generalize hgk : G.k = k at HKK ⊢
      have HGK := Lib.hid hgk
      clear HKK hgk
      go_wp2_with fail
      refine (mgr.all_any HCT.out.b6.held.mgr GL.out HCT.out.low).mono ?_
      rintro e w4 ⟨v0, rfl, ho0, hb0⟩
      have CT0 := Lib.hid (HCT.out.old hb0)
      have HR0 := Lib.hid (ho0.read (by have := GL.out; omega))
      have HLV0 : Hid (gcs.liveL G.l = sumL G.l) := Lib.hid (live_sum HCT.out.b6.gok HCT.out.b6.good.ok).1
      clear ho0 hb0 HCT
      go_wp2_with fail
      refine (gcs.RLive_any v0 G.l w4 HR0.out).mono ?_
      rw [HLV0.out]
      rintro e w5 ⟨rfl, hb0⟩
      have CTS := Lib.hid (CT0.out.old hb0)
      clear hb0 CT0 HR0 HLV0
      go_wp2_with fail
      go_loopw [10, 11] (fun vn vi' wr => ∃ (i : Nat) (G' : MgM) (M' : ChM) (H' : R6) (R' : RefM), vn = vi (sumL G'.l) ∧ vi' = vi i ∧ i ≤ l.length ∧ Hid (G'.k = k ∧ Ct w.heap.size x w m G' M' r H' R' i wr)) (fun _ v _ => l.length - (intOf v).toNat)
      case atStart => exact ⟨0, G, M, H, R, rfl, rfl, Nat.zero_le _, Lib.hid ⟨HGK.out, CTS.out⟩⟩
      case round =>
        clear CTS HGK GL
        obtain ⟨i, G, M, H, R, rfl, rfl, hi, HCC⟩ := hrel
        by_cases hlt : i < l.length
        · obtain ⟨ob, oo, rfl, hob, hcell, hok⟩ := (HY.out.old HCC.out.2.below).lookup hlt
          have HOK := Lib.hid hok
          obtain ⟨o, hoe⟩ : ∃ o, l.getD i default = o := ⟨_, rfl⟩
          rw [hoe] at hcell hok HOK
          obtain ⟨kind, block, ba, b, bc⟩ := o
          clear hoe
          have d0 : wr.cell? ⟨ob, oo + i * 3, none⟩ = some (vi kind) := hcell 0 _ rfl
          have d1 : wr.cell? ⟨ob, oo + i * 3 + 1, none⟩ = some (vi block) := hcell 1 _ rfl
          have d2 : wr.cell? ⟨ob, oo + i * 3 + 2, none⟩ = some (.slice ba b.length bc) := hcell 2 _ rfl
          clear hcell hok
          go_upto_region 11 with fail
          have F1 := Blk.new wr 88 #[vi kind, vi block, .slice ba b.length bc]
          have RD1 := Lib.hid (HCC.out.2.old (alloc_box wr #[vi kind, vi block, .slice ba b.length bc] 88))
          have HRW := Lib.hid (HOK.out.row.old (alloc_box wr #[vi kind, vi block, .slice ba b.length bc] 88))
          have HOK1 := Lib.hid (HOK.out.chg (F := fun _ => False) (Chg.of_below (alloc_box wr #[vi kind, vi block, .slice ba b.length bc] 88)) (fun _ e => e.elim))
          have HNF := Lib.hid HCC.out.2.b6.lt
          have HGK := Lib.hid HCC.out.1
          have hl9 := HLN.out
          clear HCC d0 d1 d2 HOK
          dsimp only at HRW
          generalize wr.alloc (.cells #[vi kind, vi block, .slice ba b.length bc] 88) = wa at *
          generalize wr.heap.size = go at *
          have FF := Lib.hid F1
          clear F1
          have d0 : wa.cell? ⟨go, 0, none⟩ = some (vi kind) := FF.out.cell 0
          by_cases hk1 : kind = 1
          · subst hk1
            have d2 : wa.cell? ⟨go, 2, none⟩ = some (.slice ba b.length bc) := FF.out.cell 2
            go_wp2_with fail
            refine (mgr.Program_any RD1.out.b6.held RD1.out.b6.good.ok RD1.out.b6.gok ba b bc HRW.out).mono ?_
            rintro e wb ⟨M2, rfl, hgb, hvb⟩
            have HVB := Lib.hid hvb
            have HG1 := Lib.hid (RD1.out.b6.left hgb (by rw [hvb]; exact (program_acts6 HRW.out.row.small).good RD1.out.b6.good) (by rw [hvb]; exact program_right HRW.out.row.small RD1.out.b6.good RD1.out.b6.gok))
            have FF1 := Lib.hid (FF.out.chg HG1.out.chg (fun e => by have := HNF.out _ e; omega))
            have HRW1 := Lib.hid (HRW.out.chg HG1.out.chg RD1.out.b6.mine)
            clear d0 d2 hgb hvb
            have d2 : wb.cell? ⟨go, 2, none⟩ = some (.slice ba b.length bc) := FF1.out.cell 2
            go_wp2_with fail
            refine (rProgram6_any HG1.out.at_.ref ba b bc HRW1.out).mono ?_
            rintro e wc ⟨x0, y0, z0, H2, R2, rfl, hgc⟩
            have HG2 := Lib.hid (HG1.out.right hgc)
            have HSU := Lib.hid (program_sum HRW.out.row.small RD1.out.b6.good RD1.out.b6.gok)
            have HLS := Lib.hid (live_sum RD1.out.b6.gok RD1.out.b6.good.ok)
            have CT := Lib.hid ((RD1.out.goes (i' := i + 1) HG2.out (by rw [HVB.out]; exact (wear_acts (program_acts6 HRW.out.row.small) RD1.out.wc).more (by omega)) ((program_wear RD1.out.wl).more (by omega)) (by rw [HVB.out]; exact (program_acts6 (c := M.view) (g := G.view) HRW.out.row.small).dims.2.1)))
            have HKB0 : Hid (∀ X : MgM, X = G.lay (Mg.program b M.view G.view).2.2 → X.k = k) := Lib.hid (fun X e => by rw [e]; exact HGK.out)
            clear d2 hgc HG1 HG2 FF FF1 HRW HRW1 RD1
            generalize Mg.program b M.view G.view = q at *
            obtain ⟨⟨x1, y1, z1⟩, V1, g1⟩ := q
            dsimp only at *
            have HS2 : Hid (sumL (G.lay g1).l = sumL G.l + (if z1 = 0 then 1 else 0)) := Lib.hid HSU.out
            generalize G.lay g1 = G2 at *
            have HKB : Hid (G2.k = k) := Lib.hid (HKB0.out G2 rfl)
            clear HKB0
            clear HSU HVB
            by_cases hz : z1 = 0
            · subst hz
              rw [if_pos rfl] at HS2
              have hw : IntKind.i64.wrap (sumL G.l + 1) = sumL G2.l := by rw [HS2.out]; exact IntWalk.i64_in _ (by have h := HLS.out; have h2 : 0 ≤ sumL G.l ∧ sumL G.l ≤ 4096 := h.2; omega)
              have GL : Hid (G2.l.length ≤ 128) := Lib.hid (by have h1 := CT.out.b6.gok.len; have h2 := (ok_dims CT.out.b6.good.ok).2.1; have h3 : G2.l.length = M2.view.B := h1; omega)
              go_wp2_with fail
              refine (mgr.all_any CT.out.b6.held.mgr GL.out CT.out.low).mono ?_
              rintro e wc ⟨v, rfl, ho, hb⟩
              have CT1 := Lib.hid (CT.out.old hb)
              have HR1 := Lib.hid (ho.read (by have := GL.out; omega))
              have q1 : ¬ (1 : Int) < (countL 1 G2.l : Int) := by have h1 := count_open CT.out.b6.gok; have h2 : countL 1 G2.view.l = countL 1 G2.l := rfl; omega
              have HLV : Hid (gcs.liveL G2.l = sumL G2.l) := Lib.hid (live_sum CT.out.b6.gok CT.out.b6.good.ok).1
              have HRT : Hid (gcs.RightL x.p G2.l = true) := Lib.hid (by rw [← CT.out.P]; exact right_all CT.out.b6.gok CT.out.b6.good.ok CT.out.wl (by have := HLN.out; omega))
              clear ho hb
              go_wp2_with fail
              refine (gcs.RCount_any v G2.l 1 wc HR1.out).mono ?_
              rintro e wd ⟨rfl, hb⟩
              have CT2 := Lib.hid (CT1.out.old hb)
              have HR2 := Lib.hid (HR1.out.below hb)
              clear hb CT1 HR1
              go_wp2_with fail
              refine (gcs.RLive_any v G2.l wd HR2.out).mono ?_
              rw [HLV.out]
              rintro e we ⟨rfl, hb⟩
              have CT3 := Lib.hid (CT2.out.old hb)
              have HR3 := Lib.hid (HR2.out.below hb)
              have hp : we.cell? ⟨w.heap.size, 1, none⟩ = some (vi x.p) := CT3.out.box.cell 1
              have hs : (sumL G2.l != sumL G2.l) = false := by simp
              clear hb CT2 HR2
              go_wp2_with fail
              refine (gcs.RRight_any v G2.l x.p we HR3.out).mono ?_
              rw [HRT.out]
              rintro e wf ⟨rfl, hb⟩
              have CT4 := Lib.hid (CT3.out.old hb)
              clear hb CT3 HR3 hp hs
              go_wp2_with fail
              go_roundw
              case rel => exact ⟨i + 1, G2, M2, H2, R2, rfl, by go_num, by omega, Lib.hid ⟨HKB.out, CT4.out⟩⟩
              case measure => simp [intOf]; omega
            · have hzq : (z1 == 0) = false := beq_eq_false_iff_ne.2 hz
              rw [if_neg hz, Int.add_zero] at HS2
              have hw : sumL G.l = sumL G2.l := HS2.out.symm
              rw [hw]
              clear hw
              have GL : Hid (G2.l.length ≤ 128) := Lib.hid (by have h1 := CT.out.b6.gok.len; have h2 := (ok_dims CT.out.b6.good.ok).2.1; have h3 : G2.l.length = M2.view.B := h1; omega)
              go_wp2_with fail
              refine (mgr.all_any CT.out.b6.held.mgr GL.out CT.out.low).mono ?_
              rintro e wc ⟨v, rfl, ho, hb⟩
              have CT1 := Lib.hid (CT.out.old hb)
              have HR1 := Lib.hid (ho.read (by have := GL.out; omega))
              have q1 : ¬ (1 : Int) < (countL 1 G2.l : Int) := by have h1 := count_open CT.out.b6.gok; have h2 : countL 1 G2.view.l = countL 1 G2.l := rfl; omega
              have HLV : Hid (gcs.liveL G2.l = sumL G2.l) := Lib.hid (live_sum CT.out.b6.gok CT.out.b6.good.ok).1
              have HRT : Hid (gcs.RightL x.p G2.l = true) := Lib.hid (by rw [← CT.out.P]; exact right_all CT.out.b6.gok CT.out.b6.good.ok CT.out.wl (by have := HLN.out; omega))
              clear ho hb
              go_wp2_with fail
              refine (gcs.RCount_any v G2.l 1 wc HR1.out).mono ?_
              rintro e wd ⟨rfl, hb⟩
              have CT2 := Lib.hid (CT1.out.old hb)
              have HR2 := Lib.hid (HR1.out.below hb)
              clear hb CT1 HR1
              go_wp2_with fail
              refine (gcs.RLive_any v G2.l wd HR2.out).mono ?_
              rw [HLV.out]
              rintro e we ⟨rfl, hb⟩
              have CT3 := Lib.hid (CT2.out.old hb)
              have HR3 := Lib.hid (HR2.out.below hb)
              have hp : we.cell? ⟨w.heap.size, 1, none⟩ = some (vi x.p) := CT3.out.box.cell 1
              have hs : (sumL G2.l != sumL G2.l) = false := by simp
              clear hb CT2 HR2
              go_wp2_with fail
              refine (gcs.RRight_any v G2.l x.p we HR3.out).mono ?_
              rw [HRT.out]
              rintro e wf ⟨rfl, hb⟩
              have CT4 := Lib.hid (CT3.out.old hb)
              clear hb CT3 HR3 hp hs
              go_wp2_with fail
              go_roundw
              case rel => exact ⟨i + 1, G2, M2, H2, R2, rfl, by go_num, by omega, Lib.hid ⟨HKB.out, CT4.out⟩⟩
              case measure => simp [intOf]; omega
          · have hk1' : (kind == 1) = false := beq_eq_false_iff_ne.2 hk1
            have d1 : wa.cell? ⟨go, 1, none⟩ = some (vi block) := FF.out.cell 1
            by_cases hk2 : kind = 2
            · subst hk2
              go_wp2_with fail
              refine (mgr.Drop_any RD1.out.b6.held RD1.out.b6.gok RD1.out.b6.P32 block).mono ?_
              rintro e wb ⟨rfl, hgb⟩
              have HG1 := Lib.hid (RD1.out.b6.left hgb RD1.out.b6.good (drop_right RD1.out.b6.gok block))
              have FF1 := Lib.hid (FF.out.chg HG1.out.chg (fun e => by have := HNF.out _ e; omega))
              clear d0 d1 hgb
              have d1 : wb.cell? ⟨go, 1, none⟩ = some (vi block) := FF1.out.cell 1
              go_wp2_with fail
              refine (rDrop6_any HG1.out.at_.ref block).mono ?_
              rintro e wc ⟨n0, H2, R2, rfl, hgc⟩
              have HG2 := Lib.hid (HG1.out.right hgc)
              have HSU := Lib.hid (drop_sum (g := G.view) block)
              have HLS := Lib.hid (live_sum RD1.out.b6.gok RD1.out.b6.good.ok)
              have CT := Lib.hid (RD1.out.goes (i' := i + 1) HG2.out (RD1.out.wc.more (by omega)) ((drop_wear RD1.out.wl block).more (by omega)) rfl)
              have HKB0 : Hid (∀ X : MgM, X = G.lay (G.view.drop block).2 → X.k = k) := Lib.hid (fun X e => by rw [e]; exact HGK.out)
              clear d1 hgc HG1 HG2 FF FF1 RD1
              generalize G.view.drop block = q at *
              obtain ⟨z1, g1⟩ := q
              dsimp only at *
              have HS2 : Hid (sumL (G.lay g1).l = sumL G.l - (if z1 = 0 then 1 else 0)) := Lib.hid HSU.out
              generalize G.lay g1 = G2 at *
              have HKB : Hid (G2.k = k) := Lib.hid (HKB0.out G2 rfl)
              clear HKB0
              clear HSU
              by_cases hz : z1 = 0
              · subst hz
                rw [if_pos rfl] at HS2
                have hw : IntKind.i64.wrap (sumL G.l - 1) = sumL G2.l := by rw [HS2.out]; exact IntWalk.i64_in _ (by have h := HLS.out; have h2 : 0 ≤ sumL G.l ∧ sumL G.l ≤ 4096 := h.2; omega)
                have GL : Hid (G2.l.length ≤ 128) := Lib.hid (by have h1 := CT.out.b6.gok.len; have h2 := (ok_dims CT.out.b6.good.ok).2.1; have h3 : G2.l.length = M.view.B := h1; omega)
                go_wp2_with fail
                refine (mgr.all_any CT.out.b6.held.mgr GL.out CT.out.low).mono ?_
                rintro e wc ⟨v, rfl, ho, hb⟩
                have CT1 := Lib.hid (CT.out.old hb)
                have HR1 := Lib.hid (ho.read (by have := GL.out; omega))
                have q1 : ¬ (1 : Int) < (countL 1 G2.l : Int) := by have h1 := count_open CT.out.b6.gok; have h2 : countL 1 G2.view.l = countL 1 G2.l := rfl; omega
                have HLV : Hid (gcs.liveL G2.l = sumL G2.l) := Lib.hid (live_sum CT.out.b6.gok CT.out.b6.good.ok).1
                have HRT : Hid (gcs.RightL x.p G2.l = true) := Lib.hid (by rw [← CT.out.P]; exact right_all CT.out.b6.gok CT.out.b6.good.ok CT.out.wl (by have := HLN.out; omega))
                clear ho hb
                go_wp2_with fail
                refine (gcs.RCount_any v G2.l 1 wc HR1.out).mono ?_
                rintro e wd ⟨rfl, hb⟩
                have CT2 := Lib.hid (CT1.out.old hb)
                have HR2 := Lib.hid (HR1.out.below hb)
                clear hb CT1 HR1
                go_wp2_with fail
                refine (gcs.RLive_any v G2.l wd HR2.out).mono ?_
                rw [HLV.out]
                rintro e we ⟨rfl, hb⟩
                have CT3 := Lib.hid (CT2.out.old hb)
                have HR3 := Lib.hid (HR2.out.below hb)
                have hp : we.cell? ⟨w.heap.size, 1, none⟩ = some (vi x.p) := CT3.out.box.cell 1
                have hs : (sumL G2.l != sumL G2.l) = false := by simp
                clear hb CT2 HR2
                go_wp2_with fail
                refine (gcs.RRight_any v G2.l x.p we HR3.out).mono ?_
                rw [HRT.out]
                rintro e wf ⟨rfl, hb⟩
                have CT4 := Lib.hid (CT3.out.old hb)
                clear hb CT3 HR3 hp hs
                go_wp2_with fail
                go_roundw
                case rel => exact ⟨i + 1, G2, M, H2, R2, rfl, by go_num, by omega, Lib.hid ⟨HKB.out, CT4.out⟩⟩
                case measure => simp [intOf]; omega
              · have hzq : (z1 == 0) = false := beq_eq_false_iff_ne.2 hz
                rw [if_neg hz, Int.sub_zero] at HS2
                have hw : sumL G.l = sumL G2.l := HS2.out.symm
                rw [hw]
                clear hw
                have GL : Hid (G2.l.length ≤ 128) := Lib.hid (by have h1 := CT.out.b6.gok.len; have h2 := (ok_dims CT.out.b6.good.ok).2.1; have h3 : G2.l.length = M.view.B := h1; omega)
                go_wp2_with fail
                refine (mgr.all_any CT.out.b6.held.mgr GL.out CT.out.low).mono ?_
                rintro e wc ⟨v, rfl, ho, hb⟩
                have CT1 := Lib.hid (CT.out.old hb)
                have HR1 := Lib.hid (ho.read (by have := GL.out; omega))
                have q1 : ¬ (1 : Int) < (countL 1 G2.l : Int) := by have h1 := count_open CT.out.b6.gok; have h2 : countL 1 G2.view.l = countL 1 G2.l := rfl; omega
                have HLV : Hid (gcs.liveL G2.l = sumL G2.l) := Lib.hid (live_sum CT.out.b6.gok CT.out.b6.good.ok).1
                have HRT : Hid (gcs.RightL x.p G2.l = true) := Lib.hid (by rw [← CT.out.P]; exact right_all CT.out.b6.gok CT.out.b6.good.ok CT.out.wl (by have := HLN.out; omega))
                clear ho hb
                go_wp2_with fail
                refine (gcs.RCount_any v G2.l 1 wc HR1.out).mono ?_
                rintro e wd ⟨rfl, hb⟩
                have CT2 := Lib.hid (CT1.out.old hb)
                have HR2 := Lib.hid (HR1.out.below hb)
                clear hb CT1 HR1
                go_wp2_with fail
                refine (gcs.RLive_any v G2.l wd HR2.out).mono ?_
                rw [HLV.out]
                rintro e we ⟨rfl, hb⟩
                have CT3 := Lib.hid (CT2.out.old hb)
                have HR3 := Lib.hid (HR2.out.below hb)
                have hp : we.cell? ⟨w.heap.size, 1, none⟩ = some (vi x.p) := CT3.out.box.cell 1
                have hs : (sumL G2.l != sumL G2.l) = false := by simp
                clear hb CT2 HR2
                go_wp2_with fail
                refine (gcs.RRight_any v G2.l x.p we HR3.out).mono ?_
                rw [HRT.out]
                rintro e wf ⟨rfl, hb⟩
                have CT4 := Lib.hid (CT3.out.old hb)
                clear hb CT3 HR3 hp hs
                go_wp2_with fail
                go_roundw
                case rel => exact ⟨i + 1, G2, M, H2, R2, rfl, by go_num, by omega, Lib.hid ⟨HKB.out, CT4.out⟩⟩
                case measure => simp [intOf]; omega
            · have hk2' : (kind == 2) = false := beq_eq_false_iff_ne.2 hk2
              have d2 : wa.cell? ⟨go, 2, none⟩ = some (.slice ba b.length bc) := FF.out.cell 2
              have HPL := Lib.hid (plays6_any RD1.out.b6 ⟨kind, block, ba, b, bc⟩ HOK1.out)
              rw [HGK.out] at HPL
              go_wp2_with fail
              refine HPL.out.mono ?_
              rintro e wb ⟨bb, G2, M2, H2, R2, rfl, hg2, hv2⟩
              have HKB : Hid (G2.k = k) := Lib.hid (hg2.k.trans HGK.out)
              have hcn := act6_counts ⟨kind, block, ba, b, bc⟩ hk1 hk2 HRW.out.row.small RD1.out.b6.gok RD1.out.wc RD1.out.wl (by omega)
              rw [← hv2] at hcn
              have CT := Lib.hid (RD1.out.goes (i' := i + 1) hg2 hcn.1 hcn.2.1 hcn.2.2.2)
              have hw : sumL G.l = sumL G2.l := hcn.2.2.1.symm
              rw [hw]
              clear hw hg2 hv2 d0 d1 d2 hcn
              have GL : Hid (G2.l.length ≤ 128) := Lib.hid (by have h1 := CT.out.b6.gok.len; have h2 := (ok_dims CT.out.b6.good.ok).2.1; have h3 : G2.l.length = M2.view.B := h1; omega)
              go_wp2_with fail
              refine (mgr.all_any CT.out.b6.held.mgr GL.out CT.out.low).mono ?_
              rintro e wc ⟨v, rfl, ho, hb⟩
              have CT1 := Lib.hid (CT.out.old hb)
              have HR1 := Lib.hid (ho.read (by have := GL.out; omega))
              have q1 : ¬ (1 : Int) < (countL 1 G2.l : Int) := by have h1 := count_open CT.out.b6.gok; have h2 : countL 1 G2.view.l = countL 1 G2.l := rfl; omega
              have HLV : Hid (gcs.liveL G2.l = sumL G2.l) := Lib.hid (live_sum CT.out.b6.gok CT.out.b6.good.ok).1
              have HRT : Hid (gcs.RightL x.p G2.l = true) := Lib.hid (by rw [← CT.out.P]; exact right_all CT.out.b6.gok CT.out.b6.good.ok CT.out.wl (by have := HLN.out; omega))
              clear ho hb
              go_wp2_with fail
              refine (gcs.RCount_any v G2.l 1 wc HR1.out).mono ?_
              rintro e wd ⟨rfl, hb⟩
              have CT2 := Lib.hid (CT1.out.old hb)
              have HR2 := Lib.hid (HR1.out.below hb)
              clear hb CT1 HR1
              go_wp2_with fail
              refine (gcs.RLive_any v G2.l wd HR2.out).mono ?_
              rw [HLV.out]
              rintro e we ⟨rfl, hb⟩
              have CT3 := Lib.hid (CT2.out.old hb)
              have HR3 := Lib.hid (HR2.out.below hb)
              have hp : we.cell? ⟨w.heap.size, 1, none⟩ = some (vi x.p) := CT3.out.box.cell 1
              have hs : (sumL G2.l != sumL G2.l) = false := by simp
              clear hb CT2 HR2
              go_wp2_with fail
              refine (gcs.RRight_any v G2.l x.p we HR3.out).mono ?_
              rw [HRT.out]
              rintro e wf ⟨rfl, hb⟩
              have CT4 := Lib.hid (CT3.out.old hb)
              clear hb CT3 HR3 hp hs
              go_wp2_with fail
              go_roundw
              case rel => exact ⟨i + 1, G2, M2, H2, R2, rfl, by go_num, by omega, Lib.hid ⟨HKB.out, CT4.out⟩⟩
              case measure => simp [intOf]; omega
        · obtain rfl : i = l.length := by omega
          have HB9 := Lib.hid HCC.out.2.below
          have q1 : ¬ (l.length : Int) < (l.length : Int) := by omega
          clear HCC
          go_wp2_with fail
          refine (known06_any wr).mono ?_
          rintro e w9 ⟨rfl, hb9⟩
          have HB10 := Lib.hid (HB9.out.trans (hb9.mono HB9.out.size))
          clear hb9
          go_wp2_with fail
          go_ret
          exact ⟨rfl, HB10.out⟩
  · clear hb2 ht c0 c1 c2 c3 c4 c5 c6 c7 c8
    go_wp2_with fail
    refine (known06_any w2).mono ?_
    rintro e w4 ⟨rfl, hb4⟩
    have HB4 := Lib.hid (HB2.out.trans (hb4.mono HB2.out.size))
    clear hb4
    go_wp2_with fail
    go_ret
    exact ⟨rfl, HB4.out⟩

set_option maxRecDepth 100000 in
theorem lifted (os : Os) (started : os.Started) (H : Type) (enc : TypeId × Value → H) :
    ReturnsInHanded {} Try.checked os 9 .any (Rows.blkCountsSpec.pre6 enc Try.prog Try.f9 Rows.blkCountsRow.domain false) (Rows.blkCountsSpec.post enc Try.prog Try.f9 false true false false) := by
  refine returnsInHanded_of_change_sized (C := Try.checked) own started (by kernel_rfl) Try.func9
    (ChangeSpec.witness6 (enc := enc) (C := Try.checked) false ⟨#[], #[.agg #[vi 0, vi 0, vi 0, .slice none 0 0, .slice none 0 0, .slice none 0 0, .slice none 0 0, vi 0, vi 0], .slice none 0 0], []⟩ 8 (by kernel_rfl) (by kernel_rfl) (by kernel_rfl) (by kernel_rfl)) ?_
  intro W base args ds gs before hval0 hW hcnd hwt _
  have hval : ∀ (j : Nat) t v, Try.f9.params[j]? = some t → args[j]? = some v → Value.okWide Try.prog W .any base t v := hval0
  have hW' := hW
  obtain ⟨p, q, hA0, hV, rfl, hfz, hnd⟩ := hW
  have hA : DataW.TrodAll enc Try.prog W 0 (fun _ => true) true Try.f9.params.toList args.toList ds p := hA0
  rw [Try.params9] at hA hval hwt
  obtain ⟨v0, vs0, d0, ds0, p0, q0, hargs, rfl, rfl, h0, r0⟩ := trodAll_cons hA
  obtain ⟨v1, vs1, d1, ds1, p1, q1, rfl, rfl, rfl, h1, r1⟩ := trodAll_cons r0
  obtain ⟨rfl, rfl, rfl⟩ := trodAll_nil r1
  obtain rfl : args = #[v0, v1] := by cases args; simp_all
  obtain ⟨rfl, rfl⟩ := trodVars_none hV
  obtain ⟨x0, rfl, hx0⟩ := arg_set6 h0 (hval 0 80 v0 rfl rfl) (weights_at hwt (j := 0) rfl rfl)
  obtain ⟨x1, rfl, hr1⟩ := arg_ops6 h1 (hval 1 81 v1 rfl rfl) (weights_at hwt (j := 1) rfl rfl)
  refine (walk x0 x1 W hx0 hr1).mono fun e W' ⟨he, bel⟩ => ?_
  subst he
  exact ⟨_, rfl, law_close laidOut (by kernel_rfl) hW' rfl bel rfl Try.underlying4 rfl⟩

set_option maxRecDepth 100000 in
set_option maxHeartbeats 20000000 in
theorem facts : joinedFacts Try.pinned.checked.prog 9 Try.f9 Rows.blkCountsSpec Rows.blkCountsRow = true := by
  unfold joinedFacts
  simp only [Bool.and_eq_true]
  and_intros
  all_goals as_aux_lemma => kernel_rfl

theorem over : Rows.blkCountsRow.holds Try.pinned (OpenSpec.ofChange Rows.blkCountsSpec) :=
  OpenClaim.holds_of_wide 9 Try.f9 rfl rfl rfl rfl rfl rfl rfl ⟨rfl, rfl, rfl, rfl, rfl⟩ rfl rfl rfl rfl rfl (by kernel_rfl) Try.func9 facts
    (of_decide_eq_true (by kernel_rfl)) (by unfold Func.isWrapper; first | (rw [if_pos (by decide +kernel)]; kernel_rfl) | (rw [if_neg (by decide +kernel)]; exact ⟨rfl, rfl⟩))
    (fun os started H enc _ => lifted os started H enc)

theorem proved : Rows.BlkCountsSaid := over
#print axioms proved

end Go.Proofs.Ytpggkehfbhffbaa.blkCounts

