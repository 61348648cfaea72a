/-
  NandIdle: what is refused changes nothing and is no stroke. No conditions.
-/
import Derived.Test.YtpggkehfbhffbaaQE
import Derived.Test.YtpggkehfbhffbaaQF
import Derived.Test.YtpggkehfbhffbaaFrame
import Derived.Deep.QuietTactic
import Derived.BigQuiet
import Derived.Deep.DeepCutAuto
import Derived.Deep.CutBlock
namespace Go.Proofs.Ytpggkehfbhffbaa.nandIdle
open Go.ChangeShapes Go.WideShapes Go.ChangeAt Go.RowKit Go.Deep

/-- The state behind the operation: both chips, what was there. -/
structure St (w : World) (k : Nat) (M : ChM) (q : Nat) (N : ChM) (wr : World) : Prop where
  at_ : Dup w.heap.size wr k M q N
  below : Below w.heap.size w wr
theorem St.old {w wr w' : World} {k q : Nat} {M N : ChM} (h : St w k M q N wr) (b : Below wr.heap.size wr w') : St w k M q N w' := ⟨h.at_.old b, h.below.trans (b.mono h.below.size)⟩
theorem St.left {w wr w' : World} {k q : Nat} {M M' N : ChM} (h : St w k M q N wr) (g : Goes w.heap.size wr k M w' M') : St w k M' q N w' :=
  ⟨h.at_.left g, h.below.trans (g.chg.to_below (fun n _ hn => h.at_.a.low n hn) h.below.size)⟩

set_option maxRecDepth 100000 in
set_option maxHeartbeats 8000000 in
theorem walk (b p s : Int) (x : RowE Int) (y : RowE OpM) (o : OpM) (w : World) (hx : IRow w x.a x.l) (hxl : x.l.length ≤ 140737488355328) (hy : OpRow w.heap.size w y.a y.l) (ho : o.ok w.heap.size w) :
    Calls Try.prog 4 #[.agg #[vi b, vi p, vi s], x.v, y.v, .agg o.cs] w fun e w' => e = .returned (.bool true) ∧ Below w.heap.size w w' := by
  obtain ⟨xa, xl, xc⟩ := x
  obtain ⟨ya, yl, yc⟩ := y
  dsimp only at hx hxl hy ⊢
  have HX := Lib.hid hx
  have HY := Lib.hid hy
  have HO := Lib.hid ho
  have g0 := Blk.new w 23 #[vi b, vi p, vi s]
  have g1 := Blk.new (w.alloc (.cells #[vi b, vi p, vi s] 23)) 43 o.cs
  have hb1 : Below w.heap.size w ((w.alloc (.cells #[vi b, vi p, vi s] 23)).alloc (.cells o.cs 43)) := ((alloc_box w #[vi b, vi p, vi s] 23)).alloc (by simp) _
  have g0' := Lib.hid (g0.alloc (.cells o.cs 43))
  have G1 := Lib.hid g1
  have HB := Lib.hid hb1
  have hsz : (w.alloc (.cells #[vi b, vi p, vi s] 23)).heap.size = w.heap.size + 1 := size_alloc _ _
  rw [hsz] at G1
  clear hx hy ho g0 g1 hb1 hsz
  obtain ⟨kind, block, page, ba, ob, bc, fa, fs, fc⟩ := o
  go_enter Try.func4, Try.ntmps4
  go_upto_region 1 with fail
  generalize (w.alloc (.cells #[vi b, vi p, vi s] 23)).alloc (.cells #[vi kind, vi block, vi page, .slice ba ob.length bc, .slice fa fs.length fc] 43) = w1 at *
  have c0 : w1.cell? ⟨w.heap.size, 0, none⟩ = some (vi b) := g0'.out.cell 0
  have c1 : w1.cell? ⟨w.heap.size, 1, none⟩ = some (vi p) := g0'.out.cell 1
  have c2 : w1.cell? ⟨w.heap.size, 2, none⟩ = some (vi s) := g0'.out.cell 2
  go_wp2_with fail
  refine (made_any (base := w.heap.size) b p s xa xl xc ya yl yc _ (HX.out.below HB.out) (by omega) (HY.out.old HB.out) HB.out.size).mono ?_
  rintro e w2 (⟨rfl, hb2⟩ | ⟨k, q, M, R, V, rfl, hm, hv, hv2, hg, hn, hwd, hsm, h200⟩)
  · have HB2 := Lib.hid (HB.out.trans (hb2.mono HB.out.size))
    clear c0 c1 c2 hb2
    go_wp2_with fail
    refine (known02_any _).mono ?_
    rintro e w3 ⟨rfl, hb3⟩
    have HB3 := Lib.hid (HB2.out.trans (hb3.mono HB2.out.size))
    clear hb3
    go_wp2_with fail
    go_ret
    exact ⟨rfl, HB3.out⟩
  · have HM := Lib.hid (hm.more HB.out)
    have HG := Lib.hid hg
    have HOP := Lib.hid (HO.out.old HM.out.below)
    have G2 := Lib.hid (G1.out.old hm.below)
    clear c0 c1 c2 hm hv hv2 hg hn hwd hsm h200
    have d0 : w2.cell? ⟨w.heap.size + 1, 0, none⟩ = some (vi kind) := G2.out.cell 0
    have d1 : w2.cell? ⟨w.heap.size + 1, 1, none⟩ = some (vi block) := G2.out.cell 1
    have d2 : w2.cell? ⟨w.heap.size + 1, 2, none⟩ = some (vi page) := G2.out.cell 2
    have d3 : w2.cell? ⟨w.heap.size + 1, 3, none⟩ = some (.slice ba ob.length bc) := G2.out.cell 3
    have d4 : w2.cell? ⟨w.heap.size + 1, 4, none⟩ = some (.slice fa fs.length fc) := G2.out.cell 4
    go_wp2_with fail
    refine (long_any 1 (oprow_one (o := ⟨kind, block, page, ba, ob, bc, fa, fs, fc⟩) (HOP.out.old (alloc_box w2 _ _)) (Blk.new w2 43 _) (by rw [size_alloc]; have := HM.out.below.size; omega))).mono ?_
    rintro e w' ⟨z, rfl, rfl, hz⟩
    have HM3 := Lib.hid (HM.out.at_.a.old (alloc_box w2 #[vi kind, vi block, vi page, .slice ba ob.length bc, .slice fa fs.length fc] 43))
    have HB3 := Lib.hid (HM.out.below.trans ((alloc_box w2 #[vi kind, vi block, vi page, .slice ba ob.length bc, .slice fa fs.length fc] 43).mono HM.out.below.size))
    have HOP3 := Lib.hid (HOP.out.old (alloc_box w2 #[vi kind, vi block, vi page, .slice ba ob.length bc, .slice fa fs.length fc] 43))
    have G3 := Lib.hid (G2.out.old (alloc_box w2 #[vi kind, vi block, vi page, .slice ba ob.length bc, .slice fa fs.length fc] 43))
    clear d0 d1 d2 d3 d4 HM HOP G2
    generalize w2.alloc (.cells #[vi kind, vi block, vi page, .slice ba ob.length bc, .slice fa fs.length fc] 43) = w3 at *
    cases z
    · have hsm := owt_small (l := [⟨kind, block, page, ba, ob, bc, fa, fs, fc⟩]) (hz rfl) (List.mem_singleton.2 rfl)
      have HSM := Lib.hid hsm
      have hfew : M.fs.length ≤ 100000 := by
        have h1 := HG.out.few
        have h2 : M.view.fs.length = M.fs.length := List.length_map ..
        omega
      clear hz hsm
      go_wp2_with fail
      refine (Copy_any HM3.out HG.out.ok HB3.out.size hfew).mono ?_
      rintro e w4 ⟨q2, N, rfl, hmn, hvn⟩
      have HST : Hid (St w k M q2 N w4) := Lib.hid ⟨.made HM3.out hmn, HB3.out.trans (hmn.below.mono HB3.out.size)⟩
      have HVN := Lib.hid hvn
      have HOP4 := Lib.hid (HOP3.out.old hmn.below)
      have G4 := Lib.hid (G3.out.old hmn.below)
      clear hmn hvn HM3 HB3 HOP3 G3 hfew
      go_wp2_with fail
      refine (Up_any HST.out.at_.a).mono ?_
      rintro e w' ⟨rfl, rfl⟩
      have HDN : Hid (M.view.down = M.down) := Lib.hid rfl
      generalize M.down = dn at *
      have d0 : w'.cell? ⟨w.heap.size + 1, 0, none⟩ = some (vi kind) := G4.out.cell 0
      have d1 : w'.cell? ⟨w.heap.size + 1, 1, none⟩ = some (vi block) := G4.out.cell 1
      have d2 : w'.cell? ⟨w.heap.size + 1, 2, none⟩ = some (vi page) := G4.out.cell 2
      have d3 : w'.cell? ⟨w.heap.size + 1, 3, none⟩ = some (.slice ba ob.length bc) := G4.out.cell 3
      have d4 : w'.cell? ⟨w.heap.size + 1, 4, none⟩ = some (.slice fa fs.length fc) := G4.out.cell 4
      clear G4
      go_upto_block 0 with fail
      go_cut [14] (fun s14 wx => ∃ (x : Int) (M' : ChM), s14 = vi x ∧ Hid (St w k M' q2 N wx) ∧ Hid (M'.view.ok) ∧ Hid (x ≠ 0 → x ≠ 11 → (x = 4 → M.view.down = true) → M'.view = M.view))
      case first =>
        have HOK := Lib.hid HG.out.ok
        by_cases h1 : kind = 1
        · subst h1
          go_wp2_with fail
          refine (Program_any HST.out.at_.a HOK.out block page ba ob bc HOP4.out.bytes).mono ?_
          rintro e w5 ⟨M5, rfl, hg5, hv5⟩
          have HS5 := Lib.hid (HST.out.left hg5)
          have HO5 : Hid (M5.view.ok) := Lib.hid (by rw [hv5]; exact (NP.act_ok HG.out.ok HG.out.small (.program block page ob) HOP4.out.bytes.row.small).1)
          have HI5 := Lib.hid (fun (h1 : (NP.program M.view block page ob).1 ≠ 0) h2 h3 => hv5.trans (NP.program_idle (c := M.view) block page ob h1 h2 h3))
          generalize (NP.program M.view block page ob).1 = x at *
          clear hg5 hv5
          go_wp2_with fail
          go_meet
          case rel => exact ⟨x, M5, rfl, HS5, HO5, HI5⟩
        by_cases h2 : kind = 2
        · subst h2
          go_wp2_with fail
          refine (Erase_any HST.out.at_.a HOK.out block).mono ?_
          rintro e w5 ⟨M5, rfl, hg5, hv5⟩
          have HS5 := Lib.hid (HST.out.left hg5)
          have HO5 : Hid (M5.view.ok) := Lib.hid (by rw [hv5]; exact (NP.act_ok HG.out.ok HG.out.small (.erase block) trivial).1)
          have HI5 := Lib.hid (fun (h1 : (NP.erase M.view block).1 ≠ 0) (h2 : (NP.erase M.view block).1 ≠ 11) (h3 : (NP.erase M.view block).1 = 4 → M.view.down = true) => hv5.trans (NP.erase_idle block (c := M.view) h1 h2 h3))
          generalize (NP.erase M.view block).1 = x at *
          clear hg5 hv5
          go_wp2_with fail
          go_meet
          case rel => exact ⟨x, M5, rfl, HS5, HO5, HI5⟩
        by_cases h3 : kind = 3
        · subst h3
          go_wp2_with fail
          refine (Mark_any HST.out.at_.a HOK.out block).mono ?_
          rintro e w5 ⟨M5, rfl, hg5, hv5⟩
          have HS5 := Lib.hid (HST.out.left hg5)
          have HO5 : Hid (M5.view.ok) := Lib.hid (by rw [hv5]; exact (NP.act_ok HG.out.ok HG.out.small (.mark block) trivial).1)
          have HI5 := Lib.hid (fun (h1 : (NP.mark M.view block).1 ≠ 0) (_ : (NP.mark M.view block).1 ≠ 11) (_ : (NP.mark M.view block).1 = 4 → M.view.down = true) => hv5.trans (NP.mark_idle block (c := M.view) h1))
          generalize (NP.mark M.view block).1 = x at *
          clear hg5 hv5
          go_wp2_with fail
          go_meet
          case rel => exact ⟨x, M5, rfl, HS5, HO5, HI5⟩
        by_cases h7 : kind = 7
        · subst h7
          go_wp2_with fail
          refine (Script_any HST.out.at_.a HST.out.below.size fa fs fc HOP4.out.faults (fun f hf => by have := HSM.out.2.2 f hf; omega) (Nat.le_trans HSM.out.2.1 (by decide))).mono ?_
          rintro e w5 ⟨M5, rfl, hg5, hv5⟩
          have HS5 := Lib.hid (HST.out.left hg5)
          have HO5 : Hid (M5.view.ok) := Lib.hid (by rw [hv5]; exact (NP.act_ok HG.out.ok HG.out.small (.script (fs.map (·.view))) (fun f hf => by obtain ⟨g, hg, rfl⟩ := List.mem_map.1 hf; exact (HOP4.out.faults.data g hg).1.row.small)).1)
          have HI5 := Lib.hid (fun (h1 : (NP.script M.view (fs.map (·.view))).1 ≠ 0) (_ : (NP.script M.view (fs.map (·.view))).1 ≠ 11) (_ : (NP.script M.view (fs.map (·.view))).1 = 4 → M.view.down = true) => hv5.trans (NP.script_idle (fs.map (·.view)) (c := M.view) h1))
          generalize (NP.script M.view (fs.map (·.view))).1 = x at *
          clear hg5 hv5
          go_wp2_with fail
          go_meet
          case rel => exact ⟨x, M5, rfl, HS5, HO5, HI5⟩
        go_wp2_with fail
        go_meet
        case rel => exact ⟨0, M, rfl, HST, HOK, Lib.hid (fun h => absurd rfl h)⟩
      case rest =>
        obtain ⟨x, M', rfl, HS, HO5, HI⟩ := hcut
        have HOKN : Hid (N.view.ok) := Lib.hid (by rw [HVN.out]; exact HG.out.ok)
        clear d0 d1 d2 d3 d4 HOP4 HST
        by_cases h0 : x = 0
        · subst h0
          go_wp2_with fail
          refine (known02_any _).mono ?_
          rintro e w5 ⟨rfl, hb5⟩
          have HB5 := Lib.hid (HS.out.below.trans (hb5.mono HS.out.below.size))
          clear hb5
          go_wp2_with fail
          go_ret
          exact ⟨rfl, HB5.out⟩
        have hb0 : (x == 0) = false := by simp [h0]
        by_cases h11 : x = 11
        · subst h11
          go_wp2_with fail
          refine (known02_any _).mono ?_
          rintro e w5 ⟨rfl, hb5⟩
          have HB5 := Lib.hid (HS.out.below.trans (hb5.mono HS.out.below.size))
          clear hb5
          go_wp2_with fail
          go_ret
          exact ⟨rfl, HB5.out⟩
        have hb11 : (x == 11) = false := by simp [h11]
        by_cases h4 : x = 4 ∧ dn = false
        · obtain ⟨rfl, rfl⟩ := h4
          go_wp2_with fail
          refine (known02_any _).mono ?_
          rintro e w5 ⟨rfl, hb5⟩
          have HB5 := Lib.hid (HS.out.below.trans (hb5.mono HS.out.below.size))
          clear hb5
          go_wp2_with fail
          go_ret
          exact ⟨rfl, HB5.out⟩
        have HE : Hid (M'.view = M.view) := Lib.hid (HI.out h0 h11 (fun e => by
          rw [HDN.out]
          cases dn
          · exact absurd ⟨e, rfl⟩ h4
          · rfl))
        have hqq : ((x == 4) && !dn) = false := by
          cases dn
          · have : ¬ x = 4 := fun e => h4 ⟨e, rfl⟩
            simp [this]
          · simp
        clear HI
        have HEN : Hid (N.view = M'.view) := Lib.hid (by rw [HE.out, HVN.out])
        have HV' := Lib.hid (rfl : M'.view = M'.view)
        go_upto_region 18 with fail
        go_cut [86] (fun s wx => s = .bool false ∧ wx = wc)
        case first =>
          by_cases h4b : x = 4
          · have hdn : dn = true := by
              cases dn
              · exact absurd ⟨h4b, rfl⟩ h4
              · rfl
            subst hdn
            subst h4b
            clear h4 hqq
            go_wp2_with fail
            go_meet
            case rel => exact ⟨rfl, rfl⟩
          · have hb4 : (x == 4) = false := by simp [h4b]
            clear h4 hqq
            go_wp2_with fail
            go_meet
            case rel => exact ⟨rfl, rfl⟩
        case rest =>
          obtain ⟨rfl, rfl⟩ := hcut
          clear h0 hb0 h11 hb11 h4 hqq
          go_wp2_with fail
          refine (Dump_any HS.out.at_.a HO5.out HS.out.below.size).mono ?_
          obtain ⟨wl, hwl0⟩ : ∃ wl, M'.view.bs.map (·.wear) = wl := ⟨_, rfl⟩
          obtain ⟨bl, hbl0⟩ : ∃ bl, M'.view.bs.map (·.bad) = bl := ⟨_, rfl⟩
          have hwl : wl.length ≤ 128 := by
            rw [← hwl0, List.length_map, HO5.out.blocks]
            have hr := HO5.out.right
            simp only [NP.rightB, Bool.and_eq_true, decide_eq_true_eq, Bool.or_eq_true, beq_iff_eq] at hr
            omega
          have HW0 := Lib.hid hwl0
          have HB0 := Lib.hid hbl0
          rintro e w6 ⟨vp, ps, vb, vw, rfl, hd, hps⟩
          rw [hwl0, hbl0] at hd
          clear hwl0 hbl0
          have hpf : ps.length ≤ 4096 := by
            have h1 := pages_few HO5.out
            rw [← hps, List.length_map] at h1
            exact h1
          obtain ⟨⟨pa, pc, rfl, hp1⟩, ⟨bba, bbc, rfl⟩, ⟨ia, ic, rfl, hi1⟩⟩ := dump_rows hd (by omega)
          have HS6 := Lib.hid (HS.out.old hd.below)
          have HP1 := Lib.hid hp1
          have HI1 := Lib.hid hi1
          have HPS := Lib.hid hps
          clear hd hps hp1 hi1
          go_wp2_with fail
          refine (Dump_any HS6.out.at_.b HOKN.out HS6.out.below.size).mono ?_
          rw [HEN.out]
          rintro e w7 ⟨vp2, ps2, vb2, vw2, rfl, hd2, hps2⟩
          rw [HW0.out, HB0.out] at hd2
          have hpf2 : ps2.length ≤ 4096 := by
            have h1 := pages_few HO5.out
            rw [← hps2, List.length_map] at h1
            exact h1
          obtain ⟨⟨pa2, pc2, rfl, hp2⟩, ⟨bba2, bbc2, rfl⟩, ⟨ia2, ic2, rfl, hi2⟩⟩ := dump_rows hd2 (by omega)
          have HS7 := Lib.hid (HS6.out.old hd2.below)
          have HP1' := Lib.hid (HP1.out.old hd2.below)
          have HI1' := Lib.hid (HI1.out.old hd2.below)
          have HP2 := Lib.hid hp2
          have HI2 := Lib.hid hi2
          have HPE : Hid (ps.map (·.l) = ps2.map (·.l)) := Lib.hid (HPS.out.trans hps2.symm)
          clear hd2 hps2 hp2 hi2 HP1 HI1 HPS HS6 HS
          have hwx : ((wl.length : Int) != (wl.length : Int)) = false := by simp
          go_wp2_with fail
          go_loopw [21] (fun v wr => ∃ i : Nat, i ≤ wl.length ∧ v = vi i ∧ Hid (Below w7.heap.size w7 wr)) (fun v _ => wl.length - (intOf v).toNat)
          case atStart => exact ⟨0, Nat.zero_le _, rfl, Lib.hid (Below.refl _ _)⟩
          case round =>
            obtain ⟨i, hi, rfl, hb⟩ := hrel
            by_cases hlt : i < wl.length
            · obtain ⟨g1, o1, hia, hc1⟩ := (HI1'.out.old hb.out).lookup hlt
              obtain ⟨g2, o2, hia2, hc2⟩ := (HI2.out.old hb.out).lookup hlt
              subst hia hia2
              generalize wl.getD i 0 = x at *
              have hx : ((x : Int) != x) = false := by simp
              have q0 : (0 : Int) ≤ (i : Int) := by omega
              have q1 : (i : Int) < (wl.length : Int) := by omega
              have HBA : Hid (∀ n, Calls Try.prog 26 #[ptr k, vi i] (wr.drewN n) fun e w' => e = .returned (.bool (NP.badAt M'.view i)) ∧ w' = wr.drewN n) := Lib.hid (fun n => by
                have := Bad_any (HS7.out.at_.a.old (below_drewN hb.out n)) (i : Int)
                rw [bad_view _ _ (ok_len HO5.out)] at this
                exact this)
              have HBN : Hid (∀ n, Calls Try.prog 26 #[ptr q2, vi i] (wr.drewN n) fun e w' => e = .returned (.bool (NP.badAt M'.view i)) ∧ w' = wr.drewN n) := Lib.hid (fun n => by
                have := Bad_any (HS7.out.at_.b.old (below_drewN hb.out n)) (i : Int)
                rw [bad_view _ _ (ok_len HOKN.out), HEN.out] at this
                exact this)
              generalize NP.badAt M'.view i = bq at *
              have hbq : (bq != bq) = false := by simp
              go_upto_region 27 with fail
              go_quiet ((first | (go_at_call_of 26 (ptr k); exact Calls.quiet_of_same (HBA.out _)) | (go_at_call_of 26 (ptr q2); exact Calls.quiet_of_same (HBN.out _))))
              have HB2 := Lib.hid (below_drewN hb.out nq)
              go_wp2_with fail
              go_roundw
              case rel => exact ⟨i + 1, by omega, by go_num, HB2⟩
              case measure => simp [intOf]; omega
            · obtain rfl : i = wl.length := by omega
              have hst : M'.strokes = N.strokes := by
                have := congrArg (·.strokes) HEN.out
                exact this.symm
              have hdw : M'.down = N.down := by
                have := congrArg (·.down) HEN.out
                exact this.symm
              have HST := Lib.hid hst
              have HDW := Lib.hid hdw
              clear hst hdw
              have HS8 := Lib.hid (HS7.out.old hb.out)
              go_wp2_with fail
              refine (rSame_any pc pc2 (HP1'.out.old hb.out) (HP2.out.old hb.out)).mono ?_
              rw [decide_eq_true HPE.out]
              rintro e w8 ⟨rfl, hb8⟩
              have HS9 := Lib.hid (HS8.out.old hb8)
              clear hb8
              go_wp2_with fail
              refine (Strokes_any HS9.out.at_.a).mono ?_
              rintro e w' ⟨rfl, rfl⟩
              go_wp2_with fail
              refine (Strokes_any HS9.out.at_.b).mono ?_
              rintro e w' ⟨rfl, rfl⟩
              rw [← HST.out]
              generalize M'.strokes = sk at *
              have hsk : (sk == sk) = true := by simp
              go_wp2_with fail
              refine (Up_any HS9.out.at_.a).mono ?_
              rintro e w' ⟨rfl, rfl⟩
              go_wp2_with fail
              refine (Up_any HS9.out.at_.b).mono ?_
              rintro e w' ⟨rfl, rfl⟩
              rw [← HDW.out]
              generalize (!M'.down) = ud at *
              have hud : (ud == ud) = true := by simp
              go_wp2_with fail
              refine (known02_any _).mono ?_
              rintro e w9 ⟨rfl, hb9⟩
              have HBE := Lib.hid (HS9.out.below.trans (hb9.mono HS9.out.below.size))
              clear hb9
              go_wp2_with fail
              go_ret
              exact ⟨rfl, HBE.out⟩
    · clear hz
      go_wp2_with fail
      refine (known02_any _).mono ?_
      rintro e w4 ⟨rfl, hb4⟩
      have HB4 := Lib.hid (HB3.out.trans (hb4.mono HB3.out.size))
      clear hb4
      go_wp2_with fail
      go_ret
      exact ⟨rfl, HB4.out⟩

set_option maxRecDepth 100000 in
theorem lifted (os : Os) (started : os.Started) (H : Type) (enc : TypeId × Value → H) :
    ReturnsInHanded {} Try.checked os 4 .any (Rows.nandIdleSpec.pre6 enc Try.prog Try.f4 Rows.nandIdleRow.domain false) (Rows.nandIdleSpec.post enc Try.prog Try.f4 false true false false) := by
  refine returnsInHanded_of_change_sized (C := Try.checked) own started (by kernel_rfl) Try.func4
    (ChangeSpec.witness6 (enc := enc) (C := Try.checked) false ⟨#[], #[.agg #[vi 0, vi 0, vi 0], .slice none 0 0, .slice none 0 0, .agg #[vi 0, vi 0, vi 0, .slice none 0 0, .slice none 0 0]], []⟩ 8 (by kernel_rfl) (by kernel_rfl) (by kernel_rfl) (by kernel_rfl)) ?_
  intro W base args ds gs before hval0 hW hcnd hwt _
  have hval : ∀ (j : Nat) t v, Try.f4.params[j]? = some t → args[j]? = some v → Value.okWide Try.prog W .any base t v := hval0
  have hW' := hW
  obtain ⟨p, q, hA0, hV, rfl, hfz, hnd⟩ := hW
  have hA : DataW.TrodAll enc Try.prog W 0 (fun _ => true) true Try.f4.params.toList args.toList ds p := hA0
  rw [Try.params4] at hA hval hwt
  obtain ⟨v0, vs0, d0, ds0, p0, q0, hargs, rfl, rfl, h0, r0⟩ := trodAll_cons hA
  obtain ⟨v1, vs1, d1, ds1, p1, q1, rfl, rfl, rfl, h1, r1⟩ := trodAll_cons r0
  obtain ⟨v2, vs2, d2, ds2, p2, q2, rfl, rfl, rfl, h2, r2⟩ := trodAll_cons r1
  obtain ⟨v3, vs3, d3, ds3, p3, q3, rfl, rfl, rfl, h3, r3⟩ := trodAll_cons r2
  obtain ⟨rfl, rfl, rfl⟩ := trodAll_nil r3
  obtain rfl : args = #[v0, v1, v2, v3] := by cases args; simp_all
  obtain ⟨rfl, rfl⟩ := trodVars_none hV
  obtain ⟨b0, p0, s0, rfl⟩ := arg_geo h0 (hval 0 23 v0 rfl rfl) (weights_at hwt (j := 0) rfl rfl)
  obtain ⟨x1, rfl, hr1, hl1⟩ := arg_ints h1 (hval 1 24 v1 rfl rfl) (weights_at hwt (j := 1) rfl rfl)
  obtain ⟨x2, rfl, hr2⟩ := arg_ops h2 (hval 2 25 v2 rfl rfl) (weights_at hwt (j := 2) rfl rfl)
  obtain ⟨o3, rfl, ho3⟩ := arg_op h3 (hval 3 43 v3 rfl rfl) (weights_at hwt (j := 3) rfl rfl)
  refine (walk b0 p0 s0 x1 x2 o3 W hr1 hl1 hr2 ho3).mono fun e W' ⟨he, bel⟩ => ?_
  subst he
  exact ⟨_, rfl, law_close laidOut (by kernel_rfl) hW' rfl bel rfl Try.underlying4 rfl⟩

set_option maxRecDepth 100000 in
set_option maxHeartbeats 20000000 in
theorem facts : joinedFacts Try.pinned.checked.prog 4 Try.f4 Rows.nandIdleSpec Rows.nandIdleRow = true := by
  unfold joinedFacts
  simp only [Bool.and_eq_true]
  and_intros
  all_goals as_aux_lemma => kernel_rfl

theorem over : Rows.nandIdleRow.holds Try.pinned (OpenSpec.ofChange Rows.nandIdleSpec) :=
  OpenClaim.holds_of_wide 4 Try.f4 rfl rfl rfl rfl rfl rfl rfl ⟨rfl, rfl, rfl, rfl, rfl⟩ rfl rfl rfl rfl rfl (by kernel_rfl) Try.func4 facts
    (of_decide_eq_true (by kernel_rfl)) (by unfold Func.isWrapper; first | (rw [if_pos (by decide +kernel)]; kernel_rfl) | (rw [if_neg (by decide +kernel)]; exact ⟨rfl, rfl⟩))
    (fun os started H enc _ => lifted os started H enc)

theorem proved : Rows.NandIdleSaid := over
#print axioms proved
end Go.Proofs.Ytpggkehfbhffbaa.nandIdle
