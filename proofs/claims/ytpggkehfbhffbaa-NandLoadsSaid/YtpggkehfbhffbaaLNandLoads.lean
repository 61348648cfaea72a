/-
  NandLoads: pages are loaded, or told to be none; what was dumped and loaded reads the same. No conditions.
-/
import Derived.Test.YtpggkehfbhffbaaQE
import Derived.Test.YtpggkehfbhffbaaQT
import Derived.Test.YtpggkehfbhffbaaNT
import Derived.Test.YtpggkehfbhffbaaFrame
import Derived.Deep.QuietTactic
import Derived.BigQuiet
namespace Go.Proofs.Ytpggkehfbhffbaa.nandLoads
open Go.ChangeShapes Go.WideShapes Go.ChangeAt Go.RowKit Go.Deep

set_option maxRecDepth 100000 in
set_option maxHeartbeats 16000000 in
theorem walk (b p s : Int) (pa : Option Addr) (ps : List PgM) (pc : Nat) (y : RowE Bool) (z : RowE Int) (o : OpM) (w : World) (hp : GRow w.heap.size w pa ps) (hy : BoRow w y.a y.l) (hyl : y.l.length ≤ 140737488355328) (hz : IRow w z.a z.l) (hzl : z.l.length ≤ 140737488355328) (ho : o.ok w.heap.size w) :
    Calls Try.prog 5 #[.agg #[vi b, vi p, vi s], .slice pa ps.length pc, y.v, z.v, .agg o.cs] w fun e w' => e = .returned (.bool true) ∧ Below w.heap.size w w' := by
  obtain ⟨ya, yl, yc⟩ := y
  obtain ⟨za, zl, zc⟩ := z
  dsimp only at hy hyl hz hzl ⊢
  have HP := Lib.hid hp
  have HY := Lib.hid hy
  have HZ := Lib.hid hz
  have HO := Lib.hid ho
  have hpn := hp.row.len
  have g0 := Blk.new w 23 #[vi b, vi p, vi s]
  have g1 := Blk.new (w.alloc (.cells #[vi b, vi p, vi s] 23)) 43 o.cs
  have hb1 : Below w.heap.size w ((w.alloc (.cells #[vi b, vi p, vi s] 23)).alloc (.cells o.cs 43)) := ((alloc_box w #[vi b, vi p, vi s] 23)).alloc (by simp) _
  have g0' := Lib.hid (g0.alloc (.cells o.cs 43))
  have G1 := Lib.hid g1
  have HB := Lib.hid hb1
  have hsz : (w.alloc (.cells #[vi b, vi p, vi s] 23)).heap.size = w.heap.size + 1 := size_alloc _ _
  rw [hsz] at G1
  clear hp hy hz ho g0 g1 hb1 hsz
  obtain ⟨kind, block, page, ba, ob, bc, fa, fs, fc⟩ := o
  go_enter Try.func5, Try.ntmps5
  go_upto_region 1 with fail
  generalize (w.alloc (.cells #[vi b, vi p, vi s] 23)).alloc (.cells #[vi kind, vi block, vi page, .slice ba ob.length bc, .slice fa fs.length fc] 43) = w1 at *
  have c0 : w1.cell? ⟨w.heap.size, 0, none⟩ = some (vi b) := g0'.out.cell 0
  have c1 : w1.cell? ⟨w.heap.size, 1, none⟩ = some (vi p) := g0'.out.cell 1
  have c2 : w1.cell? ⟨w.heap.size, 2, none⟩ = some (vi s) := g0'.out.cell 2
  go_wp2_with fail
  refine (wide_any b p s _).mono ?_
  rintro e w2 ⟨rfl, hb2⟩
  have HB2 := Lib.hid (HB.out.trans (hb2.mono HB.out.size))
  have G0 := Lib.hid (g0'.out.old hb2)
  have G2 := Lib.hid (G1.out.old hb2)
  clear c0 c1 c2 hb2 HB g0' G1
  cases hwd : wideB b p s
  case true =>
    clear hwd
    go_wp2_with fail
    refine (known02_any _).mono ?_
    rintro e w3 ⟨rfl, hb3⟩
    have HB3 := Lib.hid (HB2.out.trans (hb3.mono HB2.out.size))
    clear hb3
    go_wp2_with fail
    go_ret
    exact ⟨rfl, HB3.out⟩
  clear hwd
  by_cases l1 : 200 < ps.length
  case pos =>
    go_wp2_with fail
    refine (known02_any _).mono ?_
    rintro e w3 ⟨rfl, hb3⟩
    have HB3 := Lib.hid (HB2.out.trans (hb3.mono HB2.out.size))
    clear hb3
    go_wp2_with fail
    go_ret
    exact ⟨rfl, HB3.out⟩
  by_cases l2 : 200 < yl.length
  case pos =>
    go_wp2_with fail
    refine (known02_any _).mono ?_
    rintro e w3 ⟨rfl, hb3⟩
    have HB3 := Lib.hid (HB2.out.trans (hb3.mono HB2.out.size))
    clear hb3
    go_wp2_with fail
    go_ret
    exact ⟨rfl, HB3.out⟩
  by_cases l3 : 200 < zl.length
  case pos =>
    go_wp2_with fail
    refine (known02_any _).mono ?_
    rintro e w3 ⟨rfl, hb3⟩
    have HB3 := Lib.hid (HB2.out.trans (hb3.mono HB2.out.size))
    clear hb3
    go_wp2_with fail
    go_ret
    exact ⟨rfl, HB3.out⟩
  have HOP := Lib.hid (HO.out.old HB2.out)
  have d0 : w2.cell? ⟨w.heap.size + 1, 0, none⟩ = some (vi kind) := G2.out.cell 0
  have d1 : w2.cell? ⟨w.heap.size + 1, 1, none⟩ = some (vi block) := G2.out.cell 1
  have d2 : w2.cell? ⟨w.heap.size + 1, 2, none⟩ = some (vi page) := G2.out.cell 2
  have d3 : w2.cell? ⟨w.heap.size + 1, 3, none⟩ = some (.slice ba ob.length bc) := G2.out.cell 3
  have d4 : w2.cell? ⟨w.heap.size + 1, 4, none⟩ = some (.slice fa fs.length fc) := G2.out.cell 4
  go_wp2_with fail
  refine (long_any 1 (oprow_one (o := ⟨kind, block, page, ba, ob, bc, fa, fs, fc⟩) (HOP.out.old (alloc_box w2 _ _)) (Blk.new w2 43 _) (by rw [size_alloc]; have := HB2.out.size; omega))).mono ?_
  rintro e w' ⟨lg, rfl, rfl, hlg⟩
  have HB3 := Lib.hid (HB2.out.trans ((alloc_box w2 #[vi kind, vi block, vi page, .slice ba ob.length bc, .slice fa fs.length fc] 43).mono HB2.out.size))
  have G3 := Lib.hid (G2.out.old (alloc_box w2 #[vi kind, vi block, vi page, .slice ba ob.length bc, .slice fa fs.length fc] 43))
  have G03 := Lib.hid (G0.out.old (alloc_box w2 #[vi kind, vi block, vi page, .slice ba ob.length bc, .slice fa fs.length fc] 43))
  clear d0 d1 d2 d3 d4 HOP G2 G0 HB2
  generalize w2.alloc (.cells #[vi kind, vi block, vi page, .slice ba ob.length bc, .slice fa fs.length fc] 43) = w3 at *
  cases lg
  case true =>
    clear hlg
    go_wp2_with fail
    refine (known02_any _).mono ?_
    rintro e w4 ⟨rfl, hb4⟩
    have HB4 := Lib.hid (HB3.out.trans (hb4.mono HB3.out.size))
    clear hb4
    go_wp2_with fail
    go_ret
    exact ⟨rfl, HB4.out⟩
  have HSM := Lib.hid (owt_small (l := [⟨kind, block, page, ba, ob, bc, fa, fs, fc⟩]) (hlg rfl) (List.mem_singleton.2 rfl))
  have HP3 := Lib.hid (HP.out.old HB3.out)
  have HY3 := Lib.hid (HY.out.old HB3.out)
  have HZ3 := Lib.hid (HZ.out.old HB3.out)
  have HO3 := Lib.hid (HO.out.old HB3.out)
  clear hlg l1 l2 l3 HP HY HZ HO
  go_wp2_with fail
  go_loopw [11] (fun v wr => ∃ i : Nat, i ≤ ps.length ∧ v = vi i ∧ wr = w3) (fun v _ => ps.length - (intOf v).toNat)
  case atStart => exact ⟨0, Nat.zero_le _, rfl, rfl⟩
  case round =>
    obtain ⟨i, hi, rfl, rfl⟩ := hrel
    by_cases hlt : i < ps.length
    · obtain ⟨pg, po, rfl, hx, -⟩ := HP3.out.row.lookup hlt
      have hgn : (ps.getD i default).l.length ≤ maxLen := by have := (HP3.out.good _ (getD_mem (d := default) hlt)); omega
      unfold maxLen at hgn
      generalize ps.getD i default = g at *
      obtain ⟨ga, gl, gc⟩ := g
      dsimp only at hgn
      change wr.cell? ⟨pg, po + i, none⟩ = some (.slice ga gl.length gc) at hx
      have hq0 : (0 : Int) ≤ (i : Int) := by omega
      have hq1 : (i : Int) < (ps.length : Int) := by omega
      by_cases h6 : 600 < gl.length
      · go_wp2_with fail
        refine (known02_any _).mono ?_
        rintro e w4 ⟨rfl, hb4⟩
        have HB4 := Lib.hid (HB3.out.trans (hb4.mono HB3.out.size))
        clear hb4
        go_wp2_with fail
        go_ret
        exact ⟨rfl, HB4.out⟩
      · go_wp2_with fail
        go_roundw
        case rel => exact ⟨i + 1, by omega, by go_num, by first | rfl | trivial⟩
        case measure => simp [intOf]; omega
    · obtain rfl : i = ps.length := by omega
      have c0 : wr.cell? ⟨w.heap.size, 0, none⟩ = some (vi b) := G03.out.cell 0
      have c1 : wr.cell? ⟨w.heap.size, 1, none⟩ = some (vi p) := G03.out.cell 1
      have c2 : wr.cell? ⟨w.heap.size, 2, none⟩ = some (vi s) := G03.out.cell 2
      clear hi hlt
      go_wp2_with fail
      cases hrt : NP.rightB b p s
      case false =>
        have HRT := Lib.hid hrt
        clear hrt
        refine (Load_wrong b p s HRT.out _ _ _ _).mono ?_
        rintro e w4 ⟨rfl, hb4⟩
        have HB4 := Lib.hid (HB3.out.trans (hb4.mono HB3.out.size))
        have G04 := Lib.hid (G03.out.old hb4)
        clear c0 c1 c2 hb4
        have c0 : w4.cell? ⟨w.heap.size, 0, none⟩ = some (vi b) := G04.out.cell 0
        have c1 : w4.cell? ⟨w.heap.size, 1, none⟩ = some (vi p) := G04.out.cell 1
        have c2 : w4.cell? ⟨w.heap.size, 2, none⟩ = some (vi s) := G04.out.cell 2
        go_wp2_with fail
        refine (rLoad_wrong b p s HRT.out _ _ _ _).mono ?_
        rintro e w5 ⟨rfl, hb5⟩
        have HB5 := Lib.hid (HB4.out.trans (hb5.mono HB4.out.size))
        clear c0 c1 c2 hb5
        go_wp2_with fail
        refine (known02_any _).mono ?_
        rintro e w6 ⟨rfl, hb6⟩
        have HB6 := Lib.hid (HB5.out.trans (hb6.mono HB5.out.size))
        clear hb6
        go_wp2_with fail
        go_ret
        exact ⟨rfl, HB6.out⟩
      have HRT := Lib.hid hrt
      simp only [NP.rightB, Bool.and_eq_true, decide_eq_true_eq, Bool.or_eq_true, beq_iff_eq] at hrt
      obtain ⟨B, rfl⟩ : ∃ B : Nat, b = B := ⟨b.toNat, by omega⟩
      obtain ⟨P, rfl⟩ : ∃ P : Nat, p = P := ⟨p.toNat, by omega⟩
      obtain ⟨S, rfl⟩ : ∃ S : Nat, s = S := ⟨s.toNat, by omega⟩
      clear hrt
      refine (Load_any w.heap.size B P S HRT.out pa ps pc ya yl yc za zl zc _ HP3.out.row HY3.out HZ3.out hyl hzl HB3.out.size).mono ?_
      rintro e w4 (⟨hf, k, M, rfl, hm, hv⟩ | ⟨hf, rfl, hb4⟩)
      case inr =>
        have HF := Lib.hid hf
        have HB4 := Lib.hid (HB3.out.trans (hb4.mono HB3.out.size))
        have G04 := Lib.hid (G03.out.old hb4)
        have HP4 := Lib.hid (HP3.out.old hb4)
        have HY4 := Lib.hid (HY3.out.old hb4)
        have HZ4 := Lib.hid (HZ3.out.old hb4)
        clear c0 c1 c2 hb4 hf
        have c0 : w4.cell? ⟨w.heap.size, 0, none⟩ = some (vi B) := G04.out.cell 0
        have c1 : w4.cell? ⟨w.heap.size, 1, none⟩ = some (vi P) := G04.out.cell 1
        have c2 : w4.cell? ⟨w.heap.size, 2, none⟩ = some (vi S) := G04.out.cell 2
        go_wp2_with fail
        refine (rLoad_any w.heap.size B P S HRT.out pa ps pc ya yl yc za zl zc _ HP4.out HY4.out HZ4.out hyl hzl HB4.out.size).mono ?_
        rintro e w5 (⟨hf5, -⟩ | ⟨-, rfl, hb5⟩)
        · exact absurd hf5 HF.out
        have HB5 := Lib.hid (HB4.out.trans (hb5.mono HB4.out.size))
        clear c0 c1 c2 hb5
        go_wp2_with fail
        refine (known02_any _).mono ?_
        rintro e w6 ⟨rfl, hb6⟩
        have HB6 := Lib.hid (HB5.out.trans (hb6.mono HB5.out.size))
        clear hb6
        go_wp2_with fail
        go_ret
        exact ⟨rfl, HB6.out⟩
      have HF := Lib.hid hf
      have HM := Lib.hid hm
      have HV := Lib.hid hv
      have HB4 := Lib.hid (HB3.out.trans (hm.below.mono HB3.out.size))
      have G04 := Lib.hid (G03.out.old hm.below)
      have G4 := Lib.hid (G3.out.old hm.below)
      have HP4 := Lib.hid (HP3.out.old hm.below)
      have HY4 := Lib.hid (HY3.out.old hm.below)
      have HZ4 := Lib.hid (HZ3.out.old hm.below)
      have HO4 := Lib.hid (HO3.out.old hm.below)
      clear c0 c1 c2 hm hv hf
      have c0 : w4.cell? ⟨w.heap.size, 0, none⟩ = some (vi B) := G04.out.cell 0
      have c1 : w4.cell? ⟨w.heap.size, 1, none⟩ = some (vi P) := G04.out.cell 1
      have c2 : w4.cell? ⟨w.heap.size, 2, none⟩ = some (vi S) := G04.out.cell 2
      go_wp2_with fail
      refine (rLoad_any w.heap.size B P S HRT.out pa ps pc ya yl yc za zl zc _ HP4.out HY4.out HZ4.out hyl hzl HB4.out.size).mono ?_
      rintro e w5 (⟨-, q, R, rfl, hmr, hvr⟩ | ⟨hf5, -⟩)
      case inr => exact absurd HF.out hf5
      have HT := Lib.hid ((HM.out.both hmr).more HB3.out)
      have HVV : Hid (M.view = R.view) := Lib.hid (HV.out.trans hvr.symm)
      have HOK : Hid (M.view.ok) := Lib.hid (by
        rw [HV.out]
        refine LoadIn.good HF.out (fun l hl x hx => ?_) (Nat.le_refl _)
        obtain ⟨g, hg, rfl⟩ := List.mem_map.1 hl
        exact (HP4.out.good g hg).1.row.small x hx)
      have G05 := Lib.hid (G04.out.old hmr.below)
      have G5 := Lib.hid (G4.out.old hmr.below)
      have HO5 := Lib.hid (HO4.out.old hmr.below)
      clear c0 c1 c2 hmr hvr HM HB4 HB3 G03 G04 G3 G4 HP3 HY3 HZ3 HP4 HY4 HZ4 HO3 HO4
      go_wp2_with fail
      refine (same_any HT.out.at_ HVV.out HOK.out HT.out.below.size).mono ?_
      rintro e w6 ⟨rfl, hb6⟩
      have HT6 := Lib.hid (HT.out.goes (TwoGoes.of_old HT.out.at_ hb6))
      have G06 := Lib.hid (G05.out.old hb6)
      have G6 := Lib.hid (G5.out.old hb6)
      have HO6 := Lib.hid (HO5.out.old hb6)
      clear hb6 HT G05 G5 HO5
      go_wp2_with fail
      refine (Dump_any HT6.out.at_.a HOK.out HT6.out.below.size).mono ?_
      rintro e w7 ⟨vp, ps2, vb, vw, rfl, hd, hps⟩
      rw [HV.out, LoadIn.all_bad HF.out, LoadIn.all_wear HF.out] at hd
      rw [HV.out, LoadIn.all_pages HF.out] at hps
      change DmpSt w.heap.size w6 vp ps2 vb yl vw zl w7 at hd
      change ps2.map (·.l) = ps.map (·.l) at hps
      have hl2 : ps2.length ≤ 140737488355328 := by
        have := congrArg List.length hps
        rw [List.length_map, List.length_map] at this
        omega
      have HDE : Hid (loadD B P S ps2 yl zl = loadD B P S ps yl zl) := Lib.hid (by unfold loadD; rw [hps])
      obtain ⟨pa2, pc2, rfl, hp2⟩ := (dump_rows hd hl2).1
      obtain ⟨za2, zc2, rfl, hz2⟩ := irow_own hd.rw_
      obtain ⟨ya2, yc2, rfl, hy2⟩ := borow_own hd.rb
      have HP2 := Lib.hid hp2
      have HZ2 := Lib.hid hz2
      have HY2 := Lib.hid hy2
      have HT7 := Lib.hid (HT6.out.goes (TwoGoes.of_old HT6.out.at_ hd.below))
      have G07 := Lib.hid (G06.out.old hd.below)
      have G7 := Lib.hid (G6.out.old hd.below)
      have HO7 := Lib.hid (HO6.out.old hd.below)
      clear hd hps hp2 hz2 hy2 HT6 G06 G6 HO6
      have c0 : w7.cell? ⟨w.heap.size, 0, none⟩ = some (vi B) := G07.out.cell 0
      have c1 : w7.cell? ⟨w.heap.size, 1, none⟩ = some (vi P) := G07.out.cell 1
      have c2 : w7.cell? ⟨w.heap.size, 2, none⟩ = some (vi S) := G07.out.cell 2
      go_wp2_with fail
      refine (Load_any w.heap.size B P S HRT.out pa2 ps2 pc2 ya2 yl yc2 za2 zl zc2 _ HP2.out HY2.out HZ2.out hyl hzl HT7.out.below.size).mono ?_
      rw [HDE.out]
      rintro e w8 (⟨-, k2, N, rfl, hmn, hvn⟩ | ⟨hf8, -⟩)
      case inr => exact absurd HF.out hf8
      have HT8 := Lib.hid (HT7.out.goes (TwoGoes.of_old HT7.out.at_ hmn.below))
      have H28 : Hid (Two w.heap.size w8 k2 N q R) := Lib.hid ⟨hmn.at_, HT7.out.at_.b.old hmn.below, fun n hn hr => by have h1 := hmn.own n hn; have h2 := HT7.out.at_.b.lt n hr; omega⟩
      have HNV : Hid (N.view = R.view) := Lib.hid (hvn.trans (HV.out.symm.trans HVV.out))
      have HNK : Hid (N.view.ok) := Lib.hid (by rw [HNV.out, ← HVV.out]; exact HOK.out)
      have G8 := Lib.hid (G7.out.old hmn.below)
      have HO8 := Lib.hid (HO7.out.old hmn.below)
      clear c0 c1 c2 hmn hvn HT7 G07 G7 HO7 HP2 HZ2 HY2
      go_wp2_with fail
      refine (same_any H28.out HNV.out HNK.out HT8.out.below.size).mono ?_
      rintro e w9 ⟨rfl, hb9⟩
      have HT9 := Lib.hid (HT8.out.goes (TwoGoes.of_old HT8.out.at_ hb9))
      have G9 := Lib.hid (G8.out.old hb9)
      have HO9 := Lib.hid (HO8.out.old hb9)
      clear hb9 HT8 H28 G8 HO8
      have d0 : w9.cell? ⟨w.heap.size + 1, 0, none⟩ = some (vi kind) := G9.out.cell 0
      have d1 : w9.cell? ⟨w.heap.size + 1, 1, none⟩ = some (vi block) := G9.out.cell 1
      have d2 : w9.cell? ⟨w.heap.size + 1, 2, none⟩ = some (vi page) := G9.out.cell 2
      have d3 : w9.cell? ⟨w.heap.size + 1, 3, none⟩ = some (.slice ba ob.length bc) := G9.out.cell 3
      have d4 : w9.cell? ⟨w.heap.size + 1, 4, none⟩ = some (.slice fa fs.length fc) := G9.out.cell 4
      go_wp2_with fail
      refine (plays_any HT9.out.at_ HVV.out HOK.out ⟨kind, block, page, ba, ob, bc, fa, fs, fc⟩ HO9.out HSM.out HT9.out.below.size).mono ?_
      rintro e w10 ⟨M', R', rfl, hg, hx1, hx2⟩
      have HT10 := Lib.hid (HT9.out.goes hg)
      have HV10 : Hid (M'.view = R'.view) := Lib.hid (hx1.trans hx2.symm)
      have HOK10 : Hid (M'.view.ok) := Lib.hid (by
        rw [hx1]
        exact (NP.act_ok HOK.out (by rw [HV.out]; intro f hf; cases hf) _ (actOf_fine HO9.out)).1)
      clear d0 d1 d2 d3 d4 hg hx1 hx2 HT9 G9 HO9
      go_wp2_with fail
      refine (same_any HT10.out.at_ HV10.out HOK10.out HT10.out.below.size).mono ?_
      rintro e w11 ⟨rfl, hb11⟩
      have HB11 := Lib.hid (HT10.out.below.trans (hb11.mono HT10.out.below.size))
      clear hb11 HT10
      go_wp2_with fail
      refine (known02_any _).mono ?_
      rintro e w12 ⟨rfl, hb12⟩
      have HB12 := Lib.hid (HB11.out.trans (hb12.mono HB11.out.size))
      clear hb12
      go_wp2_with fail
      go_ret
      exact ⟨rfl, HB12.out⟩

set_option maxRecDepth 100000 in
theorem lifted (os : Os) (started : os.Started) (H : Type) (enc : TypeId × Value → H) :
    ReturnsInHanded {} Try.checked os 5 .any (Rows.nandLoadsSpec.pre6 enc Try.prog Try.f5 Rows.nandLoadsRow.domain false) (Rows.nandLoadsSpec.post enc Try.prog Try.f5 false true false false) := by
  refine returnsInHanded_of_change_sized (C := Try.checked) own started (by kernel_rfl) Try.func5
    (ChangeSpec.witness6 (enc := enc) (C := Try.checked) false ⟨#[], #[.agg #[vi 0, vi 0, vi 0], .slice none 0 0, .slice none 0 0, .slice none 0 0, .agg #[vi 0, vi 0, vi 0, .slice none 0 0, .slice none 0 0]], []⟩ 8 (by kernel_rfl) (by kernel_rfl) (by kernel_rfl) (by kernel_rfl)) ?_
  intro W base args ds gs before hval0 hW hcnd hwt _
  have hval : ∀ (j : Nat) t v, Try.f5.params[j]? = some t → args[j]? = some v → Value.okWide Try.prog W .any base t v := hval0
  have hW' := hW
  obtain ⟨p, q, hA0, hV, rfl, hfz, hnd⟩ := hW
  have hA : DataW.TrodAll enc Try.prog W 0 (fun _ => true) true Try.f5.params.toList args.toList ds p := hA0
  rw [Try.params5] at hA hval hwt
  obtain ⟨v0, vs0, d0, ds0, p0, q0, hargs, rfl, rfl, h0, r0⟩ := trodAll_cons hA
  obtain ⟨v1, vs1, d1, ds1, p1, q1, rfl, rfl, rfl, h1, r1⟩ := trodAll_cons r0
  obtain ⟨v2, vs2, d2, ds2, p2, q2, rfl, rfl, rfl, h2, r2⟩ := trodAll_cons r1
  obtain ⟨v3, vs3, d3, ds3, p3, q3, rfl, rfl, rfl, h3, r3⟩ := trodAll_cons r2
  obtain ⟨v4, vs4, d4, ds4, p4, q4, rfl, rfl, rfl, h4, r4⟩ := trodAll_cons r3
  obtain ⟨rfl, rfl, rfl⟩ := trodAll_nil r4
  obtain rfl : args = #[v0, v1, v2, v3, v4] := by cases args; simp_all
  obtain ⟨rfl, rfl⟩ := trodVars_none hV
  obtain ⟨b0, p0, s0, rfl⟩ := arg_geo h0 (hval 0 23 v0 rfl rfl) (weights_at hwt (j := 0) rfl rfl)
  obtain ⟨pa1, ps1, pc1, rfl, hr1⟩ := arg_pages h1 (hval 1 51 v1 rfl rfl) (weights_at hwt (j := 1) rfl rfl)
  obtain ⟨x2, rfl, hr2, hl2⟩ := arg_bools h2 (hval 2 52 v2 rfl rfl) (weights_at hwt (j := 2) rfl rfl)
  obtain ⟨x3, rfl, hr3, hl3⟩ := arg_ints h3 (hval 3 24 v3 rfl rfl) (weights_at hwt (j := 3) rfl rfl)
  obtain ⟨o4, rfl, ho4⟩ := arg_op h4 (hval 4 43 v4 rfl rfl) (weights_at hwt (j := 4) rfl rfl)
  refine (walk b0 p0 s0 pa1 ps1 pc1 x2 x3 o4 W hr1 hr2 hl2 hr3 hl3 ho4).mono fun e W' ⟨he, bel⟩ => ?_
  subst he
  exact ⟨_, rfl, law_close laidOut (by kernel_rfl) hW' rfl bel rfl Try.underlying4 rfl⟩

set_option maxRecDepth 100000 in
set_option maxHeartbeats 20000000 in
theorem facts : joinedFacts Try.pinned.checked.prog 5 Try.f5 Rows.nandLoadsSpec Rows.nandLoadsRow = true := by
  unfold joinedFacts
  simp only [Bool.and_eq_true]
  and_intros
  all_goals as_aux_lemma => kernel_rfl

theorem over : Rows.nandLoadsRow.holds Try.pinned (OpenSpec.ofChange Rows.nandLoadsSpec) :=
  OpenClaim.holds_of_wide 5 Try.f5 rfl rfl rfl rfl rfl rfl rfl ⟨rfl, rfl, rfl, rfl, rfl⟩ rfl rfl rfl rfl rfl (by kernel_rfl) Try.func5 facts
    (of_decide_eq_true (by kernel_rfl)) (by unfold Func.isWrapper; first | (rw [if_pos (by decide +kernel)]; kernel_rfl) | (rw [if_neg (by decide +kernel)]; exact ⟨rfl, rfl⟩))
    (fun os started H enc _ => lifted os started H enc)

theorem proved : Rows.NandLoadsSaid := over
#print axioms proved
end Go.Proofs.Ytpggkehfbhffbaa.nandLoads
