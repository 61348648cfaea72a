/-
  Lemmas for a law's proof, put together from several texts: each part says what it shows, and its conditions.
-/
import Derived.Test.YtpggkehfbhffbaaZC16
import Derived.Test.YtpggkehfbhffbaaZC22
import Derived.Deep.CutBlock
import Derived.Test.YtpggkehfbhffbaaZC20
import Derived.Test.YtpggkehfbhffbaaZC21
import Derived.Deep.RegionHeld3
/-
  A manager of a chip's blocks, opened: the walk. Conditions: a chip told by ChipAt; rows that can be read.
-/
namespace Go.Proofs.Ytpggkehfbhffbaa.mgr
open Go.RowKit

/-- What an opening answers and leaves. -/
def OpenPost (base : Nat) (w : World) (k : Nat) (M : ChM) (r : Int × Option Mg) (e : Ending) (w' : World) : Prop :=
  Below w.heap.size w w' ∧ match r with
  | (n, none) => e = .returned (.tuple #[nilp, vi n])
  | (n, some g) => ∃ m G, e = .returned (.tuple #[ptr m, vi n]) ∧ Held base w' m G M ∧ G.k = k ∧ G.view = g ∧ ∀ n, G.foot m n → w.heap.size ≤ n
theorem OpenPost.no {base : Nat} {w w' : World} {k : Nat} {M : ChM} {r : Int × Option Mg} {n : Int} (hr : r = (n, none)) (hb : Below w.heap.size w w') : OpenPost base w k M r (.returned (.tuple #[nilp, vi n])) w' := by
  subst hr; exact ⟨hb, rfl⟩
section
variable {base : Nat} {w : World} {k : Nat} {M : ChM}
set_option maxRecDepth 100000 in
set_option maxHeartbeats 8000000 in
theorem Open_any (h : ChipAt base w k M) (hok : M.view.ok) (hbase : base ≤ w.heap.size) (fa : Option Addr) (fresh : List Bool) (fc : Nat) (hf : BoRow w fa fresh) (la : Option Addr) (live : List Int) (lc : Nat) (hl : IRow w la live) (reserve bad : Int) :
    Calls Try.prog 38 #[ptr k, .slice fa fresh.length fc, .slice la live.length lc, vi reserve, vi bad] w (OpenPost base w k M (openG M.view fresh live reserve bad)) := by
  have HDEF : Hid (openG M.view fresh live reserve bad = if M.down then (4, none)
    else if fresh.length ≠ M.B ∨ live.length ≠ M.B ∨ reserve < 0 ∨ bad < 0 then (1, none)
    else if (List.range M.B).all (fun k => !wrongB M.P (fresh.getD k false) (live.getD k 0)) then (0, some ⟨firstL M.view fresh live M.B, -1, reserve, bad, evenB (firstL M.view fresh live M.B)⟩)
    else (1, none)) := Lib.hid rfl
  have HU := Lib.hid (Up_any h)
  have HC := Lib.hid h
  have HOK := Lib.hid hok
  have HF := Lib.hid hf
  have HL := Lib.hid hl
  have hSz := ok_S hok
  have HBL := Lib.hid (ok_len hok)
  have hB : Hid (8 ≤ M.B ∧ M.B ≤ 128 ∧ M.P ≤ 32) := Lib.hid (by
    have : NP.rightB M.B M.P M.S = true := hok.right
    unfold NP.rightB at this
    simp only [Bool.and_eq_true, decide_eq_true_eq] at this
    omega)
  clear h hok hf hl hSz
  by_cases hd : M.down = true
  · rw [hd] at HU
    rw [hd, if_pos rfl] at HDEF
    go_enter Try.func38, Try.ntmps38
    go_wp2_with fail
    refine HU.out.mono ?_
    rintro e w' ⟨rfl, rfl⟩
    go_wp2_with fail
    go_ret2
    exact OpenPost.no HDEF.out (Below.refl _ _)
  have hd' : M.down = false := by simpa using hd
  rw [hd', if_neg (by decide)] at HDEF
  rw [hd'] at HU
  clear hd hd'
  by_cases hbad : fresh.length ≠ M.B ∨ live.length ≠ M.B ∨ reserve < 0 ∨ bad < 0
  · rw [if_pos hbad] at HDEF
    have hp : ((fresh.length : Int) != (M.B : Int)) = true ∨ (((fresh.length : Int) != (M.B : Int)) = false ∧ ((live.length : Int) != (M.B : Int)) = true) ∨ (((fresh.length : Int) != (M.B : Int)) = false ∧ ((live.length : Int) != (M.B : Int)) = false ∧ reserve < 0) ∨ (((fresh.length : Int) != (M.B : Int)) = false ∧ ((live.length : Int) != (M.B : Int)) = false ∧ ¬ reserve < 0 ∧ bad < 0) := by
      by_cases h1 : fresh.length = M.B
      · have e1 : ((fresh.length : Int) != (M.B : Int)) = false := by rw [h1]; simp
        by_cases h2 : live.length = M.B
        · have e2 : ((live.length : Int) != (M.B : Int)) = false := by rw [h2]; simp
          by_cases h3 : reserve < 0
          · exact .inr (.inr (.inl ⟨e1, e2, h3⟩))
          · exact .inr (.inr (.inr ⟨e1, e2, h3, by omega⟩))
        · exact .inr (.inl ⟨e1, by simp only [bne_iff_ne, ne_eq]; omega⟩)
      · exact .inl (by simp only [bne_iff_ne, ne_eq]; omega)
    have HPP := Lib.hid hp
    clear hbad hp
    go_enter Try.func38, Try.ntmps38
    go_wp2_with fail
    refine HU.out.mono ?_
    rintro e w' ⟨rfl, rfl⟩
    go_wp2_with fail
    refine (Geo_any HC.out).mono ?_
    rintro e w1 ⟨rfl, hb1⟩
    have HB1 := Lib.hid hb1
    clear hb1
    go_upto_region 6 with fail
    have G0 := Lib.hid (Blk.new w1 23 #[vi M.B, vi M.P, vi M.S])
    have HB2 := Lib.hid (HB1.out.alloc HB1.out.size (.cells #[vi M.B, vi M.P, vi M.S] 23))
    generalize w1.alloc (.cells #[vi M.B, vi M.P, vi M.S] 23) = w2 at *
    generalize w1.heap.size = gb at *
    have c0 : w2.cell? ⟨gb, 0, none⟩ = some (vi M.B) := G0.out.cell 0
    rcases HPP.out with e1 | ⟨e1, e2⟩ | ⟨e1, e2, e3⟩ | ⟨e1, e2, e3, e4⟩
    all_goals
      go_wp2_with fail
      go_ret2
      exact OpenPost.no HDEF.out HB2.out
  rw [if_neg hbad] at HDEF
  have h1 : fresh.length = M.B := by omega
  have h2 : live.length = M.B := by omega
  have h3 : ¬ reserve < 0 := by omega
  have h4 : ¬ bad < 0 := by omega
  have H1 := Lib.hid h1
  have H2 := Lib.hid h2
  have q1 : ((fresh.length : Int) != (M.B : Int)) = false := by rw [h1]; simp
  have q2 : ((live.length : Int) != (M.B : Int)) = false := by rw [h2]; simp
  clear hbad h1 h2
  go_enter Try.func38, Try.ntmps38
  go_wp2_with fail
  refine HU.out.mono ?_
  rintro e w' ⟨rfl, rfl⟩
  go_wp2_with fail
  refine (Geo_any HC.out).mono ?_
  rintro e w1 ⟨rfl, hb1⟩
  have HB1 := Lib.hid hb1
  clear hb1
  go_upto_region 6 with fail
  have G0 := Lib.hid (Blk.new w1 23 #[vi M.B, vi M.P, vi M.S])
  have HB2 := Lib.hid (HB1.out.alloc HB1.out.size (.cells #[vi M.B, vi M.P, vi M.S] 23))
  have HGS := Lib.hid HB1.out.size
  generalize w1.alloc (.cells #[vi M.B, vi M.P, vi M.S] 23) = w2 at *
  generalize w1.heap.size = gb at *
  have c0 : w2.cell? ⟨gb, 0, none⟩ = some (vi M.B) := G0.out.cell 0
  go_upto_region 9 with fail
  have G1 := Lib.hid (G0.out.alloc (.cells #[ptr k, .slice none 0 0, vi (-1), vi reserve, vi bad, .bool false] 118))
  have ST : Hid (OpenSt w' k w2.heap.size reserve bad (firstL M.view fresh live 0) (.slice none 0 0) (w2.alloc (.cells #[ptr k, .slice none 0 0, vi (-1), vi reserve, vi bad, .bool false] 118))) := Lib.hid
    ⟨HB2.out.alloc HB2.out.size _, Blk.new _ _ _, World.ownsRow_nil _ _ _ _, HB2.out.size⟩
  clear c0 q1 q2 h3 h4 G0 HB1 HB2
  generalize w2.alloc (.cells #[ptr k, .slice none 0 0, vi (-1), vi reserve, vi bad, .bool false] 118) = w3 at *
  generalize w2.heap.size = m at *
  go_wp2_with fail
  go_loopw [53] (fun i wr => ∃ (n : Nat) (v : Value), n ≤ live.length ∧ i = vi n ∧ Hid (OpenSt w' k m reserve bad (firstL M.view fresh live n) v wr) ∧ Hid ((List.range n).all (fun k => !wrongB M.P (fresh.getD k false) (live.getD k 0)) = true) ∧ Hid (Blk wr gb 23 #[vi M.B, vi M.P, vi M.S])) (fun i _ => live.length - (intOf i).toNat)
  case atStart => exact ⟨0, _, Nat.zero_le _, rfl, ST, Lib.hid rfl, G1⟩
  case round =>
    clear ST G1
    obtain ⟨n, v, hn1, rfl, st, hall, hg⟩ := hrel
    by_cases hlt : n < live.length
    · obtain ⟨lb, lo, rfl, hlc⟩ := (HL.out.below st.out.below).lookup hlt
      obtain ⟨fb, fo, rfl, hfc⟩ := (HF.out.old st.out.below).lookup (i := n) (by rw [H1.out, ← H2.out]; exact hlt)
      have hgp : wr.cell? ⟨gb, 1, none⟩ = some (vi M.P) := hg.out.cell 1
      have q3 : (0 : Int) ≤ (n : Int) := by omega
      have q4 : (n : Int) < (fresh.length : Int) := by rw [H1.out, ← H2.out]; omega
      have HNO : Hid (wrongB M.P (fresh.getD n false) (live.getD n 0) = true → openG M.view fresh live reserve bad = (1, none)) := Lib.hid (fun hw => by
        rw [HDEF.out, if_neg]
        have := all_range_not (f := fun k => !wrongB M.P (fresh.getD k false) (live.getD k 0)) (n := n) (B := M.B) (by rw [← H2.out]; exact hlt) (by simp only [hw]; rfl)
        rw [this]; decide)
      have HNX : Hid (wrongB M.P (fresh.getD n false) (live.getD n 0) = false → (List.range (n + 1)).all (fun k => !wrongB M.P (fresh.getD k false) (live.getD k 0)) = true) := Lib.hid (fun hw => by
        rw [all_range_succ, hall.out]; simp only [hw]; rfl)
      have HFS := Lib.hid (firstL_succ M.view fresh live n)
      have HWR : Hid (wrongB M.P (fresh.getD n false) (live.getD n 0) = (decide ((live.getD n 0) < 0) || decide ((M.P : Int) < (live.getD n 0)) || ((fresh.getD n false) && decide (0 < (live.getD n 0))))) := Lib.hid rfl
      generalize live.getD n 0 = x at *
      generalize fresh.getD n false = f at *
      generalize firstL M.view fresh live n = l at *
      by_cases hw : wrongB M.P f x = true
      · have HQ := Lib.hid (HNO.out hw)
        rw [HWR.out] at hw
        have hp : x < 0 ∨ (¬ x < 0 ∧ (M.P : Int) < x) ∨ (¬ x < 0 ∧ ¬ (M.P : Int) < x ∧ f = true ∧ 0 < x) := by
          simp only [Bool.or_eq_true, Bool.and_eq_true, decide_eq_true_eq] at hw
          rcases hw with (hw | hw) | hw
          · exact .inl hw
          · by_cases e : x < 0
            · exact .inl e
            · exact .inr (.inl ⟨e, hw⟩)
          · by_cases e : x < 0
            · exact .inl e
            · by_cases e2 : (M.P : Int) < x
              · exact .inr (.inl ⟨e, e2⟩)
              · exact .inr (.inr ⟨e, e2, hw⟩)
        have HB := Lib.hid st.out.below
        clear hw HNO HNX HFS HWR hall hg st
        rcases hp with e | ⟨e, e2⟩ | ⟨e, e2, rfl, e4⟩
        all_goals
          go_wp2_with fail
          go_ret2
          exact OpenPost.no HQ.out HB.out
      · have hw' : wrongB M.P f x = false := by simpa using hw
        have HALL := Lib.hid (HNX.out hw')
        rw [HWR.out] at hw'
        simp only [Bool.or_eq_false_iff, Bool.and_eq_false_iff, decide_eq_false_iff_not] at hw'
        obtain ⟨⟨e1, e2⟩, e3⟩ := hw'
        have E3 := Lib.hid e3
        clear hw HNO HNX HWR hall e3
        go_upto_region 12 with fail
        go_cut [75] from 54 to 107 (fun v wx => v = .bool false ∧ wx = wr)
        case first =>
          rcases E3.out with rfl | e3
          · go_wp2_with fail
            go_meet
            exact ⟨rfl, rfl⟩
          · have e4 : decide (0 < x) = false := decide_eq_false e3
            cases f
            · go_wp2_with fail
              go_meet
              exact ⟨rfl, rfl⟩
            · go_wp2_with fail
              go_meet
              exact ⟨rfl, rfl⟩
        case rest =>
        obtain ⟨rfl, rfl⟩ := hcut
        have HC1 := Lib.hid (HC.out.old st.out.below)
        have HWV : Hid (wearM M n = NP.wearAt M.view n) := Lib.hid (wearM_view M HOK.out n)
        have HBV : Hid (badM M n = NP.badAt M.view n) := Lib.hid (bad_view M n HBL.out)
        have HWE := Lib.hid (fun w' (hc : ChipAt base w' k M) => Wear_any hc n)
        have HBA := Lib.hid (fun w' (hc : ChipAt base w' k M) => Bad_any hc n)
        rw [HWV.out] at HWE
        rw [HBV.out] at HBA
        have HFB : Hid (firstB M.view f x n = if NP.badAt M.view n then ⟨4, 0, NP.wearAt M.view n, 0⟩ else if f then ⟨0, 0, NP.wearAt M.view n, 0⟩ else if 0 < x then ⟨2, x, NP.wearAt M.view n, 0⟩ else ⟨3, 0, NP.wearAt M.view n, 0⟩) := Lib.hid rfl
        clear HWV HBV
        generalize NP.wearAt M.view n = wv at *
        generalize NP.badAt M.view n = bv at *
        go_wp2_with fail
        refine (HWE.out _ HC1.out).mono ?_
        rintro e wx ⟨rfl, rfl⟩
        go_upto_block 3 with fail
        have A0 := alloc_box wx #[vi 3, vi 0, vi wv, vi 0] 121
        have F3 := Lib.hid (Blk.new wx 121 #[vi 3, vi 0, vi wv, vi 0])
        have S3 := Lib.hid (st.out.old A0)
        have G3 := Lib.hid (hg.out.old A0)
        have HC3 := Lib.hid (HC1.out.old A0)
        have hfc3 := cell_below hfc A0
        have HLW : Hid (w'.heap.size ≤ wx.heap.size ∧ v.ownBlock ≠ some wx.heap.size ∧ wx.heap.size ≠ m) := Lib.hid ⟨st.out.below.size, (fun e => by
          obtain ⟨_, cur, hbk⟩ := st.out.own.row _ e
          have := hbk.lt
          omega), (fun e => by have := st.out.mgr.lt; omega)⟩
        have HGB : Hid (wx.heap.size ≠ gb) := Lib.hid (fun e => by have := hg.out.lt; omega)
        clear st hg hgp hlc hfc HC1 A0
        generalize wx.alloc (.cells #[vi 3, vi 0, vi wv, vi 0] 121) = w4 at *
        generalize wx.heap.size = gx at *
        have b0 : w4.cell? ⟨gx, 0, none⟩ = some (vi 3) := F3.out.cell 0
        have b1 : w4.cell? ⟨gx, 1, none⟩ = some (vi 0) := F3.out.cell 1
        have y0 := F3.out.frozen 0
        have y1 := F3.out.frozen 1
        go_cut [14] from 54 to 107 (fun v14 wy => v14 = vi n ∧ Hid (OpenSt w' k m reserve bad l v wy) ∧ Hid (Blk wy gb 23 #[vi M.B, vi M.P, vi M.S]) ∧ Hid (Blk wy gx 121 #[vi (firstB M.view f x n).s, vi (firstB M.view f x n).l, vi (firstB M.view f x n).r, vi (firstB M.view f x n).n]))
        case first =>
          go_wp2_with fail
          refine (HBA.out _ HC3.out).mono ?_
          rintro e wy ⟨rfl, rfl⟩
          cases bv
          · cases f
            · by_cases hx : 0 < x
              · have hxd : decide (0 < x) = true := decide_eq_true hx
                have HV : Hid (firstB M.view false x n = ⟨2, x, wv, 0⟩) := Lib.hid (by rw [HFB.out]; simp [hx])
                clear hx
                go_wp2_with fail
                go_meet
                refine ⟨rfl, Lib.hid ((S3.out.var HLW.out.1 HLW.out.2.1 HLW.out.2.2 _).var HLW.out.1 HLW.out.2.1 HLW.out.2.2 _), Lib.hid ((G3.out.far (p := ⟨gx, 0, none⟩) HGB.out.symm _).far (p := ⟨gx, 1, none⟩) HGB.out.symm _), Lib.hid ?_⟩
                rw [HV.out]
                exact (F3.out.set_ 0 _).set_ 1 _
              · have hxd : decide (0 < x) = false := decide_eq_false hx
                have HV : Hid (firstB M.view false x n = ⟨3, 0, wv, 0⟩) := Lib.hid (by rw [HFB.out]; simp [hx])
                clear hx
                go_wp2_with fail
                go_meet
                refine ⟨rfl, S3, G3, Lib.hid ?_⟩
                rw [HV.out]
                exact F3.out
            · have HV : Hid (firstB M.view true x n = ⟨0, 0, wv, 0⟩) := Lib.hid (by rw [HFB.out]; rfl)
              go_wp2_with fail
              go_meet
              refine ⟨rfl, Lib.hid (S3.out.var HLW.out.1 HLW.out.2.1 HLW.out.2.2 _), Lib.hid (G3.out.far (p := ⟨gx, 0, none⟩) HGB.out.symm _), Lib.hid ?_⟩
              rw [HV.out]
              exact F3.out.set_ 0 _
          · have HV : Hid (firstB M.view f x n = ⟨4, 0, wv, 0⟩) := Lib.hid (by rw [HFB.out]; rfl)
            go_wp2_with fail
            go_meet
            refine ⟨rfl, Lib.hid (S3.out.var HLW.out.1 HLW.out.2.1 HLW.out.2.2 _), Lib.hid (G3.out.far (p := ⟨gx, 0, none⟩) HGB.out.symm _), Lib.hid ?_⟩
            rw [HV.out]
            exact F3.out.set_ 0 _
        case rest =>
        obtain ⟨rfl, S4, G4, F4⟩ := hcut
        clear b0 b1 y0 y1 S3 G3 F3 HC3 hfc3 HFB HWE HBA E3
        generalize firstB M.view f x n = z at *
        obtain ⟨zs, zl, zr, zn⟩ := z
        dsimp only at F4
        have k0 : wc.cell? ⟨gx, 0, none⟩ = some (vi zs) := F4.out.cell 0
        have k1 : wc.cell? ⟨gx, 1, none⟩ = some (vi zl) := F4.out.cell 1
        have k2 : wc.cell? ⟨gx, 2, none⟩ = some (vi zr) := F4.out.cell 2
        have k3 : wc.cell? ⟨gx, 3, none⟩ = some (vi zn) := F4.out.cell 3
        have hgl : gx < wc.heap.size := F4.out.lt
        have hml : m < wc.heap.size := S4.out.mgr.lt
        obtain ⟨v5, w5, hrun, ho5, hg5⟩ := append_block (S4.out.old (Below.refl _ _).drew).own ⟨zs, zl, zr, zn⟩ (by
          have h1 : l.length = n := by
            have := congrArg List.length HFS.out
            rw [firstL_length, List.length_append] at this
            simpa using this.symm
          have h2 := hB.out
          have h3 := H2.out
          omega) S4.out.below.size
        have RA : AppRun 76 76 76 v (.slice (some ⟨wc.heap.size, 0, none⟩) 1 1) (wc.alloc (.cells #[vi zs, vi zl, vi zr, vi zn] 121)).drew v5 w5 := hrun
        have S5 := Lib.hid ((S4.out.old (Below.refl _ _).drew).next (x := ⟨zs, zl, zr, zn⟩) ho5 hg5)
        obtain ⟨av, cv, hv⟩ := S4.out.own.form
        have c1 : wc.cell? ⟨m, 1, none⟩ = some v := S4.out.mgr.cell 1
        have hc5 : Blk w5 m 118 _ := ((S4.out.mgr.drew).alloc (.cells #[vi zs, vi zl, vi zr, vi zn] 121)).grown hg5 (own_blk_ne ((S4.out.old (Below.refl _ _).drew).own.old ((Below.refl _ _).alloc (Nat.le_refl _) (.cells #[vi zs, vi zl, vi zr, vi zn] 121))) ((S4.out.mgr.drew).alloc _) (by decide))
        have d1 : w5.cell? ⟨m, 1, none⟩ = some v := hc5.cell 1
        have y1 := hc5.frozen 1
        have G5 : Hid (Blk (w5.setCell ⟨m, 1, none⟩ v5) gb 23 #[vi M.B, vi M.P, vi M.S]) := Lib.hid (by
          have h1 := ((G4.out.drew).alloc (.cells #[vi zs, vi zl, vi zr, vi zn] 121)).grown hg5 (own_blk_ne ((S4.out.old (Below.refl _ _).drew).own.old ((Below.refl _ _).alloc (Nat.le_refl _) (.cells #[vi zs, vi zl, vi zr, vi zn] 121))) ((G4.out.drew).alloc _) (by decide))
          refine h1.far (p := ⟨m, 1, none⟩) (fun e => ?_) _
          subst e
          unfold Blk at h1 hc5
          rw [hc5] at h1
          injection h1 with h1
          injection h1 with _ h1
          exact absurd h1 (by decide))
        obtain ⟨av5, cv5, hv5'⟩ := ho5.form
        have hv5 : v5 = .slice av5 (l.length + 1) cv5 := by rw [hv5']; simp
        subst hv hv5
        have hl128 : live.length ≤ 128 := by have h2 := hB.out; have h3 := H2.out; omega
        clear hv5' hrun ho5 hg5 hc5 F4 S4 G4
        go_upto_region 21 with fail
        go_region_law (refine step_app (.tmp 101) (.tmp 103) RA (by rfl) (by rfl) (by go_simp) (by go_simp) ?_)
        all_goals
          go_wp2_with fail
          go_roundw
          case rel => exact ⟨n + 1, _, by omega, by go_num, Lib.hid (by rw [HFS.out]; exact S5.out), HALL, G5⟩
          case measure => simp [intOf]; omega
    · obtain rfl : n = live.length := by omega
      have HE : Hid (openG M.view fresh live reserve bad = (0, some ⟨firstL M.view fresh live live.length, -1, reserve, bad, evenB (firstL M.view fresh live live.length)⟩)) := Lib.hid (by
        have h0 := hall.out
        rw [H2.out] at h0 ⊢
        rw [HDEF.out, if_pos h0])
      have HLN : Hid ((firstL M.view fresh live live.length).length = live.length) := Lib.hid (firstL_length _ _ _ _)
      have HBB : Hid (live.length = M.B ∧ 8 ≤ M.B ∧ M.B ≤ 128) := Lib.hid ⟨H2.out, hB.out.1, hB.out.2.1⟩
      have HEV : Hid (evenB (firstL M.view fresh live live.length) = decide (4 < wrap64 (gcs.greatestL (firstL M.view fresh live live.length) - gcs.leastL (firstL M.view fresh live live.length)))) := Lib.hid rfl
      clear hall hg HDEF HL HF hn1 hlt
      generalize firstL M.view fresh live live.length = l at *
      obtain ⟨gl, cl, rfl, harr, hgl⟩ := Arr.of_own st.out.own (by rw [HLN.out]; have := HBB.out; omega)
      have HRW : Hid (∀ w'', Below wr.heap.size wr w'' → gcs.Row w'' (.slice (some ⟨gl, 0, none⟩) l.length cl) l) := Lib.hid (fun w'' hb => by
        have ha := harr.old hb
        obtain ⟨cur, _, g1, g2, _⟩ := ha.blk
        refine ⟨by unfold maxLen at g2; omega, _, _, rfl, .inr ⟨gl, 0, rfl, fun i hi => ?_⟩⟩
        have hc : ∀ j, j < 4 → w''.cell? ⟨gl, i * 4 + j, none⟩ = (gcells (l.getD i default))[j]? := fun j hj => by
          rw [ha.cell (by omega), flat_get gcells_len default _ _ _ hi hj]
        rw [Nat.zero_add]
        exact ⟨hc 0 (by decide), hc 1 (by decide), hc 2 (by decide), hc 3 (by decide)⟩)
      have HG : Hid (∀ w'', Below wr.heap.size wr w'' → Calls Try.prog 83 #[.slice (some ⟨gl, 0, none⟩) l.length cl] w'' fun e w3 => e = .returned (vi (gcs.greatestL l)) ∧ Below w''.heap.size w'' w3) := Lib.hid (fun w'' hb => gcs.Greatest_any _ _ _ (HRW.out _ hb))
      have HLE : Hid (∀ w'', Below wr.heap.size wr w'' → Calls Try.prog 84 #[.slice (some ⟨gl, 0, none⟩) l.length cl] w'' fun e w3 => e = .returned (vi (gcs.leastL l)) ∧ Below w''.heap.size w'' w3) := Lib.hid (fun w'' hb => gcs.Least_any _ _ _ (HRW.out _ hb))
      have HARR := Lib.hid harr
      have HGL := Lib.hid hgl
      clear harr hgl HRW
      have c1 : wr.cell? ⟨m, 1, none⟩ = some (.slice (some ⟨gl, 0, none⟩) l.length cl) := st.out.mgr.cell 1
      have C1 := Lib.hid (show wr.drew.cell? ⟨m, 1, none⟩ = some (.slice (some ⟨gl, 0, none⟩) l.length cl) from c1)
      have hadr : Hid ((⟨m, 5, none⟩ : Addr) ≠ ⟨m, 1, none⟩) := Lib.hid (fun e => by injection e with _ e; cases e)
      have BD := Lib.hid (Below.drew (Below.refl wr.heap.size wr))
      generalize gcs.greatestL l = xg at *
      generalize gcs.leastL l = xl at *
      have HD5 : Hid (∀ w'', Below wr.heap.size wr w'' → w''.cell? ⟨m, 5, none⟩ = some (.bool false) ∧ w''.frozen? ⟨m, 5, none⟩ = false) := Lib.hid (fun w'' hb => ⟨(st.out.mgr.old hb).cell 5, (st.out.mgr.old hb).frozen 5⟩)
      clear c1
      go_upto_region 23 with fail
      go_region_held3 (fun w' => w'.cell? ⟨m, 1, none⟩ = some (.slice (some ⟨gl, 0, none⟩) l.length cl))
        (first
          | exact C1.out
          | exact cell_below C1.out hbe2
          | exact cell_below C1.out hbe1
          | exact (World.cell?_setCell_other _ _ _ _ hadr.out).trans (cell_below C1.out hbe2))
        (first
          | (go_at_call 83; refine (HG.out _ BD.out).mono ?_; rintro e wa ⟨rfl, hbe1⟩; have BA := Lib.hid (BD.out.trans (hbe1.mono (Nat.le_refl _))))
          | (go_at_call 84; refine (HLE.out _ BA.out).mono ?_; rintro e wb ⟨rfl, hbe⟩; have hbe2 := hbe1.trans (hbe.mono hbe1.size); have BB := Lib.hid (BD.out.trans (hbe2.mono (Nat.le_refl _))); have x5 := (HD5.out _ BB.out).1; have y5 := (HD5.out _ BB.out).2))
      have HQ : Hid (decide (4 < IntKind.i64.wrap (xg - xl)) = evenB l) := Lib.hid (by rw [HEV.out, IntWalk.i64_left])
      rw [HQ.out]
      have HB9 : Hid (Below w'.heap.size w' (wb.setCell ⟨m, 5, none⟩ (.bool (evenB l)))) := Lib.hid ((st.out.below.trans (BB.out.mono st.out.below.size)).setCell (p := ⟨m, 5, none⟩) st.out.low _)
      have HK : Hid (Held base (wb.setCell ⟨m, 5, none⟩ (.bool (evenB l))) m ⟨k, l, gl, cl, -1, reserve, bad, evenB l⟩ M) := Lib.hid (by
        have hne : gl ≠ m := fun e => HARR.out.ne_blk st.out.mgr (by decide) e
        refine ⟨⟨(st.out.mgr.old BB.out).set_ 5 _, (HARR.out.old BB.out).far (p := ⟨m, 5, none⟩) hne _, ?_⟩, HC.out.old HB9.out⟩
        intro n hn
        rcases hn with rfl | rfl
        · exact Nat.le_trans hbase st.out.low
        · exact Nat.le_trans hbase HGL.out)
      have HOW : Hid (∀ n, MgM.foot ⟨k, l, gl, cl, -1, reserve, bad, evenB l⟩ m n → w'.heap.size ≤ n) := Lib.hid (by
        intro n hn
        rcases hn with rfl | rfl
        · exact st.out.low
        · exact HGL.out)
      clear hbe1 hbe hbe2 x5 y5
      generalize wb.setCell ⟨m, 5, none⟩ (.bool (evenB l)) = w9 at *
      generalize openG M.view fresh live reserve bad = R at *
      obtain rfl := HE.out
      go_wp2_with fail
      go_ret2
      exact ⟨HB9.out, m, _, rfl, HK.out, rfl, rfl, HOW.out⟩
end

end Go.Proofs.Ytpggkehfbhffbaa.mgr

/-
  A manager and the document's made: both are refused alike, or both are there. Conditions: a setup that is read, faults that are few.
-/
namespace Go.Proofs.Ytpggkehfbhffbaa.mgr
open Go.RowKit

theorem results_tmp5 {fn : Func} {t u v x y : Tmp} (h : fn.results = #[.tmp t, .tmp u, .tmp v, .tmp x, .tmp y]) (tmps : Array Value) (P : Program) (w : World) :
    (results fn tmps).run P w = .ok (.tuple #[tmps.getD t undef, tmps.getD u undef, tmps.getD v undef, tmps.getD x undef, tmps.getD y undef]) w := by
  simp [results, h]
theorem fwt_len6 : ∀ l : List FltM, l.length ≤ fwt l ∧ ∀ f ∈ l, f.l.length ≤ fwt l
  | [] => ⟨Nat.le_refl _, by simp⟩
  | f :: l => by
    obtain ⟨h1, h2⟩ := fwt_len6 l
    refine ⟨by simp only [List.length_cons, fwt]; omega, fun g hg => ?_⟩
    rcases List.mem_cons.1 hg with rfl | hg
    · simp only [fwt]; omega
    · have := h2 g hg; simp only [fwt]; omega
theorem openG_none {c : NP.Chp} {fresh : List Bool} {live : List Int} {reserve bad e : Int} (h : openG c fresh live reserve bad = (e, none)) : e ≠ 0 := by
  unfold openG at h
  split at h
  · injection h with h; omega
  · split at h
    · injection h with h; omega
    · split at h
      · injection h with _ h; cases h
      · injection h with h; omega
/-- What is made. -/
def BothPost (base : Nat) (w : World) (x : Set6) (e : Ending) (w' : World) : Prop :=
  (e = .returned (.tuple #[.pointer none, .pointer none, .pointer none, .bool false, .bool true]) ∧ Below w.heap.size w w') ∨
  ∃ m G M r H R V, e = .returned (.tuple #[ptr m, ptr G.k, ptr r, .bool true, .bool true]) ∧ B6 base w' m G M r H R ∧ Below w.heap.size w w' ∧ (∀ n, foot2 m G M r H R n → w.heap.size ≤ n) ∧
    NP.new x.b x.p x.s x.x = some V ∧ M.view = (NP.script V (x.f.map (·.view))).2 ∧ openG M.view x.n x.l x.reserve x.first = (0, some G.view)
section
variable {base : Nat} {w : World}
set_option maxRecDepth 100000 in
set_option maxHeartbeats 8000000 in
theorem both_any (x : Set6) (hx : x.ok base w) (hbase : base ≤ w.heap.size) (hf : fwt x.f ≤ 9000) : Calls Try.prog 49 #[.agg x.cs] w (BothPost base w x) := by
  obtain ⟨xb, xp, xs, xa, xx, xc, fa, xf, fc, na, xn, nc, la, xl, lc, reserve, first⟩ := x
  have HX0 := Lib.hid hx
  have hl1 := hx.lx
  dsimp only at hl1
  have HF : Hid (xf.length ≤ 9000 ∧ ∀ f ∈ xf, f.l.length ≤ 9000) := Lib.hid (by
    obtain ⟨h1, h2⟩ := fwt_len6 xf
    have hf' : fwt xf ≤ 9000 := hf
    exact ⟨by omega, fun f h => by have := h2 f h; omega⟩)
  clear hx hf
  change Calls Try.prog 49 #[.agg #[vi xb, vi xp, vi xs, .slice xa xx.length xc, .slice fa xf.length fc, .slice na xn.length nc, .slice la xl.length lc, vi reserve, vi first]] w _
  have F0 := Blk.new w 80 #[vi xb, vi xp, vi xs, .slice xa xx.length xc, .slice fa xf.length fc, .slice na xn.length nc, .slice la xl.length lc, vi reserve, vi first]
  have HB := Lib.hid (alloc_box w #[vi xb, vi xp, vi xs, .slice xa xx.length xc, .slice fa xf.length fc, .slice na xn.length nc, .slice la xl.length lc, vi reserve, vi first] 80)
  have HX := Lib.hid (HX0.out.old HB.out)
  have HLW : Hid (w.heap.size < (w.alloc (.cells #[vi xb, vi xp, vi xs, .slice xa xx.length xc, .slice fa xf.length fc, .slice na xn.length nc, .slice la xl.length lc, vi reserve, vi first] 80)).heap.size) := Lib.hid (by rw [size_alloc]; omega)
  go_enter Try.func49, Try.ntmps49
  go_upto_region 1 with fail
  generalize w.alloc (.cells #[vi xb, vi xp, vi xs, .slice xa xx.length xc, .slice fa xf.length fc, .slice na xn.length nc, .slice la xl.length lc, vi reserve, vi first] 80) = w1 at *
  have G0 := Lib.hid F0
  clear F0
  have c0 : w1.cell? ⟨w.heap.size, 0, none⟩ = some (vi xb) := G0.out.cell 0
  have c1 : w1.cell? ⟨w.heap.size, 1, none⟩ = some (vi xp) := G0.out.cell 1
  have c2 : w1.cell? ⟨w.heap.size, 2, none⟩ = some (vi xs) := G0.out.cell 2
  have c3 : w1.cell? ⟨w.heap.size, 3, none⟩ = some (.slice xa xx.length xc) := G0.out.cell 3
  go_wp2_with fail
  refine (New_any base xb xp xs xa xx xc _ HX.out.bad (by omega) (Nat.le_trans hbase HB.out.size)).mono ?_
  cases hn : NP.new xb xp xs xx with
  | none =>
    have HN := Lib.hid hn
    rintro e w2 ⟨rfl, hb2⟩
    have HB2 := Lib.hid (HB.out.trans (hb2.mono HB.out.size))
    have HX2 := Lib.hid (HX.out.old hb2)
    have c0 := cell_below c0 hb2
    have c1 := cell_below c1 hb2
    have c2 := cell_below c2 hb2
    have c3 := cell_below c3 hb2
    clear hb2 hn
    go_wp2_with fail
    refine (rNew_any base xb xp xs xa xx xc _ HX2.out.bad (by omega) (Nat.le_trans hbase HB2.out.size)).mono ?_
    rw [HN.out]
    rintro e w3 ⟨rfl, hb3⟩
    have HB3 := Lib.hid (HB2.out.trans (hb3.mono HB2.out.size))
    clear hb3 c0 c1 c2 c3
    go_wp2_with fail
    refine bodyPost_ret (results_tmp5 rfl _ _ _) rfl ?_
    exact .inl ⟨rfl, HB3.out⟩
  | some V =>
    have HN := Lib.hid hn
    rintro e w2 ⟨k, M, rfl, hm, hv⟩
    have HM := Lib.hid hm
    have HV := Lib.hid hv
    have HB2 := Lib.hid (HB.out.trans (hm.below.mono HB.out.size))
    have HX2 := Lib.hid (HX.out.old hm.below)
    have G2 := Lib.hid (G0.out.old hm.below)
    clear c0 c1 c2 c3 hn
    have c0 : w2.cell? ⟨w.heap.size, 0, none⟩ = some (vi xb) := G2.out.cell 0
    have c1 : w2.cell? ⟨w.heap.size, 1, none⟩ = some (vi xp) := G2.out.cell 1
    have c2 : w2.cell? ⟨w.heap.size, 2, none⟩ = some (vi xs) := G2.out.cell 2
    have c3 : w2.cell? ⟨w.heap.size, 3, none⟩ = some (.slice xa xx.length xc) := G2.out.cell 3
    clear hm hv HX G0 HB
    go_wp2_with fail
    refine (rNew_any base xb xp xs xa xx xc _ HX2.out.bad (by omega) (Nat.le_trans hbase HB2.out.size)).mono ?_
    rw [HN.out]
    rintro e w3 ⟨q, R, rfl, hm2, hv2⟩
    have HT : Hid (Two base w3 k M q R) := Lib.hid ⟨HM.out.at_.old hm2.below, hm2.at_, fun n h1 h2 => by
      have h3 := HM.out.at_.lt n h1
      have h4 := hm2.own n h2
      omega⟩
    have HO : Hid (∀ n, Go.Proofs.Ytpggkehfbhffbaa.foot2 k M q R n → w1.heap.size ≤ n) := Lib.hid (fun n h => by
      rcases h with h | h
      · exact HM.out.own n h
      · exact Nat.le_trans HM.out.below.size (hm2.own n h))
    have HB3 := Lib.hid (HB2.out.trans (hm2.below.mono HB2.out.size))
    have HX3 := Lib.hid (HX2.out.old hm2.below)
    have G3 := Lib.hid (G2.out.old hm2.below)
    have HS : Hid (M.view = R.view) := Lib.hid (HV.out.trans hv2.symm)
    have HX3W : Hid (w1.heap.size ≤ w3.heap.size) := Lib.hid (Nat.le_trans HM.out.below.size hm2.below.size)
    have HG : Hid (Good6 M.view) := Lib.hid (by rw [HV.out]; exact new_good6 HN.out)
    clear c0 c1 c2 c3 hm2 hv2 HX2 G2 HB2 HM
    have HLT : Hid (∀ n, Go.Proofs.Ytpggkehfbhffbaa.foot2 k M q R n → w.heap.size < n) := Lib.hid (fun n h => by have := HO.out n h; have := HLW.out; omega)
    have HK : Hid (∀ w', Chg (Go.Proofs.Ytpggkehfbhffbaa.foot2 k M q R) w3 w' → w'.cell? ⟨w.heap.size, 4, none⟩ = some (.slice fa xf.length fc)) := Lib.hid (fun w' c => by
      have := G3.out.chg c (fun e => by have := HLT.out _ e; omega)
      exact this.cell 4)
    have HA : Hid (∀ w', Chg (R.foot q) w3 w' → Calls Try.prog 24 #[ptr k, .slice fa xf.length fc] w' fun e w2 => ∃ M', e = .returned (vi (NP.script M.view (xf.map (·.view))).1) ∧ Goes base w' k M w2 M' ∧ M'.view = (NP.script M.view (xf.map (·.view))).2) := Lib.hid (fun w' c => Script_any (HT.out.leftAt c) (Nat.le_trans hbase (Nat.le_trans HB3.out.size c.size)) fa xf fc (HX3.out.faults.chg c HT.out.b.mine) (fun f hf => by have := HF.out.2 f hf; omega) (by have := HF.out.1; omega))
    have HR : Hid (∀ w', Chg (M.foot k) w3 w' → Calls Try.prog 69 #[ptr q, .slice fa xf.length fc] w' fun e w2 => ∃ R', e = .returned (vi (NP.script M.view (xf.map (·.view))).1) ∧ RGoes base w' q R w2 R' ∧ R'.view = (NP.script M.view (xf.map (·.view))).2) := Lib.hid (fun w' c => by
      rw [HS.out]
      exact rScript_any (HT.out.rightAt c) fa xf fc (HX3.out.faults.chg c HT.out.a.mine))
    have cD := Lib.hid (Chg.drew (Chg.refl (Go.Proofs.Ytpggkehfbhffbaa.foot2 k M q R) w3))
    have cR := Lib.hid (Chg.drew (Chg.refl (R.foot q) w3))
    have cM := Lib.hid (Chg.drew (Chg.refl (M.foot k) w3))
    have HBD : Hid (Below w3.heap.size w3 w3.drew) := Lib.hid (Below.refl _ _).drew
    have HSM : Hid (NP.small (xf.map (·.view))) := Lib.hid (fun f hf => by
      obtain ⟨g, hg, rfl⟩ := List.mem_map.1 hf
      exact (HX3.out.faults.data g hg).1.row.small)
    have HG2 : Hid (Good6 (NP.script M.view (xf.map (·.view))).2) := Lib.hid (HG.out.act (.script (xf.map FltM.view)) HSM.out)
    go_upto_region 5 with fail
    generalize (NP.script M.view (xf.map (·.view))).1 = sc at *
    go_region_held3 (fun w' => w'.cell? ⟨w.heap.size, 4, none⟩ = some (.slice fa xf.length fc))
      (first | exact HK.out _ cD3.out | exact HK.out _ cD2.out | exact HK.out _ cD.out)
      (first
        | (go_at_call 24; refine (HA.out _ cR.out).mono ?_; rintro e wa ⟨Ma, rfl, hga, hva⟩; have HGA := Lib.hid hga; have HVA := Lib.hid hva; have cD2 := Lib.hid (cD.out.trans hga.chg (fun n _ e => Or.inl e)); have cM2 := Lib.hid (cM.out.trans hga.chg (fun n _ e => e)); clear hga hva cR cM)
        | (go_at_call 69; refine (HR.out _ cM2.out).mono ?_; rintro e wb ⟨Ra, rfl, hgb, hvb⟩; have HGB := Lib.hid hgb; have HVB := Lib.hid hvb; have cD3 := Lib.hid (cD2.out.trans hgb.chg (fun n _ e => Or.inr e)); clear hgb hvb))
    have HT4 := Lib.hid (HT.out.ab HBD.out HGA.out HGB.out)
    have HO4 : Hid (∀ n, Go.Proofs.Ytpggkehfbhffbaa.foot2 k Ma q Ra n → w1.heap.size ≤ n) := Lib.hid (fun n h => by
      have h1 := HB3.out.size
      have h2 : w1.heap.size ≤ w3.heap.size := HX3W.out
      rcases h with h | h
      · rcases HT4.out.footM n h with e | e
        · exact HO.out n (.inl e)
        · omega
      · rcases HT4.out.footR n h with e | e
        · exact HO.out n (.inr e)
        · omega)
    have G4 := Lib.hid (G3.out.chg HT4.out.chg (fun e => by have := HLT.out _ e; omega))
    have HB4 : Hid (Below w.heap.size w wb) := Lib.hid (HB3.out.trans (HT4.out.chg.to_below (fun n _ e => by have := HLT.out n e; omega) HB3.out.size))
    have HX4 := Lib.hid (HX0.out.old HB4.out)
    have HS4 : Hid (Ra.view = Ma.view) := Lib.hid (HVB.out.trans HVA.out.symm)
    have HGM : Hid (Good6 Ma.view) := Lib.hid (by rw [HVA.out]; exact HG2.out)
    have HT5 := Lib.hid HT4.out.at_
    have HMV : Hid (Ma.view = (NP.script V (xf.map (·.view))).2) := Lib.hid (by rw [HVA.out, HV.out])
    clear HT HO HX3 G3 HB3 HK HA HR cD cD2 cD3 cM2 HBD HS HG HG2 HT4 HGA HGB HVA HVB HLT
    have d3 : wb.cell? ⟨w.heap.size, 5, none⟩ = some (.slice na xn.length nc) := G4.out.cell 5
    have d4 : wb.cell? ⟨w.heap.size, 6, none⟩ = some (.slice la xl.length lc) := G4.out.cell 6
    have d5 : wb.cell? ⟨w.heap.size, 7, none⟩ = some (vi reserve) := G4.out.cell 7
    have d6 : wb.cell? ⟨w.heap.size, 8, none⟩ = some (vi first) := G4.out.cell 8
    go_wp2_with fail
    refine (Open_any HT5.out.a HGM.out.ok (Nat.le_trans hbase HB4.out.size) na xn nc HX4.out.fresh la xl lc HX4.out.live reserve first).mono ?_
    cases ho : openG Ma.view xn xl reserve first with
    | mk n og =>
      have HOG := Lib.hid ho
      cases og with
      | none =>
        have HN0 := Lib.hid (openG_none ho)
        rintro e w5 ⟨hb5, rfl⟩
        have HB5 := Lib.hid (HB4.out.trans (hb5.mono HB4.out.size))
        have HT6 := Lib.hid (HT5.out.old hb5)
        have HX5 := Lib.hid (HX4.out.old hb5)
        have d3 := cell_below d3 hb5
        have d4 := cell_below d4 hb5
        have d5 := cell_below d5 hb5
        have d6 := cell_below d6 hb5
        clear hb5 ho
        go_wp2_with fail
        refine (rOpen_any HT6.out.b (by rw [HS4.out]; exact HGM.out.ok) (Nat.le_trans hbase HB5.out.size) na xn nc HX5.out.fresh la xl lc HX5.out.live reserve first).mono ?_
        rw [HS4.out, HOG.out]
        rintro e w6 ⟨hb6, ⟨h0, rfl⟩ | ⟨h0, -⟩⟩
        · have HB6 := Lib.hid (HB5.out.trans (hb6.mono HB5.out.size))
          have hq : (n != 0) = true := by simpa using h0
          clear hb6 d3 d4 d5 d6
          go_wp2_with fail
          refine bodyPost_ret (results_tmp5 rfl _ _ _) rfl ?_
          exact .inl ⟨rfl, HB6.out⟩
        · exact absurd h0 HN0.out
      | some g =>
        obtain ⟨hgk, rfl, -⟩ := openG_ok ho
        have HGK := Lib.hid hgk
        rintro e w5 ⟨hb5, m, G, rfl, hH, hk, hgv, hfoot⟩
        subst hk
        have HB5 := Lib.hid (HB4.out.trans (hb5.mono HB4.out.size))
        have HH := Lib.hid hH
        have HGV := Lib.hid hgv
        have HFT := Lib.hid hfoot
        have HT6 := Lib.hid (HT5.out.old hb5)
        have HX5 := Lib.hid (HX4.out.old hb5)
        have d3 := cell_below d3 hb5
        have d4 := cell_below d4 hb5
        have d5 := cell_below d5 hb5
        have d6 := cell_below d6 hb5
        have HLE : Hid (wb.heap.size ≤ w5.heap.size) := Lib.hid hb5.size
        clear hb5 ho hgk hH hgv hfoot
        go_wp2_with fail
        refine (rOpen_any HT6.out.b (by rw [HS4.out]; exact HGM.out.ok) (Nat.le_trans hbase HB5.out.size) na xn nc HX5.out.fresh la xl lc HX5.out.live reserve first).mono ?_
        rw [HS4.out, HOG.out]
        rintro e w6 ⟨hb6, ⟨h0, -⟩ | ⟨-, r, H, rfl, hR, hq, hRF⟩⟩
        · exact absurd rfl h0
        · have HB6 := Lib.hid (HB5.out.trans (hb6.mono HB5.out.size))
          clear d3 d4 d5 d6
          have HO5 : Hid (∀ n, foot2 m G Ma r H Ra n → w.heap.size ≤ n) := Lib.hid (by
            have h1 := HLW.out
            have h2 := HB4.out.size
            have h3 := HLE.out
            rintro n ((e | e) | (e | e))
            · have := HFT.out n e; omega
            · have := HO4.out n (.inl e); omega
            · have := hRF n e; omega
            · have := HO4.out n (.inr (by rw [hq] at e; exact e)); omega)
          have HB6' : Hid (B6 base w6 m G Ma r H Ra) := Lib.hid (by
            have h1 := HT6.out.a.lt
            have h2 := HH.out.lt
            have h3 := HT5.out.lt
            have h4 := HLE.out
            refine ⟨HH.out.old hb6, hR, ?_, HGM.out, by rw [HGV.out]; exact HGK.out⟩
            rintro n (e | e) (e2 | e2)
            · have := hRF n e2; have := h2 n (.inl e); omega
            · have := HFT.out n e
              rw [hq] at e2
              have := h3 n (.inr e2)
              omega
            · have := hRF n e2; have := h2 n (.inr e); omega
            · rw [hq] at e2
              exact HT5.out.apart n e e2)
          clear hb6 hR
          go_wp2_with fail
          refine bodyPost_ret (results_tmp5 rfl _ _ _) rfl ?_
          exact .inr ⟨m, G, Ma, r, H, Ra, V, rfl, HB6'.out, HB6.out, HO5.out, HN.out, HMV.out, by rw [HOG.out, HGV.out]⟩
end

end Go.Proofs.Ytpggkehfbhffbaa.mgr

