/-
  Lemmas for a law's proof, put together from several texts: each part says what it shows, and its conditions.
-/
import Derived.Test.YtnfhlocflpdlcaaGreatZT21
import Derived.Deep.CutBlock
/-
  A manager of a chip's blocks, opened: the walk. Conditions: a chip told by ChipAt; rows that can be read.
-/
namespace Go.Proofs.YtnfhlocflpdlcaaGreat.mgr
open Go.RowKit

/-- What an opening answers and leaves. -/
def OpenPost (base : Nat) (w : World) (k : Nat) (M : ChM) (r : Int × Option Mg) (e : Ending) (w' : World) : Prop :=
  Below w.heap.size w w' ∧ match r with
  | (n, none) => e = .returned (.tuple #[(.pointer none : Value), vi n])
  | (n, some g) => ∃ m G, e = .returned (.tuple #[ptr m, vi n]) ∧ Held base w' m G M ∧ G.k = k ∧ G.view = g ∧ ∀ n, G.foot m n → w.heap.size ≤ n
theorem OpenPost.no {base : Nat} {w w' : World} {k : Nat} {M : ChM} {r : Int × Option Mg} {n : Int} (hr : r = (n, none)) (hb : Below w.heap.size w w') : OpenPost base w k M r (.returned (.tuple #[(.pointer none : Value), vi n])) w' := by
  subst hr; exact ⟨hb, rfl⟩
section
variable {base : Nat} {w : World} {k : Nat} {M : ChM}
set_option maxRecDepth 100000 in
set_option maxHeartbeats 8000000 in
theorem Open_any (h : ChipAt base w k M) (hok : M.view.ok) (hbase : base ≤ w.heap.size) (fa : Option Addr) (fresh : List Bool) (fc : Nat) (hf : BoRow w fa fresh) (la : Option Addr) (live : List Int) (lc : Nat) (hl : IRow w la live) (reserve bad : Int) :
    Calls Tryz.prog 116 #[ptr k, .slice fa fresh.length fc, .slice la live.length lc, vi reserve, vi bad] w (OpenPost base w k M (openG M.view fresh live reserve bad)) := by
  have HDEF : Hid (openG M.view fresh live reserve bad = if M.down then (4, none)
    else if fresh.length ≠ M.B ∨ live.length ≠ M.B ∨ reserve < 0 ∨ bad < 0 then (1, none)
    else if (List.range M.B).all (fun k => !wrongB M.P (fresh.getD k false) (live.getD k 0)) then (0, some ⟨firstL M.view fresh live M.B, -1, reserve, bad, evenB (firstL M.view fresh live M.B)⟩)
    else (1, none)) := Lib.hid rfl
  have HU := Lib.hid (Up_any h)
  have HC := Lib.hid h
  have HOK := Lib.hid hok
  have HF := Lib.hid hf
  have HL := Lib.hid hl
  have hSz := ok_S hok
  have HBL := Lib.hid (ok_len hok)
  have hB : Hid (8 ≤ M.B ∧ M.B ≤ 128 ∧ M.P ≤ 32) := Lib.hid (by
    have : NP.rightB M.B M.P M.S = true := hok.right
    unfold NP.rightB at this
    simp only [Bool.and_eq_true, decide_eq_true_eq] at this
    omega)
  clear h hok hf hl hSz
  by_cases hd : M.down = true
  · rw [hd] at HU
    rw [hd, if_pos rfl] at HDEF
    go_enter Tryz.func116, Tryz.ntmps116
    go_wp2_with fail
    refine HU.out.mono ?_
    rintro e w' ⟨rfl, rfl⟩
    go_wp2_with fail
    go_ret2
    exact OpenPost.no HDEF.out (Below.refl _ _)
  have hd' : M.down = false := by simpa using hd
  rw [hd', if_neg (by decide)] at HDEF
  rw [hd'] at HU
  clear hd hd'
  by_cases hbad : fresh.length ≠ M.B ∨ live.length ≠ M.B ∨ reserve < 0 ∨ bad < 0
  · rw [if_pos hbad] at HDEF
    have hp : ((fresh.length : Int) != (M.B : Int)) = true ∨ (((fresh.length : Int) != (M.B : Int)) = false ∧ ((live.length : Int) != (M.B : Int)) = true) ∨ (((fresh.length : Int) != (M.B : Int)) = false ∧ ((live.length : Int) != (M.B : Int)) = false ∧ reserve < 0) ∨ (((fresh.length : Int) != (M.B : Int)) = false ∧ ((live.length : Int) != (M.B : Int)) = false ∧ ¬ reserve < 0 ∧ bad < 0) := by
      by_cases h1 : fresh.length = M.B
      · have e1 : ((fresh.length : Int) != (M.B : Int)) = false := by rw [h1]; simp
        by_cases h2 : live.length = M.B
        · have e2 : ((live.length : Int) != (M.B : Int)) = false := by rw [h2]; simp
          by_cases h3 : reserve < 0
          · exact .inr (.inr (.inl ⟨e1, e2, h3⟩))
          · exact .inr (.inr (.inr ⟨e1, e2, h3, by omega⟩))
        · exact .inr (.inl ⟨e1, by simp only [bne_iff_ne, ne_eq]; omega⟩)
      · exact .inl (by simp only [bne_iff_ne, ne_eq]; omega)
    have HPP := Lib.hid hp
    clear hbad hp
    go_enter Tryz.func116, Tryz.ntmps116
    go_wp2_with fail
    refine HU.out.mono ?_
    rintro e w' ⟨rfl, rfl⟩
    go_wp2_with fail
    refine (Geo_any HC.out).mono ?_
    rintro e w1 ⟨rfl, hb1⟩
    have HB1 := Lib.hid hb1
    clear hb1
    go_upto_region 6 with fail
    have G0 := Lib.hid (Blk.new w1 122 #[vi M.B, vi M.P, vi M.S])
    have HB2 := Lib.hid (HB1.out.alloc HB1.out.size (.cells #[vi M.B, vi M.P, vi M.S] 122))
    generalize w1.alloc (.cells #[vi M.B, vi M.P, vi M.S] 122) = w2 at *
    generalize w1.heap.size = gb at *
    have c0 : w2.cell? ⟨gb, 0, none⟩ = some (vi M.B) := G0.out.cell 0
    rcases HPP.out with e1 | ⟨e1, e2⟩ | ⟨e1, e2, e3⟩ | ⟨e1, e2, e3, e4⟩
    all_goals
      go_wp2_with fail
      go_ret2
      exact OpenPost.no HDEF.out HB2.out
  rw [if_neg hbad] at HDEF
  have h1 : fresh.length = M.B := by omega
  have h2 : live.length = M.B := by omega
  have h3 : ¬ reserve < 0 := by omega
  have h4 : ¬ bad < 0 := by omega
  have H1 := Lib.hid h1
  have H2 := Lib.hid h2
  have q1 : ((fresh.length : Int) != (M.B : Int)) = false := by rw [h1]; simp
  have q2 : ((live.length : Int) != (M.B : Int)) = false := by rw [h2]; simp
  clear hbad h1 h2
  go_enter Tryz.func116, Tryz.ntmps116
  go_wp2_with fail
  refine HU.out.mono ?_
  rintro e w' ⟨rfl, rfl⟩
  go_wp2_with fail
  refine (Geo_any HC.out).mono ?_
  rintro e w1 ⟨rfl, hb1⟩
  have HB1 := Lib.hid hb1
  clear hb1
  go_upto_region 6 with fail
  have G0 := Lib.hid (Blk.new w1 122 #[vi M.B, vi M.P, vi M.S])
  have HB2 := Lib.hid (HB1.out.alloc HB1.out.size (.cells #[vi M.B, vi M.P, vi M.S] 122))
  have HGS := Lib.hid HB1.out.size
  generalize w1.alloc (.cells #[vi M.B, vi M.P, vi M.S] 122) = w2 at *
  generalize w1.heap.size = gb at *
  have c0 : w2.cell? ⟨gb, 0, none⟩ = some (vi M.B) := G0.out.cell 0
  go_upto_region 9 with fail
  have G1 := Lib.hid (G0.out.alloc (.cells #[ptr k, .slice none 0 0, vi (-1), vi reserve, vi bad, .bool false] 234))
  have ST : Hid (OpenSt w' k w2.heap.size reserve bad (firstL M.view fresh live 0) (.slice none 0 0) (w2.alloc (.cells #[ptr k, .slice none 0 0, vi (-1), vi reserve, vi bad, .bool false] 234))) := Lib.hid
    ⟨HB2.out.alloc HB2.out.size _, Blk.new _ _ _, World.ownsRow_nil _ _ _ _, HB2.out.size⟩
  clear c0 q1 q2 h3 h4 G0 HB1 HB2
  generalize w2.alloc (.cells #[ptr k, .slice none 0 0, vi (-1), vi reserve, vi bad, .bool false] 234) = w3 at *
  generalize w2.heap.size = m at *
  go_wp2_with fail
  go_loopw [53] (fun i wr => ∃ (n : Nat) (v : Value), n ≤ live.length ∧ i = vi n ∧ Hid (OpenSt w' k m reserve bad (firstL M.view fresh live n) v wr) ∧ Hid ((List.range n).all (fun k => !wrongB M.P (fresh.getD k false) (live.getD k 0)) = true) ∧ Hid (Blk wr gb 122 #[vi M.B, vi M.P, vi M.S])) (fun i _ => live.length - (intOf i).toNat)
  case atStart => exact ⟨0, _, Nat.zero_le _, rfl, ST, Lib.hid rfl, G1⟩
  case round =>
    clear ST G1
    obtain ⟨n, v, hn1, rfl, st, hall, hg⟩ := hrel
    by_cases hlt : n < live.length
    · obtain ⟨lb, lo, rfl, hlc⟩ := (HL.out.below st.out.below).lookup hlt
      obtain ⟨fb, fo, rfl, hfc⟩ := (HF.out.old st.out.below).lookup (i := n) (by rw [H1.out, ← H2.out]; exact hlt)
      have hgp : wr.cell? ⟨gb, 1, none⟩ = some (vi M.P) := hg.out.cell 1
      have q3 : (0 : Int) ≤ (n : Int) := by omega
      have q4 : (n : Int) < (fresh.length : Int) := by rw [H1.out, ← H2.out]; omega
      have HNO : Hid (wrongB M.P (fresh.getD n false) (live.getD n 0) = true → openG M.view fresh live reserve bad = (1, none)) := Lib.hid (fun hw => by
        rw [HDEF.out, if_neg]
        have := all_range_not (f := fun k => !wrongB M.P (fresh.getD k false) (live.getD k 0)) (n := n) (B := M.B) (by rw [← H2.out]; exact hlt) (by simp only [hw]; rfl)
        rw [this]; decide)
      have HNX : Hid (wrongB M.P (fresh.getD n false) (live.getD n 0) = false → (List.range (n + 1)).all (fun k => !wrongB M.P (fresh.getD k false) (live.getD k 0)) = true) := Lib.hid (fun hw => by
        rw [all_range_succ, hall.out]; simp only [hw]; rfl)
      have HFS := Lib.hid (firstL_succ M.view fresh live n)
      have HWR : Hid (wrongB M.P (fresh.getD n false) (live.getD n 0) = (decide ((live.getD n 0) < 0) || decide ((M.P : Int) < (live.getD n 0)) || ((fresh.getD n false) && decide (0 < (live.getD n 0))))) := Lib.hid rfl
      generalize live.getD n 0 = x at *
      generalize fresh.getD n false = f at *
      generalize firstL M.view fresh live n = l at *
      by_cases hw : wrongB M.P f x = true
      · have HQ := Lib.hid (HNO.out hw)
        rw [HWR.out] at hw
        have hp : x < 0 ∨ (¬ x < 0 ∧ (M.P : Int) < x) ∨ (¬ x < 0 ∧ ¬ (M.P : Int) < x ∧ f = true ∧ 0 < x) := by
          simp only [Bool.or_eq_true, Bool.and_eq_true, decide_eq_true_eq] at hw
          rcases hw with (hw | hw) | hw
          · exact .inl hw
          · by_cases e : x < 0
            · exact .inl e
            · exact .inr (.inl ⟨e, hw⟩)
          · by_cases e : x < 0
            · exact .inl e
            · by_cases e2 : (M.P : Int) < x
              · exact .inr (.inl ⟨e, e2⟩)
              · exact .inr (.inr ⟨e, e2, hw⟩)
        have HB := Lib.hid st.out.below
        clear hw HNO HNX HFS HWR hall hg st
        rcases hp with e | ⟨e, e2⟩ | ⟨e, e2, rfl, e4⟩
        all_goals
          go_wp2_with fail
          go_ret2
          exact OpenPost.no HQ.out HB.out
      · have hw' : wrongB M.P f x = false := by simpa using hw
        have HALL := Lib.hid (HNX.out hw')
        rw [HWR.out] at hw'
        simp only [Bool.or_eq_false_iff, Bool.and_eq_false_iff, decide_eq_false_iff_not] at hw'
        obtain ⟨⟨e1, e2⟩, e3⟩ := hw'
        have E3 := Lib.hid e3
        clear hw HNO HNX HWR hall e3
        go_upto_region 12 with fail
        go_cut [75] from 54 to 107 (fun v wx => v = .bool false ∧ wx = wr)
        case first =>
          rcases E3.out with rfl | e3
          · go_wp2_with fail
            go_meet
            exact ⟨rfl, rfl⟩
          · have e4 : decide (0 < x) = false := decide_eq_false e3
            cases f
            · go_wp2_with fail
              go_meet
              exact ⟨rfl, rfl⟩
            · go_wp2_with fail
              go_meet
              exact ⟨rfl, rfl⟩
        case rest =>
        obtain ⟨rfl, rfl⟩ := hcut
        have HC1 := Lib.hid (HC.out.old st.out.below)
        have HWV : Hid (wearM M n = NP.wearAt M.view n) := Lib.hid (wearM_view M HOK.out n)
        have HBV : Hid (badM M n = NP.badAt M.view n) := Lib.hid (bad_view M n HBL.out)
        have HWE := Lib.hid (fun w' (hc : ChipAt base w' k M) => Wear_any hc n)
        have HBA := Lib.hid (fun w' (hc : ChipAt base w' k M) => Bad_any hc n)
        rw [HWV.out] at HWE
        rw [HBV.out] at HBA
        have HFB : Hid (firstB M.view f x n = if NP.badAt M.view n then ⟨4, 0, NP.wearAt M.view n, 0⟩ else if f then ⟨0, 0, NP.wearAt M.view n, 0⟩ else if 0 < x then ⟨2, x, NP.wearAt M.view n, 0⟩ else ⟨3, 0, NP.wearAt M.view n, 0⟩) := Lib.hid rfl
        clear HWV HBV
        generalize NP.wearAt M.view n = wv at *
        generalize NP.badAt M.view n = bv at *
        go_wp2_with fail
        refine (HWE.out _ HC1.out).mono ?_
        rintro e wx ⟨rfl, rfl⟩
        go_upto_block 3 with fail
        have A0 := alloc_box wx #[vi 3, vi 0, vi wv, vi 0] 236
        have F3 := Lib.hid (Blk.new wx 236 #[vi 3, vi 0, vi wv, vi 0])
        have S3 := Lib.hid (st.out.old A0)
        have G3 := Lib.hid (hg.out.old A0)
        have HC3 := Lib.hid (HC1.out.old A0)
        have hfc3 := cell_below hfc A0
        have HLW : Hid (w'.heap.size ≤ wx.heap.size ∧ v.ownBlock ≠ some wx.heap.size ∧ wx.heap.size ≠ m) := Lib.hid ⟨st.out.below.size, (fun e => by
          obtain ⟨_, cur, hbk⟩ := st.out.own.row _ e
          have := hbk.lt
          omega), (fun e => by have := st.out.mgr.lt; omega)⟩
        have HGB : Hid (wx.heap.size ≠ gb) := Lib.hid (fun e => by have := hg.out.lt; omega)
        clear st hg hgp hlc hfc HC1 A0
        generalize wx.alloc (.cells #[vi 3, vi 0, vi wv, vi 0] 236) = w4 at *
        generalize wx.heap.size = gx at *
        have b0 : w4.cell? ⟨gx, 0, none⟩ = some (vi 3) := F3.out.cell 0
        have b1 : w4.cell? ⟨gx, 1, none⟩ = some (vi 0) := F3.out.cell 1
        have y0 := F3.out.frozen 0
        have y1 := F3.out.frozen 1
        go_cut [14] from 54 to 107 (fun v14 wy => v14 = vi n ∧ Hid (OpenSt w' k m reserve bad l v wy) ∧ Hid (Blk wy gb 122 #[vi M.B, vi M.P, vi M.S]) ∧ Hid (Blk wy gx 236 #[vi (firstB M.view f x n).s, vi (firstB M.view f x n).l, vi (firstB M.view f x n).r, vi (firstB M.view f x n).n]))
        case first =>
          go_wp2_with fail
          refine (HBA.out _ HC3.out).mono ?_
          rintro e wy ⟨rfl, rfl⟩
          cases bv
          · cases f
            · by_cases hx : 0 < x
              · have hxd : decide (0 < x) = true := decide_eq_true hx
                have HV : Hid (firstB M.view false x n = ⟨2, x, wv, 0⟩) := Lib.hid (by rw [HFB.out]; simp [hx])
                clear hx
                go_wp2_with fail
                go_meet
                refine ⟨rfl, Lib.hid ((S3.out.var HLW.out.1 HLW.out.2.1 HLW.out.2.2 _).var HLW.out.1 HLW.out.2.1 HLW.out.2.2 _), Lib.hid ((G3.out.far (p := ⟨gx, 0, none⟩) HGB.out.symm _).far (p := ⟨gx, 1, none⟩) HGB.out.symm _), Lib.hid ?_⟩
                rw [HV.out]
                exact (F3.out.set_ 0 _).set_ 1 _
              · have hxd : decide (0 < x) = false := decide_eq_false hx
                have HV : Hid (firstB M.view false x n = ⟨3, 0, wv, 0⟩) := Lib.hid (by rw [HFB.out]; simp [hx])
                clear hx
                go_wp2_with fail
                go_meet
                refine ⟨rfl, S3, G3, Lib.hid ?_⟩
                rw [HV.out]
                exact F3.out
            · have HV : Hid (firstB M.view true x n = ⟨0, 0, wv, 0⟩) := Lib.hid (by rw [HFB.out]; rfl)
              go_wp2_with fail
              go_meet
              refine ⟨rfl, Lib.hid (S3.out.var HLW.out.1 HLW.out.2.1 HLW.out.2.2 _), Lib.hid (G3.out.far (p := ⟨gx, 0, none⟩) HGB.out.symm _), Lib.hid ?_⟩
              rw [HV.out]
              exact F3.out.set_ 0 _
          · have HV : Hid (firstB M.view f x n = ⟨4, 0, wv, 0⟩) := Lib.hid (by rw [HFB.out]; rfl)
            go_wp2_with fail
            go_meet
            refine ⟨rfl, Lib.hid (S3.out.var HLW.out.1 HLW.out.2.1 HLW.out.2.2 _), Lib.hid (G3.out.far (p := ⟨gx, 0, none⟩) HGB.out.symm _), Lib.hid ?_⟩
            rw [HV.out]
            exact F3.out.set_ 0 _
        case rest =>
        obtain ⟨rfl, S4, G4, F4⟩ := hcut
        clear b0 b1 y0 y1 S3 G3 F3 HC3 hfc3 HFB HWE HBA E3
        generalize firstB M.view f x n = z at *
        obtain ⟨zs, zl, zr, zn⟩ := z
        dsimp only at F4
        have k0 : wc.cell? ⟨gx, 0, none⟩ = some (vi zs) := F4.out.cell 0
        have k1 : wc.cell? ⟨gx, 1, none⟩ = some (vi zl) := F4.out.cell 1
        have k2 : wc.cell? ⟨gx, 2, none⟩ = some (vi zr) := F4.out.cell 2
        have k3 : wc.cell? ⟨gx, 3, none⟩ = some (vi zn) := F4.out.cell 3
        have hgl : gx < wc.heap.size := F4.out.lt
        have hml : m < wc.heap.size := S4.out.mgr.lt
        obtain ⟨v5, w5, hrun, ho5, hg5⟩ := append_block (S4.out.old (Below.refl _ _).drew).own ⟨zs, zl, zr, zn⟩ (by
          have h1 : l.length = n := by
            have := congrArg List.length HFS.out
            rw [firstL_length, List.length_append] at this
            simpa using this.symm
          have h2 := hB.out
          have h3 := H2.out
          omega) S4.out.below.size
        have RA : AppRun 232 232 232 v (.slice (some ⟨wc.heap.size, 0, none⟩) 1 1) (wc.alloc (.cells #[vi zs, vi zl, vi zr, vi zn] 236)).drew v5 w5 := hrun
        have S5 := Lib.hid ((S4.out.old (Below.refl _ _).drew).next (x := ⟨zs, zl, zr, zn⟩) ho5 hg5)
        obtain ⟨av, cv, hv⟩ := S4.out.own.form
        have c1 : wc.cell? ⟨m, 1, none⟩ = some v := S4.out.mgr.cell 1
        have hc5 : Blk w5 m 234 _ := ((S4.out.mgr.drew).alloc (.cells #[vi zs, vi zl, vi zr, vi zn] 236)).grown hg5 (own_blk_ne ((S4.out.old (Below.refl _ _).drew).own.old ((Below.refl _ _).alloc (Nat.le_refl _) (.cells #[vi zs, vi zl, vi zr, vi zn] 236))) ((S4.out.mgr.drew).alloc _) (by decide))
        have d1 : w5.cell? ⟨m, 1, none⟩ = some v := hc5.cell 1
        have y1 := hc5.frozen 1
        have G5 : Hid (Blk (w5.setCell ⟨m, 1, none⟩ v5) gb 122 #[vi M.B, vi M.P, vi M.S]) := Lib.hid (by
          have h1 := ((G4.out.drew).alloc (.cells #[vi zs, vi zl, vi zr, vi zn] 236)).grown hg5 (own_blk_ne ((S4.out.old (Below.refl _ _).drew).own.old ((Below.refl _ _).alloc (Nat.le_refl _) (.cells #[vi zs, vi zl, vi zr, vi zn] 236))) ((G4.out.drew).alloc _) (by decide))
          refine h1.far (p := ⟨m, 1, none⟩) (fun e => ?_) _
          subst e
          unfold Blk at h1 hc5
          rw [hc5] at h1
          injection h1 with h1
          injection h1 with _ h1
          exact absurd h1 (by decide))
        obtain ⟨av5, cv5, hv5'⟩ := ho5.form
        have hv5 : v5 = .slice av5 (l.length + 1) cv5 := by rw [hv5']; simp
        subst hv hv5
        have hl128 : live.length ≤ 128 := by have h2 := hB.out; have h3 := H2.out; omega
        clear hv5' hrun ho5 hg5 hc5 F4 S4 G4
        go_upto_region 21 with fail
        go_region_law (refine step_app (.tmp 101) (.tmp 103) RA (by rfl) (by rfl) (by go_simp) (by go_simp) ?_)
        all_goals
          go_wp2_with fail
          go_roundw
          case rel => exact ⟨n + 1, _, by omega, by go_num, Lib.hid (by rw [HFS.out]; exact S5.out), HALL, G5⟩
          case measure => simp [intOf]; omega
    · obtain rfl : n = live.length := by omega
      have HE : Hid (openG M.view fresh live reserve bad = (0, some ⟨firstL M.view fresh live live.length, -1, reserve, bad, evenB (firstL M.view fresh live live.length)⟩)) := Lib.hid (by
        have h0 := hall.out
        rw [H2.out] at h0 ⊢
        rw [HDEF.out, if_pos h0])
      have HLN : Hid ((firstL M.view fresh live live.length).length = live.length) := Lib.hid (firstL_length _ _ _ _)
      have HBB : Hid (live.length = M.B ∧ 8 ≤ M.B ∧ M.B ≤ 128) := Lib.hid ⟨H2.out, hB.out.1, hB.out.2.1⟩
      have HEV : Hid (evenB (firstL M.view fresh live live.length) = decide (4 < wrap64 (gcs.greatestL (firstL M.view fresh live live.length) - gcs.leastL (firstL M.view fresh live live.length)))) := Lib.hid rfl
      clear hall hg HDEF HL HF hn1 hlt
      generalize firstL M.view fresh live live.length = l at *
      obtain ⟨gl, cl, rfl, harr, hgl⟩ := Arr.of_own st.out.own (by rw [HLN.out]; have := HBB.out; omega)
      have HRW : Hid (∀ w'', Below wr.heap.size wr w'' → gcs.Row w'' (.slice (some ⟨gl, 0, none⟩) l.length cl) l) := Lib.hid (fun w'' hb => by
        have ha := harr.old hb
        obtain ⟨cur, _, g1, g2, _⟩ := ha.blk
        refine ⟨by unfold maxLen at g2; omega, _, _, rfl, .inr ⟨gl, 0, rfl, fun i hi => ?_⟩⟩
        have hc : ∀ j, j < 4 → w''.cell? ⟨gl, i * 4 + j, none⟩ = (gcells (l.getD i default))[j]? := fun j hj => by
          rw [ha.cell (by omega), flat_get gcells_len default _ _ _ hi hj]
        rw [Nat.zero_add]
        exact ⟨hc 0 (by decide), hc 1 (by decide), hc 2 (by decide), hc 3 (by decide)⟩)
      have HG : Hid (∀ w'', Below wr.heap.size wr w'' → Calls Tryz.prog 156 #[.slice (some ⟨gl, 0, none⟩) l.length cl] w'' fun e w3 => e = .returned (vi (gcs.greatestL l)) ∧ Below w''.heap.size w'' w3) := Lib.hid (fun w'' hb => gcs.Greatest_any _ _ _ (HRW.out _ hb))
      have HLE : Hid (∀ w'', Below wr.heap.size wr w'' → Calls Tryz.prog 157 #[.slice (some ⟨gl, 0, none⟩) l.length cl] w'' fun e w3 => e = .returned (vi (gcs.leastL l)) ∧ Below w''.heap.size w'' w3) := Lib.hid (fun w'' hb => gcs.Least_any _ _ _ (HRW.out _ hb))
      have HARR := Lib.hid harr
      have HGL := Lib.hid hgl
      clear harr hgl HRW
      have c1 : wr.cell? ⟨m, 1, none⟩ = some (.slice (some ⟨gl, 0, none⟩) l.length cl) := st.out.mgr.cell 1
      have C1 := Lib.hid (show wr.drew.cell? ⟨m, 1, none⟩ = some (.slice (some ⟨gl, 0, none⟩) l.length cl) from c1)
      have hadr : Hid ((⟨m, 5, none⟩ : Addr) ≠ ⟨m, 1, none⟩) := Lib.hid (fun e => by injection e with _ e; cases e)
      have BD := Lib.hid (Below.drew (Below.refl wr.heap.size wr))
      generalize gcs.greatestL l = xg at *
      generalize gcs.leastL l = xl at *
      have HD5 : Hid (∀ w'', Below wr.heap.size wr w'' → w''.cell? ⟨m, 5, none⟩ = some (.bool false) ∧ w''.frozen? ⟨m, 5, none⟩ = false) := Lib.hid (fun w'' hb => ⟨(st.out.mgr.old hb).cell 5, (st.out.mgr.old hb).frozen 5⟩)
      clear c1
      go_upto_region 23 with fail
      go_region_held3 (fun w' => w'.cell? ⟨m, 1, none⟩ = some (.slice (some ⟨gl, 0, none⟩) l.length cl))
        (first
          | exact C1.out
          | exact cell_below C1.out hbe2
          | exact cell_below C1.out hbe1
          | exact (World.cell?_setCell_other _ _ _ _ hadr.out).trans (cell_below C1.out hbe2))
        (first
          | (go_at_call 156; refine (HG.out _ BD.out).mono ?_; rintro e wa ⟨rfl, hbe1⟩; have BA := Lib.hid (BD.out.trans (hbe1.mono (Nat.le_refl _))))
          | (go_at_call 157; refine (HLE.out _ BA.out).mono ?_; rintro e wb ⟨rfl, hbe⟩; have hbe2 := hbe1.trans (hbe.mono hbe1.size); have BB := Lib.hid (BD.out.trans (hbe2.mono (Nat.le_refl _))); have x5 := (HD5.out _ BB.out).1; have y5 := (HD5.out _ BB.out).2))
      have HQ : Hid (decide (4 < IntKind.i64.wrap (xg - xl)) = evenB l) := Lib.hid (by rw [HEV.out, IntWalk.i64_left])
      rw [HQ.out]
      have HB9 : Hid (Below w'.heap.size w' (wb.setCell ⟨m, 5, none⟩ (.bool (evenB l)))) := Lib.hid ((st.out.below.trans (BB.out.mono st.out.below.size)).setCell (p := ⟨m, 5, none⟩) st.out.low _)
      have HK : Hid (Held base (wb.setCell ⟨m, 5, none⟩ (.bool (evenB l))) m ⟨k, l, gl, cl, -1, reserve, bad, evenB l⟩ M) := Lib.hid (by
        have hne : gl ≠ m := fun e => HARR.out.ne_blk st.out.mgr (by decide) e
        refine ⟨⟨(st.out.mgr.old BB.out).set_ 5 _, (HARR.out.old BB.out).far (p := ⟨m, 5, none⟩) hne _, ?_⟩, HC.out.old HB9.out⟩
        intro n hn
        rcases hn with rfl | rfl
        · exact Nat.le_trans hbase st.out.low
        · exact Nat.le_trans hbase HGL.out)
      have HOW : Hid (∀ n, MgM.foot ⟨k, l, gl, cl, -1, reserve, bad, evenB l⟩ m n → w'.heap.size ≤ n) := Lib.hid (by
        intro n hn
        rcases hn with rfl | rfl
        · exact st.out.low
        · exact HGL.out)
      clear hbe1 hbe hbe2 x5 y5
      generalize wb.setCell ⟨m, 5, none⟩ (.bool (evenB l)) = w9 at *
      generalize openG M.view fresh live reserve bad = R at *
      obtain rfl := HE.out
      go_wp2_with fail
      go_ret2
      exact ⟨HB9.out, m, _, rfl, HK.out, rfl, rfl, HOW.out⟩
end

end Go.Proofs.YtnfhlocflpdlcaaGreat.mgr

