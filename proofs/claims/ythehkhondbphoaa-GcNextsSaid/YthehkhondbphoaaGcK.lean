/-
  The references of gc: the next action: for every row that is read.
-/
import Derived.Test.YthehkhondbphoaaGcJ
namespace Go.Proofs.Ythehkhondbphoaa
open Go.RowKit

def kindAt (n : Nat) : Int := [0, 1, 2, 3, 2, 4, 4].getD n 0
def rankIs (least p : Int) (room : Bool) (n : Int) (x : Blk) : Bool := rankB least p room x == n
def rbest (least p : Int) (room : Bool) (bs : List Blk) (n : Int) : Int := best (rankIs least p room n) (aheadB n) bs
def rTail (least p : Int) (room : Bool) (bs : List Blk) : Nat → Int × Int
  | 0 => (0, -1)
  | j + 1 => pick4 (rbest least p room bs ((6 - j : Nat) : Int)) (kindAt (6 - j)) (rTail least p room bs j)
def RNextL (bs : List Blk) (p : Int) (room : Bool) : Int × Int := if RightL p bs then rTail (leastL bs) p room bs 6 else (0, -1)

theorem bestTo_step (P : Blk → Bool) (Q : Blk → Blk → Bool) (bs : List Blk) (k : Nat) : bestTo P Q bs (k + 1) = if P (bs.getD k default) && (decide (bestTo P Q bs k < 0) || Q (bs.getD k default) (bs.getD (bestTo P Q bs k).toNat default)) then (k : Int) else bestTo P Q bs k := rfl

set_option maxHeartbeats 4000000 in
theorem RNext_any (v : Value) (bs : List Blk) (p : Int) (room : Bool) (w : World) (hrow : Row w v bs) :
    Calls Try.prog 14 #[v, vi p, .bool room] w fun e w' => e = .returned (vact (RNextL bs p room)) ∧ Below w.heap.size w w' := by
  have HR := Lib.hid hrow
  obtain ⟨hlen, a, cap, rfl, -⟩ := hrow
  have HL := Lib.hid (show RNextL bs p room = if RightL p bs then rTail (leastL bs) p room bs 6 else (0, -1) from rfl)
  go_enter Try.func14, Try.ntmps14
  go_wp2_with fail
  have hb0 : Below w.heap.size w (w.alloc (.cells #[vi 0, vi 0] 26)) := (Below.refl _ _).alloc (Nat.le_refl _) _
  refine (RRight_any _ bs p _ (HR.out.below hb0)).mono ?_
  rintro e w1 ⟨rfl, hb1⟩
  obtain ⟨⟨c0, c1, f0, f1⟩, hb2⟩ := box2 hb1
  have HB := Lib.hid hb2
  clear hb0 hb1 hb2
  cases hr : RightL p bs
  · have Hr := Lib.hid hr
    clear hr
    go_wp2_with fail
    refine bodyPost_ret (v := vact (0, -1)) (by simp [results, Try.results14, go_sem, c0, c1]) rfl ⟨by rw [HL.out, Hr.out]; rfl, ?_⟩
    exact (HB.out.setCell (p := ⟨w.heap.size, 0, none⟩) (Nat.le_refl _) _).setCell (p := ⟨w.heap.size, 1, none⟩) (Nat.le_refl _) _
  have Hr := Lib.hid hr
  have hrk := fun (j : Nat) (W : World) (h : Below w.heap.size w W) (h1 : j < bs.length) => rank_any _ bs p j room W (HR.out.below h) hr h1
  have HL2 : Hid (RNextL bs p room = rTail (leastL bs) p room bs 6) := by show _ = _; rw [HL.out, hr]; rfl
  clear hr HL
  generalize leastL bs = least at hrk HL2
  have HK := Lib.hid hrk
  clear hrk
  go_wp2_with fail
  have k1 : ∀ i : Nat, i < 7 → (w1.alloc (.cells #[vi 0, vi 1, vi 2, vi 3, vi 2, vi 4, vi 4] 3)).cell? ⟨w1.heap.size, i, none⟩ = some (vi (kindAt i)) := fun i hi => by
    have : i = 0 ∨ i = 1 ∨ i = 2 ∨ i = 3 ∨ i = 4 ∨ i = 5 ∨ i = 6 := by omega
    rcases this with rfl | rfl | rfl | rfl | rfl | rfl | rfl <;> simp [kindAt]
  have KK := Lib.hid k1
  clear k1
  have hbn : Below w1.heap.size w1 (w1.alloc (.cells #[vi 0, vi 1, vi 2, vi 3, vi 2, vi 4, vi 4] 3)) := (Below.refl _ _).alloc (Nat.le_refl _) _
  have hk2 := keep2 ⟨c0, c1, f0, f1⟩ hbn
  have HB2 := Lib.hid (HB.out.trans (hbn.mono HB.out.size))
  clear hbn c0 c1 f0 f1
  go_loopw [8] (fun n wr => ∃ m : Nat, 1 ≤ m ∧ m ≤ 7 ∧ n = vi m ∧ RNextL bs p room = rTail least p room bs (7 - m) ∧
      (wr.cell? ⟨w.heap.size, 0, none⟩ = some (vi 0) ∧ wr.cell? ⟨w.heap.size, 1, none⟩ = some (vi 0) ∧ wr.frozen? ⟨w.heap.size, 0, none⟩ = false ∧ wr.frozen? ⟨w.heap.size, 1, none⟩ = false) ∧
      (∀ i : Nat, i < 7 → wr.cell? ⟨w1.heap.size, i, none⟩ = some (vi (kindAt i))) ∧ Below w.heap.size w wr) (fun n _ => 7 - (intOf n).toNat)
  case atStart => exact ⟨1, by omega, by omega, rfl, HL2.out, hk2, KK.out, HB2.out⟩
  case round =>
    obtain ⟨m, hm1, hm7, rfl, hT, hk3, hkk, hb3⟩ := hrel
    have HT := Lib.hid hT
    have KK3 := Lib.hid hkk
    have HB3 := Lib.hid hb3
    clear hT hkk hb3 HL2 KK HB2 hk2
    obtain ⟨wo, hwo⟩ : ∃ wo : World, wo = wr := ⟨_, rfl⟩
    subst hwo
    by_cases hlt7 : m < 7
    · have hm6 : decide ((m : Int) ≤ 6) = true := by simp; omega
      go_wp2_with fail
      go_loopw [9, 10] (fun at_ i wr => ∃ k : Nat, k ≤ bs.length ∧ i = vi k ∧ at_ = vi (bestTo (rankIs least p room m) (aheadB m) bs k) ∧ Below wo.heap.size wo wr) (fun _ i _ => bs.length - (intOf i).toNat)
      case atStart => exact ⟨0, Nat.zero_le _, rfl, rfl, Below.refl _ _⟩
      case round =>
        obtain ⟨k, hk, rfl, rfl, hbr⟩ := hrel
        have hbd := bestTo_bd (rankIs least p room m) (aheadB m) bs k
        have hbr2 := HB3.out.trans (hbr.mono HB3.out.size)
        have HBR := Lib.hid hbr
        have HBR2 := Lib.hid hbr2
        clear hbr hbr2
        by_cases hlt : k < bs.length
        · obtain ⟨b, o, rfl, hx⟩ := (HR.out.below HBR2.out).lookup hlt
          have hq := fun n : Sub wr => HK.out k n.w (HBR2.out.trans (n.below.mono HBR2.out.size)) hlt
          have Hs := Lib.hid (bestTo_step (rankIs least p room m) (aheadB m) bs k)
          have hri : rankIs least p room m (bs.getD k default) = (rankB least p room (bs.getD k default) == (m : Int)) := rfl
          have hya : ∀ j : Nat, j < bs.length → At4 wr b (o + j * 4) (bs.getD j default) := fun j hj => by
            obtain ⟨b', o', he, hy⟩ := (HR.out.below HBR2.out).lookup hj
            injection he with he
            injection he with hb' ho' _
            subst hb' ho'
            exact hy
          have HY := Lib.hid hya
          clear hya
          generalize bs.getD k default = x at hx hq Hs hri
          generalize bestTo (rankIs least p room m) (aheadB m) bs k = at_ at *
          have f0 := Sub.cell hx.1
          have f1 := Sub.cell hx.2.1
          have f2 := Sub.cell hx.2.2.1
          have f3 := Sub.cell hx.2.2.2
          clear hx
          have hk0 : (0 : Int) ≤ (k : Int) := by omega
          have hk1 : (k : Int) < (bs.length : Int) := by omega
          obtain ⟨c, hc⟩ : ∃ c, (rankB least p room x == (m : Int)) = c := ⟨_, rfl⟩
          generalize rankB least p room x = rk at hq hc hri
          rw [hc] at hri
          have Hri := Lib.hid hri
          have HQ := Lib.hid hq
          clear hq hri
          cases c
          · go_wp2_with fail
            refine wp_region_sub (by kernel_rfl) (by kernel_rfl) ?_
            repeat (go_big_quiet_step (exact ext_of (HQ.out _)))
            refine wpQuiet_nil ?_
            rintro _ ⟨nq, rfl⟩
            have HBq := Lib.hid (HBR.out.trans (nq.below.mono HBR.out.size))
            clear f0 f1 f2 f3
            go_wp2_with fail
            go_roundw
            case rel => exact ⟨k + 1, by omega, by go_num, by rw [Hs.out, Hri.out]; simp, HBq.out⟩
            case measure => simp [intOf]; omega
          · by_cases h0 : at_ < 0
            · go_wp2_with fail
              refine wp_region_sub (by kernel_rfl) (by kernel_rfl) ?_
              repeat (go_big_quiet_step (exact ext_of (HQ.out _)))
              refine wpQuiet_nil ?_
              rintro _ ⟨nq, rfl⟩
              have HBq := Lib.hid (HBR.out.trans (nq.below.mono HBR.out.size))
              clear f0 f1 f2 f3
              go_wp2_with fail
              go_roundw
              case rel => exact ⟨k + 1, by omega, by go_num, by rw [Hs.out, Hri.out]; simp [h0], HBq.out⟩
              case measure => simp [intOf]; omega
            · obtain ⟨j, rfl⟩ : ∃ j : Nat, at_ = j := ⟨at_.toNat, by omega⟩
              have hy := HY.out j (by omega)
              have Hs' : Hid (bestTo (rankIs least p room m) (aheadB m) bs (k + 1) = if aheadB m x (bs.getD j default) then (k : Int) else j) := by show _ = _; rw [Hs.out, Hri.out]; simp [h0]
              have hq2 := fun n : Sub wr => ahead_any x (bs.getD j default) m n.w (by omega) (by omega)
              generalize bs.getD j default = y at hy Hs' hq2
              have y0 := Sub.cell hy.1
              have y1 := Sub.cell hy.2.1
              have y2 := Sub.cell hy.2.2.1
              have y3 := Sub.cell hy.2.2.2
              clear hy Hs
              have hj0 : (0 : Int) ≤ (j : Int) := by omega
              have hj1 : (j : Int) < (bs.length : Int) := by omega
              obtain ⟨d, hd⟩ : ∃ d, aheadB m x y = d := ⟨_, rfl⟩
              rw [hd] at hq2
              have HQ2 := Lib.hid hq2
              have Hd := Lib.hid hd
              clear hd hq2
              cases d
              all_goals
                go_wp2_with fail
                have hj2 : decide ((j : Int) < 0) = false := decide_eq_false (by omega)
                refine wp_region_sub (by kernel_rfl) (by kernel_rfl) ?_
                repeat (go_big_quiet_step (first | exact ext_of (HQ.out _) | exact ext_of (HQ2.out _)))
                refine wpQuiet_nil ?_
                rintro _ ⟨nq, rfl⟩
                have HBq := Lib.hid (HBR.out.trans (nq.below.mono HBR.out.size))
                clear f0 f1 f2 f3 y0 y1 y2 y3
                go_wp2_with fail
                go_roundw
                case rel => exact ⟨k + 1, by omega, by go_num, by rw [Hs'.out, Hd.out]; simp, HBq.out⟩
                case measure => simp [intOf]; omega
        · obtain rfl : k = bs.length := by omega
          have hTT : rTail least p room bs (7 - m) = pick4 (rbest least p room bs m) (kindAt m) (rTail least p room bs (7 - (m + 1))) := by
            obtain ⟨j, hj⟩ : ∃ j, 7 - m = j + 1 := ⟨6 - m, by omega⟩
            rw [hj, show 7 - (m + 1) = j from by omega]
            show pick4 (rbest least p room bs ((6 - j : Nat) : Int)) (kindAt (6 - j)) _ = _
            rw [show 6 - j = m from by omega]
          have hrb : rbest least p room bs m = bestTo (rankIs least p room m) (aheadB m) bs bs.length := rfl
          rw [← hrb]
          rw [← hrb] at hbd
          clear hrb
          generalize rbest least p room bs m = r at hbd hTT ⊢
          have HTT := Lib.hid hTT
          clear hTT
          have hkm := cell_below (KK3.out m hlt7) HBR.out
          obtain ⟨c0, c1, f0, f1⟩ := keep2 hk3 HBR.out
          have hkk4 := Lib.hid (fun (i : Nat) (hi : i < 7) => cell_below (KK3.out i hi) HBR.out)
          by_cases h0 : 0 ≤ r
          · go_wp2_with fail
            refine bodyPost_ret (v := vact (kindAt m, r)) (by simp [results, Try.results14, go_sem, c0, c1]) rfl ⟨by rw [HT.out, HTT.out, pick4_yes h0], ?_⟩
            exact (HBR2.out.setCell (p := ⟨w.heap.size, 0, none⟩) (Nat.le_refl _) _).setCell (p := ⟨w.heap.size, 1, none⟩) (Nat.le_refl _) _
          · go_wp2_with fail
            go_roundw
            case rel => exact ⟨m + 1, by omega, by omega, by go_num, by rw [HT.out, HTT.out, pick4_no (by omega)], ⟨c0, c1, f0, f1⟩, hkk4.out, HBR2.out⟩
            case measure => simp [intOf]; omega
    · obtain rfl : m = 7 := by omega
      obtain ⟨c0, c1, f0, f1⟩ := hk3
      go_wp2_with fail
      refine bodyPost_ret (v := vact (0, -1)) (by simp [results, Try.results14, go_sem, c0, c1]) rfl ⟨by rw [HT.out]; rfl, ?_⟩
      exact (HB3.out.setCell (p := ⟨w.heap.size, 0, none⟩) (Nat.le_refl _) _).setCell (p := ⟨w.heap.size, 1, none⟩) (Nat.le_refl _) _

end Go.Proofs.Ythehkhondbphoaa
