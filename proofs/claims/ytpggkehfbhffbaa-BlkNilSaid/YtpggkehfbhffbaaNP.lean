/-
  The fixed calls of chapter 2 answer as they should. No conditions.
-/
import Derived.Test.YtpggkehfbhffbaaNJ
namespace Go.Proofs.Ytpggkehfbhffbaa
open Go.RowKit

def zs96 : List Nat := List.replicate 96 0
theorem zs96_small : ∀ x ∈ zs96, x < 256 := by intro x hx; rw [(List.mem_replicate.1 hx).2]; decide
def kV0 : NP.Chp := NP.blank 8 4 64
theorem kV0_ok : kV0.ok := NP.blank_ok rfl
def kV1 : NP.Chp := (NP.program kV0 0 0 zs96).2
theorem kV1_ok : kV1.ok := (NP.act_ok kV0_ok (by intro f hf; cases hf) (.program 0 0 zs96) zs96_small).1
def kV2 : NP.Chp := (NP.erase kV1 0).2
theorem kV2_ok : kV2.ok := (NP.act_ok kV1_ok (by intro f hf; cases hf) (.erase 0) trivial).1
theorem k1 : NP.program kV0 0 1 zs96 = (10, kV0) := by kernel_rfl
theorem k2 : NP.program kV0 0 0 zs96 = (0, kV1) := by kernel_rfl
theorem k3 : NP.program kV1 0 0 zs96 = (10, kV1) := by kernel_rfl
theorem k4 : NP.erase kV1 0 = (0, kV2) := by kernel_rfl

section
variable {base : Nat} {w : World} {k : Nat} {M : ChM}
theorem Program_96 (h : ChipAt base w k M) (hok : M.view.ok) (p : Int) (a : Option Addr) (hr : SRow base w a zs96) (c : Nat) : Calls Try.prog 21 #[ptr k, vi 0, vi p, .slice a 96 c] w (ActPost base w k M (NP.program M.view 0 p zs96)) := by
  have := Program_any h hok 0 p a zs96 c hr
  rw [show zs96.length = 96 from List.length_replicate ..] at this
  exact this
theorem wear_view (M : ChM) (j : Int) (hB : M.bs.length = M.B) : wearM M j = NP.wearAt M.view j := by
  have hB' : (M.view.B : Int) = M.bs.length := by rw [hB]; rfl
  unfold wearM NP.wearAt
  rw [hB']
  by_cases h : 0 ≤ j ∧ j < M.bs.length
  · rw [if_pos h, if_pos h, view_blk (by omega)]
    rfl
  · rw [if_neg h, if_neg h]
end
set_option maxHeartbeats 2000000 in
theorem known02_any (w : World) : Calls Try.prog 12 #[] w fun e w' => e = .returned (.bool true) ∧ Below w.heap.size w w' := by
  have hmk : ∀ w : World, (Instr.makeSlice 32 (.int .i64 96) (.int .i64 96)).run Try.prog w = .ok (.slice (some ⟨w.heap.size, 0, none⟩) 96 96) (w.alloc (.cells (madeCells #[vb 0] 96) 5)) := fun w => make_bytes 96 (by omega) w
  go_enter Try.func12, Try.ntmps12
  go_wp2_with fail
  refine (New_any w.heap.size 8 4 64 none [] 0 _ (.inl rfl) (Nat.zero_le _) (Nat.le_refl _)).mono ?_
  rintro e w1 hn
  rw [show NP.new 8 4 64 [] = some kV0 from rfl] at hn
  obtain ⟨k, M, rfl, hm, hv⟩ := hn
  have HM := Lib.hid hm
  have HV := Lib.hid hv
  clear hm hv
  go_wp2_with fail
  have HR0 := Lib.hid (own_zeros w1 96 (by omega))
  have HM1 := Lib.hid (HM.out.at_.old ((Below.refl _ w1).alloc (Nat.le_refl _) (.cells (madeCells #[vb 0] 96) 5)))
  have HB1 := Lib.hid (HM.out.below.alloc HM.out.below.size (.cells (madeCells #[vb 0] 96) 5))
  have HOWN := Lib.hid HM.out.own
  clear hmk HM
  generalize w1.alloc (.cells (madeCells #[vb 0] 96) 5) = w2 at *
  generalize w1.heap.size = g at *
  obtain ⟨a, c, ha, hs, -⟩ := HR0.out.srow (base := w.heap.size) zs96_small
  rw [List.length_replicate] at ha
  injection ha with ha1 _ ha3
  subst ha1 ha3
  have HS := Lib.hid hs
  clear hs HR0
  refine (Program_96 HM1.out (by rw [HV.out]; exact kV0_ok) 1 _ HS.out 96).mono ?_
  rw [HV.out, k1]
  rintro e w3 ⟨M3, rfl, hg3, hv3⟩
  have HG3 := Lib.hid hg3
  have HV3 : Hid (M3.view = kV0) := Lib.hid hv3
  have HS3 := Lib.hid (HS.out.chg hg3.chg HM1.out.mine)
  clear hg3 hv3 HS
  go_wp2_with fail
  refine (Program_96 HG3.out.at_ (by rw [HV3.out]; exact kV0_ok) 0 _ HS3.out 96).mono ?_
  rw [HV3.out]
  rw [k2]
  rintro e w4 ⟨M4, rfl, hg4, hv4⟩
  have HG4 := Lib.hid (HG3.out.trans hg4)
  have HV4 : Hid (M4.view = kV1) := Lib.hid hv4
  have HS4 := Lib.hid (HS3.out.chg hg4.chg HG3.out.at_.mine)
  clear hg4 hv4 HS3 HG3
  go_wp2_with fail
  refine (Program_96 HG4.out.at_ (by rw [HV4.out]; exact kV1_ok) 0 _ HS4.out 96).mono ?_
  rw [HV4.out]
  rw [k3]
  rintro e w5 ⟨M5, rfl, hg5, hv5⟩
  have HG5 := Lib.hid (HG4.out.trans hg5)
  have HV5 : Hid (M5.view = kV1) := Lib.hid hv5
  clear hg5 hv5 HS4 HG4
  go_wp2_with fail
  refine (Erase_any HG5.out.at_ (by rw [HV5.out]; exact kV1_ok) 0).mono ?_
  rw [HV5.out]
  rw [k4]
  rintro e w6 ⟨M6, rfl, hg6, hv6⟩
  have HG6 := Lib.hid (HG5.out.trans hg6)
  have HV6 : Hid (M6.view = kV2) := Lib.hid hv6
  have hw6 : wearM M6 0 = 1 := by rw [wear_view _ _ (ok_len (by rw [hv6]; exact kV2_ok)), hv6]; kernel_rfl
  have hs6 : M6.strokes = 2 := by
    have : M6.view.strokes = 2 := by rw [hv6]; kernel_rfl
    exact this
  have HW6 := Lib.hid hw6
  have HS6 := Lib.hid hs6
  clear hg6 hv6 HG5 hw6 hs6
  go_wp2_with fail
  refine (Wear_any HG6.out.at_ 0).mono ?_
  rintro e w' ⟨rfl, rfl⟩
  rw [HW6.out]
  go_wp2_with fail
  refine (Strokes_any HG6.out.at_).mono ?_
  rintro e w' ⟨rfl, rfl⟩
  rw [HS6.out]
  go_wp2_with fail
  go_ret
  exact ⟨rfl, HB1.out.trans (HG6.out.chg.to_below (fun n _ hn => HOWN.out n hn) HB1.out.size)⟩

end Go.Proofs.Ytpggkehfbhffbaa
