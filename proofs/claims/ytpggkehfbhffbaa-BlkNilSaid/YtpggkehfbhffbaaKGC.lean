/-
  gc: whether a row is right, its least and greatest Wear, the tests that Next hands on: for every row that is read.
-/
import Derived.Test.YtpggkehfbhffbaaKGB
namespace Go.Proofs.Ytpggkehfbhffbaa.gcs
open Go.RowKit

theorem enter_good (args : Array Value) (W : World) : (callFunc 105 args).run Try.prog W = .ok (.enter 105 args) W := enter_of Try.func105 (by kernel_rfl) rfl args W
theorem enter_worn (args : Array Value) (W : World) : (callFunc 113 args).run Try.prog W = .ok (.enter 113 args) W := enter_of Try.func113 (by kernel_rfl) rfl args W
theorem enter_emptier (args : Array Value) (W : World) : (callFunc 115 args).run Try.prog W = .ok (.enter 115 args) W := enter_of Try.func115 (by kernel_rfl) rfl args W
theorem enter_l1 (args : Array Value) (W : World) : (callFunc 107 args).run Try.prog W = .ok (.enter 107 args) W := enter_of Try.func107 (by kernel_rfl) rfl args W
theorem enter_g1 (args : Array Value) (W : World) : (callFunc 106 args).run Try.prog W = .ok (.enter 106 args) W := enter_of Try.func106 (by kernel_rfl) rfl args W
theorem enter_n1 (args : Array Value) (W : World) : (callFunc 109 args).run Try.prog W = .ok (.enter 109 args) W := enter_of Try.func109 (by kernel_rfl) rfl args W
theorem enter_n2 (args : Array Value) (W : World) : (callFunc 110 args).run Try.prog W = .ok (.enter 110 args) W := enter_of Try.func110 (by kernel_rfl) rfl args W
theorem enter_n3 (args : Array Value) (W : World) : (callFunc 111 args).run Try.prog W = .ok (.enter 111 args) W := enter_of Try.func111 (by kernel_rfl) rfl args W
theorem enter_n4 (args : Array Value) (W : World) : (callFunc 114 args).run Try.prog W = .ok (.enter 114 args) W := enter_of Try.func114 (by kernel_rfl) rfl args W
theorem enter_n5 (args : Array Value) (W : World) : (callFunc 117 args).run Try.prog W = .ok (.enter 117 args) W := enter_of Try.func117 (by kernel_rfl) rfl args W
theorem enter_n6 (args : Array Value) (W : World) : (callFunc 118 args).run Try.prog W = .ok (.enter 118 args) W := enter_of Try.func118 (by kernel_rfl) rfl args W
theorem enter_n7 (args : Array Value) (W : World) : (callFunc 120 args).run Try.prog W = .ok (.enter 120 args) W := enter_of Try.func120 (by kernel_rfl) rfl args W

def RightL (p : Int) (bs : List Blk) : Bool := !(decide (p < 1)) && !(decide (32 < p)) && bs.all (rightB p)
def goodB (x : Blk) : Bool := x.s != 4
def moreB (x y : Blk) : Bool := decide (y.r < x.r)
def wearAt (bs : List Blk) (k : Int) : Int := if k < 0 then 0 else (bs.getD k.toNat default).r
def leastL (bs : List Blk) : Int := wearAt bs (best goodB wornB bs)
def greatestL (bs : List Blk) : Int := wearAt bs (best goodB moreB bs)

theorem all_take_succ {α : Type} (f : α → Bool) (l : List α) (d : α) (k : Nat) (h : k < l.length) : (l.take (k + 1)).all f = ((l.take k).all f && f (l.getD k d)) := by
  rw [List.take_succ_eq_append_getElem h, List.all_append, List.getD_eq_getElem?_getD, List.getElem?_eq_getElem h]
  simp
theorem all_of_not {α : Type} (f : α → Bool) (l : List α) (d : α) (k : Nat) (h : k < l.length) (hf : f (l.getD k d) = false) : l.all f = false := by
  rw [List.getD_eq_getElem?_getD, List.getElem?_eq_getElem h] at hf
  rw [List.all_eq_false]
  exact ⟨_, List.getElem_mem h, by simpa using hf⟩
theorem best_bd (P : Blk → Bool) (Q : Blk → Blk → Bool) (bs : List Blk) : -1 ≤ best P Q bs ∧ best P Q bs < bs.length := bestTo_bd P Q bs bs.length

set_option maxHeartbeats 1000000 in
theorem Right_any (v : Value) (bs : List Blk) (p : Int) (w : World) (hrow : Row w v bs) :
    Calls Try.prog 108 #[v, vi p] w fun e w' => e = .returned (.bool (RightL p bs)) ∧ Below w.heap.size w w' := by
  obtain ⟨hlen, a, cap, rfl, hrow⟩ := hrow
  have HR := Lib.hid hrow
  clear hrow
  go_enter Try.func108, Try.ntmps108
  go_wp2_with fail
  go_step3
  by_cases h1 : p < 1
  · go_wp2_with fail
    try rw [Exit.noGoto_ret]
    go_ret
    exact ⟨ret_bool (by simp [RightL, h1]), Below.refl _ _⟩
  by_cases h2 : 32 < p
  · go_wp2_with fail
    try rw [Exit.noGoto_ret]
    go_ret
    exact ⟨ret_bool (by simp [RightL, h2]), Below.refl _ _⟩
  go_wp2_with fail
  go_step3
  go_wp2_with fail
  go_loopw [5, 16] (fun g i wr => ∃ k : Nat, k ≤ bs.length ∧ i = vi k ∧ g = .bool true ∧ (bs.take k).all (rightB p) = true ∧ Below w.heap.size w wr) (fun _ i _ => bs.length - (intOf i).toNat)
  case atStart => exact ⟨0, Nat.zero_le _, rfl, rfl, by simp, Below.refl _ _⟩
  case round =>
    obtain ⟨k, hk, rfl, rfl, hall, hb⟩ := hrel
    by_cases hlt : k < bs.length
    · rcases HR.out with h0 | ⟨b, o, rfl, hc⟩
      · rw [h0] at hlt; simp at hlt
      have hx := (hc k hlt).below hb
      have hst := all_take_succ (rightB p) bs default k hlt
      rw [hall] at hst
      have hno := all_of_not (rightB p) bs default k hlt
      clear hc hall
      generalize bs.getD k default = x at hx hst hno
      obtain ⟨g0, g1, g2, g3⟩ := hx
      have Hst := Lib.hid hst
      have Hno := Lib.hid hno
      clear hst hno
      go_wp2_with fail
      refine (right_any x p _).mono ?_
      rintro e w1 ⟨rfl, hb1⟩
      have hb2 := hb.trans (((Below.refl wr.heap.size wr).alloc (Nat.le_refl _) (.cells #[vi x.s, vi x.l, vi x.r, vi x.n] 121)).trans (hb1.mono (by simp)) |>.mono hb.size)
      cases hr : rightB p x
      · go_wp2_with fail
        try rw [Exit.noGoto_ret]
        go_ret
        have h3 := Hno.out hr
        exact ⟨ret_bool (by simp [RightL, h3]), hb2⟩
      · go_wp2_with fail
        go_roundw
        case rel => exact ⟨k + 1, by omega, by go_num, rfl, by rw [Hst.out, hr]; rfl, hb2⟩
        case measure => simp [intOf]; omega
    · go_wp2_with fail
      try rw [Exit.noGoto_ret]
      go_ret
      obtain rfl : k = bs.length := by omega
      rw [List.take_length] at hall
      exact ⟨ret_bool (by simp [RightL, h1, h2, hall]), hb⟩


theorem l1_any (x y : Blk) (w : World) :
    Calls Try.prog 107 #[x.v, y.v] w fun e w' => e = .returned (.bool (wornB x y)) ∧ Below w.heap.size w w' := by
  go_enter Try.func107, Try.ntmps107
  go_wp2
  go_ret
  exact ⟨rfl, ((Below.refl _ _).alloc (Nat.le_refl _) _).alloc (by simp) _⟩
theorem g1_any (x y : Blk) (w : World) :
    Calls Try.prog 106 #[x.v, y.v] w fun e w' => e = .returned (.bool (moreB x y)) ∧ Below w.heap.size w w' := by
  go_enter Try.func106, Try.ntmps106
  go_wp2
  go_ret
  exact ⟨rfl, ((Below.refl _ _).alloc (Nat.le_refl _) _).alloc (by simp) _⟩

theorem Row.lookup {w : World} {a : Option Addr} {bs : List Blk} {cap : Nat} (h : Row w (.slice a bs.length cap) bs) {k : Nat} (hk : k < bs.length) :
    ∃ b o, a = some ⟨b, o, none⟩ ∧ At4 w b (o + k * 4) (bs.getD k default) := by
  obtain ⟨_, a', cap', he, h⟩ := h
  injection he with he _ _
  subst he
  rcases h with h | ⟨b, o, rfl, h⟩
  · rw [h] at hk; simp at hk
  · exact ⟨b, o, rfl, h k hk⟩

set_option maxHeartbeats 1000000 in
theorem Least_any (v : Value) (bs : List Blk) (w : World) (hrow : Row w v bs) :
    Calls Try.prog 84 #[v] w fun e w' => e = .returned (vi (leastL bs)) ∧ Below w.heap.size w w' := by
  have HR := Lib.hid hrow
  obtain ⟨hlen, a, cap, rfl, -⟩ := hrow
  go_enter Try.func84, Try.ntmps84
  go_wp2_with fail
  refine (best_any 105 107 #[] #[] _ bs _ goodB wornB HR.out enter_good enter_l1 (fun x W _ _ => good_any x W) (fun x y W _ => l1_any x y W)).mono ?_
  rintro e w1 ⟨rfl, hb1⟩
  have hbd := best_bd goodB wornB bs
  have hL : leastL bs = wearAt bs (best goodB wornB bs) := rfl
  generalize best goodB wornB bs = k at *
  have HL := Lib.hid hL
  clear hL
  by_cases h0 : k < 0
  · go_wp2_with fail
    go_ret
    exact ⟨ret_int (by rw [HL.out, wearAt, if_pos h0]), hb1⟩
  · obtain ⟨j, rfl⟩ : ∃ j : Nat, k = j := ⟨k.toNat, by omega⟩
    obtain ⟨b, o, rfl, hc⟩ := (HR.out.below hb1).lookup (k := j) (by omega)
    have hc2 := hc.2.2.1
    have HW : Hid (wearAt bs (j : Int) = (bs.getD j default).r) := by show _ = _; rw [wearAt, if_neg h0]; rfl
    generalize (bs.getD j default).r = r at hc2 HW
    clear hc
    go_wp2_with fail
    go_ret
    exact ⟨ret_int (by rw [HL.out, HW.out]), hb1⟩

set_option maxHeartbeats 1000000 in
theorem Greatest_any (v : Value) (bs : List Blk) (w : World) (hrow : Row w v bs) :
    Calls Try.prog 83 #[v] w fun e w' => e = .returned (vi (greatestL bs)) ∧ Below w.heap.size w w' := by
  have HR := Lib.hid hrow
  obtain ⟨hlen, a, cap, rfl, -⟩ := hrow
  go_enter Try.func83, Try.ntmps83
  go_wp2_with fail
  refine (best_any 105 106 #[] #[] _ bs _ goodB moreB HR.out enter_good enter_g1 (fun x W _ _ => good_any x W) (fun x y W _ => g1_any x y W)).mono ?_
  rintro e w1 ⟨rfl, hb1⟩
  have hbd := best_bd goodB moreB bs
  have hL : greatestL bs = wearAt bs (best goodB moreB bs) := rfl
  generalize best goodB moreB bs = k at *
  have HL := Lib.hid hL
  clear hL
  by_cases h0 : k < 0
  · go_wp2_with fail
    go_ret
    exact ⟨ret_int (by rw [HL.out, wearAt, if_pos h0]), hb1⟩
  · obtain ⟨j, rfl⟩ : ∃ j : Nat, k = j := ⟨k.toNat, by omega⟩
    obtain ⟨b, o, rfl, hc⟩ := (HR.out.below hb1).lookup (k := j) (by omega)
    have hc2 := hc.2.2.1
    have HW : Hid (wearAt bs (j : Int) = (bs.getD j default).r) := by show _ = _; rw [wearAt, if_neg h0]; rfl
    generalize (bs.getD j default).r = r at hc2 HW
    clear hc
    go_wp2_with fail
    go_ret
    exact ⟨ret_int (by rw [HL.out, HW.out]), hb1⟩

end Go.Proofs.Ytpggkehfbhffbaa.gcs
