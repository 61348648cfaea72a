/-
  gc: the tests that Next hands on, and the first block that meets a test: for every row that is read.
-/
import Derived.Test.YtpggkehfbhffbaaKGC
namespace Go.Proofs.Ytpggkehfbhffbaa.gcs
open Go.RowKit

abbrev pt (b : Nat) : Value := .pointer (some ⟨b, 0, none⟩)
abbrev fn0 (f : Nat) : Value := .func (.func f) #[] #[]

def staleB (x : Blk) : Bool := x.s == 3
def fullB (room : Bool) (x : Blk) : Bool := room && x.s == 2
def burnB (least : Int) (x : Blk) : Bool := x.r == least && (x.s == 0 || x.s == 1 && x.n == 0)

theorem n1_any (x : Blk) (w : World) :
    Calls Try.prog 109 #[x.v] w fun e w' => e = .returned (.bool (staleB x)) ∧ Below w.heap.size w w' := by
  go_enter Try.func109, Try.ntmps109
  go_wp2
  go_ret
  exact ⟨rfl, (Below.refl _ _).alloc (Nat.le_refl _) _⟩

theorem cell_alloc_old {w : World} {a : Addr} {v : Value} (h : w.cell? a = some v) (o : Obj) : (w.alloc o).cell? a = some v :=
  cell_below h ((Below.refl _ _).alloc (Nat.le_refl _) _)

theorem n2_any (x : Blk) (room : Bool) (br : Nat) (w : World) (hr : w.cell? ⟨br, 0, none⟩ = some (.bool room)) :
    Calls Try.prog 110 #[x.v, pt br] w fun e w' => e = .returned (.bool (fullB room x)) ∧ Below w.heap.size w w' := by
  have h1 : ∀ o, (w.alloc o).cell? ⟨br, 0, none⟩ = some (.bool room) := fun o => cell_alloc_old hr o
  cases room
  all_goals
    go_enter Try.func110, Try.ntmps110
    go_wp2
    go_ret
    exact ⟨rfl, (Below.refl _ _).alloc (Nat.le_refl _) _⟩

/-- A right block's Wear. -/
def RightWear (x : Blk) : Prop := 0 ≤ x.r ∧ x.r ≤ 1099511627776

/-- A block that was boxed, behind what left old memory alone. -/
theorem box4 {w w1 : World} (x : Blk) (T : TypeId) (h : Below (w.alloc (.cells #[vi x.s, vi x.l, vi x.r, vi x.n] T)).heap.size (w.alloc (.cells #[vi x.s, vi x.l, vi x.r, vi x.n] T)) w1) :
    (w1.cell? ⟨w.heap.size, 0, none⟩ = some (vi x.s) ∧ w1.cell? ⟨w.heap.size, 1, none⟩ = some (vi x.l) ∧ w1.cell? ⟨w.heap.size, 2, none⟩ = some (vi x.r) ∧ w1.cell? ⟨w.heap.size, 3, none⟩ = some (vi x.n)) ∧ Below w.heap.size w w1 :=
  ⟨⟨cell_below (by simp) h, cell_below (by simp) h, cell_below (by simp) h, cell_below (by simp) h⟩, ((Below.refl _ _).alloc (Nat.le_refl _) _).trans (h.mono (by simp))⟩

set_option maxHeartbeats 1000000 in
theorem n3_any (x : Blk) (least : Int) (bs bl : Nat) (w : World) (hs : w.cell? ⟨bs, 0, none⟩ = some (fn0 109)) (hl : w.cell? ⟨bl, 0, none⟩ = some (vi least))
    (hx : RightWear x) (h3 : 0 ≤ least) (h4 : least ≤ 1099511627776) :
    Calls Try.prog 111 #[x.v, pt bs, pt bl] w fun e w' => e = .returned (.bool (staleB x && mayB least x)) ∧ Below w.heap.size w w' := by
  have hx' := Lib.hid hx
  clear hx
  have f0 : ∀ o, (w.alloc o).cell? ⟨bs, 0, none⟩ = some (fn0 109) := fun o => cell_alloc_old hs o
  go_enter Try.func111, Try.ntmps111
  go_wp2_with fail
  refine (n1_any x _).mono ?_
  rintro e w1 ⟨rfl, hb1⟩
  have k1 : w1.cell? ⟨bl, 0, none⟩ = some (vi least) := cell_below (cell_alloc_old hl _) hb1
  obtain ⟨⟨c0, c1, c2, c3⟩, hb2⟩ := box4 x 121 hb1
  clear hb1
  cases h : staleB x
  · go_wp2_with fail
    go_ret
    exact ⟨ret_bool (by simp [h]), hb2⟩
  · go_wp2_with fail
    refine (may_any x least _ hx'.out.1 hx'.out.2 h3 h4).mono ?_
    rintro e w2 ⟨rfl, hb3⟩
    go_wp2_with fail
    go_ret
    exact ⟨ret_bool (by simp [h]), hb2.trans (hb3.mono hb2.size)⟩

set_option maxHeartbeats 1000000 in
theorem n4_any (x : Blk) (least p : Int) (room : Bool) (bf bl bp br : Nat) (w : World) (hf : w.cell? ⟨bf, 0, none⟩ = some (.func (.func 110) #[] #[pt br])) (hr : w.cell? ⟨br, 0, none⟩ = some (.bool room))
    (hl : w.cell? ⟨bl, 0, none⟩ = some (vi least)) (hp : w.cell? ⟨bp, 0, none⟩ = some (vi p))
    (hx : RightWear x) (h3 : 0 ≤ least) (h4 : least ≤ 1099511627776) :
    Calls Try.prog 114 #[x.v, pt bf, pt bl, pt bp] w fun e w' => e = .returned (.bool (fullB room x && mayB least x && decide (x.l < p))) ∧ Below w.heap.size w w' := by
  have hx' := Lib.hid hx
  clear hx
  have f0 : ∀ o, (w.alloc o).cell? ⟨bf, 0, none⟩ = some (.func (.func 110) #[] #[pt br]) := fun o => cell_alloc_old hf o
  have f1 : ∀ o, (w.alloc o).cell? ⟨br, 0, none⟩ = some (.bool room) := fun o => cell_alloc_old hr o
  go_enter Try.func114, Try.ntmps114
  go_wp2_with fail
  refine (n2_any x room br _ (f1 _)).mono ?_
  rintro e w1 ⟨rfl, hb1⟩
  have k1 : w1.cell? ⟨bl, 0, none⟩ = some (vi least) := cell_below (cell_alloc_old hl _) hb1
  have k2 : w1.cell? ⟨bp, 0, none⟩ = some (vi p) := cell_below (cell_alloc_old hp _) hb1
  obtain ⟨⟨c0, c1, c2, c3⟩, hb2⟩ := box4 x 121 hb1
  clear hb1
  cases h : fullB room x
  · go_wp2_with fail
    go_ret
    exact ⟨ret_bool (by simp [h]), hb2⟩
  · go_wp2_with fail
    refine (may_any x least _ hx'.out.1 hx'.out.2 h3 h4).mono ?_
    rintro e w2 ⟨rfl, hb3⟩
    have k2' := cell_below k2 hb3
    have c1' := cell_below c1 hb3
    have hb4 := hb2.trans (hb3.mono hb2.size)
    clear hb3 k1 k2 c0 c1 c2 c3
    cases h' : mayB least x
    · go_wp2_with fail
      go_ret
      exact ⟨ret_bool (by simp [h, h']), hb4⟩
    · go_wp2_with fail
      go_ret
      exact ⟨ret_bool (by simp [h, h']), hb4⟩

set_option maxHeartbeats 1000000 in
theorem n5_any (x : Blk) (least : Int) (bl : Nat) (w : World) (hl : w.cell? ⟨bl, 0, none⟩ = some (vi least)) :
    Calls Try.prog 117 #[x.v, pt bl] w fun e w' => e = .returned (.bool (burnB least x)) ∧ Below w.heap.size w w' := by
  have f0 : ∀ o, (w.alloc o).cell? ⟨bl, 0, none⟩ = some (vi least) := fun o => cell_alloc_old hl o
  by_cases h1 : (x.r == least) = true
  · by_cases h2 : (x.s == 0) = true
    · go_enter Try.func117, Try.ntmps117
      go_wp2_with fail
      go_ret
      exact ⟨ret_bool (by simp [burnB, h1, h2]), (Below.refl _ _).alloc (Nat.le_refl _) _⟩
    · have h2' : (x.s == 0) = false := by simpa using h2
      by_cases h3 : (x.s == 1) = true
      · go_enter Try.func117, Try.ntmps117
        go_wp2_with fail
        go_ret
        exact ⟨ret_bool (by simp [burnB, h1, h2', h3]), (Below.refl _ _).alloc (Nat.le_refl _) _⟩
      · have h3' : (x.s == 1) = false := by simpa using h3
        go_enter Try.func117, Try.ntmps117
        go_wp2_with fail
        go_ret
        exact ⟨ret_bool (by simp [burnB, h1, h2', h3']), (Below.refl _ _).alloc (Nat.le_refl _) _⟩
  · have h1' : (x.r == least) = false := by simpa using h1
    go_enter Try.func117, Try.ntmps117
    go_wp2_with fail
    go_ret
    exact ⟨ret_bool (by simp [burnB, h1']), (Below.refl _ _).alloc (Nat.le_refl _) _⟩

set_option maxHeartbeats 1000000 in
theorem n6_any (x : Blk) (least : Int) (room : Bool) (bf bl br : Nat) (w : World) (hf : w.cell? ⟨bf, 0, none⟩ = some (.func (.func 110) #[] #[pt br])) (hr : w.cell? ⟨br, 0, none⟩ = some (.bool room))
    (hl : w.cell? ⟨bl, 0, none⟩ = some (vi least)) :
    Calls Try.prog 118 #[x.v, pt bf, pt bl] w fun e w' => e = .returned (.bool (fullB room x && x.r == least)) ∧ Below w.heap.size w w' := by
  have f0 : ∀ o, (w.alloc o).cell? ⟨bf, 0, none⟩ = some (.func (.func 110) #[] #[pt br]) := fun o => cell_alloc_old hf o
  have f1 : ∀ o, (w.alloc o).cell? ⟨br, 0, none⟩ = some (.bool room) := fun o => cell_alloc_old hr o
  go_enter Try.func118, Try.ntmps118
  go_wp2_with fail
  refine (n2_any x room br _ (f1 _)).mono ?_
  rintro e w1 ⟨rfl, hb1⟩
  have k1 : w1.cell? ⟨bl, 0, none⟩ = some (vi least) := cell_below (cell_alloc_old hl _) hb1
  obtain ⟨⟨c0, c1, c2, c3⟩, hb2⟩ := box4 x 121 hb1
  clear hb1
  cases h : fullB room x
  all_goals
    go_wp2_with fail
    go_ret
    exact ⟨ret_bool (by simp [h]), hb2⟩

set_option maxHeartbeats 1000000 in
theorem n7_any (x : Blk) (p : Int) (room : Bool) (bf bp br : Nat) (w : World) (hf : w.cell? ⟨bf, 0, none⟩ = some (.func (.func 110) #[] #[pt br])) (hr : w.cell? ⟨br, 0, none⟩ = some (.bool room))
    (hp : w.cell? ⟨bp, 0, none⟩ = some (vi p)) :
    Calls Try.prog 120 #[x.v, pt bf, pt bp] w fun e w' => e = .returned (.bool (fullB room x && decide (x.l < p))) ∧ Below w.heap.size w w' := by
  have f0 : ∀ o, (w.alloc o).cell? ⟨bf, 0, none⟩ = some (.func (.func 110) #[] #[pt br]) := fun o => cell_alloc_old hf o
  have f1 : ∀ o, (w.alloc o).cell? ⟨br, 0, none⟩ = some (.bool room) := fun o => cell_alloc_old hr o
  go_enter Try.func120, Try.ntmps120
  go_wp2_with fail
  refine (n2_any x room br _ (f1 _)).mono ?_
  rintro e w1 ⟨rfl, hb1⟩
  have k1 : w1.cell? ⟨bp, 0, none⟩ = some (vi p) := cell_below (cell_alloc_old hp _) hb1
  obtain ⟨⟨c0, c1, c2, c3⟩, hb2⟩ := box4 x 121 hb1
  clear hb1
  cases h : fullB room x
  all_goals
    go_wp2_with fail
    go_ret
    exact ⟨ret_bool (by simp [h]), hb2⟩

/-- The first place at which a test says yes. -/
def firstTo (P : Blk → Bool) : List Blk → Nat → Int
  | [], _ => -1
  | x :: l, k => if P x then k else firstTo P l (k + 1)
def first (P : Blk → Bool) (bs : List Blk) : Int := firstTo P bs 0
theorem firstTo_bd (P : Blk → Bool) : ∀ (l : List Blk) (k : Nat), firstTo P l k = -1 ∨ (k : Int) ≤ firstTo P l k ∧ firstTo P l k < k + l.length
  | [], _ => .inl rfl
  | x :: l, k => by
    unfold firstTo
    split
    · exact .inr ⟨by omega, by simp; omega⟩
    · rcases firstTo_bd P l (k + 1) with h | h
      · exact .inl h
      · exact .inr ⟨by omega, by simp at h ⊢; omega⟩
theorem first_bd (P : Blk → Bool) (bs : List Blk) : -1 ≤ first P bs ∧ first P bs < bs.length := by
  rcases firstTo_bd P bs 0 with h | h <;> unfold first <;> omega
theorem firstTo_drop (P : Blk → Bool) (bs : List Blk) (k : Nat) (h : k < bs.length) : firstTo P (bs.drop k) k = if P (bs.getD k default) then (k : Int) else firstTo P (bs.drop (k + 1)) (k + 1) := by
  rw [List.drop_eq_getElem_cons h, firstTo, List.getD_eq_getElem?_getD, List.getElem?_eq_getElem h]
  rfl

set_option maxHeartbeats 1000000 in
theorem IndexFunc_any (F : Nat) (cm : Array Value) (v : Value) (bs : List Blk) (w : World) (P : Blk → Bool) (hrow : Row w v bs)
    (hF : ∀ args W, (callFunc F args).run Try.prog W = .ok (.enter F args) W)
    (hMay : ∀ (x : Blk) (W : World), x ∈ bs → Below w.heap.size w W → Calls Try.prog F (#[x.v] ++ cm) W fun e W' => e = .returned (.bool (P x)) ∧ Below W.heap.size W W') :
    Calls Try.prog 116 #[v, .func (.func F) #[] cm] w fun e w' => e = .returned (vi (first P bs)) ∧ Below w.heap.size w w' := by
  have HR := Lib.hid hrow
  obtain ⟨hlen, a, cap, rfl, -⟩ := hrow
  have HM := Lib.hid hMay
  clear hMay
  go_enter Try.func116, Try.ntmps116
  go_wp2_with fail
  go_loopw [8] (fun i wr => ∃ k : Nat, k ≤ bs.length ∧ i = vi k ∧ first P bs = firstTo P (bs.drop k) k ∧ Below w.heap.size w wr) (fun i _ => bs.length - (intOf i).toNat)
  case atStart => exact ⟨0, Nat.zero_le _, rfl, rfl, Below.refl _ _⟩
  case round =>
    obtain ⟨k, hk, rfl, hf, hb⟩ := hrel
    have Hf := Lib.hid hf
    clear hf
    by_cases hlt : k < bs.length
    · obtain ⟨b, o, rfl, hx⟩ := (HR.out.below hb).lookup hlt
      have hin : bs.getD k default ∈ bs := by rw [List.getD_eq_getElem?_getD, List.getElem?_eq_getElem hlt]; exact List.getElem_mem hlt
      have hd := firstTo_drop P bs k hlt
      generalize bs.getD k default = x at hx hin hd
      obtain ⟨g0, g1, g2, g3⟩ := hx
      have Hin := Lib.hid hin
      have Hd := Lib.hid hd
      clear hin hd
      go_wp2_with fail
      refine (HM.out x _ Hin.out hb).mono ?_
      rintro e w1 ⟨rfl, hb1⟩
      have hb2 := hb.trans (hb1.mono hb.size)
      cases hP : P x
      · go_wp2_with fail
        go_roundw
        case rel => exact ⟨k + 1, by omega, by go_num, by rw [Hf.out, Hd.out, hP]; rfl, hb2⟩
        case measure => simp [intOf]; omega
      · go_wp2_with fail
        go_ret
        exact ⟨ret_int (by rw [Hf.out, Hd.out, hP]; rfl), hb2⟩
    · go_wp2_with fail
      go_ret
      obtain rfl : k = bs.length := by omega
      exact ⟨ret_int (by rw [Hf.out, List.drop_length]; rfl), hb⟩

end Go.Proofs.Ytpggkehfbhffbaa.gcs
