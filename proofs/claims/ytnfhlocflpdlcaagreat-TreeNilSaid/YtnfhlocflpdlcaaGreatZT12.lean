/-
  Lemmas for a law's proof, put together from several texts: each part says what it shows, and its conditions.
-/
import Derived.Test.YtnfhlocflpdlcaaGreatZT11
/-
  gc: the tests that Next hands on, and the first block that meets a test: for every row that is read.
-/
namespace Go.Proofs.YtnfhlocflpdlcaaGreat.gcs
open Go.RowKit

abbrev pt (b : Nat) : Value := .pointer (some ⟨b, 0, none⟩)
abbrev fn0 (f : Nat) : Value := .func (.func f) #[] #[]

def staleB (x : Blk) : Bool := x.s == 3
def fullB (room : Bool) (x : Blk) : Bool := room && x.s == 2
def burnB (least : Int) (x : Blk) : Bool := x.r == least && (x.s == 0 || x.s == 1 && x.n == 0)

theorem n1_any (x : Blk) (w : World) :
    Calls Tryz.prog 247 #[x.v] w fun e w' => e = .returned (.bool (staleB x)) ∧ Below w.heap.size w w' := by
  go_enter Tryz.func247, Tryz.ntmps247
  go_wp2
  go_ret
  exact ⟨rfl, (Below.refl _ _).alloc (Nat.le_refl _) _⟩

theorem cell_alloc_old {w : World} {a : Addr} {v : Value} (h : w.cell? a = some v) (o : Obj) : (w.alloc o).cell? a = some v :=
  cell_below h ((Below.refl _ _).alloc (Nat.le_refl _) _)

theorem n2_any (x : Blk) (room : Bool) (br : Nat) (w : World) (hr : w.cell? ⟨br, 0, none⟩ = some (.bool room)) :
    Calls Tryz.prog 248 #[x.v, pt br] w fun e w' => e = .returned (.bool (fullB room x)) ∧ Below w.heap.size w w' := by
  have h1 : ∀ o, (w.alloc o).cell? ⟨br, 0, none⟩ = some (.bool room) := fun o => cell_alloc_old hr o
  cases room
  all_goals
    go_enter Tryz.func248, Tryz.ntmps248
    go_wp2
    go_ret
    exact ⟨rfl, (Below.refl _ _).alloc (Nat.le_refl _) _⟩

/-- A right block's Wear. -/
def RightWear (x : Blk) : Prop := 0 ≤ x.r ∧ x.r ≤ 1099511627776

/-- A block that was boxed, behind what left old memory alone. -/
theorem box4 {w w1 : World} (x : Blk) (T : TypeId) (h : Below (w.alloc (.cells #[vi x.s, vi x.l, vi x.r, vi x.n] T)).heap.size (w.alloc (.cells #[vi x.s, vi x.l, vi x.r, vi x.n] T)) w1) :
    (w1.cell? ⟨w.heap.size, 0, none⟩ = some (vi x.s) ∧ w1.cell? ⟨w.heap.size, 1, none⟩ = some (vi x.l) ∧ w1.cell? ⟨w.heap.size, 2, none⟩ = some (vi x.r) ∧ w1.cell? ⟨w.heap.size, 3, none⟩ = some (vi x.n)) ∧ Below w.heap.size w w1 :=
  ⟨⟨cell_below (by simp) h, cell_below (by simp) h, cell_below (by simp) h, cell_below (by simp) h⟩, ((Below.refl _ _).alloc (Nat.le_refl _) _).trans (h.mono (by simp))⟩

set_option maxHeartbeats 1000000 in
theorem n3_any (x : Blk) (least : Int) (bs bl : Nat) (w : World) (hs : w.cell? ⟨bs, 0, none⟩ = some (fn0 247)) (hl : w.cell? ⟨bl, 0, none⟩ = some (vi least))
    (hx : RightWear x) (h3 : 0 ≤ least) (h4 : least ≤ 1099511627776) :
    Calls Tryz.prog 249 #[x.v, pt bs, pt bl] w fun e w' => e = .returned (.bool (staleB x && mayB least x)) ∧ Below w.heap.size w w' := by
  have hx' := Lib.hid hx
  clear hx
  have f0 : ∀ o, (w.alloc o).cell? ⟨bs, 0, none⟩ = some (fn0 247) := fun o => cell_alloc_old hs o
  go_enter Tryz.func249, Tryz.ntmps249
  go_wp2_with fail
  refine (n1_any x _).mono ?_
  rintro e w1 ⟨rfl, hb1⟩
  have k1 : w1.cell? ⟨bl, 0, none⟩ = some (vi least) := cell_below (cell_alloc_old hl _) hb1
  obtain ⟨⟨c0, c1, c2, c3⟩, hb2⟩ := box4 x 236 hb1
  clear hb1
  cases h : staleB x
  · go_wp2_with fail
    go_ret
    exact ⟨ret_bool (by simp [h]), hb2⟩
  · go_wp2_with fail
    refine (may_any x least _ hx'.out.1 hx'.out.2 h3 h4).mono ?_
    rintro e w2 ⟨rfl, hb3⟩
    go_wp2_with fail
    go_ret
    exact ⟨ret_bool (by simp [h]), hb2.trans (hb3.mono hb2.size)⟩

set_option maxHeartbeats 1000000 in
theorem n4_any (x : Blk) (least p : Int) (room : Bool) (bf bl bp br : Nat) (w : World) (hf : w.cell? ⟨bf, 0, none⟩ = some (.func (.func 248) #[] #[pt br])) (hr : w.cell? ⟨br, 0, none⟩ = some (.bool room))
    (hl : w.cell? ⟨bl, 0, none⟩ = some (vi least)) (hp : w.cell? ⟨bp, 0, none⟩ = some (vi p))
    (hx : RightWear x) (h3 : 0 ≤ least) (h4 : least ≤ 1099511627776) :
    Calls Tryz.prog 252 #[x.v, pt bf, pt bl, pt bp] w fun e w' => e = .returned (.bool (fullB room x && mayB least x && decide (x.l < p))) ∧ Below w.heap.size w w' := by
  have hx' := Lib.hid hx
  clear hx
  have f0 : ∀ o, (w.alloc o).cell? ⟨bf, 0, none⟩ = some (.func (.func 248) #[] #[pt br]) := fun o => cell_alloc_old hf o
  have f1 : ∀ o, (w.alloc o).cell? ⟨br, 0, none⟩ = some (.bool room) := fun o => cell_alloc_old hr o
  go_enter Tryz.func252, Tryz.ntmps252
  go_wp2_with fail
  refine (n2_any x room br _ (f1 _)).mono ?_
  rintro e w1 ⟨rfl, hb1⟩
  have k1 : w1.cell? ⟨bl, 0, none⟩ = some (vi least) := cell_below (cell_alloc_old hl _) hb1
  have k2 : w1.cell? ⟨bp, 0, none⟩ = some (vi p) := cell_below (cell_alloc_old hp _) hb1
  obtain ⟨⟨c0, c1, c2, c3⟩, hb2⟩ := box4 x 236 hb1
  clear hb1
  cases h : fullB room x
  · go_wp2_with fail
    go_ret
    exact ⟨ret_bool (by simp [h]), hb2⟩
  · go_wp2_with fail
    refine (may_any x least _ hx'.out.1 hx'.out.2 h3 h4).mono ?_
    rintro e w2 ⟨rfl, hb3⟩
    have k2' := cell_below k2 hb3
    have c1' := cell_below c1 hb3
    have hb4 := hb2.trans (hb3.mono hb2.size)
    clear hb3 k1 k2 c0 c1 c2 c3
    cases h' : mayB least x
    · go_wp2_with fail
      go_ret
      exact ⟨ret_bool (by simp [h, h']), hb4⟩
    · go_wp2_with fail
      go_ret
      exact ⟨ret_bool (by simp [h, h']), hb4⟩

set_option maxHeartbeats 1000000 in
theorem n5_any (x : Blk) (least : Int) (bl : Nat) (w : World) (hl : w.cell? ⟨bl, 0, none⟩ = some (vi least)) :
    Calls Tryz.prog 255 #[x.v, pt bl] w fun e w' => e = .returned (.bool (burnB least x)) ∧ Below w.heap.size w w' := by
  have f0 : ∀ o, (w.alloc o).cell? ⟨bl, 0, none⟩ = some (vi least) := fun o => cell_alloc_old hl o
  by_cases h1 : (x.r == least) = true
  · by_cases h2 : (x.s == 0) = true
    · go_enter Tryz.func255, Tryz.ntmps255
      go_wp2_with fail
      go_ret
      exact ⟨ret_bool (by simp [burnB, h1, h2]), (Below.refl _ _).alloc (Nat.le_refl _) _⟩
    · have h2' : (x.s == 0) = false := by simpa using h2
      by_cases h3 : (x.s == 1) = true
      · go_enter Tryz.func255, Tryz.ntmps255
        go_wp2_with fail
        go_ret
        exact ⟨ret_bool (by simp [burnB, h1, h2', h3]), (Below.refl _ _).alloc (Nat.le_refl _) _⟩
      · have h3' : (x.s == 1) = false := by simpa using h3
        go_enter Tryz.func255, Tryz.ntmps255
        go_wp2_with fail
        go_ret
        exact ⟨ret_bool (by simp [burnB, h1, h2', h3']), (Below.refl _ _).alloc (Nat.le_refl _) _⟩
  · have h1' : (x.r == least) = false := by simpa using h1
    go_enter Tryz.func255, Tryz.ntmps255
    go_wp2_with fail
    go_ret
    exact ⟨ret_bool (by simp [burnB, h1']), (Below.refl _ _).alloc (Nat.le_refl _) _⟩

set_option maxHeartbeats 1000000 in
theorem n6_any (x : Blk) (least : Int) (room : Bool) (bf bl br : Nat) (w : World) (hf : w.cell? ⟨bf, 0, none⟩ = some (.func (.func 248) #[] #[pt br])) (hr : w.cell? ⟨br, 0, none⟩ = some (.bool room))
    (hl : w.cell? ⟨bl, 0, none⟩ = some (vi least)) :
    Calls Tryz.prog 256 #[x.v, pt bf, pt bl] w fun e w' => e = .returned (.bool (fullB room x && x.r == least)) ∧ Below w.heap.size w w' := by
  have f0 : ∀ o, (w.alloc o).cell? ⟨bf, 0, none⟩ = some (.func (.func 248) #[] #[pt br]) := fun o => cell_alloc_old hf o
  have f1 : ∀ o, (w.alloc o).cell? ⟨br, 0, none⟩ = some (.bool room) := fun o => cell_alloc_old hr o
  go_enter Tryz.func256, Tryz.ntmps256
  go_wp2_with fail
  refine (n2_any x room br _ (f1 _)).mono ?_
  rintro e w1 ⟨rfl, hb1⟩
  have k1 : w1.cell? ⟨bl, 0, none⟩ = some (vi least) := cell_below (cell_alloc_old hl _) hb1
  obtain ⟨⟨c0, c1, c2, c3⟩, hb2⟩ := box4 x 236 hb1
  clear hb1
  cases h : fullB room x
  all_goals
    go_wp2_with fail
    go_ret
    exact ⟨ret_bool (by simp [h]), hb2⟩

set_option maxHeartbeats 1000000 in
theorem n7_any (x : Blk) (p : Int) (room : Bool) (bf bp br : Nat) (w : World) (hf : w.cell? ⟨bf, 0, none⟩ = some (.func (.func 248) #[] #[pt br])) (hr : w.cell? ⟨br, 0, none⟩ = some (.bool room))
    (hp : w.cell? ⟨bp, 0, none⟩ = some (vi p)) :
    Calls Tryz.prog 258 #[x.v, pt bf, pt bp] w fun e w' => e = .returned (.bool (fullB room x && decide (x.l < p))) ∧ Below w.heap.size w w' := by
  have f0 : ∀ o, (w.alloc o).cell? ⟨bf, 0, none⟩ = some (.func (.func 248) #[] #[pt br]) := fun o => cell_alloc_old hf o
  have f1 : ∀ o, (w.alloc o).cell? ⟨br, 0, none⟩ = some (.bool room) := fun o => cell_alloc_old hr o
  go_enter Tryz.func258, Tryz.ntmps258
  go_wp2_with fail
  refine (n2_any x room br _ (f1 _)).mono ?_
  rintro e w1 ⟨rfl, hb1⟩
  have k1 : w1.cell? ⟨bp, 0, none⟩ = some (vi p) := cell_below (cell_alloc_old hp _) hb1
  obtain ⟨⟨c0, c1, c2, c3⟩, hb2⟩ := box4 x 236 hb1
  clear hb1
  cases h : fullB room x
  all_goals
    go_wp2_with fail
    go_ret
    exact ⟨ret_bool (by simp [h]), hb2⟩

/-- The first place at which a test says yes. -/
def firstTo (P : Blk → Bool) : List Blk → Nat → Int
  | [], _ => -1
  | x :: l, k => if P x then k else firstTo P l (k + 1)
def first (P : Blk → Bool) (bs : List Blk) : Int := firstTo P bs 0
theorem firstTo_bd (P : Blk → Bool) : ∀ (l : List Blk) (k : Nat), firstTo P l k = -1 ∨ (k : Int) ≤ firstTo P l k ∧ firstTo P l k < k + l.length
  | [], _ => .inl rfl
  | x :: l, k => by
    unfold firstTo
    split
    · exact .inr ⟨by omega, by simp; omega⟩
    · rcases firstTo_bd P l (k + 1) with h | h
      · exact .inl h
      · exact .inr ⟨by omega, by simp at h ⊢; omega⟩
theorem first_bd (P : Blk → Bool) (bs : List Blk) : -1 ≤ first P bs ∧ first P bs < bs.length := by
  rcases firstTo_bd P bs 0 with h | h <;> unfold first <;> omega
theorem firstTo_drop (P : Blk → Bool) (bs : List Blk) (k : Nat) (h : k < bs.length) : firstTo P (bs.drop k) k = if P (bs.getD k default) then (k : Int) else firstTo P (bs.drop (k + 1)) (k + 1) := by
  rw [List.drop_eq_getElem_cons h, firstTo, List.getD_eq_getElem?_getD, List.getElem?_eq_getElem h]
  rfl

set_option maxHeartbeats 1000000 in
theorem IndexFunc_any (F : Nat) (cm : Array Value) (v : Value) (bs : List Blk) (w : World) (P : Blk → Bool) (hrow : Row w v bs)
    (hF : ∀ args W, (callFunc F args).run Tryz.prog W = .ok (.enter F args) W)
    (hMay : ∀ (x : Blk) (W : World), x ∈ bs → Below w.heap.size w W → Calls Tryz.prog F (#[x.v] ++ cm) W fun e W' => e = .returned (.bool (P x)) ∧ Below W.heap.size W W') :
    Calls Tryz.prog 254 #[v, .func (.func F) #[] cm] w fun e w' => e = .returned (vi (first P bs)) ∧ Below w.heap.size w w' := by
  have HR := Lib.hid hrow
  obtain ⟨hlen, a, cap, rfl, -⟩ := hrow
  have HM := Lib.hid hMay
  clear hMay
  go_enter Tryz.func254, Tryz.ntmps254
  go_wp2_with fail
  go_loopw [8] (fun i wr => ∃ k : Nat, k ≤ bs.length ∧ i = vi k ∧ first P bs = firstTo P (bs.drop k) k ∧ Below w.heap.size w wr) (fun i _ => bs.length - (intOf i).toNat)
  case atStart => exact ⟨0, Nat.zero_le _, rfl, rfl, Below.refl _ _⟩
  case round =>
    obtain ⟨k, hk, rfl, hf, hb⟩ := hrel
    have Hf := Lib.hid hf
    clear hf
    by_cases hlt : k < bs.length
    · obtain ⟨b, o, rfl, hx⟩ := (HR.out.below hb).lookup hlt
      have hin : bs.getD k default ∈ bs := by rw [List.getD_eq_getElem?_getD, List.getElem?_eq_getElem hlt]; exact List.getElem_mem hlt
      have hd := firstTo_drop P bs k hlt
      generalize bs.getD k default = x at hx hin hd
      obtain ⟨g0, g1, g2, g3⟩ := hx
      have Hin := Lib.hid hin
      have Hd := Lib.hid hd
      clear hin hd
      go_wp2_with fail
      refine (HM.out x _ Hin.out hb).mono ?_
      rintro e w1 ⟨rfl, hb1⟩
      have hb2 := hb.trans (hb1.mono hb.size)
      cases hP : P x
      · go_wp2_with fail
        go_roundw
        case rel => exact ⟨k + 1, by omega, by go_num, by rw [Hf.out, Hd.out, hP]; rfl, hb2⟩
        case measure => simp [intOf]; omega
      · go_wp2_with fail
        go_ret
        exact ⟨ret_int (by rw [Hf.out, Hd.out, hP]; rfl), hb2⟩
    · go_wp2_with fail
      go_ret
      obtain rfl : k = bs.length := by omega
      exact ⟨ret_int (by rw [Hf.out, List.drop_length]; rfl), hb⟩

end Go.Proofs.YtnfhlocflpdlcaaGreat.gcs

/-
  gc: the next action: for every row that is read.
-/
namespace Go.Proofs.YtnfhlocflpdlcaaGreat.gcs
open Go.RowKit

abbrev vact (a : Int × Int) : Value := .agg #[vi a.1, vi a.2]

theorem field_a0 (x y : Int) (w : World) : (Instr.field 275 (.agg #[vi x, vi y]) 0).run Tryz.prog w = .ok (vi x) w := by kernel_rfl
theorem field_a1 (x y : Int) (w : World) : (Instr.field 275 (.agg #[vi x, vi y]) 1).run Tryz.prog w = .ok (vi y) w := by kernel_rfl

def movedB (room : Bool) (p : Int) (x : Blk) : Bool := fullB room x && decide (x.l < p)
def pick4 (k : Int) (kind : Int) (r : Int × Int) : Int × Int := if 0 ≤ k then (kind, k) else r
def forcedL (bs : List Blk) (p : Int) (room : Bool) : Int × Int :=
  pick4 (best staleB wornB bs) 4 (pick4 (best (movedB room p) emptierB bs) 4 (0, -1))
def NextL (bs : List Blk) (p : Int) (room : Bool) : Int × Int :=
  if RightL p bs then
    pick4 (best (fun x => staleB x && mayB (leastL bs) x) wornB bs) 1
      (pick4 (best (fun x => fullB room x && mayB (leastL bs) x && decide (x.l < p)) emptierB bs) 2
        (pick4 (first (burnB (leastL bs)) bs) 3
          (pick4 (best (fun x => fullB room x && x.r == leastL bs) emptierB bs) 2 (forcedL bs p room))))
  else (0, -1)

theorem pick4_yes {k kind : Int} {r : Int × Int} (h : 0 ≤ k) : pick4 k kind r = (kind, k) := if_pos h
theorem pick4_no {k kind : Int} {r : Int × Int} (h : k < 0) : pick4 k kind r = r := if_neg (by omega)

/-- A result that lies in a block of two cells, behind what left old memory alone. -/
theorem box2 {w w1 : World} {u v : Value} {T : TypeId} (h : Below (w.alloc (.cells #[u, v] T)).heap.size (w.alloc (.cells #[u, v] T)) w1) :
    (w1.cell? ⟨w.heap.size, 0, none⟩ = some u ∧ w1.cell? ⟨w.heap.size, 1, none⟩ = some v ∧ w1.frozen? ⟨w.heap.size, 0, none⟩ = false ∧ w1.frozen? ⟨w.heap.size, 1, none⟩ = false) ∧ Below w.heap.size w w1 :=
  ⟨⟨cell_below (by simp) h, cell_below (by simp) h, by rw [h.frozen (by simp)]; simp, by rw [h.frozen (by simp)]; simp⟩, ((Below.refl _ _).alloc (Nat.le_refl _) _).trans (h.mono (by simp))⟩
theorem keep2 {w w1 : World} {b : Nat} {u v : Value} (h : w.cell? ⟨b, 0, none⟩ = some u ∧ w.cell? ⟨b, 1, none⟩ = some v ∧ w.frozen? ⟨b, 0, none⟩ = false ∧ w.frozen? ⟨b, 1, none⟩ = false) (hb : Below w.heap.size w w1) :
    w1.cell? ⟨b, 0, none⟩ = some u ∧ w1.cell? ⟨b, 1, none⟩ = some v ∧ w1.frozen? ⟨b, 0, none⟩ = false ∧ w1.frozen? ⟨b, 1, none⟩ = false :=
  ⟨cell_below h.1 hb, cell_below h.2.1 hb, (hb.frozen (cell_lt h.1)).trans h.2.2.1, (hb.frozen (cell_lt h.2.1)).trans h.2.2.2⟩

set_option maxHeartbeats 1000000 in
theorem forced_any (v : Value) (bs : List Blk) (p : Int) (room : Bool) (bf bp br : Nat) (w : World) (hrow : Row w v bs)
    (hf : w.cell? ⟨bf, 0, none⟩ = some (.func (.func 248) #[] #[pt br])) (hr : w.cell? ⟨br, 0, none⟩ = some (.bool room)) (hp : w.cell? ⟨bp, 0, none⟩ = some (vi p)) :
    Calls Tryz.prog 257 #[v, fn0 247, .func (.func 258) #[] #[pt bf, pt bp]] w fun e w' => e = .returned (vact (forcedL bs p room)) ∧ Below w.heap.size w w' := by
  have HR := Lib.hid hrow
  clear hrow
  have HL := Lib.hid (show forcedL bs p room = pick4 (best staleB wornB bs) 4 (pick4 (best (movedB room p) emptierB bs) 4 (0, -1)) from rfl)
  go_enter Tryz.func257, Tryz.ntmps257
  go_wp2_with fail
  refine (best_any 247 251 #[] #[] _ bs _ staleB wornB (HR.out.below ((Below.refl _ _).alloc (Nat.le_refl _) _)) enter_n1 enter_worn (fun x W _ _ => n1_any x W) (fun x y W _ => worn_any x y W)).mono ?_
  rintro e w1 ⟨rfl, hb1⟩
  obtain ⟨hk, hb2⟩ := box2 hb1
  have hbd := best_bd staleB wornB bs
  generalize best staleB wornB bs = k1 at *
  clear hb1
  by_cases h1 : 0 ≤ k1
  · obtain ⟨c0, c1, f0, f1⟩ := hk
    go_wp2_with fail
    refine bodyPost_ret (v := vact (4, k1)) (by simp [results, Tryz.results257, go_sem, c0, c1]) rfl ⟨by rw [HL.out, pick4_yes h1], ?_⟩
    exact (hb2.setCell (p := ⟨w.heap.size, 0, none⟩) (Nat.le_refl _) _).setCell (p := ⟨w.heap.size, 1, none⟩) (Nat.le_refl _) _
  · have h1' : k1 < 0 := by omega
    go_wp2_with fail
    refine (best_any 258 253 #[pt bf, pt bp] #[] _ bs _ (movedB room p) emptierB (HR.out.below hb2) enter_n7 enter_emptier
      (fun x W _ hW => n7_any x p room bf bp br W (cell_below (cell_below hf hb2) hW) (cell_below (cell_below hr hb2) hW) (cell_below (cell_below hp hb2) hW)) (fun x y W _ => emptier_any x y W)).mono ?_
    rintro e w2 ⟨rfl, hb3⟩
    have hk2 := keep2 hk hb3
    have hb4 := hb2.trans (hb3.mono hb2.size)
    have hbd2 := best_bd (movedB room p) emptierB bs
    generalize best (movedB room p) emptierB bs = k2 at *
    clear hb3 hb2 hk
    obtain ⟨c0, c1, f0, f1⟩ := hk2
    by_cases h2 : 0 ≤ k2
    · go_wp2_with fail
      refine bodyPost_ret (v := vact (4, k2)) (by simp [results, Tryz.results257, go_sem, c0, c1]) rfl ⟨by rw [HL.out, pick4_no h1', pick4_yes h2], ?_⟩
      exact (hb4.setCell (p := ⟨w.heap.size, 0, none⟩) (Nat.le_refl _) _).setCell (p := ⟨w.heap.size, 1, none⟩) (Nat.le_refl _) _
    · have h2' : k2 < 0 := by omega
      go_wp2_with fail
      refine bodyPost_ret (v := vact (0, -1)) (by simp [results, Tryz.results257, go_sem, c0, c1]) rfl ⟨by rw [HL.out, pick4_no h1', pick4_no h2'], ?_⟩
      exact (hb4.setCell (p := ⟨w.heap.size, 0, none⟩) (Nat.le_refl _) _).setCell (p := ⟨w.heap.size, 1, none⟩) (Nat.le_refl _) _

end Go.Proofs.YtnfhlocflpdlcaaGreat.gcs

/-
  gc: the next action: for every row that is read.
-/
namespace Go.Proofs.YtnfhlocflpdlcaaGreat.gcs
open Go.RowKit

theorem RightL_all {p : Int} {bs : List Blk} (h : RightL p bs = true) : ∀ x ∈ bs, rightB p x = true := by
  simp only [RightL, Bool.and_eq_true, List.all_eq_true] at h
  exact h.2
theorem RightL_wear {p : Int} {bs : List Blk} (h : RightL p bs = true) : ∀ x ∈ bs, RightWear x := fun x hx => by
  have := RightL_all h x hx
  simp only [rightB, Bool.and_eq_true, decide_eq_true_eq] at this
  exact ⟨this.1.1.2, this.1.2⟩
theorem wearAt_bd {bs : List Blk} (h : ∀ x ∈ bs, RightWear x) (k : Int) (hk : k < bs.length) : 0 ≤ wearAt bs k ∧ wearAt bs k ≤ 1099511627776 := by
  unfold wearAt
  split
  · omega
  · have hlt : k.toNat < bs.length := by omega
    have := h (bs.getD k.toNat default) (by rw [List.getD_eq_getElem?_getD, List.getElem?_eq_getElem hlt]; exact List.getElem_mem hlt)
    exact this
theorem leastL_bd {p : Int} {bs : List Blk} (h : RightL p bs = true) : 0 ≤ leastL bs ∧ leastL bs ≤ 1099511627776 := wearAt_bd (RightL_wear h) _ (best_bd _ _ _).2

/-- What Next keeps in its own variables. -/
structure NextEnv (w : World) (bp br b0 bl bs bf : Nat) (room : Bool) (p least : Int) (u v : Value) : Prop where
  cp : w.cell? ⟨bp, 0, none⟩ = some (vi p)
  cr : w.cell? ⟨br, 0, none⟩ = some (.bool room)
  res : w.cell? ⟨b0, 0, none⟩ = some u ∧ w.cell? ⟨b0, 1, none⟩ = some v ∧ w.frozen? ⟨b0, 0, none⟩ = false ∧ w.frozen? ⟨b0, 1, none⟩ = false
  cl : w.cell? ⟨bl, 0, none⟩ = some (vi least)
  cs : w.cell? ⟨bs, 0, none⟩ = some (fn0 247)
  cf : w.cell? ⟨bf, 0, none⟩ = some (.func (.func 248) #[] #[pt br])
theorem NextEnv.below {w w1 : World} {bp br b0 bl bs bf : Nat} {room : Bool} {p least : Int} {u v : Value} (h : NextEnv w bp br b0 bl bs bf room p least u v) (hb : Below w.heap.size w w1) : NextEnv w1 bp br b0 bl bs bf room p least u v :=
  ⟨cell_below h.cp hb, cell_below h.cr hb, keep2 h.res hb, cell_below h.cl hb, cell_below h.cs hb, cell_below h.cf hb⟩
theorem cell_alloc_at {w : World} {H : Nat} (v : Value) (T : TypeId) (hH : w.heap.size = H) : (w.alloc (.cells #[v] T)).cell? ⟨H, 0, none⟩ = some v := by subst hH; simp
theorem cells_alloc_at {w : World} {H : Nat} (u v : Value) (T : TypeId) (hH : w.heap.size = H) :
    (w.alloc (.cells #[u, v] T)).cell? ⟨H, 0, none⟩ = some u ∧ (w.alloc (.cells #[u, v] T)).cell? ⟨H, 1, none⟩ = some v ∧ (w.alloc (.cells #[u, v] T)).frozen? ⟨H, 0, none⟩ = false ∧ (w.alloc (.cells #[u, v] T)).frozen? ⟨H, 1, none⟩ = false := by subst hH; simp

theorem frozen_alloc_old {w : World} {a : Addr} (h : a.block < w.heap.size) (o : Obj) : (w.alloc o).frozen? a = w.frozen? a :=
  ((Below.refl w.heap.size w).alloc (Nat.le_refl _) o).frozen h

set_option maxHeartbeats 2000000 in
theorem Next_any (v : Value) (bs : List Blk) (p : Int) (room : Bool) (w : World) (hrow : Row w v bs) :
    Calls Tryz.prog 224 #[v, vi p, .bool room] w fun e w' => e = .returned (vact (NextL bs p room)) ∧ Below w.heap.size w w' := by
  have HR := Lib.hid hrow
  clear hrow
  have hL : NextL bs p room = if RightL p bs then
    pick4 (best (fun x => staleB x && mayB (leastL bs) x) wornB bs) 1
      (pick4 (best (fun x => fullB room x && mayB (leastL bs) x && decide (x.l < p)) emptierB bs) 2
        (pick4 (first (burnB (leastL bs)) bs) 3
          (pick4 (best (fun x => fullB room x && x.r == leastL bs) emptierB bs) 2 (forcedL bs p room)))) else (0, -1) := rfl
  have HL := Lib.hid hL
  clear hL
  go_enter Tryz.func224, Tryz.ntmps224
  go_wp2_with fail
  have hb0 : Below w.heap.size w (((w.alloc (.cells #[vi p] 3)).alloc (.cells #[.bool room] 4)).alloc (.cells #[vi 0, vi 0] 275)) :=
    (((Below.refl _ _).alloc (Nat.le_refl _) _).alloc (by simp) _).alloc (by simp; omega) _
  refine (Right_any v bs p _ (HR.out.below hb0)).mono ?_
  rintro e w1 ⟨rfl, hb1⟩
  have hb1' := hb0.trans (hb1.mono hb0.size)
  have cp : w1.cell? ⟨w.heap.size, 0, none⟩ = some (vi p) := cell_below (cell_alloc_old (cell_alloc_old (cell_alloc_at _ _ rfl) _) _) hb1
  have cr : w1.cell? ⟨w.heap.size + 1, 0, none⟩ = some (.bool room) := cell_below (cell_alloc_old (cell_alloc_at _ _ (by simp)) _) hb1
  have res := keep2 (cells_alloc_at (w := (w.alloc (.cells #[vi p] 3)).alloc (.cells #[.bool room] 4)) (H := w.heap.size + 1 + 1) (vi 0) (vi 0) 275 (by simp)) hb1
  clear hb1 hb0
  cases hr : RightL p bs
  · obtain ⟨c0, c1, f0, f1⟩ := res
    go_wp2_with fail
    refine bodyPost_ret (v := vact (0, -1)) (by simp [results, Tryz.results224, go_sem, c0, c1]) rfl ⟨by rw [HL.out, hr]; rfl, ?_⟩
    exact (hb1'.setCell (p := ⟨w.heap.size + 1 + 1, 0, none⟩) (by simp; omega) _).setCell (p := ⟨w.heap.size + 1 + 1, 1, none⟩) (by simp; omega) _
  · have hlb := leastL_bd hr
    have HW := Lib.hid (RightL_wear hr)
    have HL2 : Hid (NextL bs p room = pick4 (best (fun x => staleB x && mayB (leastL bs) x) wornB bs) 1
      (pick4 (best (fun x => fullB room x && mayB (leastL bs) x && decide (x.l < p)) emptierB bs) 2
        (pick4 (first (burnB (leastL bs)) bs) 3
          (pick4 (best (fun x => fullB room x && x.r == leastL bs) emptierB bs) 2 (forcedL bs p room))))) := by
      show _ = _
      rw [HL.out, hr]; rfl
    clear HL hr
    go_wp2_with fail
    refine (Least_any v bs _ (HR.out.below hb1')).mono ?_
    rintro e w2 ⟨rfl, hb2⟩
    generalize leastL bs = least at *
    have hb2' := hb1'.trans (hb2.mono hb1'.size)
    obtain ⟨W, hW⟩ : ∃ W : World, W = ((w2.alloc (.cells #[vi least] 3)).alloc (.cells #[fn0 247] 260)).alloc (.cells #[.func (.func 248) #[] #[pt (w.heap.size + 1)]] 260) := ⟨_, rfl⟩
    have hb3 : Below w2.heap.size w2 W := by rw [hW]; exact (((Below.refl _ _).alloc (Nat.le_refl _) _).alloc (by simp) _).alloc (by simp; omega) _
    have hE : NextEnv W w.heap.size (w.heap.size + 1) (w.heap.size + 1 + 1) w2.heap.size (w2.heap.size + 1) (w2.heap.size + 1 + 1) room p least (vi 0) (vi 0) := by
      refine ⟨cell_below (cell_below cp hb2) hb3, cell_below (cell_below cr hb2) hb3, keep2 (keep2 res hb2) hb3, ?_, ?_, ?_⟩
      · rw [hW]; exact cell_alloc_old (cell_alloc_old (cell_alloc_at _ _ rfl) _) _
      · rw [hW]; exact cell_alloc_old (cell_alloc_at _ _ (by simp)) _
      · rw [hW]; exact cell_alloc_at _ _ (by simp)
    have hb4 := hb2'.trans (hb3.mono hb2'.size)
    clear res cp cr hb1' hb2 hb3 hb2'
    go_wp2_with fail
    rw [← hW]
    clear hW
    generalize w2.heap.size = bl at *
    refine (best_any 249 251 #[pt (bl + 1), pt bl] #[] _ bs _ (fun x => staleB x && mayB least x) wornB (HR.out.below hb4) enter_n3 enter_worn
      (fun x W' hx hW => n3_any x least _ _ W' (hE.below hW).cs (hE.below hW).cl (HW.out x hx) hlb.1 hlb.2) (fun x y W _ => worn_any x y W)).mono ?_
    rintro e w3 ⟨rfl, hb5⟩
    have hE3 := hE.below hb5
    have hb6 := hb4.trans (hb5.mono hb4.size)
    have hbd := best_bd (fun x => staleB x && mayB least x) wornB bs
    generalize best (fun x => staleB x && mayB least x) wornB bs = k1 at *
    clear hb5 hb4 hE
    by_cases h1 : 0 ≤ k1
    · have HL3 := Lib.hid (HL2.out.trans (pick4_yes h1))
      obtain ⟨c0, c1, f0, f1⟩ := hE3.res
      go_wp2_with fail
      refine bodyPost_ret (v := vact (1, k1)) (by simp [results, Tryz.results224, go_sem, c0, c1]) rfl ⟨by rw [HL3.out], ?_⟩
      exact (hb6.setCell (p := ⟨w.heap.size + 1 + 1, 0, none⟩) (by simp; omega) _).setCell (p := ⟨w.heap.size + 1 + 1, 1, none⟩) (by simp; omega) _
    have h1' : k1 < 0 := by omega
    have HL3 := Lib.hid (HL2.out.trans (pick4_no h1'))
    clear HL2
    go_wp2_with fail
    refine (best_any 252 253 #[pt (bl + 1 + 1), pt bl, pt w.heap.size] #[] _ bs _ (fun x => fullB room x && mayB least x && decide (x.l < p)) emptierB (HR.out.below hb6) enter_n4 enter_emptier
      (fun x W' hx hW => n4_any x least p room _ _ _ _ W' (hE3.below hW).cf (hE3.below hW).cr (hE3.below hW).cl (hE3.below hW).cp (HW.out x hx) hlb.1 hlb.2) (fun x y W _ => emptier_any x y W)).mono ?_
    rintro e w4 ⟨rfl, hb7⟩
    have hE4 := hE3.below hb7
    have hb8 := hb6.trans (hb7.mono hb6.size)
    have hbd2 := best_bd (fun x => fullB room x && mayB least x && decide (x.l < p)) emptierB bs
    generalize best (fun x => fullB room x && mayB least x && decide (x.l < p)) emptierB bs = k2 at *
    clear hb7 hb6 hE3
    by_cases h2 : 0 ≤ k2
    · have HL4 := Lib.hid (HL3.out.trans (pick4_yes h2))
      obtain ⟨c0, c1, f0, f1⟩ := hE4.res
      go_wp2_with fail
      refine bodyPost_ret (v := vact (2, k2)) (by simp [results, Tryz.results224, go_sem, c0, c1]) rfl ⟨by rw [HL4.out], ?_⟩
      exact (hb8.setCell (p := ⟨w.heap.size + 1 + 1, 0, none⟩) (by simp; omega) _).setCell (p := ⟨w.heap.size + 1 + 1, 1, none⟩) (by simp; omega) _
    have h2' : k2 < 0 := by omega
    have HL4 := Lib.hid (HL3.out.trans (pick4_no h2'))
    clear HL3
    go_wp2_with fail
    refine (IndexFunc_any 255 #[pt bl] _ bs _ (burnB least) (HR.out.below hb8) enter_n5 (fun x W' hx hW => n5_any x least _ W' (hE4.below hW).cl)).mono ?_
    rintro e w5 ⟨rfl, hb9⟩
    have hE5 := hE4.below hb9
    have hb10 := hb8.trans (hb9.mono hb8.size)
    have hbd3 := first_bd (burnB least) bs
    generalize first (burnB least) bs = k3 at *
    clear hb9 hb8 hE4
    by_cases h3 : 0 ≤ k3
    · have HL5 := Lib.hid (HL4.out.trans (pick4_yes h3))
      obtain ⟨c0, c1, f0, f1⟩ := hE5.res
      go_wp2_with fail
      refine bodyPost_ret (v := vact (3, k3)) (by simp [results, Tryz.results224, go_sem, c0, c1]) rfl ⟨by rw [HL5.out], ?_⟩
      exact (hb10.setCell (p := ⟨w.heap.size + 1 + 1, 0, none⟩) (by simp; omega) _).setCell (p := ⟨w.heap.size + 1 + 1, 1, none⟩) (by simp; omega) _
    have h3' : k3 < 0 := by omega
    have HL5 := Lib.hid (HL4.out.trans (pick4_no h3'))
    clear HL4
    go_wp2_with fail
    refine (best_any 256 253 #[pt (bl + 1 + 1), pt bl] #[] _ bs _ (fun x => fullB room x && x.r == least) emptierB (HR.out.below hb10) enter_n6 enter_emptier
      (fun x W' hx hW => n6_any x least room _ _ _ W' (hE5.below hW).cf (hE5.below hW).cr (hE5.below hW).cl) (fun x y W _ => emptier_any x y W)).mono ?_
    rintro e w6 ⟨rfl, hb11⟩
    have hE6 := hE5.below hb11
    have hb12 := hb10.trans (hb11.mono hb10.size)
    have hbd4 := best_bd (fun x => fullB room x && x.r == least) emptierB bs
    generalize best (fun x => fullB room x && x.r == least) emptierB bs = k4 at *
    clear hb11 hb10 hE5
    by_cases h4 : 0 ≤ k4
    · have HL6 := Lib.hid (HL5.out.trans (pick4_yes h4))
      obtain ⟨c0, c1, f0, f1⟩ := hE6.res
      go_wp2_with fail
      refine bodyPost_ret (v := vact (2, k4)) (by simp [results, Tryz.results224, go_sem, c0, c1]) rfl ⟨by rw [HL6.out], ?_⟩
      exact (hb12.setCell (p := ⟨w.heap.size + 1 + 1, 0, none⟩) (by simp; omega) _).setCell (p := ⟨w.heap.size + 1 + 1, 1, none⟩) (by simp; omega) _
    have h4' : k4 < 0 := by omega
    have HL6 := Lib.hid (HL5.out.trans (pick4_no h4'))
    have cs := hE6.cs
    clear HL5
    go_wp2_with fail
    refine (forced_any v bs p room _ _ _ _ (HR.out.below hb12) hE6.cf hE6.cr hE6.cp).mono ?_
    rintro e w7 ⟨rfl, hb13⟩
    obtain ⟨c0, c1, f0, f1⟩ := (hE6.below hb13).res
    have hb14 := hb12.trans (hb13.mono hb12.size)
    clear hb13 hb12 hE6 cs
    generalize hfo : forcedL bs p room = r at *
    have Hfo := Lib.hid hfo
    clear hfo
    go_wp2_with fail
    refine bodyPost_ret (v := vact r) (by simp [results, Tryz.results224, go_sem, c0, c1]) rfl ⟨by rw [HL6.out], ?_⟩
    exact (hb14.setCell (p := ⟨w.heap.size + 1 + 1, 0, none⟩) (by simp; omega) _).setCell (p := ⟨w.heap.size + 1 + 1, 1, none⟩) (by simp; omega) _

end Go.Proofs.YtnfhlocflpdlcaaGreat.gcs

