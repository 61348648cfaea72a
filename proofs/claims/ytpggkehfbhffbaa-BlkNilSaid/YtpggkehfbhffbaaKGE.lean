/-
  gc: the next action: for every row that is read.
-/
import Derived.Test.YtpggkehfbhffbaaKGD
namespace Go.Proofs.Ytpggkehfbhffbaa.gcs
open Go.RowKit

abbrev vact (a : Int × Int) : Value := .agg #[vi a.1, vi a.2]

theorem field_a0 (x y : Int) (w : World) : (Instr.field 74 (.agg #[vi x, vi y]) 0).run Try.prog w = .ok (vi x) w := by kernel_rfl
theorem field_a1 (x y : Int) (w : World) : (Instr.field 74 (.agg #[vi x, vi y]) 1).run Try.prog w = .ok (vi y) w := by kernel_rfl

def movedB (room : Bool) (p : Int) (x : Blk) : Bool := fullB room x && decide (x.l < p)
def pick4 (k : Int) (kind : Int) (r : Int × Int) : Int × Int := if 0 ≤ k then (kind, k) else r
def forcedL (bs : List Blk) (p : Int) (room : Bool) : Int × Int :=
  pick4 (best staleB wornB bs) 4 (pick4 (best (movedB room p) emptierB bs) 4 (0, -1))
def NextL (bs : List Blk) (p : Int) (room : Bool) : Int × Int :=
  if RightL p bs then
    pick4 (best (fun x => staleB x && mayB (leastL bs) x) wornB bs) 1
      (pick4 (best (fun x => fullB room x && mayB (leastL bs) x && decide (x.l < p)) emptierB bs) 2
        (pick4 (first (burnB (leastL bs)) bs) 3
          (pick4 (best (fun x => fullB room x && x.r == leastL bs) emptierB bs) 2 (forcedL bs p room))))
  else (0, -1)

theorem pick4_yes {k kind : Int} {r : Int × Int} (h : 0 ≤ k) : pick4 k kind r = (kind, k) := if_pos h
theorem pick4_no {k kind : Int} {r : Int × Int} (h : k < 0) : pick4 k kind r = r := if_neg (by omega)

/-- A result that lies in a block of two cells, behind what left old memory alone. -/
theorem box2 {w w1 : World} {u v : Value} {T : TypeId} (h : Below (w.alloc (.cells #[u, v] T)).heap.size (w.alloc (.cells #[u, v] T)) w1) :
    (w1.cell? ⟨w.heap.size, 0, none⟩ = some u ∧ w1.cell? ⟨w.heap.size, 1, none⟩ = some v ∧ w1.frozen? ⟨w.heap.size, 0, none⟩ = false ∧ w1.frozen? ⟨w.heap.size, 1, none⟩ = false) ∧ Below w.heap.size w w1 :=
  ⟨⟨cell_below (by simp) h, cell_below (by simp) h, by rw [h.frozen (by simp)]; simp, by rw [h.frozen (by simp)]; simp⟩, ((Below.refl _ _).alloc (Nat.le_refl _) _).trans (h.mono (by simp))⟩
theorem keep2 {w w1 : World} {b : Nat} {u v : Value} (h : w.cell? ⟨b, 0, none⟩ = some u ∧ w.cell? ⟨b, 1, none⟩ = some v ∧ w.frozen? ⟨b, 0, none⟩ = false ∧ w.frozen? ⟨b, 1, none⟩ = false) (hb : Below w.heap.size w w1) :
    w1.cell? ⟨b, 0, none⟩ = some u ∧ w1.cell? ⟨b, 1, none⟩ = some v ∧ w1.frozen? ⟨b, 0, none⟩ = false ∧ w1.frozen? ⟨b, 1, none⟩ = false :=
  ⟨cell_below h.1 hb, cell_below h.2.1 hb, (hb.frozen (cell_lt h.1)).trans h.2.2.1, (hb.frozen (cell_lt h.2.1)).trans h.2.2.2⟩

set_option maxHeartbeats 1000000 in
theorem forced_any (v : Value) (bs : List Blk) (p : Int) (room : Bool) (bf bp br : Nat) (w : World) (hrow : Row w v bs)
    (hf : w.cell? ⟨bf, 0, none⟩ = some (.func (.func 110) #[] #[pt br])) (hr : w.cell? ⟨br, 0, none⟩ = some (.bool room)) (hp : w.cell? ⟨bp, 0, none⟩ = some (vi p)) :
    Calls Try.prog 119 #[v, fn0 109, .func (.func 120) #[] #[pt bf, pt bp]] w fun e w' => e = .returned (vact (forcedL bs p room)) ∧ Below w.heap.size w w' := by
  have HR := Lib.hid hrow
  clear hrow
  have HL := Lib.hid (show forcedL bs p room = pick4 (best staleB wornB bs) 4 (pick4 (best (movedB room p) emptierB bs) 4 (0, -1)) from rfl)
  go_enter Try.func119, Try.ntmps119
  go_wp2_with fail
  refine (best_any 109 113 #[] #[] _ bs _ staleB wornB (HR.out.below ((Below.refl _ _).alloc (Nat.le_refl _) _)) enter_n1 enter_worn (fun x W _ _ => n1_any x W) (fun x y W _ => worn_any x y W)).mono ?_
  rintro e w1 ⟨rfl, hb1⟩
  obtain ⟨hk, hb2⟩ := box2 hb1
  have hbd := best_bd staleB wornB bs
  generalize best staleB wornB bs = k1 at *
  clear hb1
  by_cases h1 : 0 ≤ k1
  · obtain ⟨c0, c1, f0, f1⟩ := hk
    go_wp2_with fail
    refine bodyPost_ret (v := vact (4, k1)) (by simp [results, Try.results119, go_sem, c0, c1]) rfl ⟨by rw [HL.out, pick4_yes h1], ?_⟩
    exact (hb2.setCell (p := ⟨w.heap.size, 0, none⟩) (Nat.le_refl _) _).setCell (p := ⟨w.heap.size, 1, none⟩) (Nat.le_refl _) _
  · have h1' : k1 < 0 := by omega
    go_wp2_with fail
    refine (best_any 120 115 #[pt bf, pt bp] #[] _ bs _ (movedB room p) emptierB (HR.out.below hb2) enter_n7 enter_emptier
      (fun x W _ hW => n7_any x p room bf bp br W (cell_below (cell_below hf hb2) hW) (cell_below (cell_below hr hb2) hW) (cell_below (cell_below hp hb2) hW)) (fun x y W _ => emptier_any x y W)).mono ?_
    rintro e w2 ⟨rfl, hb3⟩
    have hk2 := keep2 hk hb3
    have hb4 := hb2.trans (hb3.mono hb2.size)
    have hbd2 := best_bd (movedB room p) emptierB bs
    generalize best (movedB room p) emptierB bs = k2 at *
    clear hb3 hb2 hk
    obtain ⟨c0, c1, f0, f1⟩ := hk2
    by_cases h2 : 0 ≤ k2
    · go_wp2_with fail
      refine bodyPost_ret (v := vact (4, k2)) (by simp [results, Try.results119, go_sem, c0, c1]) rfl ⟨by rw [HL.out, pick4_no h1', pick4_yes h2], ?_⟩
      exact (hb4.setCell (p := ⟨w.heap.size, 0, none⟩) (Nat.le_refl _) _).setCell (p := ⟨w.heap.size, 1, none⟩) (Nat.le_refl _) _
    · have h2' : k2 < 0 := by omega
      go_wp2_with fail
      refine bodyPost_ret (v := vact (0, -1)) (by simp [results, Try.results119, go_sem, c0, c1]) rfl ⟨by rw [HL.out, pick4_no h1', pick4_no h2'], ?_⟩
      exact (hb4.setCell (p := ⟨w.heap.size, 0, none⟩) (Nat.le_refl _) _).setCell (p := ⟨w.heap.size, 1, none⟩) (Nat.le_refl _) _

end Go.Proofs.Ytpggkehfbhffbaa.gcs
