/-
  gc: the next action: for every row that is read.
-/
import Derived.Test.YtpggkehfbhffbaaKGE
namespace Go.Proofs.Ytpggkehfbhffbaa.gcs
open Go.RowKit

theorem RightL_all {p : Int} {bs : List Blk} (h : RightL p bs = true) : ∀ x ∈ bs, rightB p x = true := by
  simp only [RightL, Bool.and_eq_true, List.all_eq_true] at h
  exact h.2
theorem RightL_wear {p : Int} {bs : List Blk} (h : RightL p bs = true) : ∀ x ∈ bs, RightWear x := fun x hx => by
  have := RightL_all h x hx
  simp only [rightB, Bool.and_eq_true, decide_eq_true_eq] at this
  exact ⟨this.1.1.2, this.1.2⟩
theorem wearAt_bd {bs : List Blk} (h : ∀ x ∈ bs, RightWear x) (k : Int) (hk : k < bs.length) : 0 ≤ wearAt bs k ∧ wearAt bs k ≤ 1099511627776 := by
  unfold wearAt
  split
  · omega
  · have hlt : k.toNat < bs.length := by omega
    have := h (bs.getD k.toNat default) (by rw [List.getD_eq_getElem?_getD, List.getElem?_eq_getElem hlt]; exact List.getElem_mem hlt)
    exact this
theorem leastL_bd {p : Int} {bs : List Blk} (h : RightL p bs = true) : 0 ≤ leastL bs ∧ leastL bs ≤ 1099511627776 := wearAt_bd (RightL_wear h) _ (best_bd _ _ _).2

/-- What Next keeps in its own variables. -/
structure NextEnv (w : World) (bp br b0 bl bs bf : Nat) (room : Bool) (p least : Int) (u v : Value) : Prop where
  cp : w.cell? ⟨bp, 0, none⟩ = some (vi p)
  cr : w.cell? ⟨br, 0, none⟩ = some (.bool room)
  res : w.cell? ⟨b0, 0, none⟩ = some u ∧ w.cell? ⟨b0, 1, none⟩ = some v ∧ w.frozen? ⟨b0, 0, none⟩ = false ∧ w.frozen? ⟨b0, 1, none⟩ = false
  cl : w.cell? ⟨bl, 0, none⟩ = some (vi least)
  cs : w.cell? ⟨bs, 0, none⟩ = some (fn0 109)
  cf : w.cell? ⟨bf, 0, none⟩ = some (.func (.func 110) #[] #[pt br])
theorem NextEnv.below {w w1 : World} {bp br b0 bl bs bf : Nat} {room : Bool} {p least : Int} {u v : Value} (h : NextEnv w bp br b0 bl bs bf room p least u v) (hb : Below w.heap.size w w1) : NextEnv w1 bp br b0 bl bs bf room p least u v :=
  ⟨cell_below h.cp hb, cell_below h.cr hb, keep2 h.res hb, cell_below h.cl hb, cell_below h.cs hb, cell_below h.cf hb⟩
theorem cell_alloc_at {w : World} {H : Nat} (v : Value) (T : TypeId) (hH : w.heap.size = H) : (w.alloc (.cells #[v] T)).cell? ⟨H, 0, none⟩ = some v := by subst hH; simp
theorem cells_alloc_at {w : World} {H : Nat} (u v : Value) (T : TypeId) (hH : w.heap.size = H) :
    (w.alloc (.cells #[u, v] T)).cell? ⟨H, 0, none⟩ = some u ∧ (w.alloc (.cells #[u, v] T)).cell? ⟨H, 1, none⟩ = some v ∧ (w.alloc (.cells #[u, v] T)).frozen? ⟨H, 0, none⟩ = false ∧ (w.alloc (.cells #[u, v] T)).frozen? ⟨H, 1, none⟩ = false := by subst hH; simp

theorem frozen_alloc_old {w : World} {a : Addr} (h : a.block < w.heap.size) (o : Obj) : (w.alloc o).frozen? a = w.frozen? a :=
  ((Below.refl w.heap.size w).alloc (Nat.le_refl _) o).frozen h

set_option maxHeartbeats 2000000 in
theorem Next_any (v : Value) (bs : List Blk) (p : Int) (room : Bool) (w : World) (hrow : Row w v bs) :
    Calls Try.prog 86 #[v, vi p, .bool room] w fun e w' => e = .returned (vact (NextL bs p room)) ∧ Below w.heap.size w w' := by
  have HR := Lib.hid hrow
  clear hrow
  have hL : NextL bs p room = if RightL p bs then
    pick4 (best (fun x => staleB x && mayB (leastL bs) x) wornB bs) 1
      (pick4 (best (fun x => fullB room x && mayB (leastL bs) x && decide (x.l < p)) emptierB bs) 2
        (pick4 (first (burnB (leastL bs)) bs) 3
          (pick4 (best (fun x => fullB room x && x.r == leastL bs) emptierB bs) 2 (forcedL bs p room)))) else (0, -1) := rfl
  have HL := Lib.hid hL
  clear hL
  go_enter Try.func86, Try.ntmps86
  go_wp2_with fail
  have hb0 : Below w.heap.size w (((w.alloc (.cells #[vi p] 3)).alloc (.cells #[.bool room] 4)).alloc (.cells #[vi 0, vi 0] 74)) :=
    (((Below.refl _ _).alloc (Nat.le_refl _) _).alloc (by simp) _).alloc (by simp; omega) _
  refine (Right_any v bs p _ (HR.out.below hb0)).mono ?_
  rintro e w1 ⟨rfl, hb1⟩
  have hb1' := hb0.trans (hb1.mono hb0.size)
  have cp : w1.cell? ⟨w.heap.size, 0, none⟩ = some (vi p) := cell_below (cell_alloc_old (cell_alloc_old (cell_alloc_at _ _ rfl) _) _) hb1
  have cr : w1.cell? ⟨w.heap.size + 1, 0, none⟩ = some (.bool room) := cell_below (cell_alloc_old (cell_alloc_at _ _ (by simp)) _) hb1
  have res := keep2 (cells_alloc_at (w := (w.alloc (.cells #[vi p] 3)).alloc (.cells #[.bool room] 4)) (H := w.heap.size + 1 + 1) (vi 0) (vi 0) 74 (by simp)) hb1
  clear hb1 hb0
  cases hr : RightL p bs
  · obtain ⟨c0, c1, f0, f1⟩ := res
    go_wp2_with fail
    refine bodyPost_ret (v := vact (0, -1)) (by simp [results, Try.results86, go_sem, c0, c1]) rfl ⟨by rw [HL.out, hr]; rfl, ?_⟩
    exact (hb1'.setCell (p := ⟨w.heap.size + 1 + 1, 0, none⟩) (by simp; omega) _).setCell (p := ⟨w.heap.size + 1 + 1, 1, none⟩) (by simp; omega) _
  · have hlb := leastL_bd hr
    have HW := Lib.hid (RightL_wear hr)
    have HL2 : Hid (NextL bs p room = pick4 (best (fun x => staleB x && mayB (leastL bs) x) wornB bs) 1
      (pick4 (best (fun x => fullB room x && mayB (leastL bs) x && decide (x.l < p)) emptierB bs) 2
        (pick4 (first (burnB (leastL bs)) bs) 3
          (pick4 (best (fun x => fullB room x && x.r == leastL bs) emptierB bs) 2 (forcedL bs p room))))) := by
      show _ = _
      rw [HL.out, hr]; rfl
    clear HL hr
    go_wp2_with fail
    refine (Least_any v bs _ (HR.out.below hb1')).mono ?_
    rintro e w2 ⟨rfl, hb2⟩
    generalize leastL bs = least at *
    have hb2' := hb1'.trans (hb2.mono hb1'.size)
    obtain ⟨W, hW⟩ : ∃ W : World, W = ((w2.alloc (.cells #[vi least] 3)).alloc (.cells #[fn0 109] 136)).alloc (.cells #[.func (.func 110) #[] #[pt (w.heap.size + 1)]] 136) := ⟨_, rfl⟩
    have hb3 : Below w2.heap.size w2 W := by rw [hW]; exact (((Below.refl _ _).alloc (Nat.le_refl _) _).alloc (by simp) _).alloc (by simp; omega) _
    have hE : NextEnv W w.heap.size (w.heap.size + 1) (w.heap.size + 1 + 1) w2.heap.size (w2.heap.size + 1) (w2.heap.size + 1 + 1) room p least (vi 0) (vi 0) := by
      refine ⟨cell_below (cell_below cp hb2) hb3, cell_below (cell_below cr hb2) hb3, keep2 (keep2 res hb2) hb3, ?_, ?_, ?_⟩
      · rw [hW]; exact cell_alloc_old (cell_alloc_old (cell_alloc_at _ _ rfl) _) _
      · rw [hW]; exact cell_alloc_old (cell_alloc_at _ _ (by simp)) _
      · rw [hW]; exact cell_alloc_at _ _ (by simp)
    have hb4 := hb2'.trans (hb3.mono hb2'.size)
    clear res cp cr hb1' hb2 hb3 hb2'
    go_wp2_with fail
    rw [← hW]
    clear hW
    generalize w2.heap.size = bl at *
    refine (best_any 111 113 #[pt (bl + 1), pt bl] #[] _ bs _ (fun x => staleB x && mayB least x) wornB (HR.out.below hb4) enter_n3 enter_worn
      (fun x W' hx hW => n3_any x least _ _ W' (hE.below hW).cs (hE.below hW).cl (HW.out x hx) hlb.1 hlb.2) (fun x y W _ => worn_any x y W)).mono ?_
    rintro e w3 ⟨rfl, hb5⟩
    have hE3 := hE.below hb5
    have hb6 := hb4.trans (hb5.mono hb4.size)
    have hbd := best_bd (fun x => staleB x && mayB least x) wornB bs
    generalize best (fun x => staleB x && mayB least x) wornB bs = k1 at *
    clear hb5 hb4 hE
    by_cases h1 : 0 ≤ k1
    · have HL3 := Lib.hid (HL2.out.trans (pick4_yes h1))
      obtain ⟨c0, c1, f0, f1⟩ := hE3.res
      go_wp2_with fail
      refine bodyPost_ret (v := vact (1, k1)) (by simp [results, Try.results86, go_sem, c0, c1]) rfl ⟨by rw [HL3.out], ?_⟩
      exact (hb6.setCell (p := ⟨w.heap.size + 1 + 1, 0, none⟩) (by simp; omega) _).setCell (p := ⟨w.heap.size + 1 + 1, 1, none⟩) (by simp; omega) _
    have h1' : k1 < 0 := by omega
    have HL3 := Lib.hid (HL2.out.trans (pick4_no h1'))
    clear HL2
    go_wp2_with fail
    refine (best_any 114 115 #[pt (bl + 1 + 1), pt bl, pt w.heap.size] #[] _ bs _ (fun x => fullB room x && mayB least x && decide (x.l < p)) emptierB (HR.out.below hb6) enter_n4 enter_emptier
      (fun x W' hx hW => n4_any x least p room _ _ _ _ W' (hE3.below hW).cf (hE3.below hW).cr (hE3.below hW).cl (hE3.below hW).cp (HW.out x hx) hlb.1 hlb.2) (fun x y W _ => emptier_any x y W)).mono ?_
    rintro e w4 ⟨rfl, hb7⟩
    have hE4 := hE3.below hb7
    have hb8 := hb6.trans (hb7.mono hb6.size)
    have hbd2 := best_bd (fun x => fullB room x && mayB least x && decide (x.l < p)) emptierB bs
    generalize best (fun x => fullB room x && mayB least x && decide (x.l < p)) emptierB bs = k2 at *
    clear hb7 hb6 hE3
    by_cases h2 : 0 ≤ k2
    · have HL4 := Lib.hid (HL3.out.trans (pick4_yes h2))
      obtain ⟨c0, c1, f0, f1⟩ := hE4.res
      go_wp2_with fail
      refine bodyPost_ret (v := vact (2, k2)) (by simp [results, Try.results86, go_sem, c0, c1]) rfl ⟨by rw [HL4.out], ?_⟩
      exact (hb8.setCell (p := ⟨w.heap.size + 1 + 1, 0, none⟩) (by simp; omega) _).setCell (p := ⟨w.heap.size + 1 + 1, 1, none⟩) (by simp; omega) _
    have h2' : k2 < 0 := by omega
    have HL4 := Lib.hid (HL3.out.trans (pick4_no h2'))
    clear HL3
    go_wp2_with fail
    refine (IndexFunc_any 117 #[pt bl] _ bs _ (burnB least) (HR.out.below hb8) enter_n5 (fun x W' hx hW => n5_any x least _ W' (hE4.below hW).cl)).mono ?_
    rintro e w5 ⟨rfl, hb9⟩
    have hE5 := hE4.below hb9
    have hb10 := hb8.trans (hb9.mono hb8.size)
    have hbd3 := first_bd (burnB least) bs
    generalize first (burnB least) bs = k3 at *
    clear hb9 hb8 hE4
    by_cases h3 : 0 ≤ k3
    · have HL5 := Lib.hid (HL4.out.trans (pick4_yes h3))
      obtain ⟨c0, c1, f0, f1⟩ := hE5.res
      go_wp2_with fail
      refine bodyPost_ret (v := vact (3, k3)) (by simp [results, Try.results86, go_sem, c0, c1]) rfl ⟨by rw [HL5.out], ?_⟩
      exact (hb10.setCell (p := ⟨w.heap.size + 1 + 1, 0, none⟩) (by simp; omega) _).setCell (p := ⟨w.heap.size + 1 + 1, 1, none⟩) (by simp; omega) _
    have h3' : k3 < 0 := by omega
    have HL5 := Lib.hid (HL4.out.trans (pick4_no h3'))
    clear HL4
    go_wp2_with fail
    refine (best_any 118 115 #[pt (bl + 1 + 1), pt bl] #[] _ bs _ (fun x => fullB room x && x.r == least) emptierB (HR.out.below hb10) enter_n6 enter_emptier
      (fun x W' hx hW => n6_any x least room _ _ _ W' (hE5.below hW).cf (hE5.below hW).cr (hE5.below hW).cl) (fun x y W _ => emptier_any x y W)).mono ?_
    rintro e w6 ⟨rfl, hb11⟩
    have hE6 := hE5.below hb11
    have hb12 := hb10.trans (hb11.mono hb10.size)
    have hbd4 := best_bd (fun x => fullB room x && x.r == least) emptierB bs
    generalize best (fun x => fullB room x && x.r == least) emptierB bs = k4 at *
    clear hb11 hb10 hE5
    by_cases h4 : 0 ≤ k4
    · have HL6 := Lib.hid (HL5.out.trans (pick4_yes h4))
      obtain ⟨c0, c1, f0, f1⟩ := hE6.res
      go_wp2_with fail
      refine bodyPost_ret (v := vact (2, k4)) (by simp [results, Try.results86, go_sem, c0, c1]) rfl ⟨by rw [HL6.out], ?_⟩
      exact (hb12.setCell (p := ⟨w.heap.size + 1 + 1, 0, none⟩) (by simp; omega) _).setCell (p := ⟨w.heap.size + 1 + 1, 1, none⟩) (by simp; omega) _
    have h4' : k4 < 0 := by omega
    have HL6 := Lib.hid (HL5.out.trans (pick4_no h4'))
    have cs := hE6.cs
    clear HL5
    go_wp2_with fail
    refine (forced_any v bs p room _ _ _ _ (HR.out.below hb12) hE6.cf hE6.cr hE6.cp).mono ?_
    rintro e w7 ⟨rfl, hb13⟩
    obtain ⟨c0, c1, f0, f1⟩ := (hE6.below hb13).res
    have hb14 := hb12.trans (hb13.mono hb12.size)
    clear hb13 hb12 hE6 cs
    generalize hfo : forcedL bs p room = r at *
    have Hfo := Lib.hid hfo
    clear hfo
    go_wp2_with fail
    refine bodyPost_ret (v := vact r) (by simp [results, Try.results86, go_sem, c0, c1]) rfl ⟨by rw [HL6.out], ?_⟩
    exact (hb14.setCell (p := ⟨w.heap.size + 1 + 1, 0, none⟩) (by simp; omega) _).setCell (p := ⟨w.heap.size + 1 + 1, 1, none⟩) (by simp; omega) _

end Go.Proofs.Ytpggkehfbhffbaa.gcs
