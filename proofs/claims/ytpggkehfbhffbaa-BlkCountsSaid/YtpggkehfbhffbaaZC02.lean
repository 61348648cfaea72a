/-
  Lemmas for a law's proof, put together from several texts: each part says what it shows, and its conditions.
-/
import Derived.Test.YtpggkehfbhffbaaZC01
import Derived.WalkKit
import Derived.WalkLawsBesides
import Derived.WalkSpells
import Derived.ProofKit
import Derived.Lib.Hide
import Derived.BigQuiet
import Derived.OpenShut
import Derived.Maps.AppendAt
import Derived.Lib.AppendStr
import Derived.Laws.BytesArg
import Derived.Laws.IdiomStrings
import Derived.Deep.Draws
import Derived.IntWalk
/-
  gc: the next action: for every row that is read.
-/
namespace Go.Proofs.Ytpggkehfbhffbaa.gcs
open Go.RowKit

theorem RightL_all {p : Int} {bs : List Blk} (h : RightL p bs = true) : ∀ x ∈ bs, rightB p x = true := by
  simp only [RightL, Bool.and_eq_true, List.all_eq_true] at h
  exact h.2
theorem RightL_wear {p : Int} {bs : List Blk} (h : RightL p bs = true) : ∀ x ∈ bs, RightWear x := fun x hx => by
  have := RightL_all h x hx
  simp only [rightB, Bool.and_eq_true, decide_eq_true_eq] at this
  exact ⟨this.1.1.2, this.1.2⟩
theorem wearAt_bd {bs : List Blk} (h : ∀ x ∈ bs, RightWear x) (k : Int) (hk : k < bs.length) : 0 ≤ wearAt bs k ∧ wearAt bs k ≤ 1099511627776 := by
  unfold wearAt
  split
  · omega
  · have hlt : k.toNat < bs.length := by omega
    have := h (bs.getD k.toNat default) (by rw [List.getD_eq_getElem?_getD, List.getElem?_eq_getElem hlt]; exact List.getElem_mem hlt)
    exact this
theorem leastL_bd {p : Int} {bs : List Blk} (h : RightL p bs = true) : 0 ≤ leastL bs ∧ leastL bs ≤ 1099511627776 := wearAt_bd (RightL_wear h) _ (best_bd _ _ _).2

/-- What Next keeps in its own variables. -/
structure NextEnv (w : World) (bp br b0 bl bs bf : Nat) (room : Bool) (p least : Int) (u v : Value) : Prop where
  cp : w.cell? ⟨bp, 0, none⟩ = some (vi p)
  cr : w.cell? ⟨br, 0, none⟩ = some (.bool room)
  res : w.cell? ⟨b0, 0, none⟩ = some u ∧ w.cell? ⟨b0, 1, none⟩ = some v ∧ w.frozen? ⟨b0, 0, none⟩ = false ∧ w.frozen? ⟨b0, 1, none⟩ = false
  cl : w.cell? ⟨bl, 0, none⟩ = some (vi least)
  cs : w.cell? ⟨bs, 0, none⟩ = some (fn0 109)
  cf : w.cell? ⟨bf, 0, none⟩ = some (.func (.func 110) #[] #[pt br])
theorem NextEnv.below {w w1 : World} {bp br b0 bl bs bf : Nat} {room : Bool} {p least : Int} {u v : Value} (h : NextEnv w bp br b0 bl bs bf room p least u v) (hb : Below w.heap.size w w1) : NextEnv w1 bp br b0 bl bs bf room p least u v :=
  ⟨cell_below h.cp hb, cell_below h.cr hb, keep2 h.res hb, cell_below h.cl hb, cell_below h.cs hb, cell_below h.cf hb⟩
theorem cell_alloc_at {w : World} {H : Nat} (v : Value) (T : TypeId) (hH : w.heap.size = H) : (w.alloc (.cells #[v] T)).cell? ⟨H, 0, none⟩ = some v := by subst hH; simp
theorem cells_alloc_at {w : World} {H : Nat} (u v : Value) (T : TypeId) (hH : w.heap.size = H) :
    (w.alloc (.cells #[u, v] T)).cell? ⟨H, 0, none⟩ = some u ∧ (w.alloc (.cells #[u, v] T)).cell? ⟨H, 1, none⟩ = some v ∧ (w.alloc (.cells #[u, v] T)).frozen? ⟨H, 0, none⟩ = false ∧ (w.alloc (.cells #[u, v] T)).frozen? ⟨H, 1, none⟩ = false := by subst hH; simp

theorem frozen_alloc_old {w : World} {a : Addr} (h : a.block < w.heap.size) (o : Obj) : (w.alloc o).frozen? a = w.frozen? a :=
  ((Below.refl w.heap.size w).alloc (Nat.le_refl _) o).frozen h

set_option maxHeartbeats 2000000 in
theorem Next_any (v : Value) (bs : List Blk) (p : Int) (room : Bool) (w : World) (hrow : Row w v bs) :
    Calls Try.prog 86 #[v, vi p, .bool room] w fun e w' => e = .returned (vact (NextL bs p room)) ∧ Below w.heap.size w w' := by
  have HR := Lib.hid hrow
  clear hrow
  have hL : NextL bs p room = if RightL p bs then
    pick4 (best (fun x => staleB x && mayB (leastL bs) x) wornB bs) 1
      (pick4 (best (fun x => fullB room x && mayB (leastL bs) x && decide (x.l < p)) emptierB bs) 2
        (pick4 (first (burnB (leastL bs)) bs) 3
          (pick4 (best (fun x => fullB room x && x.r == leastL bs) emptierB bs) 2 (forcedL bs p room)))) else (0, -1) := rfl
  have HL := Lib.hid hL
  clear hL
  go_enter Try.func86, Try.ntmps86
  go_wp2_with fail
  have hb0 : Below w.heap.size w (((w.alloc (.cells #[vi p] 3)).alloc (.cells #[.bool room] 4)).alloc (.cells #[vi 0, vi 0] 74)) :=
    (((Below.refl _ _).alloc (Nat.le_refl _) _).alloc (by simp) _).alloc (by simp; omega) _
  refine (Right_any v bs p _ (HR.out.below hb0)).mono ?_
  rintro e w1 ⟨rfl, hb1⟩
  have hb1' := hb0.trans (hb1.mono hb0.size)
  have cp : w1.cell? ⟨w.heap.size, 0, none⟩ = some (vi p) := cell_below (cell_alloc_old (cell_alloc_old (cell_alloc_at _ _ rfl) _) _) hb1
  have cr : w1.cell? ⟨w.heap.size + 1, 0, none⟩ = some (.bool room) := cell_below (cell_alloc_old (cell_alloc_at _ _ (by simp)) _) hb1
  have res := keep2 (cells_alloc_at (w := (w.alloc (.cells #[vi p] 3)).alloc (.cells #[.bool room] 4)) (H := w.heap.size + 1 + 1) (vi 0) (vi 0) 74 (by simp)) hb1
  clear hb1 hb0
  cases hr : RightL p bs
  · obtain ⟨c0, c1, f0, f1⟩ := res
    go_wp2_with fail
    refine bodyPost_ret (v := vact (0, -1)) (by simp [results, Try.results86, go_sem, c0, c1]) rfl ⟨by rw [HL.out, hr]; rfl, ?_⟩
    exact (hb1'.setCell (p := ⟨w.heap.size + 1 + 1, 0, none⟩) (by simp; omega) _).setCell (p := ⟨w.heap.size + 1 + 1, 1, none⟩) (by simp; omega) _
  · have hlb := leastL_bd hr
    have HW := Lib.hid (RightL_wear hr)
    have HL2 : Hid (NextL bs p room = pick4 (best (fun x => staleB x && mayB (leastL bs) x) wornB bs) 1
      (pick4 (best (fun x => fullB room x && mayB (leastL bs) x && decide (x.l < p)) emptierB bs) 2
        (pick4 (first (burnB (leastL bs)) bs) 3
          (pick4 (best (fun x => fullB room x && x.r == leastL bs) emptierB bs) 2 (forcedL bs p room))))) := by
      show _ = _
      rw [HL.out, hr]; rfl
    clear HL hr
    go_wp2_with fail
    refine (Least_any v bs _ (HR.out.below hb1')).mono ?_
    rintro e w2 ⟨rfl, hb2⟩
    generalize leastL bs = least at *
    have hb2' := hb1'.trans (hb2.mono hb1'.size)
    obtain ⟨W, hW⟩ : ∃ W : World, W = ((w2.alloc (.cells #[vi least] 3)).alloc (.cells #[fn0 109] 136)).alloc (.cells #[.func (.func 110) #[] #[pt (w.heap.size + 1)]] 136) := ⟨_, rfl⟩
    have hb3 : Below w2.heap.size w2 W := by rw [hW]; exact (((Below.refl _ _).alloc (Nat.le_refl _) _).alloc (by simp) _).alloc (by simp; omega) _
    have hE : NextEnv W w.heap.size (w.heap.size + 1) (w.heap.size + 1 + 1) w2.heap.size (w2.heap.size + 1) (w2.heap.size + 1 + 1) room p least (vi 0) (vi 0) := by
      refine ⟨cell_below (cell_below cp hb2) hb3, cell_below (cell_below cr hb2) hb3, keep2 (keep2 res hb2) hb3, ?_, ?_, ?_⟩
      · rw [hW]; exact cell_alloc_old (cell_alloc_old (cell_alloc_at _ _ rfl) _) _
      · rw [hW]; exact cell_alloc_old (cell_alloc_at _ _ (by simp)) _
      · rw [hW]; exact cell_alloc_at _ _ (by simp)
    have hb4 := hb2'.trans (hb3.mono hb2'.size)
    clear res cp cr hb1' hb2 hb3 hb2'
    go_wp2_with fail
    rw [← hW]
    clear hW
    generalize w2.heap.size = bl at *
    refine (best_any 111 113 #[pt (bl + 1), pt bl] #[] _ bs _ (fun x => staleB x && mayB least x) wornB (HR.out.below hb4) enter_n3 enter_worn
      (fun x W' hx hW => n3_any x least _ _ W' (hE.below hW).cs (hE.below hW).cl (HW.out x hx) hlb.1 hlb.2) (fun x y W _ => worn_any x y W)).mono ?_
    rintro e w3 ⟨rfl, hb5⟩
    have hE3 := hE.below hb5
    have hb6 := hb4.trans (hb5.mono hb4.size)
    have hbd := best_bd (fun x => staleB x && mayB least x) wornB bs
    generalize best (fun x => staleB x && mayB least x) wornB bs = k1 at *
    clear hb5 hb4 hE
    by_cases h1 : 0 ≤ k1
    · have HL3 := Lib.hid (HL2.out.trans (pick4_yes h1))
      obtain ⟨c0, c1, f0, f1⟩ := hE3.res
      go_wp2_with fail
      refine bodyPost_ret (v := vact (1, k1)) (by simp [results, Try.results86, go_sem, c0, c1]) rfl ⟨by rw [HL3.out], ?_⟩
      exact (hb6.setCell (p := ⟨w.heap.size + 1 + 1, 0, none⟩) (by simp; omega) _).setCell (p := ⟨w.heap.size + 1 + 1, 1, none⟩) (by simp; omega) _
    have h1' : k1 < 0 := by omega
    have HL3 := Lib.hid (HL2.out.trans (pick4_no h1'))
    clear HL2
    go_wp2_with fail
    refine (best_any 114 115 #[pt (bl + 1 + 1), pt bl, pt w.heap.size] #[] _ bs _ (fun x => fullB room x && mayB least x && decide (x.l < p)) emptierB (HR.out.below hb6) enter_n4 enter_emptier
      (fun x W' hx hW => n4_any x least p room _ _ _ _ W' (hE3.below hW).cf (hE3.below hW).cr (hE3.below hW).cl (hE3.below hW).cp (HW.out x hx) hlb.1 hlb.2) (fun x y W _ => emptier_any x y W)).mono ?_
    rintro e w4 ⟨rfl, hb7⟩
    have hE4 := hE3.below hb7
    have hb8 := hb6.trans (hb7.mono hb6.size)
    have hbd2 := best_bd (fun x => fullB room x && mayB least x && decide (x.l < p)) emptierB bs
    generalize best (fun x => fullB room x && mayB least x && decide (x.l < p)) emptierB bs = k2 at *
    clear hb7 hb6 hE3
    by_cases h2 : 0 ≤ k2
    · have HL4 := Lib.hid (HL3.out.trans (pick4_yes h2))
      obtain ⟨c0, c1, f0, f1⟩ := hE4.res
      go_wp2_with fail
      refine bodyPost_ret (v := vact (2, k2)) (by simp [results, Try.results86, go_sem, c0, c1]) rfl ⟨by rw [HL4.out], ?_⟩
      exact (hb8.setCell (p := ⟨w.heap.size + 1 + 1, 0, none⟩) (by simp; omega) _).setCell (p := ⟨w.heap.size + 1 + 1, 1, none⟩) (by simp; omega) _
    have h2' : k2 < 0 := by omega
    have HL4 := Lib.hid (HL3.out.trans (pick4_no h2'))
    clear HL3
    go_wp2_with fail
    refine (IndexFunc_any 117 #[pt bl] _ bs _ (burnB least) (HR.out.below hb8) enter_n5 (fun x W' hx hW => n5_any x least _ W' (hE4.below hW).cl)).mono ?_
    rintro e w5 ⟨rfl, hb9⟩
    have hE5 := hE4.below hb9
    have hb10 := hb8.trans (hb9.mono hb8.size)
    have hbd3 := first_bd (burnB least) bs
    generalize first (burnB least) bs = k3 at *
    clear hb9 hb8 hE4
    by_cases h3 : 0 ≤ k3
    · have HL5 := Lib.hid (HL4.out.trans (pick4_yes h3))
      obtain ⟨c0, c1, f0, f1⟩ := hE5.res
      go_wp2_with fail
      refine bodyPost_ret (v := vact (3, k3)) (by simp [results, Try.results86, go_sem, c0, c1]) rfl ⟨by rw [HL5.out], ?_⟩
      exact (hb10.setCell (p := ⟨w.heap.size + 1 + 1, 0, none⟩) (by simp; omega) _).setCell (p := ⟨w.heap.size + 1 + 1, 1, none⟩) (by simp; omega) _
    have h3' : k3 < 0 := by omega
    have HL5 := Lib.hid (HL4.out.trans (pick4_no h3'))
    clear HL4
    go_wp2_with fail
    refine (best_any 118 115 #[pt (bl + 1 + 1), pt bl] #[] _ bs _ (fun x => fullB room x && x.r == least) emptierB (HR.out.below hb10) enter_n6 enter_emptier
      (fun x W' hx hW => n6_any x least room _ _ _ W' (hE5.below hW).cf (hE5.below hW).cr (hE5.below hW).cl) (fun x y W _ => emptier_any x y W)).mono ?_
    rintro e w6 ⟨rfl, hb11⟩
    have hE6 := hE5.below hb11
    have hb12 := hb10.trans (hb11.mono hb10.size)
    have hbd4 := best_bd (fun x => fullB room x && x.r == least) emptierB bs
    generalize best (fun x => fullB room x && x.r == least) emptierB bs = k4 at *
    clear hb11 hb10 hE5
    by_cases h4 : 0 ≤ k4
    · have HL6 := Lib.hid (HL5.out.trans (pick4_yes h4))
      obtain ⟨c0, c1, f0, f1⟩ := hE6.res
      go_wp2_with fail
      refine bodyPost_ret (v := vact (2, k4)) (by simp [results, Try.results86, go_sem, c0, c1]) rfl ⟨by rw [HL6.out], ?_⟩
      exact (hb12.setCell (p := ⟨w.heap.size + 1 + 1, 0, none⟩) (by simp; omega) _).setCell (p := ⟨w.heap.size + 1 + 1, 1, none⟩) (by simp; omega) _
    have h4' : k4 < 0 := by omega
    have HL6 := Lib.hid (HL5.out.trans (pick4_no h4'))
    have cs := hE6.cs
    clear HL5
    go_wp2_with fail
    refine (forced_any v bs p room _ _ _ _ (HR.out.below hb12) hE6.cf hE6.cr hE6.cp).mono ?_
    rintro e w7 ⟨rfl, hb13⟩
    obtain ⟨c0, c1, f0, f1⟩ := (hE6.below hb13).res
    have hb14 := hb12.trans (hb13.mono hb12.size)
    clear hb13 hb12 hE6 cs
    generalize hfo : forcedL bs p room = r at *
    have Hfo := Lib.hid hfo
    clear hfo
    go_wp2_with fail
    refine bodyPost_ret (v := vact r) (by simp [results, Try.results86, go_sem, c0, c1]) rfl ⟨by rw [HL6.out], ?_⟩
    exact (hb14.setCell (p := ⟨w.heap.size + 1 + 1, 0, none⟩) (by simp; omega) _).setCell (p := ⟨w.heap.size + 1 + 1, 1, none⟩) (by simp; omega) _

end Go.Proofs.Ytpggkehfbhffbaa.gcs

/-
  Rows of bytes, read and appended to. No conditions of its own.
-/
namespace Go.Proofs.Ytpggkehfbhffbaa
open Go.RowKit

abbrev vb (n : Nat) : Value := .int .u8 n
abbrev vq (n : Nat) : Value := .int .u64 n
abbrev vw (n : Nat) : Value := .int .u32 n

theorem add_plain (b o k : Nat) : (⟨b, o, none⟩ : Addr).add k = ⟨b, o + k, none⟩ := by unfold Addr.add; split <;> simp [*]

/-- A block that is known whole. -/
def Blk (w : World) (g : Nat) (t : TypeId) (cs : Array Value) : Prop := w.heap[g]? = some (.cells cs t (0, 0))
section
variable {w w' : World} {g : Nat} {t : TypeId} {cs : Array Value}
theorem Blk.lt (h : Blk w g t cs) : g < w.heap.size := by
  rcases Nat.lt_or_ge g w.heap.size with hlt | hge
  · exact hlt
  · unfold Blk at h; rw [Array.getElem?_eq_none hge] at h; cases h
theorem Blk.cell (h : Blk w g t cs) (i : Nat) : w.cell? ⟨g, i, none⟩ = cs[i]? := cell_of_row w g i cs t (0, 0) h
theorem Blk.frozen (h : Blk w g t cs) (i : Nat) : w.frozen? ⟨g, i, none⟩ = false := by
  unfold Blk at h
  simp [World.frozen?, h]
theorem Blk.new (w : World) (t : TypeId) (cs : Array Value) : Blk (w.alloc (.cells cs t)) w.heap.size t cs := heap_alloc_new w _
theorem Blk.alloc (h : Blk w g t cs) (o : Obj) : Blk (w.alloc o) g t cs := (Below.heap_alloc w o g h.lt).trans h
theorem Blk.set_ (h : Blk w g t cs) (i : Nat) (u : Value) : Blk (w.setCell ⟨g, i, none⟩ u) g t (cs.setIfInBounds i u) := by
  unfold Blk at h ⊢
  simp [World.setCell, Array.getElem?_modify, h]
theorem Blk.far (h : Blk w g t cs) {p : Addr} (hp : g ≠ p.block) (u : Value) : Blk (w.setCell p u) g t cs := (Below.heap_setCell w p u g hp).trans h
theorem Blk.below {B : Nat} (h : Blk w g t cs) (hb : Below B w w') (hg : g < B) : Blk w' g t cs := (hb.block g hg).trans h
theorem Blk.old (h : Blk w g t cs) (hb : Below w.heap.size w w') : Blk w' g t cs := h.below hb h.lt
theorem Blk.grown {row : Option Nat} (h : Blk w g t cs) (hb : w.grownBy w' row) (hg : some g ≠ row) : Blk w' g t cs := (hb.block g h.lt hg).trans h
theorem own_blk_ne {base : Nat} {e : TypeId} {size n : Nat} {v : Value} {xs : List Value} (h : w.ownsRow base e size v n xs) (hg : Blk w g t cs) (hne : t ≠ e) : some g ≠ v.ownBlock := by
  rcases h.2 with ⟨rfl, _⟩ | ⟨g', cap, cur, rfl, _, hh, _⟩
  · simp [Value.ownBlock]
  · intro he
    have : g = g' := by simpa [Value.ownBlock] using he
    subst this
    unfold Blk at hg
    rw [hg] at hh
    injection hh with hh
    injection hh with _ ht
    exact hne ht
end

/-- An operation whose run is known. -/
theorem wpList_run {P : Program} {w w' : World} {ops : Array Oper} {rest : List Oper} {o : Oper} {a : Act} {Q : Exit → Act → World → Prop} {v' : Value} (hgd : o.guard = none)
    (hrun : (execOp a.eval o).run P w = .ok (.value v') w') (h : wpList P ops Q rest (a.put o.dst v') w') : wpList P ops Q (o :: rest) a w := by
  refine wpList_plain hgd fun K hK => ?_
  unfold Oper.wp
  rw [hrun]
  exact hK _ _ h
theorem exec_convert {P : Program} {w w' : World} {o : Oper} {a : Act} {s d : TypeId} {x : Operand} {v v' : Value} (ho : o.op = .convert s d x) (hx : a.eval x = v) (hrun : (convert s d v).run P w = .ok v' w') :
    (execOp a.eval o).run P w = .ok (.value v') w' := by
  unfold execOp
  simp only [ho, Sem.run_bind, hx, hrun, Result.andThen_ok, Sem.run_pure]
/-- Bytes as values. -/
def bv (l : List Nat) : List Value := l.map vb
theorem bv_length (l : List Nat) : (bv l).length = l.length := List.length_map ..
theorem bv_append (l m : List Nat) : bv (l ++ m) = bv l ++ bv m := List.map_append ..
theorem bv_one (l : List Nat) : ∀ u ∈ bv l, u.oneCell' = true := by
  intro u hu
  obtain ⟨x, _, rfl⟩ := List.mem_map.1 hu
  rfl
theorem bv_get {l : List Nat} {i : Nat} (h : i < l.length) : (bv l)[i]? = some (vb (l.getD i 0)) := by
  simp [bv, h, List.getD]

/-- Bytes that a slice reads as. -/
structure BRow (w : World) (a : Option Addr) (l : List Nat) : Prop where
  small : ∀ x ∈ l, x < 256
  at_ : l = [] ∨ ∃ b o, a = some ⟨b, o, none⟩ ∧ ∀ i, i < l.length → w.cell? ⟨b, o + i, none⟩ = some (vb (l.getD i 0))
theorem BRow.below {w w' : World} {a : Option Addr} {l : List Nat} (h : BRow w a l) (hb : Below w.heap.size w w') : BRow w' a l := by
  refine ⟨h.small, ?_⟩
  rcases h.at_ with h0 | ⟨b, o, rfl, h1⟩
  · exact .inl h0
  · exact .inr ⟨b, o, rfl, fun i hi => cell_below (h1 i hi) hb⟩
theorem BRow.news {w : World} {ad : Addr} {l : List Nat} (h : BRow w (some ad) l) : ∀ j u, (bv l)[j]? = some u → w.cell? (ad.add j) = some u := by
  intro j u hu
  rcases h.at_ with rfl | ⟨b, o, he, h1⟩
  · simp [bv] at hu
  · injection he with he
    subst he
    have hj : j < l.length := by
      have := (List.getElem?_eq_some_iff.1 hu).1
      simpa [bv] using this
    rw [bv_get hj] at hu
    rw [add_plain, h1 j hj]
    exact hu
theorem getD_small {l : List Nat} (h : ∀ b ∈ l, b < 256) (i : Nat) : l.getD i 0 < 256 := by
  rcases Nat.lt_or_ge i l.length with hi | hi
  · have : l.getD i 0 = l[i] := by simp [List.getD, hi]
    rw [this]
    exact h _ (List.getElem_mem hi)
  · rw [List.getD_eq_getElem?_getD, List.getElem?_eq_none hi]
    decide
theorem BRow.lookup {w : World} {a : Option Addr} {l : List Nat} (h : BRow w a l) {k : Nat} (hk : k < l.length) : ∃ b o, a = some ⟨b, o, none⟩ ∧ w.cell? ⟨b, o + k, none⟩ = some (vb (l.getD k 0)) ∧ l.getD k 0 < 256 := by
  rcases h.at_ with rfl | ⟨b, o, rfl, h1⟩
  · simp at hk
  · exact ⟨b, o, rfl, h1 k hk, getD_small h.small k⟩
theorem getD_take {l : List Nat} {n i : Nat} (h : i < n) : (l.take n).getD i 0 = l.getD i 0 := by
  simp [List.getD, h]
theorem getD_drop (l : List Nat) (n i : Nat) : (l.drop n).getD i 0 = l.getD (n + i) 0 := by
  simp [List.getD]
theorem BRow.take {w : World} {a : Option Addr} {l : List Nat} (h : BRow w a l) (n : Nat) : BRow w a (l.take n) := by
  refine ⟨fun x hx => h.small x (List.mem_of_mem_take hx), ?_⟩
  rcases h.at_ with rfl | ⟨b, o, rfl, h1⟩
  · exact .inl (by simp)
  · refine .inr ⟨b, o, rfl, fun i hi => ?_⟩
    have hi' : i < n ∧ i < l.length := by simpa [Nat.lt_min] using hi
    rw [getD_take hi'.1]
    exact h1 i hi'.2
theorem BRow.drop {w : World} {b o : Nat} {l : List Nat} (h : BRow w (some ⟨b, o, none⟩) l) (n : Nat) : BRow w (some ⟨b, o + n, none⟩) (l.drop n) := by
  refine ⟨fun x hx => h.small x (List.mem_of_mem_drop hx), ?_⟩
  rcases h.at_ with rfl | ⟨b', o', he, h1⟩
  · exact .inl (by simp)
  · injection he with he
    injection he with hb ho _
    subst hb ho
    refine .inr ⟨b, o + n, rfl, fun i hi => ?_⟩
    have hi' : n + i < l.length := by have := List.length_drop (i := n) (l := l); omega
    rw [getD_drop, Nat.add_assoc]
    exact h1 _ hi'
theorem BRow.nil (w : World) (a : Option Addr) : BRow w a [] := ⟨by simp, .inl rfl⟩
theorem BRow.of_blk {w : World} {g : Nat} {t : TypeId} {l : List Nat} {cs : Array Value} (h : Blk w g t cs) (hc : cs = (bv l).toArray) (hs : ∀ x ∈ l, x < 256) : BRow w (some ⟨g, 0, none⟩) l := by
  subst hc
  refine ⟨hs, .inr ⟨g, 0, rfl, fun i hi => ?_⟩⟩
  rw [Nat.zero_add, h.cell, List.getElem?_toArray, bv_get hi]

theorem byte_info : (Try.prog.info? 5).map (fun i => (i.zero, i.size, i.bytes)) = some (some (.int .u8 0), 1, 1) := by kernel_rfl

/-- A row of bytes of the call's own. -/
def Own (w : World) (base : Nat) (v : Value) (l : List Nat) : Prop := w.ownsRow base 5 1 v l.length (bv l)
theorem Own.nil (w : World) (base : Nat) : Own w base (.slice none 0 0) [] := World.ownsRow_nil _ _ _ _
theorem Own.row {w : World} {base : Nat} {v : Value} {l : List Nat} (h : Own w base v l) (hs : ∀ x ∈ l, x < 256) : ∃ a c, v = .slice a l.length c ∧ BRow w a l ∧ l.length ≤ c := by
  have h' := h
  rcases h'.2 with ⟨rfl, h0⟩ | ⟨g, cap, cur, rfl, _, _, hnc, _⟩
  · have : l = [] := List.eq_nil_of_length_eq_zero h0
    subst this
    exact ⟨none, 0, rfl, BRow.nil _ _, Nat.le_refl _⟩
  · refine ⟨_, cap, rfl, ⟨hs, .inr ⟨g, 0, rfl, fun i hi => ?_⟩⟩, hnc⟩
    rw [Nat.zero_add, World.ownsRow.cellAt h i (by omega), bv_get hi]
theorem Own.old {w w' : World} {base : Nat} {v : Value} {l : List Nat} (h : Own w base v l) (hb : Below w.heap.size w w') : Own w' base v l :=
  World.ownsRow.kept h (row := none) ⟨hb.os, hb.tape, hb.output, hb.size, fun k hk _ => hb.block k hk⟩ (by
    cases hv : v.ownBlock
    · exact .inl rfl
    · exact .inr (by simp))
theorem Own.more {w : World} {base base' : Nat} {v : Value} {l : List Nat} (h : Own w base v l) (hb : base' ≤ base) : Own w base' v l := by
  refine ⟨h.1, ?_⟩
  rcases h.2 with h | ⟨g, cap, cur, h1, h2, h3⟩
  · exact .inl h
  · exact .inr ⟨g, cap, cur, h1, Nat.le_trans hb h2, h3⟩
theorem Own.drew {w : World} {base : Nat} {v : Value} {l : List Nat} (h : Own w base v l) : Own w.drew base v l := h
theorem Blk.drew {w : World} {g : Nat} {t : TypeId} {cs : Array Value} (h : Blk w g t cs) : Blk w.drew g t cs := h
theorem BRow.drew {w : World} {a : Option Addr} {l : List Nat} (h : BRow w a l) : BRow w.drew a l := ⟨h.small, h.at_⟩
/-- A literal row of bytes. -/
theorem Own.lit {w : World} {base : Nat} (hb : base ≤ w.heap.size) (l : List Nat) (hl : l.length ≤ 1000000) {cs : Array Value} (hc : cs = (bv l).toArray) :
    Own (w.alloc (.cells cs 5)) base (.slice (some ⟨w.heap.size, 0, none⟩) l.length l.length) l := by
  subst hc
  exact World.ownsRow_lit w (bv l).toArray l.length hb (by unfold maxLen; omega) (by simp [bv_length])

/-- What a step that writes into rows of bytes of the call's own, and makes memory, leaves as it was. -/
structure Stp (base : Nat) (w w' : World) : Prop where
  below : Below base w w'
  blk : ∀ g t cs, t ≠ 5 → Blk w g t cs → Blk w' g t cs
theorem Stp.refl (base : Nat) (w : World) : Stp base w w := ⟨Below.refl _ _, fun _ _ _ _ h => h⟩
theorem Stp.trans {base : Nat} {a b c : World} (h : Stp base a b) (k : Stp base b c) : Stp base a c := ⟨h.below.trans k.below, fun g t cs ht hb => k.blk g t cs ht (h.blk g t cs ht hb)⟩
theorem Stp.of_below {base : Nat} {w w' : World} (h : Below w.heap.size w w') (hb : base ≤ w.heap.size) : Stp base w w' := ⟨h.mono hb, fun _ _ _ _ hg => hg.old h⟩
theorem Stp.alloc {base : Nat} {w w' : World} (h : Stp base w w') (hb : base ≤ w'.heap.size) (o : Obj) : Stp base w (w'.alloc o) := ⟨h.below.alloc hb o, fun g t cs ht hg => (h.blk g t cs ht hg).alloc o⟩
theorem Stp.more {base base' : Nat} {w w' : World} (h : Stp base w w') (hb : base' ≤ base) : Stp base' w w' := ⟨h.below.mono hb, h.blk⟩
theorem Stp.size {base : Nat} {w w' : World} (h : Stp base w w') : w.heap.size ≤ w'.heap.size := h.below.size
theorem Stp.base {base : Nat} {w w' : World} (h : Stp base w w') (hb : base ≤ w.heap.size) : base ≤ w'.heap.size := Nat.le_trans hb h.below.size
theorem Stp.drew0 {base : Nat} {w : World} : Stp base w w.drew := ⟨(Below.refl _ _).drew, fun _ _ _ _ h => h⟩
theorem Stp.drew {base : Nat} {w w' : World} (h : Stp base w w') : Stp base w w'.drew := ⟨h.below.drew, h.blk⟩

/-- Bytes appended to a row of the call's own. -/
theorem append_bytes' {w : World} {base : Nat} {v : Value} {l m : List Nat} (hown : Own w base v l) {a : Option Addr} {c : Nat}
    (hr : BRow w a m) (hn : l.length + m.length ≤ 1000000) (hb : base ≤ w.heap.size) :
    ∃ v' w', (Builtin.append_ #[32, 32] 32 #[v, .slice a m.length c]).run Try.prog w = .ok v' w' ∧ Own w' base v' (l ++ m) ∧ Stp base w w' ∧ w.grownBy w' v.ownBlock := by
  obtain ⟨i0, hi, hz0, hz1, hz2⟩ := info_parts byte_info
  cases a with
  | some ad =>
    obtain ⟨v', w', h1, h2, h3, _⟩ := run_append_own_at (P := Try.prog) w base 32 32 5 i0 _ 1 1 Try.underlying32 hi hz0 hz1 hz2 rfl (by omega) v l.length (bv l) hown ad m.length c (bv m) (by rw [bv_length]; omega) hr.news (bv_one m)
      (by unfold maxLen; omega) (by omega) hb
    refine ⟨v', w', h1, ?_, ⟨(Below.refl base w).grown h3 hb (fun k hk => (hown.lt k hk).1), fun g t cs ht hg => hg.grown h3 (own_blk_ne hown hg ht)⟩, h3⟩
    unfold Own
    rw [List.length_append, bv_append]
    exact h2
  | none =>
    have h0 : m = [] := by
      rcases hr.at_ with h | ⟨b, o, he, _⟩
      · exact h
      · cases he
    subst h0
    refine ⟨v, w, ?_, by simpa using hown, Stp.refl _ _, World.grownBy.refl w _⟩
    rcases hown.2 with ⟨rfl, h00⟩ | ⟨g, cap, cur, rfl, _, _, hnc, _⟩
    · simp [Builtin.append_, run_underlying Try.underlying32, sizeOf, typeInfo, hi, Builtin.lenOf, Builtin.firstCells]
    · simp [Builtin.append_, run_underlying Try.underlying32, sizeOf, typeInfo, hi, Builtin.lenOf, Builtin.firstCells, hnc, storeCells]
theorem append_bytes {w : World} {base : Nat} {v : Value} {l m : List Nat} (hown : Own w base v l) {a : Option Addr} {c : Nat}
    (hr : BRow w a m) (hn : l.length + m.length ≤ 1000000) (hb : base ≤ w.heap.size) :
    ∃ v' w', (Builtin.append_ #[32, 32] 32 #[v, .slice a m.length c]).run Try.prog w = .ok v' w' ∧ Own w' base v' (l ++ m) ∧ Stp base w w' :=
  let ⟨v', w', h1, h2, h3, _⟩ := append_bytes' hown (c := c) hr hn hb
  ⟨v', w', h1, h2, h3⟩
theorem BRow.grown {w w' : World} {g o : Nat} {l : List Nat} {row : Option Nat} (h : BRow w (some ⟨g, o, none⟩) l) (hg : w.grownBy w' row) (hne : some g ≠ row) : BRow w' (some ⟨g, o, none⟩) l := by
  refine ⟨h.small, ?_⟩
  rcases h.at_ with h0 | ⟨b, o', he, h1⟩
  · exact .inl h0
  · injection he with he
    injection he with hb ho _
    subst hb ho
    exact .inr ⟨g, o, rfl, fun i hi => hg.cell (h1 i hi) hne⟩
/-- An append at a step of a region that draws. -/
theorem step_append_run {P : Program} {w w' : World} {ops : Array Oper} {o : Oper} {a : Act} {K : Act → World → Prop} {Q : Exit → Act → World → Prop} {E : Prop} (hgd : o.guard = none) (s x : Operand) {t u : TypeId}
    (ho : o.op = .call { callee := .builtin .append, args := #[s, x], argTypes := #[t, u] }) {v src v' : Value} (hs : a.eval s = v) (hx : a.eval x = src)
    (hrun : (Builtin.append_ #[t, u] o.type #[v, src]).run P w = .ok v' w') (h : K (a.put o.dst v') w') : if Region.wanted o (yielded ops a.tmps) = true then Oper.wp P o a w K Q else E := by
  have hw : Region.wanted o (yielded ops a.tmps) = true := by simp [Region.wanted, hgd]
  rw [if_pos hw]
  unfold Oper.wp execOp
  simp only [ho, resolve, invoke, builtin, Sem.run_bind, Sem.run_pure, Result.andThen_ok, List.map_toArray, List.map_cons, List.map_nil, hs, hx, hrun]
  exact h

theorem size_alloc (w : World) (o : Obj) : (w.alloc o).heap.size = w.heap.size + 1 := by simp

/-- Bytes laid into a row of their own and appended. -/
theorem append_new {w : World} {base : Nat} {v : Value} {l : List Nat} (hown : Own w base v l) (xs : List Nat) (hs : ∀ x ∈ xs, x < 256) {n H : Nat} (hl : xs.length = n) (hH : w.heap.size = H) {cs : Array Value} (hc : cs = (bv xs).toArray)
    (hn : l.length + n ≤ 1000000) (hb : base ≤ w.heap.size) :
    ∃ v' w', (Builtin.append_ #[32, 32] 32 #[v, .slice (some ⟨H, 0, none⟩) n n]).run Try.prog (w.alloc (.cells cs 5)) = .ok v' w' ∧ Own w' base v' (l ++ xs) ∧ Stp base w w' := by
  subst hl hH
  obtain ⟨v', w', h1, h2, h3⟩ := append_bytes (c := xs.length) (hown.old ((Below.refl _ _).alloc (Nat.le_refl _) (.cells cs 5))) (BRow.of_blk (Blk.new w 5 cs) hc hs) hn (by simp; omega)
  exact ⟨v', w', h1, h2, ((Stp.refl _ _).alloc hb _).trans h3⟩

/-- A text's bytes, and back. -/
def sb (s : ByteArray) : List Nat := s.data.toList.map (·.toNat)
def bs (l : List Nat) : ByteArray := ⟨(l.map UInt8.ofNat).toArray⟩
theorem sb_length (s : ByteArray) : (sb s).length = s.size := by simp [sb]
theorem bs_size (l : List Nat) : (bs l).size = l.length := by simp [bs, ByteArray.size]
theorem sb_small (s : ByteArray) : ∀ x ∈ sb s, x < 256 := by
  intro x hx
  obtain ⟨y, _, rfl⟩ := List.mem_map.1 hx
  exact y.toNat_lt
theorem bs_sb (s : ByteArray) : bs (sb s) = s := by
  obtain ⟨⟨l⟩⟩ := s
  simp [bs, sb, Function.comp_def]
theorem sb_bs (l : List Nat) (h : ∀ x ∈ l, x < 256) : sb (bs l) = l := by
  simp only [sb, bs, List.map_map]
  conv => rhs; rw [← List.map_id l]
  exact List.map_congr_left fun x hx => by simpa using Nat.mod_eq_of_lt (h x hx)
theorem strCells_bs (l : List Nat) (h : ∀ x ∈ l, x < 256) : Lib.strCells (bs l) = bv l := by
  have : Lib.strCells (bs l) = bv (sb (bs l)) := by simp [Lib.strCells, bv, sb]
  rw [this, sb_bs l h]

/-- A text appended to a row of the call's own. -/
theorem append_text {w : World} {base : Nat} {v : Value} {l : List Nat} (hown : Own w base v l) (m : List Nat) (hm : ∀ x ∈ m, x < 256)
    (hn : l.length + m.length ≤ 1000000) (hb : base ≤ w.heap.size) :
    ∃ v' w', (Builtin.append_ #[32, 9] 32 #[v, .string (bs m)]).run Try.prog w = .ok v' w' ∧ Own w' base v' (l ++ m) ∧ Stp base w w' := by
  obtain ⟨i0, hi, hz0, hz1, hz2⟩ := info_parts byte_info
  obtain ⟨v', w', h1, h2, h3, _⟩ := Lib.run_append_own_string (P := Try.prog) w base 32 9 32 5 i0 Try.underlying32 Try.underlying9 hi hz0 hz1 hz2 v l.length (bv l) hown (bs m) (by rw [bs_size]; unfold maxLen; omega) (by rw [bs_size]; omega) hb
  refine ⟨v', w', h1, ?_, (Below.refl base w).grown h3 hb (fun k hk => (hown.lt k hk).1), fun g t cs ht hg => hg.grown h3 (own_blk_ne hown hg ht)⟩
  unfold Own
  rw [List.length_append, bv_append, ← strCells_bs m hm, ← bs_size m]
  exact h2

/-- A text of bytes that a slice reads as. -/
theorem run_text {w : World} {a : Option Addr} {l : List Nat} (h : BRow w a l) (c : Nat) : (convert 32 9 (.slice a l.length c)).run Try.prog w = .ok (.string (bs l)) w := by
  rcases h.at_ with rfl | ⟨b, o, rfl, h1⟩
  · cases a with
    | none => exact run_convert_bytes_nil w _ _ Try.underlying32 Try.underlying5 _ _ _ Try.underlying9
    | some ad =>
      have := run_convert_bytes_back (P := Try.prog) w 32 9 5 ad c [] Try.underlying32 Try.underlying5 Try.underlying9 (fun j hj => by simp at hj)
      exact this
  · have := run_convert_bytes_arg (P := Try.prog) w _ _ Try.underlying32 Try.underlying5 b o l.length c (l.map (fun n : Nat => (n : Int))) (by simp) (fun i hi => by
      rw [h1 i hi]
      simp [List.getD, hi]) _ Try.underlying9
    rw [this]
    have e : strOfNums (l.map (fun n : Nat => (n : Int))) = bs l := by
      simp [strOfNums, bs, Function.comp_def]
    rw [e]

/-- A text as bytes: in a row of its own. -/
theorem run_conv {l : List Nat} (hl : ∀ x ∈ l, x < 256) (w : World) : ∃ c w', (convert 9 32 (.string (bs l))).run Try.prog w = .ok (.slice (some ⟨w.heap.size, 0, none⟩) l.length c) w' ∧ BRow w' (some ⟨w.heap.size, 0, none⟩) l ∧ Below w.heap.size w w' ∧ w'.heap.size = w.heap.size + 1 := by
  have h := run_bytes_of_string (P := Try.prog) w 9 32 5 (bs l) Try.underlying9 Try.underlying32 Try.underlying5
  rw [bs_size] at h
  refine ⟨_, _, h, ⟨hl, .inr ⟨_, 0, rfl, fun i hi => ?_⟩⟩, ((Below.refl w.heap.size w).drew).alloc (Nat.le_refl _) _, by simp⟩
  rw [Nat.zero_add]
  have hc := World.cell?_alloc_mark w.drew (bytesRow (bs l) (grownCap w l.length 0 5)) 5 ((bytesRow (bs l) (grownCap w l.length 0 5)).size, (bytesRow (bs l) (grownCap w l.length 0 5)).size + 1) i
  refine hc.trans ?_
  have hx := hl l[i] (List.getElem_mem hi)
  rw [bytesRow, Array.getElem?_append_left (by simpa [bs] using hi)]
  simp [bs, hi, List.getD, Nat.mod_eq_of_lt hx]

/-- The same of every world at once. -/
theorem conv_all {l : List Nat} (hl : ∀ x ∈ l, x < 256) : ∃ (C : World → Nat) (W : World → World), ∀ w, (convert 9 32 (.string (bs l))).run Try.prog w = .ok (.slice (some ⟨w.heap.size, 0, none⟩) l.length (C w)) (W w) ∧
    (BRow (W w) (some ⟨w.heap.size, 0, none⟩) l ∧ Below w.heap.size w (W w) ∧ (W w).heap.size = w.heap.size + 1) := by
  refine ⟨fun w => (run_conv hl w).choose, fun w => (run_conv hl w).choose_spec.choose, fun w => ?_⟩
  obtain ⟨h1, h2⟩ := (run_conv hl w).choose_spec.choose_spec
  exact ⟨h1, h2⟩

/-- One byte, two bytes in a row of their own. -/
theorem byte_row (w : World) (x : Nat) (h : x < 256) : BRow (w.alloc (.cells #[vb x] 5)) (some ⟨w.heap.size, 0, none⟩) [x] :=
  BRow.of_blk (Blk.new w _ _) (by simp [bv]) (by simpa using h)
theorem byte_row2 (w : World) (x y : Nat) (h : x < 256) (h' : y < 256) : BRow (w.alloc (.cells #[vb x, vb y] 5)) (some ⟨w.heap.size, 0, none⟩) [x, y] :=
  BRow.of_blk (Blk.new w _ _) (by simp [bv]) (by simpa using ⟨h, h'⟩)

/-- A row of bytes is none of a block that holds no bytes. -/
theorem BRow.set_far {w : World} {g j : Nat} {t : TypeId} {cs : Array Value} {u : Value} {a : Option Addr} {m : List Nat} (hm : BRow w a m) (hb : Blk w g t cs) (hv : ∀ j n : Nat, cs[j]? ≠ some (vb n)) : BRow (w.setCell ⟨g, j, none⟩ u) a m := by
  refine ⟨hm.small, ?_⟩
  rcases hm.at_ with h0 | ⟨b, o, rfl, h1⟩
  · exact .inl h0
  · by_cases hbg : b = g
    · refine .inl ?_
      subst hbg
      rcases m with _ | ⟨x, m⟩
      · rfl
      · have h2 := h1 0 (by simp)
        rw [hb.cell] at h2
        exact absurd h2 (hv _ _)
    · refine .inr ⟨b, o, rfl, fun i hi => ?_⟩
      rw [World.cell?_setCell_other _ _ _ _ (fun e => hbg (by injection e with e1; exact e1.symm))]
      exact h1 i hi
theorem BRow.drewN {w : World} {a : Option Addr} {l : List Nat} (h : BRow w a l) (n : Nat) : BRow (w.drewN n) a l := ⟨h.small, h.at_⟩
theorem below_drewN {B : Nat} {a w : World} (h : Below B a w) (n : Nat) : Below B a (w.drewN n) := ⟨h.os, h.tape, h.output, h.size, h.block⟩
end Go.Proofs.Ytpggkehfbhffbaa

