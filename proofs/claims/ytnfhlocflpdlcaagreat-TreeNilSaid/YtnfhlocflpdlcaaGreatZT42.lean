/-
  Lemmas for a law's proof, put together from several texts: each part says what it shows, and its conditions.
-/
import Derived.Test.YtnfhlocflpdlcaaGreatZT41
import Derived.Test.YtnfhlocflpdlcaaGreatZT40
/-
  A name put into a directory that has none yet. Conditions: a tree whose pool was never committed, of eight inodes, that are right.
-/
namespace Go.Proofs.YtnfhlocflpdlcaaGreat.tr
open Go.RowKit Go.Proofs.YtnfhlocflpdlcaaGreat.mgr Go.Proofs.YtnfhlocflpdlcaaGreat.ft Go.Proofs.YtnfhlocflpdlcaaGreat.pl Go.Proofs.YtnfhlocflpdlcaaGreat.ino Go.Proofs.YtnfhlocflpdlcaaGreat.nd
section
variable {base : Nat} {w w' w'' : World} {t q g : Nat} {p p' p'' : Pl} {K K' K'' : Nat → Prop}
/-- What a directory's write reads. -/
structure WrB (t q x ln : Nat) (W : World) : Prop where
  tree : Blk W t 85 #[ptr q]
  ino : Blk W x 50 #[vi 2, vi ln, vi 0, vi 0, vi 0, vi 0, vi 0, vi 0, vi 0, vi 0, vi 0]
theorem WrB.facts {t q x ln : Nat} {W : World} (h : WrB t q x ln W) : (W.cell? ⟨t, 0, none⟩ = some (ptr q) ∧ W.cell? ⟨x, 0, none⟩ = some (vi 2) ∧ W.cell? ⟨x, 1, none⟩ = some (vi ln) ∧ W.cell? ⟨x, 2, none⟩ = some (vi 0) ∧ W.cell? ⟨x, 3, none⟩ = some (vi 0) ∧ W.cell? ⟨x, 4, none⟩ = some (vi 0) ∧ W.cell? ⟨x, 5, none⟩ = some (vi 0) ∧ W.cell? ⟨x, 6, none⟩ = some (vi 0) ∧ W.cell? ⟨x, 7, none⟩ = some (vi 0) ∧ W.cell? ⟨x, 8, none⟩ = some (vi 0) ∧ W.cell? ⟨x, 9, none⟩ = some (vi 0) ∧ W.cell? ⟨x, 10, none⟩ = some (vi 0)) :=
  ⟨h.tree.cell 0, h.ino.cell 0, h.ino.cell 1, h.ino.cell 2, h.ino.cell 3, h.ino.cell 4, h.ino.cell 5, h.ino.cell 6, h.ino.cell 7, h.ino.cell 8, h.ino.cell 9, h.ino.cell 10⟩
theorem WrB.drew {t q x ln : Nat} {W : World} (h : WrB t q x ln W) : WrB t q x ln W.drew := ⟨h.tree, h.ino⟩
theorem WrB.alloc {t q x ln : Nat} {W : World} (o : Obj) (h : WrB t q x ln W) : WrB t q x ln (W.alloc o) := ⟨h.tree.alloc o, h.ino.alloc o⟩
theorem WrB.set {t q x ln g : Nat} (hn : g ≠ t ∧ g ≠ x) {W : World} (i : Nat) (v : Value) (h : WrB t q x ln W) : WrB t q x ln (W.setCell ⟨g, i, none⟩ v) :=
  ⟨h.tree.chg (Chg.set (F := fun n => n = g) W rfl v) (fun e => hn.1 e.symm), h.ino.chg (Chg.set (F := fun n => n = g) W rfl v) (fun e => hn.2 e.symm)⟩
set_option maxRecDepth 100000 in
set_option maxHeartbeats 4000000 in
theorem write_first (h : TrAt base w t q K p) (n : Nat) (hn : 1 ≤ n ∧ n ≤ 8) (ln : Nat) (a : Option Addr) (l : List Nat) (c : Nat) (hl : 0 < l.length ∧ l.length ≤ 64) (hr : SRow base w a l) (hc : l.length ≤ c) (hP : 1 ≤ p.P ∧ p.P ≤ 1000000) (hu : MP.has p.U 5 = false) (hlen : (p.U.length : Int) < p.P) (hir : PI.right (one 2 ln l.length 5) = true) :
    Calls Tryz.prog 42 #[ptr t, vi n, inoV (free0 2 ln 0), vi 0, .slice a l.length c] w (SetP base w t q K (p.first l) n (one 2 ln l.length 5)) := by
  have H := Lib.hid h
  have HN := Lib.hid hn
  have HWR : Hid (∀ W, Below w.heap.size w W → Calls Tryz.prog 88 #[ptr q, .agg #[vi 2, vi ln, vi 0, vi 0, vi 0, vi 0, vi 0, vi 0, vi 0, vi 0, vi 0], vi 0, .slice a l.length c] W fun e w' => ∃ K', e = .returned (.tuple #[.agg #[vi 2, vi ln, vi l.length, vi 5, vi 0, vi 0, vi 0, vi 0, vi 0, vi 0, vi 0], vi 0]) ∧ PoGo base W q K w' K' (p.first l)) :=
    Lib.hid (fun W hb => Write_first (h.pool.old hb) 2 ln a l c hl (hr.old hb) hc hP hu hlen)
  have HST : Hid (∀ W K', TrAt base W t q K' (p.first l) → Calls Tryz.prog 19 #[ptr t, vi n, .agg #[vi 2, vi ln, vi l.length, vi 5, vi 0, vi 0, vi 0, vi 0, vi 0, vi 0, vi 0]] W (SetP base W t q K' (p.first l) n (one 2 ln l.length 5))) :=
    Lib.hid (fun W K' h => Set_any h n hn (one 2 ln l.length 5) rfl hir)
  clear h hr hl hc hP hu hlen hir
  rw [show inoV (free0 2 ln 0) = .agg #[vi 2, vi ln, vi 0, vi 0, vi 0, vi 0, vi 0, vi 0, vi 0, vi 0, vi 0] from rfl]
  generalize l.length = m at *
  generalize one 2 ln m 5 = i5 at *
  generalize p.first l = pf at *
  go_enter Tryz.func42, Tryz.ntmps42
  go_upto_region 1 with fail
  have HB1 : Hid (Below w.heap.size w (w.alloc (.cells #[vi 2, vi ln, vi 0, vi 0, vi 0, vi 0, vi 0, vi 0, vi 0, vi 0, vi 0] 50))) := Lib.hid ((Below.refl _ _).alloc (Nat.le_refl _) _)
  have HX1 := Lib.hid (Blk.new w 50 #[vi 2, vi ln, vi 0, vi 0, vi 0, vi 0, vi 0, vi 0, vi 0, vi 0, vi 0])
  obtain ⟨x, hx⟩ : ∃ x, x = w.heap.size := ⟨_, rfl⟩
  rw [← hx] at HX1 ⊢
  have HNX : Hid (¬ K x) := Lib.hid (fun e => by have := H.out.pool.lt _ e; omega)
  clear hx
  change Code.wp _ _ _ _ (w.alloc (.cells #[vi 2, vi ln, vi 0, vi 0, vi 0, vi 0, vi 0, vi 0, vi 0, vi 0, vi 0] 50))
  have H1 := Lib.hid (H.out.old HB1.out)
  generalize w.alloc (.cells #[vi 2, vi ln, vi 0, vi 0, vi 0, vi 0, vi 0, vi 0, vi 0, vi 0, vi 0] 50) = w1 at *
  have HWB : Hid (WrB t q x ln w1) := Lib.hid ⟨H1.out.obj, HX1.out⟩
  have HNE : Hid (w1.heap.size ≠ t ∧ w1.heap.size ≠ x) := Lib.hid ⟨fun e => by have := H1.out.obj.lt; omega, fun e => by have := HX1.out.lt; omega⟩
  have HB0 : Hid (Below w1.heap.size w1 w1) := Lib.hid (Below.refl _ _)
  have HBD : Hid (∀ W, Below w1.heap.size w1 W → Below w1.heap.size w1 W.drew) := Lib.hid (fun W h => h.drew)
  have HBA : Hid (∀ (W : World) o, Below w1.heap.size w1 W → Below w1.heap.size w1 (W.alloc o)) := Lib.hid (fun W o h => h.alloc h.size o)
  have HW1 : Hid (∀ W, Below w1.heap.size w1 W → Below w.heap.size w W) := Lib.hid (fun W h => HB1.out.trans (h.mono HB1.out.size))
  have HKP : Hid (∀ W W' K', Below w1.heap.size w1 W → PoGo base W q K W' K' pf → WrB t q x ln W') :=
    Lib.hid (fun W W' K' hb hg => ⟨(hg.keep (H1.out.old hb).obj (H1.out.old hb).nt).1, (hg.keep (HX1.out.old hb) HNX.out).1⟩)
  have HTG : Hid (∀ W W' K', Below w1.heap.size w1 W → PoGo base W q K W' K' pf → TrGo base w t q K W' K' pf) := Lib.hid (fun W W' K' hb hg => (((TrGo.refl H.out).old HB1.out).old hb).on hg)
  have HKB : Hid (∀ W W' K', PoGo base W q K W' K' pf → Blk W w1.heap.size 50 #[vi 0, vi 0, vi 0, vi 0, vi 0, vi 0, vi 0, vi 0, vi 0, vi 0, vi 0] → (Blk W' w1.heap.size 50 #[vi 0, vi 0, vi 0, vi 0, vi 0, vi 0, vi 0, vi 0, vi 0, vi 0, vi 0] ∧ ¬ K' w1.heap.size)) :=
    Lib.hid (fun W W' K' hg hb => hg.keep hb (fun e => by have := H1.out.pool.lt _ e; omega))
  have hm16 : IntKind.i64.wrap (0 * 16) = 0 := rfl
  go_cut [11, 12] from 13 to 24 (fun v11 v12 wx => ∃ K5 g5, v11 = .pointer (some ⟨g5, 0, none⟩) ∧ v12 = vi 0 ∧ Hid (Blk wx g5 50 #[vi 2, vi ln, vi m, vi 5, vi 0, vi 0, vi 0, vi 0, vi 0, vi 0, vi 0]) ∧ Hid (TrGo base w t q K wx K5 pf))
  case first =>
    go_region_held3 (fun W => (W.cell? ⟨t, 0, none⟩ = some (ptr q) ∧ W.cell? ⟨x, 0, none⟩ = some (vi 2) ∧ W.cell? ⟨x, 1, none⟩ = some (vi ln) ∧ W.cell? ⟨x, 2, none⟩ = some (vi 0) ∧ W.cell? ⟨x, 3, none⟩ = some (vi 0) ∧ W.cell? ⟨x, 4, none⟩ = some (vi 0) ∧ W.cell? ⟨x, 5, none⟩ = some (vi 0) ∧ W.cell? ⟨x, 6, none⟩ = some (vi 0) ∧ W.cell? ⟨x, 7, none⟩ = some (vi 0) ∧ W.cell? ⟨x, 8, none⟩ = some (vi 0) ∧ W.cell? ⟨x, 9, none⟩ = some (vi 0) ∧ W.cell? ⟨x, 10, none⟩ = some (vi 0)))
      (exact WrB.facts (by repeat (with_reducible first | exact HWB.out | exact HWB5.out | (refine WrB.drew ?_) | (refine WrB.alloc _ ?_) | (refine WrB.set HNE.out _ _ ?_))))
      (first | (go_at_call 88; refine (HWR.out _ (HW1.out _ (by repeat first | exact HB0.out | (refine HBD.out _ ?_) | (refine HBA.out _ _ ?_)))).mono ?_; rintro e w5 ⟨K5, rfl, hgo5⟩; have hbw5 := HW1.out _ (by repeat first | exact HB0.out | (refine HBD.out _ ?_) | (refine HBA.out _ _ ?_)); have HWB5 := Lib.hid (HKP.out _ _ _ (by repeat first | exact HB0.out | (refine HBD.out _ ?_) | (refine HBA.out _ _ ?_)) hgo5); have ht5 := HTG.out _ _ _ (by repeat first | exact HB0.out | (refine HBD.out _ ?_) | (refine HBA.out _ _ ?_)) hgo5; first | (have hk5 := HKB.out _ _ _ hgo5 (by exact Blk.new _ _ _); have r0 : w5.cell? ⟨w1.heap.size, 0, none⟩ = some (vi 0) := hk5.1.cell 0; have f0 := hk5.1.frozen 0; have r1 : w5.cell? ⟨w1.heap.size, 1, none⟩ = some (vi 0) := hk5.1.cell 1; have f1 := hk5.1.frozen 1; have r2 : w5.cell? ⟨w1.heap.size, 2, none⟩ = some (vi 0) := hk5.1.cell 2; have f2 := hk5.1.frozen 2; have r3 : w5.cell? ⟨w1.heap.size, 3, none⟩ = some (vi 0) := hk5.1.cell 3; have f3 := hk5.1.frozen 3; have r4 : w5.cell? ⟨w1.heap.size, 4, none⟩ = some (vi 0) := hk5.1.cell 4; have f4 := hk5.1.frozen 4; have r5 : w5.cell? ⟨w1.heap.size, 5, none⟩ = some (vi 0) := hk5.1.cell 5; have f5 := hk5.1.frozen 5; have r6 : w5.cell? ⟨w1.heap.size, 6, none⟩ = some (vi 0) := hk5.1.cell 6; have f6 := hk5.1.frozen 6; have r7 : w5.cell? ⟨w1.heap.size, 7, none⟩ = some (vi 0) := hk5.1.cell 7; have f7 := hk5.1.frozen 7; have r8 : w5.cell? ⟨w1.heap.size, 8, none⟩ = some (vi 0) := hk5.1.cell 8; have f8 := hk5.1.frozen 8; have r9 : w5.cell? ⟨w1.heap.size, 9, none⟩ = some (vi 0) := hk5.1.cell 9; have f9 := hk5.1.frozen 9; have r10 : w5.cell? ⟨w1.heap.size, 10, none⟩ = some (vi 0) := hk5.1.cell 10; have f10 := hk5.1.frozen 10) | skip))
    all_goals
      go_wp2_with fail
      go_meet
      first
        | (have hx := hk5.1
           obtain ⟨hf, hw⟩ := nd.ino_fill2 (vi 2) (vi ln) (vi m) (vi 5) (vi 0) (vi 0) (vi 0) (vi 0) (vi 0) (vi 0) (vi 0) hx
           have hz := ht5.poke H.out hx HB1.out.size hk5.2 hw
           exact ⟨K5, _, rfl, rfl, Lib.hid hf, Lib.hid hz⟩)
        | skip
    all_goals
      have hbn := Blk.new w5 50 #[vi 2, vi ln, vi m, vi 5, vi 0, vi 0, vi 0, vi 0, vi 0, vi 0, vi 0]
      have hbb : Below w5.heap.size w5 (w5.alloc (.cells #[vi 2, vi ln, vi m, vi 5, vi 0, vi 0, vi 0, vi 0, vi 0, vi 0, vi 0] 50)) := (Below.refl _ _).alloc (Nat.le_refl _) _
      have hz := ht5.old hbb
      exact ⟨K5, w5.heap.size, rfl, rfl, Lib.hid hbn, Lib.hid hz⟩
  case rest =>
    obtain ⟨K5, g5, rfl, rfl, hb5, hg5⟩ := hcut
    have x0 : wc.cell? ⟨g5, 0, none⟩ = some (vi 2) := hb5.out.cell 0
    have x1 : wc.cell? ⟨g5, 1, none⟩ = some (vi ln) := hb5.out.cell 1
    have x2 : wc.cell? ⟨g5, 2, none⟩ = some (vi m) := hb5.out.cell 2
    have x3 : wc.cell? ⟨g5, 3, none⟩ = some (vi 5) := hb5.out.cell 3
    have x4 : wc.cell? ⟨g5, 4, none⟩ = some (vi 0) := hb5.out.cell 4
    have x5 : wc.cell? ⟨g5, 5, none⟩ = some (vi 0) := hb5.out.cell 5
    have x6 : wc.cell? ⟨g5, 6, none⟩ = some (vi 0) := hb5.out.cell 6
    have x7 : wc.cell? ⟨g5, 7, none⟩ = some (vi 0) := hb5.out.cell 7
    have x8 : wc.cell? ⟨g5, 8, none⟩ = some (vi 0) := hb5.out.cell 8
    have x9 : wc.cell? ⟨g5, 9, none⟩ = some (vi 0) := hb5.out.cell 9
    have x10 : wc.cell? ⟨g5, 10, none⟩ = some (vi 0) := hb5.out.cell 10
    have HG5 := Lib.hid hg5.out
    clear hb5 hg5 HWR HB0 HBD HBA HW1 HKP HTG HKB HWB HNE
    go_wp2_with fail
    refine (HST.out wc K5 HG5.out.at_).mono ?_
    rintro e w6 ⟨K6, rfl, hg6⟩
    have HG6 := Lib.hid (HG5.out.trans hg6)
    clear hg6 x0 x1 x2 x3 x4 x5 x6 x7 x8 x9 x10
    go_wp2_with fail
    go_ret
    exact ⟨K6, rfl, HG6.out⟩
end
end Go.Proofs.YtnfhlocflpdlcaaGreat.tr

/-
  The name "a" put into a directory that has none yet. Conditions: a tree whose pool was never committed, of eight inodes, that are right.
-/
namespace Go.Proofs.YtnfhlocflpdlcaaGreat.tr
open Go.RowKit Go.Proofs.YtnfhlocflpdlcaaGreat.mgr Go.Proofs.YtnfhlocflpdlcaaGreat.ft Go.Proofs.YtnfhlocflpdlcaaGreat.pl Go.Proofs.YtnfhlocflpdlcaaGreat.ino Go.Proofs.YtnfhlocflpdlcaaGreat.nd Go.Proofs.YtnfhlocflpdlcaaGreat.di
section
variable {base : Nat} {w w' w'' : World} {t q g : Nat} {p p' p'' : Pl} {K K' K'' : Nat → Prop}
set_option maxRecDepth 100000 in
set_option maxHeartbeats 4000000 in
theorem Add_first (h : TrAt base w t q K p) (n : Nat) (hn : 1 ≤ n ∧ n ≤ 8) (hr : p.right n = true) (ln : Nat) (hi : p.ino n = one 2 ln 0 0) (hP : 1 ≤ p.P ∧ p.P ≤ 1000000) (hu : MP.has p.U 5 = false) (hlen : (p.U.length : Int) < p.P) (hir : PI.right (one 2 ln 16 5) = true) :
    Calls Tryz.prog 21 #[ptr t, vi n, sa, vi 2] w (SetP base w t q K (p.first sl) n (one 2 ln 16 5)) := by
  have H := Lib.hid h
  have HN := Lib.hid hn
  have HDR : Hid (Calls Tryz.prog 36 #[ptr t, vi n] w (DirP base w t q K p (one 2 ln 0 0) [])) := Lib.hid (dir_any h n hn hr ln 0 0 hi (by omega) (by omega))
  have HWR : Hid (∀ W K' b0 c, TrAt base W t q K' p → SRow base W (some ⟨b0, 0, none⟩) sl → 16 ≤ c → Calls Tryz.prog 42 #[ptr t, vi n, .agg #[vi 2, vi ln, vi 0, vi 0, vi 0, vi 0, vi 0, vi 0, vi 0, vi 0, vi 0], vi 0, .slice (some ⟨b0, 0, none⟩) 16 c] W (SetP base W t q K' (p.first sl) n (one 2 ln 16 5))) :=
    Lib.hid (fun W K' b0 c h hr hc => write_first h n hn ln (some ⟨b0, 0, none⟩) sl c (by decide) hr hc hP hu hlen hir)
  clear h hr hi hP hu hlen hir
  go_enter Tryz.func21, Tryz.ntmps21
  go_wp2_with fail
  refine HDR.out.mono ?_
  rintro e w2 ⟨K2, a, c, rfl, _, _, hac, hg2⟩
  rcases hac with ⟨_, rfl, rfl⟩ | ⟨h0, _⟩
  case inr => exact absurd h0 (by decide)
  rw [show inoV (one 2 ln 0 0) = .agg #[vi 2, vi ln, vi 0, vi 0, vi 0, vi 0, vi 0, vi 0, vi 0, vi 0, vi 0] from rfl]
  rw [show ([] : List Nat).length = 0 from rfl]
  have HG2 := Lib.hid hg2
  clear hg2 HDR
  go_upto_region 2 with fail
  have HB3 : Hid (Below w2.heap.size w2 (w2.alloc (.cells #[vi 2, vi ln, vi 0, vi 0, vi 0, vi 0, vi 0, vi 0, vi 0, vi 0, vi 0] 50))) := Lib.hid ((Below.refl _ _).alloc (Nat.le_refl _) _)
  have HX3 := Lib.hid (Blk.new w2 50 #[vi 2, vi ln, vi 0, vi 0, vi 0, vi 0, vi 0, vi 0, vi 0, vi 0, vi 0])
  obtain ⟨x, hx⟩ : ∃ x, x = w2.heap.size := ⟨_, rfl⟩
  rw [← hx] at HX3 ⊢
  have HNX : Hid (¬ K2 x) := Lib.hid (fun e => by have := HG2.out.at_.pool.lt _ e; omega)
  clear hx
  change Code.wp _ _ _ _ (w2.alloc (.cells #[vi 2, vi ln, vi 0, vi 0, vi 0, vi 0, vi 0, vi 0, vi 0, vi 0, vi 0] 50))
  have HG3 := Lib.hid (HG2.out.old HB3.out)
  generalize w2.alloc (.cells #[vi 2, vi ln, vi 0, vi 0, vi 0, vi 0, vi 0, vi 0, vi 0, vi 0, vi 0] 50) = w3 at *
  clear HB3 HG2
  go_wp2_with fail
  refine (place_any HG3.out.at_ 2 (by omega)).mono ?_
  rintro e w4 ⟨rfl, hb4⟩
  have HG4 := Lib.hid (HG3.out.old hb4)
  have HX4 := Lib.hid (HX3.out.old hb4)
  clear hb4 HG3 HX3
  go_wp2_with fail
  refine (DWrite_a (w := w4)).mono ?_
  rintro e w5 ⟨v5, rfl, ho5, hb5⟩
  obtain ⟨g5, c5, rfl, hg5, hc5, _⟩ := pl.own_some ho5 (by decide)
  rw [show sl.length = 16 from rfl] at hc5 ho5 ⊢
  obtain ⟨a', c', he, hsr, _⟩ := ho5.srow (base := base) (by decide)
  injection he with he h2 h3
  subst he h3
  clear h2
  have HR5 := Lib.hid hsr
  have HC5 := Lib.hid hc5
  have HG5 := Lib.hid (HG4.out.old hb5)
  have HX5 := Lib.hid (HX4.out.old hb5)
  clear ho5 hb5 hsr hc5 hg5 HG4 HX4
  go_wp2_with fail
  refine (Find_none (w := w5) _).mono ?_
  rintro e w6 ⟨rfl, hb6⟩
  have HR6 := Lib.hid (HR5.out.old hb6)
  have HG6 := Lib.hid (HG5.out.old hb6)
  have HX6 := Lib.hid (HX5.out.old hb6)
  clear hb6 HR5 HG5 HX5
  go_upto_region 13 with fail
  have HWB : Hid (WrB t q x ln w6) := Lib.hid ⟨HG6.out.at_.obj, HX6.out⟩
  have HKW : Hid (∀ W W' K3 p3, Below w6.heap.size w6 W → TrGo base W t q K2 W' K3 p3 → WrB t q x ln W') := Lib.hid (fun W W' K3 p3 hb hg => ⟨hg.at_.obj, (hg.go.keep (HX6.out.old hb) HNX.out).1⟩)
  have HWD : Hid (∀ W, Below w6.heap.size w6 W → Calls Tryz.prog 42 #[ptr t, vi n, .agg #[vi 2, vi ln, vi 0, vi 0, vi 0, vi 0, vi 0, vi 0, vi 0, vi 0, vi 0], vi 0, .slice (some ⟨g5, 0, none⟩) 16 c5] W (SetP base W t q K2 (p.first sl) n (one 2 ln 16 5))) :=
    Lib.hid (fun W hb => HWR.out W K2 g5 c5 (HG6.out.at_.old hb) (HR6.out.old hb) HC5.out)
  have HB0 : Hid (Below w6.heap.size w6 w6) := Lib.hid (Below.refl _ _)
  have HBD : Hid (∀ W, Below w6.heap.size w6 W → Below w6.heap.size w6 W.drew) := Lib.hid (fun W h => h.drew)
  have HEND : Hid (∀ W W' e, Below w6.heap.size w6 W → SetP base W t q K2 (p.first sl) n (one 2 ln 16 5) e W' → SetP base w t q K (p.first sl) n (one 2 ln 16 5) e W') := Lib.hid (fun W W' e hb hs => by
    obtain ⟨K3, he, hg⟩ := hs
    exact ⟨K3, he, (HG6.out.old hb).trans hg⟩)
  clear HWR
  generalize one 2 ln 16 5 = i5 at *
  generalize p.first sl = pf at *
  go_region_held3 (fun W => (W.cell? ⟨t, 0, none⟩ = some (ptr q) ∧ W.cell? ⟨x, 0, none⟩ = some (vi 2) ∧ W.cell? ⟨x, 1, none⟩ = some (vi ln) ∧ W.cell? ⟨x, 2, none⟩ = some (vi 0) ∧ W.cell? ⟨x, 3, none⟩ = some (vi 0) ∧ W.cell? ⟨x, 4, none⟩ = some (vi 0) ∧ W.cell? ⟨x, 5, none⟩ = some (vi 0) ∧ W.cell? ⟨x, 6, none⟩ = some (vi 0) ∧ W.cell? ⟨x, 7, none⟩ = some (vi 0) ∧ W.cell? ⟨x, 8, none⟩ = some (vi 0) ∧ W.cell? ⟨x, 9, none⟩ = some (vi 0) ∧ W.cell? ⟨x, 10, none⟩ = some (vi 0)))
    (exact WrB.facts (by repeat (with_reducible first | exact HWB.out | exact HWB7.out | (refine WrB.drew ?_))))
    (first
      | (go_at_call 43; refine Room_none.mono ?_; rintro e wa ⟨rfl, rfl⟩)
      | (go_at_call 42; refine (HWD.out _ (by repeat first | exact HB0.out | (refine HBD.out _ ?_))).mono ?_; rintro e w7 hs7; have hs8 := HEND.out _ _ _ (by repeat first | exact HB0.out | (refine HBD.out _ ?_)) hs7; obtain ⟨K9, _, hg9⟩ := hs7; have HWB7 := Lib.hid (HKW.out _ _ _ _ (by repeat first | exact HB0.out | (refine HBD.out _ ?_)) hg9); clear hg9; obtain ⟨K7, rfl, hg7⟩ := hs8))
  all_goals
    have HG7 := Lib.hid hg7
    clear hg7
    go_wp2_with fail
    go_ret
    exact ⟨K7, rfl, HG7.out⟩
end
end Go.Proofs.YtnfhlocflpdlcaaGreat.tr

/-
  Inodes made and counted. Conditions: a tree whose pool was never committed, of eight inodes, that are right.
-/
namespace Go.Proofs.YtnfhlocflpdlcaaGreat.pl
/-- How many inodes of the first m are taken. -/
def Pl.usedTo (p : Pl) : Nat → Nat
  | 0 => 0
  | m + 1 => p.usedTo m + (if (p.ino (m + 1)).kind = 0 then 0 else 1)
theorem Pl.usedTo_le (p : Pl) (m : Nat) : p.usedTo m ≤ m := by
  induction m with
  | zero => exact Nat.le_refl _
  | succ m ih => unfold Pl.usedTo; split <;> omega
end Go.Proofs.YtnfhlocflpdlcaaGreat.pl
namespace Go.Proofs.YtnfhlocflpdlcaaGreat.tr
open Go.RowKit Go.Proofs.YtnfhlocflpdlcaaGreat.mgr Go.Proofs.YtnfhlocflpdlcaaGreat.ft Go.Proofs.YtnfhlocflpdlcaaGreat.pl Go.Proofs.YtnfhlocflpdlcaaGreat.ino Go.Proofs.YtnfhlocflpdlcaaGreat.nd
section
variable {base : Nat} {w w' w'' : World} {t q g : Nat} {p p' p'' : Pl} {K K' K'' : Nat → Prop}
def FreeSt (base : Nat) (w : World) (t q : Nat) (K : Nat → Prop) (p : Pl) (k : Nat) (v2 v3 : Value) (wr : World) : Prop :=
  ∃ n K', v2 = vi 0 ∧ v3 = vi ((n : Nat) : Int) ∧ (1 ≤ n ∧ n ≤ k) ∧ TrGo base w t q K wr K' p
set_option maxRecDepth 100000 in
set_option maxHeartbeats 4000000 in
theorem free_any (h : TrAt base w t q K p) (hR : ∀ n, 1 ≤ n ∧ n ≤ 8 → p.right n = true) (k : Nat) (hk : 1 ≤ k ∧ k ≤ 8) (hf : ∀ n, 1 ≤ n ∧ n < k → (p.ino n).kind ≠ 0) (hz : (p.ino k).kind = 0) :
    Calls Tryz.prog 35 #[ptr t] w fun e w' => ∃ K', e = .returned (vi k) ∧ TrGo base w t q K w' K' p := by
  have H := Lib.hid h
  have HR := Lib.hid hR
  have HK := Lib.hid hk
  have HF := Lib.hid hf
  have HZ := Lib.hid hz
  clear h hR hk hf hz
  go_enter Tryz.func35, Tryz.ntmps35
  go_wp2_with fail
  go_loopw [2, 3] (fun v2 v3 wr => FreeSt base w t q K p k v2 v3 wr) (fun _ v3 _ => 9 - (intOf v3).toNat)
  case atStart => exact ⟨1, K, rfl, rfl, ⟨Nat.le_refl _, HK.out.1⟩, TrGo.refl H.out⟩
  case round =>
    obtain ⟨n, K1, rfl, rfl, hn, hgo⟩ := hrel
    have HN := Lib.hid hn
    have HGO := Lib.hid hgo
    have HN8 : Hid (1 ≤ n ∧ n ≤ 8) := Lib.hid ⟨hn.1, Nat.le_trans hn.2 HK.out.2⟩
    have c2 : (n : Int) ≤ 8 := by have := HN8.out; omega
    have c3 := lay_field p.P
    have e0 : wr.cell? ⟨t, 0, none⟩ = some (ptr q) := HGO.out.at_.obj.cell 0
    clear hn hgo
    go_wp2_with fail
    refine (Layout_any HGO.out.at_.pool).mono ?_
    rintro e w2 ⟨rfl, hb2⟩
    have HG2 := Lib.hid (HGO.out.old hb2)
    clear hb2 HGO e0
    go_wp2_with fail
    refine (Inode_any HG2.out.at_ n HN8.out (HR.out n HN8.out)).mono ?_
    rintro e w3 ⟨K3, rfl, hg3⟩
    have HG3 := Lib.hid (HG2.out.trans hg3)
    clear hg3 HG2 c2 c3
    generalize hio : p.ino n = io at *
    have hd6 : io.direct.length = 6 := by rw [← hio]; rfl
    obtain ⟨kd, ln, sz, dl, sg, db⟩ := io
    obtain ⟨d0, d1, d2, d3, d4, d5, rfl⟩ := six (l := dl) hd6
    have HIO := Lib.hid hio
    clear hd6 hio
    simp only [inoV, inoC]
    go_upto_region 5 with fail
    have HB4 : Hid (Below w3.heap.size w3 (w3.alloc (.cells #[vi kd, vi ln, vi sz, vi d0, vi d1, vi d2, vi d3, vi d4, vi d5, vi sg, vi db] 50))) := Lib.hid ((Below.refl _ _).alloc (Nat.le_refl _) _)
    have HX4 := Lib.hid (Blk.new w3 50 #[vi kd, vi ln, vi sz, vi d0, vi d1, vi d2, vi d3, vi d4, vi d5, vi sg, vi db])
    change Code.wp _ _ _ _ (w3.alloc (.cells #[vi kd, vi ln, vi sz, vi d0, vi d1, vi d2, vi d3, vi d4, vi d5, vi sg, vi db] 50))
    have HG4 := Lib.hid (HG3.out.old HB4.out)
    generalize w3.alloc (.cells #[vi kd, vi ln, vi sz, vi d0, vi d1, vi d2, vi d3, vi d4, vi d5, vi sg, vi db] 50) = w4 at *
    have x0 : w4.cell? ⟨w3.heap.size, 0, none⟩ = some (vi kd) := HX4.out.cell 0
    clear HG3 HB4 HX4
    by_cases hnk : n = k
    · subst hnk
      have hkd : kd = 0 := by have := HZ.out; rw [HIO.out] at this; exact this
      subst hkd
      go_wp2_with fail
      go_ret
      exact ⟨K3, rfl, HG4.out⟩
    · have hkd : ¬ (kd : Int) = 0 := by
        have := HF.out n ⟨HN.out.1, Nat.lt_of_le_of_ne HN.out.2 hnk⟩
        rw [HIO.out] at this
        simpa using this
      have l1 : IntKind.i64.wrap ((n : Int) + 1) = ((n + 1 : Nat) : Int) := by
        have := HN8.out
        rw [IntWalk.i64_in _ (by omega)]; omega
      go_wp2_with fail
      go_roundw
      case rel => exact ⟨n + 1, K3, rfl, rfl, ⟨by omega, by have := HN.out; omega⟩, HG4.out⟩
      case measure =>
        have := HN8.out
        simp [intOf]
        omega
def UsedSt (base : Nat) (w : World) (t q : Nat) (K : Nat → Prop) (p : Pl) (v3 v4 : Value) (wr : World) : Prop :=
  ∃ n K', v3 = vi (p.usedTo n : Int) ∧ v4 = vi ((n + 1 : Nat) : Int) ∧ n ≤ 8 ∧ TrGo base w t q K wr K' p
set_option maxRecDepth 100000 in
set_option maxHeartbeats 4000000 in
theorem Used_any (h : TrAt base w t q K p) (hR : ∀ n, 1 ≤ n ∧ n ≤ 8 → p.right n = true) :
    Calls Tryz.prog 24 #[ptr t] w fun e w' => ∃ K', e = .returned (vi (p.usedTo 8)) ∧ TrGo base w t q K w' K' p := by
  have H := Lib.hid h
  have HR := Lib.hid hR
  clear h hR
  go_enter Tryz.func24, Tryz.ntmps24
  go_wp2_with fail
  go_loopw [3, 4] (fun v3 v4 wr => UsedSt base w t q K p v3 v4 wr) (fun _ v4 _ => 10 - (intOf v4).toNat)
  case atStart => exact ⟨0, K, rfl, rfl, Nat.zero_le _, TrGo.refl H.out⟩
  case round =>
    obtain ⟨n, K1, rfl, rfl, hn, hgo⟩ := hrel
    have HN := Lib.hid hn
    have HGO := Lib.hid hgo
    have c3 := lay_field p.P
    have e0 : wr.cell? ⟨t, 0, none⟩ = some (ptr q) := HGO.out.at_.obj.cell 0
    clear hn hgo
    by_cases hn8 : n = 8
    · subst hn8
      have c2 : ¬ ((8 + 1 : Nat) : Int) ≤ 8 := by omega
      go_wp2_with fail
      refine (Layout_any HGO.out.at_.pool).mono ?_
      rintro e w2 ⟨rfl, hb2⟩
      have HG2 := Lib.hid (HGO.out.old hb2)
      clear hb2 HGO e0
      go_wp2_with fail
      go_ret
      exact ⟨K1, rfl, HG2.out⟩
    have HN8 : Hid (1 ≤ n + 1 ∧ n + 1 ≤ 8) := Lib.hid ⟨by omega, by have := HN.out; omega⟩
    have c2 : ((n + 1 : Nat) : Int) ≤ 8 := by have := HN8.out; omega
    go_wp2_with fail
    refine (Layout_any HGO.out.at_.pool).mono ?_
    rintro e w2 ⟨rfl, hb2⟩
    have HG2 := Lib.hid (HGO.out.old hb2)
    clear hb2 HGO e0
    go_wp2_with fail
    refine (Inode_any HG2.out.at_ (n + 1) HN8.out (HR.out (n + 1) HN8.out)).mono ?_
    rintro e w3 ⟨K3, rfl, hg3⟩
    have HG3 := Lib.hid (HG2.out.trans hg3)
    have HUS : Hid (p.usedTo (n + 1) = p.usedTo n + (if (p.ino (n + 1)).kind = 0 then 0 else 1)) := Lib.hid rfl
    have HUL := Lib.hid (p.usedTo_le n)
    clear hg3 HG2 c2 c3
    generalize hio : p.ino (n + 1) = io at *
    have hd6 : io.direct.length = 6 := by rw [← hio]; rfl
    obtain ⟨kd, ln, sz, dl, sg, db⟩ := io
    obtain ⟨d0, d1, d2, d3, d4, d5, rfl⟩ := six (l := dl) hd6
    clear hd6 hio
    simp only [inoV, inoC]
    go_upto_region 8 with fail
    have HB4 : Hid (Below w3.heap.size w3 (w3.alloc (.cells #[vi kd, vi ln, vi sz, vi d0, vi d1, vi d2, vi d3, vi d4, vi d5, vi sg, vi db] 50))) := Lib.hid ((Below.refl _ _).alloc (Nat.le_refl _) _)
    have HX4 := Lib.hid (Blk.new w3 50 #[vi kd, vi ln, vi sz, vi d0, vi d1, vi d2, vi d3, vi d4, vi d5, vi sg, vi db])
    change Code.wp _ _ _ _ (w3.alloc (.cells #[vi kd, vi ln, vi sz, vi d0, vi d1, vi d2, vi d3, vi d4, vi d5, vi sg, vi db] 50))
    have HG4 := Lib.hid (HG3.out.old HB4.out)
    generalize w3.alloc (.cells #[vi kd, vi ln, vi sz, vi d0, vi d1, vi d2, vi d3, vi d4, vi d5, vi sg, vi db] 50) = w4 at *
    have x0 : w4.cell? ⟨w3.heap.size, 0, none⟩ = some (vi kd) := HX4.out.cell 0
    clear HG3 HB4 HX4
    have l1 : IntKind.i64.wrap (((n + 1 : Nat) : Int) + 1) = ((n + 1 + 1 : Nat) : Int) := by
      have := HN8.out
      rw [IntWalk.i64_in _ (by omega)]; omega
    by_cases hkd : kd = 0
    · subst hkd
      go_wp2_with fail
      go_roundw
      case rel => exact ⟨n + 1, K3, by rw [HUS.out]; simp, rfl, HN8.out.2, HG4.out⟩
      case measure =>
        have := HN8.out
        simp [intOf]
        omega
    · have hkd' : ¬ (kd : Int) = 0 := by omega
      have l2 : IntKind.i64.wrap ((p.usedTo n : Int) + 1) = ((p.usedTo n + 1 : Nat) : Int) := by
        have := HUL.out
        have := HN.out
        rw [IntWalk.i64_in _ (by omega)]; omega
      go_wp2_with fail
      go_roundw
      case rel => exact ⟨n + 1, K3, by rw [HUS.out, if_neg hkd]; simp, rfl, HN8.out.2, HG4.out⟩
      case measure =>
        have := HN8.out
        simp [intOf]
        omega
def emptyIno (kd : Nat) : PI.Ino := ⟨kd, 0, 0, [0, 0, 0, 0, 0, 0], 0, 0⟩
theorem empty_right {kd : Nat} (h : kd = 1 ∨ kd = 2) : PI.right (emptyIno kd) = true := by
  rcases h with rfl | rfl <;> rfl
set_option maxRecDepth 100000 in
set_option maxHeartbeats 4000000 in
theorem Make_any (h : TrAt base w t q K p) (hR : ∀ n, 1 ≤ n ∧ n ≤ 8 → p.right n = true) (k : Nat) (hk : 1 ≤ k ∧ k ≤ 8) (hf : ∀ n, 1 ≤ n ∧ n < k → (p.ino n).kind ≠ 0) (hz : (p.ino k).kind = 0) (kd : Nat) (hkd : kd = 1 ∨ kd = 2) :
    Calls Tryz.prog 14 #[ptr t, vi kd] w fun e w' => ∃ K', e = .returned (.tuple #[vi k, vi 0]) ∧ TrGo base w t q K w' K' (p.setIno k (emptyIno kd)) := by
  have HFR := Lib.hid (free_any h hR k hk hf hz)
  have HST : Hid (∀ W K1, TrAt base W t q K1 p → Calls Tryz.prog 19 #[ptr t, vi k, .agg #[vi kd, vi 0, vi 0, vi 0, vi 0, vi 0, vi 0, vi 0, vi 0, vi 0, vi 0]] W (SetP base W t q K1 p k (emptyIno kd))) := Lib.hid (fun W K1 H1 => Set_any H1 k hk (emptyIno kd) rfl (empty_right hkd))
  have k0 : ¬ (k : Int) = 0 := by omega
  clear h hR hf hz
  rcases hkd with rfl | rfl
  all_goals
    go_enter Tryz.func14, Tryz.ntmps14
    go_wp2_with fail
    refine HFR.out.mono ?_
    rintro e w2 ⟨K2, rfl, hg2⟩
    have HG2 := Lib.hid hg2
    clear hg2
    go_wp2_with fail
    refine (HST.out w2 K2 HG2.out.at_).mono ?_
    rintro e w3 ⟨K3, rfl, hg3⟩
    have HG3 := Lib.hid (HG2.out.trans hg3)
    clear hg3
    go_wp2_with fail
    go_ret2
    exact ⟨K3, rfl, HG3.out⟩
end
end Go.Proofs.YtnfhlocflpdlcaaGreat.tr

