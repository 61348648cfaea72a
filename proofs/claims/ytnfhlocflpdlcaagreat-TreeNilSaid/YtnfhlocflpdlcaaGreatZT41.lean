/-
  Lemmas for a law's proof, put together from several texts: each part says what it shows, and its conditions.
-/
import Derived.Test.YtnfhlocflpdlcaaGreatZT40
/-
  A directory's bytes. Conditions: a tree whose pool was never committed, of eight inodes, that are right; a directory of one page at most.
-/
namespace Go.Proofs.YtnfhlocflpdlcaaGreat.tr
open Go.RowKit Go.Proofs.YtnfhlocflpdlcaaGreat.mgr Go.Proofs.YtnfhlocflpdlcaaGreat.ft Go.Proofs.YtnfhlocflpdlcaaGreat.pl Go.Proofs.YtnfhlocflpdlcaaGreat.ino Go.Proofs.YtnfhlocflpdlcaaGreat.nd
section
variable {base : Nat} {w w' w'' : World} {t q g : Nat} {p p' p'' : Pl} {K K' K'' : Nat → Prop}
theorem PQ.get_len (h : PQ base w q K p) (n : Int) : (p.get n).length = 64 := by
  obtain ⟨Y, X, h, rfl⟩ := h
  unfold Pl.get
  rcases h.rows n with ⟨_, h2⟩ | ⟨g, c, l, _, h2, h3, _⟩
  · rw [h2]; rfl
  · rw [h2]; exact h3
theorem PQ.get_small (h : PQ base w q K p) (n : Int) : ∀ y ∈ p.get n, y < 256 := by
  obtain ⟨Y, X, h, rfl⟩ := h
  unfold Pl.get
  rcases h.rows n with ⟨_, h2⟩ | ⟨g, c, l, _, h2, h3, _, _, h6⟩
  · rw [h2]; intro y hy; rw [List.eq_of_mem_replicate hy]; decide
  · rw [h2]; exact h6.row.small
theorem own_chg {F : Nat → Prop} {v : Value} {l : List Nat} {b : Nat} (h : Own w b v l) (q : Chg F w w') (hn : ∀ g, v.ownBlock = some g → ¬ F g) : Own w' b v l := by
  refine ⟨h.1, ?_⟩
  rcases h.2 with h1 | ⟨g, cap, cur, hv, hb, hg, h1⟩
  · exact .inl h1
  · have hl : g < w.heap.size := by
      have : Blk w g 5 cur := hg
      exact this.lt
    exact .inr ⟨g, cap, cur, hv, hb, (q.block g hl (hn g (by rw [hv]; rfl))).trans hg, h1⟩
theorem dir_result {w' : World} {g : Nat} {v0 v1 v2 v3 v4 v5 v6 v7 v8 v9 v10 s : Value} {n : Int} (hb : Blk w' g 50 #[v0, v1, v2, v3, v4, v5, v6, v7, v8, v9, v10]) (tmps : Array Value) (h2 : tmps[4]? = some (.pointer (some ⟨g, 0, none⟩))) (h3 : tmps[5]? = some s) (h4 : tmps[6]? = some (vi n)) :
    (results Tryz.f36 tmps).run Tryz.prog w' = .ok (.tuple #[.agg #[v0, v1, v2, v3, v4, v5, v6, v7, v8, v9, v10], s, vi n]) w' := by
  have g0 : w'.cell? ⟨g, 0, none⟩ = some v0 := hb.cell 0
  have g1 : w'.cell? ⟨g, 1, none⟩ = some v1 := hb.cell 1
  have g2 : w'.cell? ⟨g, 2, none⟩ = some v2 := hb.cell 2
  have g3 : w'.cell? ⟨g, 3, none⟩ = some v3 := hb.cell 3
  have g4 : w'.cell? ⟨g, 4, none⟩ = some v4 := hb.cell 4
  have g5 : w'.cell? ⟨g, 5, none⟩ = some v5 := hb.cell 5
  have g6 : w'.cell? ⟨g, 6, none⟩ = some v6 := hb.cell 6
  have g7 : w'.cell? ⟨g, 7, none⟩ = some v7 := hb.cell 7
  have g8 : w'.cell? ⟨g, 8, none⟩ = some v8 := hb.cell 8
  have g9 : w'.cell? ⟨g, 9, none⟩ = some v9 := hb.cell 9
  have g10 : w'.cell? ⟨g, 10, none⟩ = some v10 := hb.cell 10
  simp only [results, Tryz.results36]
  simp [go_sem, h2, h3, h4, g0, g1, g2, g3, g4, g5, g6, g7, g8, g9, g10]
/-- A directory that was read. -/
def DirP (base : Nat) (w : World) (t q : Nat) (K : Nat → Prop) (p : Pl) (io : PI.Ino) (l : List Nat) (e : Ending) (w' : World) : Prop :=
  ∃ K' a c, e = .returned (.tuple #[inoV io, .slice a l.length c, vi 0]) ∧ SRow base w' a l ∧ l.length ≤ c ∧ ((l = [] ∧ a = none ∧ c = 0) ∨ (0 < l.length ∧ ∃ g, a = some ⟨g, 0, none⟩)) ∧ TrGo base w t q K w' K' p
structure DirB (base : Nat) (w : World) (t q : Nat) (K : Nat → Prop) (p : Pl) (g4 g7 : Nat) (C : Array Value) (wr : World) (K' : Nat → Prop) : Prop where
  go : TrGo base w t q K wr K' p
  res : Blk wr g4 50 #[vi 0, vi 0, vi 0, vi 0, vi 0, vi 0, vi 0, vi 0, vi 0, vi 0, vi 0]
  nres : ¬ K' g4
  ino : Blk wr g7 50 C
  nino : ¬ K' g7
  ge : w.heap.size ≤ g4
theorem DirB.old {g4 g7 : Nat} {C : Array Value} {wr : World} (h : DirB base w t q K p g4 g7 C wr K') (hb : Below wr.heap.size wr w') : DirB base w t q K p g4 g7 C w' K' :=
  ⟨h.go.old hb, h.res.old hb, h.nres, h.ino.old hb, h.nino, h.ge⟩
theorem DirB.on {g4 g7 : Nat} {C : Array Value} {wr : World} (h : DirB base w t q K p g4 g7 C wr K') (k : PoGo base wr q K' w' K'' p) : DirB base w t q K p g4 g7 C w' K'' :=
  ⟨h.go.on k, (k.keep h.res h.nres).1, (k.keep h.res h.nres).2, (k.keep h.ino h.nino).1, (k.keep h.ino h.nino).2, h.ge⟩
def DirSt (base : Nat) (w : World) (t q : Nat) (K : Nat → Prop) (p : Pl) (g4 g7 : Nat) (C : Array Value) (l : List Nat) (sz : Int) (v5 v6 v9 v10 : Value) (wr : World) : Prop :=
  v5 = .slice none 0 0 ∧ v6 = vi 0 ∧ ∃ K', DirB base w t q K p g4 g7 C wr K' ∧ ((v9 = .slice none 0 0 ∧ v10 = vi 0) ∨ (0 < sz ∧ Own wr w.heap.size v9 l ∧ v10 = vi sz))
set_option maxRecDepth 100000 in
set_option maxHeartbeats 4000000 in
theorem dir_any (h : TrAt base w t q K p) (n : Nat) (hn : 1 ≤ n ∧ n ≤ 8) (hr : p.right n = true) (ln sz d : Nat) (hi : p.ino n = one 2 ln sz d) (hsz : sz ≤ 64) (hd : 0 < sz → 0 < d ∧ d ≤ 1000000 ∧ p.there d = true) :
    Calls Tryz.prog 36 #[ptr t, vi n] w (DirP base w t q K p (one 2 ln sz d) ((p.get d).take sz)) := by
  have H := Lib.hid h
  have HLN := Lib.hid (PQ.get_len h.pool d)
  have HSM := Lib.hid (PQ.get_small h.pool d)
  have HD := Lib.hid hd
  have HB1 : Hid (Below w.heap.size w (w.alloc (.cells #[vi 0, vi 0, vi 0, vi 0, vi 0, vi 0, vi 0, vi 0, vi 0, vi 0, vi 0] 50))) := Lib.hid ((Below.refl _ _).alloc (Nat.le_refl _) _)
  have HG1 := Lib.hid (Blk.new w 50 #[vi 0, vi 0, vi 0, vi 0, vi 0, vi 0, vi 0, vi 0, vi 0, vi 0, vi 0])
  have HIN := Lib.hid (Inode_any (h.old HB1.out) n hn hr)
  have HI : Hid (inoV (p.ino n) = .agg #[vi 2, vi ln, vi sz, vi d, vi 0, vi 0, vi 0, vi 0, vi 0, vi 0, vi 0]) := Lib.hid (by rw [hi]; rfl)
  clear h hr hi hd
  go_enter Tryz.func36, Tryz.ntmps36
  go_upto_region 1 with fail
  obtain ⟨g4, hg⟩ : ∃ g, g = w.heap.size := ⟨_, rfl⟩
  rw [← hg] at HG1 ⊢
  have HGG := Lib.hid hg
  clear hg
  change Code.wp _ _ _ _ (w.alloc (.cells #[vi 0, vi 0, vi 0, vi 0, vi 0, vi 0, vi 0, vi 0, vi 0, vi 0, vi 0] 50))
  have H1 := Lib.hid (H.out.old HB1.out)
  generalize w.alloc (.cells #[vi 0, vi 0, vi 0, vi 0, vi 0, vi 0, vi 0, vi 0, vi 0, vi 0, vi 0] 50) = w1 at *
  go_wp2_with fail
  refine HIN.out.mono ?_
  rintro e w2 ⟨K2, rfl, hg2⟩
  rw [HI.out]
  have hK : ¬ K g4 := fun e => by
    have := H.out.pool.lt g4 e
    have := HGG.out
    omega
  have HT2 := Lib.hid (((TrGo.refl H.out).old HB1.out).trans hg2)
  have HG2 : Hid (Blk w2 g4 50 #[vi 0, vi 0, vi 0, vi 0, vi 0, vi 0, vi 0, vi 0, vi 0, vi 0, vi 0] ∧ ¬ K2 g4) := Lib.hid (hg2.go.keep HG1.out hK)
  clear hg2 hK HIN H1 HG1 HB1
  go_upto_region 2 with fail
  have HB3 : Hid (Below w2.heap.size w2 (w2.alloc (.cells #[vi 2, vi ln, vi sz, vi d, vi 0, vi 0, vi 0, vi 0, vi 0, vi 0, vi 0] 50))) := Lib.hid ((Below.refl _ _).alloc (Nat.le_refl _) _)
  have HX3 := Lib.hid (Blk.new w2 50 #[vi 2, vi ln, vi sz, vi d, vi 0, vi 0, vi 0, vi 0, vi 0, vi 0, vi 0])
  have HK2 : Hid (¬ K2 w2.heap.size) := Lib.hid (fun e => by have := HT2.out.at_.pool.lt _ e; omega)
  change Code.wp _ _ _ _ (w2.alloc (.cells #[vi 2, vi ln, vi sz, vi d, vi 0, vi 0, vi 0, vi 0, vi 0, vi 0, vi 0] 50))
  have HDB : Hid (DirB base w t q K p g4 w2.heap.size #[vi 2, vi ln, vi sz, vi d, vi 0, vi 0, vi 0, vi 0, vi 0, vi 0, vi 0] (w2.alloc (.cells #[vi 2, vi ln, vi sz, vi d, vi 0, vi 0, vi 0, vi 0, vi 0, vi 0, vi 0] 50)) K2) :=
    Lib.hid ⟨HT2.out.old HB3.out, HG2.out.1.old HB3.out, HG2.out.2, HX3.out, HK2.out, Nat.le_of_eq HGG.out.symm⟩
  generalize w2.alloc (.cells #[vi 2, vi ln, vi sz, vi d, vi 0, vi 0, vi 0, vi 0, vi 0, vi 0, vi 0] 50) = w3 at *
  generalize w2.heap.size = g7 at *
  have x0 : w3.cell? ⟨g7, 0, none⟩ = some (vi 2) := HX3.out.cell 0
  clear HB3 HX3 HK2 HT2 HG2
  go_wp2_with fail
  clear x0
  go_loopw [5, 6, 9, 10] (fun v5 v6 v9 v10 wr => DirSt base w t q K p g4 g7 #[vi 2, vi ln, vi sz, vi d, vi 0, vi 0, vi 0, vi 0, vi 0, vi 0, vi 0] ((p.get d).take sz) sz v5 v6 v9 v10 wr) (fun _ _ _ v10 _ => sz - (intOf v10).toNat)
  case atStart => exact ⟨rfl, rfl, K2, HDB.out, .inl ⟨rfl, rfl⟩⟩
  case round =>
    obtain ⟨rfl, rfl, K3, hdb, hst⟩ := hrel
    have HDR := Lib.hid hdb
    clear hdb HDB
    have x0 : wr.cell? ⟨g7, 0, none⟩ = some (vi 2) := HDR.out.ino.cell 0
    have x1 : wr.cell? ⟨g7, 1, none⟩ = some (vi ln) := HDR.out.ino.cell 1
    have x2 : wr.cell? ⟨g7, 2, none⟩ = some (vi sz) := HDR.out.ino.cell 2
    have x3 : wr.cell? ⟨g7, 3, none⟩ = some (vi d) := HDR.out.ino.cell 3
    have x4 : wr.cell? ⟨g7, 4, none⟩ = some (vi 0) := HDR.out.ino.cell 4
    have x5 : wr.cell? ⟨g7, 5, none⟩ = some (vi 0) := HDR.out.ino.cell 5
    have x6 : wr.cell? ⟨g7, 6, none⟩ = some (vi 0) := HDR.out.ino.cell 6
    have x7 : wr.cell? ⟨g7, 7, none⟩ = some (vi 0) := HDR.out.ino.cell 7
    have x8 : wr.cell? ⟨g7, 8, none⟩ = some (vi 0) := HDR.out.ino.cell 8
    have x9 : wr.cell? ⟨g7, 9, none⟩ = some (vi 0) := HDR.out.ino.cell 9
    have x10 : wr.cell? ⟨g7, 10, none⟩ = some (vi 0) := HDR.out.ino.cell 10
    by_cases hgo : 0 < sz ∧ u10 = vi 0
    · obtain ⟨hz, rfl⟩ := hgo
      have hv9 : u9 = .slice none 0 0 := by
        rcases hst with ⟨h1, _⟩ | ⟨_, _, h2⟩
        · exact h1
        · injection h2 with _ h2
          omega
      subst hv9
      clear hst
      have c1 : (0 : Int) < (sz : Int) := by omega
      have e0 : wr.cell? ⟨t, 0, none⟩ = some (ptr q) := HDR.out.go.at_.obj.cell 0
      go_upto_region 10 with fail
      have HRD : Hid (∀ W, Below wr.heap.size wr W → Calls Tryz.prog 63 #[ptr q, .agg #[vi 2, vi ln, vi sz, vi d, vi 0, vi 0, vi 0, vi 0, vi 0, vi 0, vi 0], vi 0, vi 1024] W fun e w' => ∃ v, e = .returned (.tuple #[v, vi 0]) ∧ RdP base W q K3 p ((p.get d).take sz) v w') :=
        Lib.hid (fun W hb => Read_one (HDR.out.go.at_.pool.old hb) 2 ln sz d ⟨hz, hsz⟩ ⟨(HD.out hz).1, (HD.out hz).2.1⟩ (HD.out hz).2.2)
      have HKP : Hid (∀ W W' K', Below wr.heap.size wr W → PoGo base W q K3 W' K' p → DirB base w t q K p g4 g7 #[vi 2, vi ln, vi sz, vi d, vi 0, vi 0, vi 0, vi 0, vi 0, vi 0, vi 0] W' K') := Lib.hid (fun W W' K' hb hg => (HDR.out.old hb).on hg)
      have HFA : Hid (∀ W K', DirB base w t q K p g4 g7 #[vi 2, vi ln, vi sz, vi d, vi 0, vi 0, vi 0, vi 0, vi 0, vi 0, vi 0] W K' → (W.cell? ⟨t, 0, none⟩ = some (ptr q) ∧ W.cell? ⟨g7, 0, none⟩ = some (vi 2) ∧ W.cell? ⟨g7, 1, none⟩ = some (vi ln) ∧ W.cell? ⟨g7, 2, none⟩ = some (vi sz) ∧ W.cell? ⟨g7, 3, none⟩ = some (vi d) ∧ W.cell? ⟨g7, 4, none⟩ = some (vi 0) ∧ W.cell? ⟨g7, 5, none⟩ = some (vi 0) ∧ W.cell? ⟨g7, 6, none⟩ = some (vi 0) ∧ W.cell? ⟨g7, 7, none⟩ = some (vi 0) ∧ W.cell? ⟨g7, 8, none⟩ = some (vi 0) ∧ W.cell? ⟨g7, 9, none⟩ = some (vi 0) ∧ W.cell? ⟨g7, 10, none⟩ = some (vi 0))) :=
        Lib.hid (fun W K' hd => ⟨hd.go.at_.obj.cell 0, hd.ino.cell 0, hd.ino.cell 1, hd.ino.cell 2, hd.ino.cell 3, hd.ino.cell 4, hd.ino.cell 5, hd.ino.cell 6, hd.ino.cell 7, hd.ino.cell 8, hd.ino.cell 9, hd.ino.cell 10⟩)
      have HB0 : Hid (Below wr.heap.size wr wr) := Lib.hid (Below.refl _ _)
      have HBD : Hid (∀ W, Below wr.heap.size wr W → Below wr.heap.size wr W.drew) := Lib.hid (fun W h => h.drew)
      clear x0 x1 x2 x3 x4 x5 x6 x7 x8 x9 x10 e0
      go_cut [11, 12] from 29 to 51 (fun v11 v12 wx => v12 = vi 0 ∧ Hid (Own wx w.heap.size v11 ((p.get d).take sz)) ∧ ∃ K5, Hid (DirB base w t q K p g4 g7 #[vi 2, vi ln, vi sz, vi d, vi 0, vi 0, vi 0, vi 0, vi 0, vi 0, vi 0] wx K5))
      case first =>
        go_region_held3 (fun W => (W.cell? ⟨t, 0, none⟩ = some (ptr q) ∧ W.cell? ⟨g7, 0, none⟩ = some (vi 2) ∧ W.cell? ⟨g7, 1, none⟩ = some (vi ln) ∧ W.cell? ⟨g7, 2, none⟩ = some (vi sz) ∧ W.cell? ⟨g7, 3, none⟩ = some (vi d) ∧ W.cell? ⟨g7, 4, none⟩ = some (vi 0) ∧ W.cell? ⟨g7, 5, none⟩ = some (vi 0) ∧ W.cell? ⟨g7, 6, none⟩ = some (vi 0) ∧ W.cell? ⟨g7, 7, none⟩ = some (vi 0) ∧ W.cell? ⟨g7, 8, none⟩ = some (vi 0) ∧ W.cell? ⟨g7, 9, none⟩ = some (vi 0) ∧ W.cell? ⟨g7, 10, none⟩ = some (vi 0)))
          (first | assumption | exact HFA.out _ _ (HDR.out.old (by repeat first | exact HB0.out | (refine HBD.out _ ?_))))
          (first | (go_at_call 63; refine (HRD.out _ (by repeat first | exact HB0.out | (refine HBD.out _ ?_))).mono ?_; rintro e w5 ⟨v5, rfl, K5, ho5, hgo5⟩; have hdb5 := HKP.out _ _ _ (by repeat first | exact HB0.out | (refine HBD.out _ ?_)) hgo5; have hs5 := HFA.out _ _ hdb5))
        all_goals
          have HO5 := Lib.hid (ho5.more (base' := w.heap.size) (by have := HDR.out.go.go.size; simpa using this))
          have HDB5 := Lib.hid hdb5
          clear hs5 hdb5 ho5 hgo5 HRD HKP HFA HB0 HBD
          go_wp2_with fail
          go_meet
          exact ⟨rfl, HO5.out, K5, HDB5.out⟩
      case rest =>
        obtain ⟨rfl, ho5, K5, hd5⟩ := hcut
        have HDB5 := Lib.hid hd5.out
        obtain ⟨a5, c5, rfl, hr5, _⟩ := ho5.out.row (fun y hy => HSM.out y (List.mem_of_mem_take hy))
        have hl5 : ((p.get d).take sz).length = sz := by rw [List.length_take, HLN.out]; omega
        have HR5 := Lib.hid hr5
        have HL5 := Lib.hid hl5
        rw [hl5]
        obtain ⟨v8, w8, hrun, ho8, hst8, hgr8⟩ := append_bytes' (w := wc) (base := wc.heap.size) (Own.nil _ _) (c := c5) hr5 (by rw [hl5]; simp; omega) (Nat.le_refl _)
        rw [hl5] at hrun
        rw [List.nil_append] at ho8
        have HRUN : Hid (AppRun 56 56 56 (.slice none 0 0) (.slice a5 sz c5) wc v8 w8) := Lib.hid ⟨hrun⟩
        have hb8 : Below wc.heap.size wc w8 := ((Below.refl wc.heap.size wc)).grown hgr8 (Nat.le_refl _) (fun k e => by cases e)
        have HG8 := Lib.hid (HDB5.out.old hb8)
        have HO8 := Lib.hid (ho8.more (base' := w.heap.size) HDB5.out.go.go.size)
        obtain ⟨a8, c8, he8, _⟩ := ho8.row (fun y hy => HSM.out y (List.mem_of_mem_take hy))
        rw [hl5] at he8
        subst he8
        clear hrun ho8 hst8 hgr8 hb8 hr5 hl5 ho5 hd5
        go_wp2_with (at_builtin; refine wpList_append_run rfl (.tmp 49) (.tmp 50) rfl rfl rfl HRUN.out.run ?_)
        go_roundw
        case rel => exact ⟨rfl, rfl, K5, HG8.out, .inr ⟨by omega, HO8.out, rfl⟩⟩
        case measure => simp [intOf]; omega
    · have HST : Hid (u10 = vi sz ∧ ∃ a c, u9 = .slice a ((p.get d).take sz).length c ∧ Own wr w.heap.size u9 ((p.get d).take sz) ∧ ((p.get d).take sz).length ≤ c ∧ (((p.get d).take sz = [] ∧ a = none ∧ c = 0) ∨ (0 < ((p.get d).take sz).length ∧ ∃ g, a = some ⟨g, 0, none⟩))) := Lib.hid (by
        rcases hst with ⟨h1, h2⟩ | ⟨h1, h2, h3⟩
        · have hz : sz = 0 := by
            by_cases e : 0 < sz
            · exact (hgo ⟨e, h2⟩).elim
            · omega
          subst hz
          have hl : (p.get d).take 0 = [] := rfl
          rw [hl, h1]
          exact ⟨h2, none, 0, rfl, Own.nil _ _, Nat.le_refl _, .inl ⟨rfl, rfl, rfl⟩⟩
        · have hl : 0 < ((p.get d).take sz).length := by rw [List.length_take, HLN.out]; omega
          obtain ⟨g, c, hv, _, hc, _⟩ := pl.own_some h2 hl
          exact ⟨h3, some ⟨g, 0, none⟩, c, hv, h2, hc, .inr ⟨hl, g, rfl⟩⟩)
      obtain ⟨rfl, a, c, rfl, ho, hlc, hac⟩ := HST.out
      have HO := Lib.hid ho
      have HAC := Lib.hid hac
      have HLC := Lib.hid hlc
      clear hst hgo ho hlc hac HST
      have c1 : ¬ (sz : Int) < (sz : Int) := by omega
      have r0 : wr.cell? ⟨g4, 0, none⟩ = some (vi 0) := HDR.out.res.cell 0
      have f0 := HDR.out.res.frozen 0
      have r1 : wr.cell? ⟨g4, 1, none⟩ = some (vi 0) := HDR.out.res.cell 1
      have f1 := HDR.out.res.frozen 1
      have r2 : wr.cell? ⟨g4, 2, none⟩ = some (vi 0) := HDR.out.res.cell 2
      have f2 := HDR.out.res.frozen 2
      have r3 : wr.cell? ⟨g4, 3, none⟩ = some (vi 0) := HDR.out.res.cell 3
      have f3 := HDR.out.res.frozen 3
      have r4 : wr.cell? ⟨g4, 4, none⟩ = some (vi 0) := HDR.out.res.cell 4
      have f4 := HDR.out.res.frozen 4
      have r5 : wr.cell? ⟨g4, 5, none⟩ = some (vi 0) := HDR.out.res.cell 5
      have f5 := HDR.out.res.frozen 5
      have r6 : wr.cell? ⟨g4, 6, none⟩ = some (vi 0) := HDR.out.res.cell 6
      have f6 := HDR.out.res.frozen 6
      have r7 : wr.cell? ⟨g4, 7, none⟩ = some (vi 0) := HDR.out.res.cell 7
      have f7 := HDR.out.res.frozen 7
      have r8 : wr.cell? ⟨g4, 8, none⟩ = some (vi 0) := HDR.out.res.cell 8
      have f8 := HDR.out.res.frozen 8
      have r9 : wr.cell? ⟨g4, 9, none⟩ = some (vi 0) := HDR.out.res.cell 9
      have f9 := HDR.out.res.frozen 9
      have r10 : wr.cell? ⟨g4, 10, none⟩ = some (vi 0) := HDR.out.res.cell 10
      have f10 := HDR.out.res.frozen 10
      go_wp2_with fail
      obtain ⟨hf, hw⟩ := nd.ino_fill2 (vi 2) (vi ln) (vi sz) (vi d) (vi 0) (vi 0) (vi 0) (vi 0) (vi 0) (vi 0) (vi 0) HDR.out.res
      obtain ⟨a', c', he, hsr, _⟩ := HO.out.srow (base := base) (fun y hy => HSM.out y (List.mem_of_mem_take hy))
      injection he with he
      subst he
      refine bodyPost_ret (dir_result hf _ rfl rfl rfl) rfl ⟨K3, a, c, (by simp only [List.length_take]; rfl), hsr.chg' hw (fun k e => by rw [e]; exact Loose.blk (Nat.le_trans H.out.pool.low HDR.out.ge) HDR.out.res), HLC.out, HAC.out, HDR.out.go.poke H.out HDR.out.res HDR.out.ge HDR.out.nres hw⟩
end
end Go.Proofs.YtnfhlocflpdlcaaGreat.tr

/-
  A directory's bytes, a name found, a row of names walked. Conditions: what the directory's bytes come to.
-/
namespace Go.Proofs.YtnfhlocflpdlcaaGreat.tr
open Go.RowKit Go.Proofs.YtnfhlocflpdlcaaGreat.mgr Go.Proofs.YtnfhlocflpdlcaaGreat.ft Go.Proofs.YtnfhlocflpdlcaaGreat.pl Go.Proofs.YtnfhlocflpdlcaaGreat.ino Go.Proofs.YtnfhlocflpdlcaaGreat.nd
section
variable {base : Nat} {w w' w'' : World} {t q g : Nat} {p p' p'' : Pl} {K K' K'' : Nat → Prop}
set_option maxRecDepth 100000 in
set_option maxHeartbeats 4000000 in
/-- What is no directory has no bytes. -/
theorem dir_not (h : TrAt base w t q K p) (n : Nat) (hn : 1 ≤ n ∧ n ≤ 8) (hr : p.right n = true) (hk : (p.ino n).kind ≠ 2) :
    Calls Tryz.prog 36 #[ptr t, vi n] w fun e w' => ∃ K', e = .returned (.tuple #[inoV (one 0 0 0 0), .slice none 0 0, vi 62]) ∧ TrGo base w t q K w' K' p := by
  have H := Lib.hid h
  have HB1 : Hid (Below w.heap.size w (w.alloc (.cells #[vi 0, vi 0, vi 0, vi 0, vi 0, vi 0, vi 0, vi 0, vi 0, vi 0, vi 0] 50))) := Lib.hid ((Below.refl _ _).alloc (Nat.le_refl _) _)
  have HG1 := Lib.hid (Blk.new w 50 #[vi 0, vi 0, vi 0, vi 0, vi 0, vi 0, vi 0, vi 0, vi 0, vi 0, vi 0])
  have HIN := Lib.hid (Inode_any (h.old HB1.out) n hn hr)
  clear h hr
  go_enter Tryz.func36, Tryz.ntmps36
  go_upto_region 1 with fail
  obtain ⟨g4, hg⟩ : ∃ g, g = w.heap.size := ⟨_, rfl⟩
  rw [← hg] at HG1 ⊢
  have HGG := Lib.hid hg
  clear hg
  change Code.wp _ _ _ _ (w.alloc (.cells #[vi 0, vi 0, vi 0, vi 0, vi 0, vi 0, vi 0, vi 0, vi 0, vi 0, vi 0] 50))
  have H1 := Lib.hid (H.out.old HB1.out)
  generalize w.alloc (.cells #[vi 0, vi 0, vi 0, vi 0, vi 0, vi 0, vi 0, vi 0, vi 0, vi 0, vi 0] 50) = w1 at *
  go_wp2_with fail
  refine HIN.out.mono ?_
  rintro e w2 ⟨K2, rfl, hg2⟩
  have hK : ¬ K g4 := fun e => by
    have := H.out.pool.lt g4 e
    have := HGG.out
    omega
  have HT2 := Lib.hid (((TrGo.refl H.out).old HB1.out).trans hg2)
  have HG2 : Hid (Blk w2 g4 50 #[vi 0, vi 0, vi 0, vi 0, vi 0, vi 0, vi 0, vi 0, vi 0, vi 0, vi 0] ∧ ¬ K2 g4) := Lib.hid (hg2.go.keep HG1.out hK)
  clear hg2 hK HIN H1 HG1 HB1
  generalize hio : p.ino n = io at *
  have hd6 : io.direct.length = 6 := by rw [← hio]; rfl
  clear hio
  obtain ⟨kd, ln, sz, dl, sg, db⟩ := io
  obtain ⟨d0, d1, d2, d3, d4, d5, rfl⟩ := six (l := dl) hd6
  clear hd6
  have hkd : ¬ (kd : Int) = 2 := by
    have : kd ≠ 2 := hk
    omega
  clear hk
  simp only [inoV, inoC]
  go_upto_region 2 with fail
  have HB3 : Hid (Below w2.heap.size w2 (w2.alloc (.cells #[vi kd, vi ln, vi sz, vi d0, vi d1, vi d2, vi d3, vi d4, vi d5, vi sg, vi db] 50))) := Lib.hid ((Below.refl _ _).alloc (Nat.le_refl _) _)
  have HX3 := Lib.hid (Blk.new w2 50 #[vi kd, vi ln, vi sz, vi d0, vi d1, vi d2, vi d3, vi d4, vi d5, vi sg, vi db])
  change Code.wp _ _ _ _ (w2.alloc (.cells #[vi kd, vi ln, vi sz, vi d0, vi d1, vi d2, vi d3, vi d4, vi d5, vi sg, vi db] 50))
  have HT3 := Lib.hid (HT2.out.old HB3.out)
  have HG3 := Lib.hid (HG2.out.1.old HB3.out)
  generalize w2.alloc (.cells #[vi kd, vi ln, vi sz, vi d0, vi d1, vi d2, vi d3, vi d4, vi d5, vi sg, vi db] 50) = w3 at *
  have x0 : w3.cell? ⟨w2.heap.size, 0, none⟩ = some (vi kd) := HX3.out.cell 0
  have r0 : w3.cell? ⟨g4, 0, none⟩ = some (vi 0) := HG3.out.cell 0
  have f0 := HG3.out.frozen 0
  have r1 : w3.cell? ⟨g4, 1, none⟩ = some (vi 0) := HG3.out.cell 1
  have f1 := HG3.out.frozen 1
  have r2 : w3.cell? ⟨g4, 2, none⟩ = some (vi 0) := HG3.out.cell 2
  have f2 := HG3.out.frozen 2
  have r3 : w3.cell? ⟨g4, 3, none⟩ = some (vi 0) := HG3.out.cell 3
  have f3 := HG3.out.frozen 3
  have r4 : w3.cell? ⟨g4, 4, none⟩ = some (vi 0) := HG3.out.cell 4
  have f4 := HG3.out.frozen 4
  have r5 : w3.cell? ⟨g4, 5, none⟩ = some (vi 0) := HG3.out.cell 5
  have f5 := HG3.out.frozen 5
  have r6 : w3.cell? ⟨g4, 6, none⟩ = some (vi 0) := HG3.out.cell 6
  have f6 := HG3.out.frozen 6
  have r7 : w3.cell? ⟨g4, 7, none⟩ = some (vi 0) := HG3.out.cell 7
  have f7 := HG3.out.frozen 7
  have r8 : w3.cell? ⟨g4, 8, none⟩ = some (vi 0) := HG3.out.cell 8
  have f8 := HG3.out.frozen 8
  have r9 : w3.cell? ⟨g4, 9, none⟩ = some (vi 0) := HG3.out.cell 9
  have f9 := HG3.out.frozen 9
  have r10 : w3.cell? ⟨g4, 10, none⟩ = some (vi 0) := HG3.out.cell 10
  have f10 := HG3.out.frozen 10
  generalize w2.heap.size = g7 at *
  have HNK := Lib.hid HG2.out.2
  clear HX3 HB3 HG2 HT2
  go_wp2_with fail
  obtain ⟨hf, hw⟩ := nd.ino_fill2 (vi 0) (vi 0) (vi 0) (vi 0) (vi 0) (vi 0) (vi 0) (vi 0) (vi 0) (vi 0) (vi 0) HG3.out
  exact bodyPost_ret (dir_result hf _ rfl rfl rfl) rfl ⟨K2, rfl, HT3.out.poke H.out HG3.out (Nat.le_of_eq HGG.out.symm) HNK.out hw⟩
/-- What a directory's bytes come to is what the directory comes to. -/
theorem Bytes_of {P : Value → Int → World → Prop} (a n : Value) (hd : Calls Tryz.prog 36 #[a, n] w fun e w' => ∃ (v0 v1 v2 v3 v4 v5 v6 v7 v8 v9 v10 : Int) (s : Option Addr) (l c : Nat) (k : Int), e = .returned (.tuple #[.agg #[vi v0, vi v1, vi v2, vi v3, vi v4, vi v5, vi v6, vi v7, vi v8, vi v9, vi v10], .slice s l c, vi k]) ∧ ∀ W, Below w'.heap.size w' W → P (.slice s l c) k W) :
    Calls Tryz.prog 15 #[a, n] w fun e w' => ∃ s l c k, e = .returned (.tuple #[.slice s l c, vi k]) ∧ P (.slice s l c) k w' := by
  have HD := Lib.hid hd
  clear hd
  go_enter Tryz.func15, Tryz.ntmps15
  go_wp2_with fail
  refine HD.out.mono ?_
  rintro e w2 ⟨v0, v1, v2, v3, v4, v5, v6, v7, v8, v9, v10, s, l, c, k, rfl, hp⟩
  have HP := Lib.hid hp
  clear hp HD
  go_upto_region 2 with fail
  change Code.wp _ _ _ _ (w2.alloc (.cells #[vi v0, vi v1, vi v2, vi v3, vi v4, vi v5, vi v6, vi v7, vi v8, vi v9, vi v10] 50))
  have HB3 : Hid (Below w2.heap.size w2 (w2.alloc (.cells #[vi v0, vi v1, vi v2, vi v3, vi v4, vi v5, vi v6, vi v7, vi v8, vi v9, vi v10] 50))) := Lib.hid ((Below.refl _ _).alloc (Nat.le_refl _) _)
  generalize w2.alloc (.cells #[vi v0, vi v1, vi v2, vi v3, vi v4, vi v5, vi v6, vi v7, vi v8, vi v9, vi v10] 50) = w3 at *
  go_wp2_with fail
  go_ret2
  exact ⟨s, l, c, k, rfl, HP.out _ HB3.out⟩
theorem Find_err {P : World → Prop} (a n : Value) (s : ByteArray) (k : Int) (hk : k ≠ 0) (hb : Calls Tryz.prog 15 #[a, n] w fun e w' => ∃ v, e = .returned (.tuple #[v, vi k]) ∧ P w') :
    Calls Tryz.prog 16 #[a, n, .string s] w fun e w' => e = .returned (.tuple #[vi 0, vi k]) ∧ P w' := by
  have HB := Lib.hid hb
  clear hb
  go_enter Tryz.func16, Tryz.ntmps16
  go_wp2_with fail
  refine HB.out.mono ?_
  rintro e w2 ⟨v, rfl, hp⟩
  have HP := Lib.hid hp
  clear hp HB
  go_wp2_with fail
  go_ret2
  exact ⟨rfl, HP.out⟩
theorem Find_ok {P : Value → World → Prop} {Q : World → Prop} (a n : Value) (s : ByteArray) (i m : Int) (hi : 0 ≤ i) (hb : Calls Tryz.prog 15 #[a, n] w fun e w' => ∃ v, e = .returned (.tuple #[v, vi 0]) ∧ P v w')
    (hf : ∀ v W, P v W → Calls Tryz.prog 37 #[v, .string s] W fun e w' => e = .returned (.tuple #[vi i, vi m]) ∧ Q w') :
    Calls Tryz.prog 16 #[a, n, .string s] w fun e w' => e = .returned (.tuple #[vi m, vi 0]) ∧ Q w' := by
  have HB := Lib.hid hb
  have HF := Lib.hid hf
  have c1 : ¬ i < 0 := by omega
  clear hb hf hi
  go_enter Tryz.func16, Tryz.ntmps16
  go_wp2_with fail
  refine HB.out.mono ?_
  rintro e w2 ⟨v, rfl, hp⟩
  have HP := Lib.hid hp
  clear hp HB
  go_wp2_with fail
  refine (HF.out v w2 HP.out).mono ?_
  rintro e w3 ⟨rfl, hq⟩
  have HQ := Lib.hid hq
  clear hq HF
  go_wp2_with fail
  go_ret2
  exact ⟨rfl, HQ.out⟩
set_option maxRecDepth 100000 in
set_option maxHeartbeats 1000000 in
/-- A row of names walked. -/
theorem Walk_of {S : Nat → World → Prop} (t b o c : Nat) (m : Nat) (sf : Nat → ByteArray) (ns : Nat → Int) (e : Int) (h1 : ns 0 = 1) (hs : S 0 w) (hl : 0 < m ∧ m ≤ 1000)
    (hr : ∀ k W, k < m → S k W → W.cell? ⟨b, o + k, none⟩ = some (.string (sf k)))
    (hf : ∀ k W, k < m → S k W → Calls Tryz.prog 16 #[ptr t, vi (ns k), .string (sf k)] W fun x w' => x = .returned (.tuple #[vi (ns (k + 1)), vi (if k + 1 = m then e else 0)]) ∧ S (k + 1) w') :
    Calls Tryz.prog 17 #[ptr t, .slice (some ⟨b, o, none⟩) m c] w fun x w' => x = .returned (.tuple #[vi (if e = 0 then ns m else 0), vi e]) ∧ S m w' := by
  have HR := Lib.hid hr
  have HF := Lib.hid hf
  have HS := Lib.hid hs
  have HL := Lib.hid hl
  have H1 := Lib.hid h1
  clear hr hf hs hl h1
  go_enter Tryz.func17, Tryz.ntmps17
  go_wp2_with fail
  go_step3
  go_wp2_with fail
  go_step3
  go_wp2_with fail
  go_loopw [6, 7, 14] (fun v6 v7 v14 wr => ∃ k, v6 = vi (ns k) ∧ v7 = vi 0 ∧ v14 = vi ((k : Nat) : Int) ∧ k ≤ m ∧ (k = m → e = 0) ∧ S k wr) (fun _ _ v14 _ => m - (intOf v14).toNat)
  case atStart => exact ⟨0, by rw [H1.out], rfl, rfl, Nat.zero_le _, fun h => by have := HL.out.1; omega, HS.out⟩
  case round =>
    obtain ⟨k, rfl, rfl, rfl, hk, hke, hs⟩ := hrel
    have HSK := Lib.hid hs
    clear hs
    by_cases hkl : k < m
    · have c1 : (k : Int) < (m : Int) := by omega
      have e0 : wr.cell? ⟨b, o + k, none⟩ = some (.string (sf k)) := HR.out k wr hkl HSK.out
      go_wp2_with fail
      refine (HF.out k wr hkl HSK.out).mono ?_
      rintro x w2 ⟨rfl, hs2⟩
      have HS2 := Lib.hid hs2
      clear hs2
      have l1 : IntKind.i64.wrap ((k : Int) + 1) = ((k + 1 : Nat) : Int) := by have := HL.out; rw [IntWalk.i64_in _ (by omega)]; omega
      by_cases hlast : k + 1 = m
      · rw [if_pos hlast]
        have HLA := Lib.hid hlast
        clear hlast
        by_cases he : e = 0
        · subst he
          go_wp2_with fail
          go_roundw
          case rel => exact ⟨k + 1, rfl, rfl, rfl, by omega, fun _ => by first | trivial | rfl, HS2.out⟩
          case measure => simp [intOf]; omega
        · go_wp2_with fail
          try rw [Exit.noGoto_exit]
          go_wp2_with fail
          try rw [Exit.noGoto_ret]
          go_ret2
          exact ⟨by rw [if_neg he]; rfl, by rw [← HLA.out]; exact HS2.out⟩
      · rw [if_neg hlast]
        go_wp2_with fail
        go_roundw
        case rel => exact ⟨k + 1, rfl, rfl, rfl, by omega, fun h => absurd h hlast, HS2.out⟩
        case measure => simp [intOf]; omega
    · obtain rfl : k = m := by omega
      obtain rfl := hke rfl
      have c1 : ¬ (k : Int) < (k : Int) := by omega
      go_wp2_with fail
      try rw [Exit.noGoto_ret]
      go_ret2
      exact ⟨by first | rfl | (rw [if_pos rfl]; rfl) | simp, HSK.out⟩
end
end Go.Proofs.YtnfhlocflpdlcaaGreat.tr

