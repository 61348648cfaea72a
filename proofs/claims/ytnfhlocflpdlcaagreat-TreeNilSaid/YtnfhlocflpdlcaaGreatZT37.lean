/-
  Lemmas for a law's proof, put together from several texts: each part says what it shows, and its conditions.
-/
import Derived.Test.YtnfhlocflpdlcaaGreatZT36
/-
  The first page of a file written. Conditions: a file without pages, of no length; at most 64 bytes; a pool told by PQ, whose first page is free.
-/
namespace Go.Proofs.YtnfhlocflpdlcaaGreat.nd
open Go.RowKit Go.Proofs.YtnfhlocflpdlcaaGreat.mgr Go.Proofs.YtnfhlocflpdlcaaGreat.ft Go.Proofs.YtnfhlocflpdlcaaGreat.pl Go.Proofs.YtnfhlocflpdlcaaGreat.ino
section
variable {base : Nat} {w w' w'' : World} {q g : Nat} {p p' : Pl} {K K' : Nat → Prop}
theorem ino_fill2 {W : World} {u0 u1 u2 u3 u4 u5 u6 u7 u8 u9 u10 : Value} (v0 v1 v2 v3 v4 v5 v6 v7 v8 v9 v10 : Value) (hb : Blk W g 50 #[u0, u1, u2, u3, u4, u5, u6, u7, u8, u9, u10]) :
    Blk (((((((((((W.setCell ⟨g, 0, none⟩ v0).setCell ⟨g, 1, none⟩ v1).setCell ⟨g, 2, none⟩ v2).setCell ⟨g, 3, none⟩ v3).setCell ⟨g, 4, none⟩ v4).setCell ⟨g, 5, none⟩ v5).setCell ⟨g, 6, none⟩ v6).setCell ⟨g, 7, none⟩ v7).setCell ⟨g, 8, none⟩ v8).setCell ⟨g, 9, none⟩ v9).setCell ⟨g, 10, none⟩ v10) g 50 #[v0, v1, v2, v3, v4, v5, v6, v7, v8, v9, v10] ∧ Chg (fun n => n = g) W (((((((((((W.setCell ⟨g, 0, none⟩ v0).setCell ⟨g, 1, none⟩ v1).setCell ⟨g, 2, none⟩ v2).setCell ⟨g, 3, none⟩ v3).setCell ⟨g, 4, none⟩ v4).setCell ⟨g, 5, none⟩ v5).setCell ⟨g, 6, none⟩ v6).setCell ⟨g, 7, none⟩ v7).setCell ⟨g, 8, none⟩ v8).setCell ⟨g, 9, none⟩ v9).setCell ⟨g, 10, none⟩ v10) := by
  have h0 : Blk (W.setCell ⟨g, 0, none⟩ v0) g 50 #[v0, u1, u2, u3, u4, u5, u6, u7, u8, u9, u10] := hb.set_ 0 v0
  have e0 : Chg (fun n => n = g) W (W.setCell ⟨g, 0, none⟩ v0) := (Chg.refl _ W).setCell (F := fun n => n = g) (p := ⟨g, 0, none⟩) (.inl rfl) v0
  have h1 : Blk ((W.setCell ⟨g, 0, none⟩ v0).setCell ⟨g, 1, none⟩ v1) g 50 #[v0, v1, u2, u3, u4, u5, u6, u7, u8, u9, u10] := h0.set_ 1 v1
  have e1 : Chg (fun n => n = g) W ((W.setCell ⟨g, 0, none⟩ v0).setCell ⟨g, 1, none⟩ v1) := e0.setCell (F := fun n => n = g) (p := ⟨g, 1, none⟩) (.inl rfl) v1
  have h2 : Blk (((W.setCell ⟨g, 0, none⟩ v0).setCell ⟨g, 1, none⟩ v1).setCell ⟨g, 2, none⟩ v2) g 50 #[v0, v1, v2, u3, u4, u5, u6, u7, u8, u9, u10] := h1.set_ 2 v2
  have e2 : Chg (fun n => n = g) W (((W.setCell ⟨g, 0, none⟩ v0).setCell ⟨g, 1, none⟩ v1).setCell ⟨g, 2, none⟩ v2) := e1.setCell (F := fun n => n = g) (p := ⟨g, 2, none⟩) (.inl rfl) v2
  have h3 : Blk ((((W.setCell ⟨g, 0, none⟩ v0).setCell ⟨g, 1, none⟩ v1).setCell ⟨g, 2, none⟩ v2).setCell ⟨g, 3, none⟩ v3) g 50 #[v0, v1, v2, v3, u4, u5, u6, u7, u8, u9, u10] := h2.set_ 3 v3
  have e3 : Chg (fun n => n = g) W ((((W.setCell ⟨g, 0, none⟩ v0).setCell ⟨g, 1, none⟩ v1).setCell ⟨g, 2, none⟩ v2).setCell ⟨g, 3, none⟩ v3) := e2.setCell (F := fun n => n = g) (p := ⟨g, 3, none⟩) (.inl rfl) v3
  have h4 : Blk (((((W.setCell ⟨g, 0, none⟩ v0).setCell ⟨g, 1, none⟩ v1).setCell ⟨g, 2, none⟩ v2).setCell ⟨g, 3, none⟩ v3).setCell ⟨g, 4, none⟩ v4) g 50 #[v0, v1, v2, v3, v4, u5, u6, u7, u8, u9, u10] := h3.set_ 4 v4
  have e4 : Chg (fun n => n = g) W (((((W.setCell ⟨g, 0, none⟩ v0).setCell ⟨g, 1, none⟩ v1).setCell ⟨g, 2, none⟩ v2).setCell ⟨g, 3, none⟩ v3).setCell ⟨g, 4, none⟩ v4) := e3.setCell (F := fun n => n = g) (p := ⟨g, 4, none⟩) (.inl rfl) v4
  have h5 : Blk ((((((W.setCell ⟨g, 0, none⟩ v0).setCell ⟨g, 1, none⟩ v1).setCell ⟨g, 2, none⟩ v2).setCell ⟨g, 3, none⟩ v3).setCell ⟨g, 4, none⟩ v4).setCell ⟨g, 5, none⟩ v5) g 50 #[v0, v1, v2, v3, v4, v5, u6, u7, u8, u9, u10] := h4.set_ 5 v5
  have e5 : Chg (fun n => n = g) W ((((((W.setCell ⟨g, 0, none⟩ v0).setCell ⟨g, 1, none⟩ v1).setCell ⟨g, 2, none⟩ v2).setCell ⟨g, 3, none⟩ v3).setCell ⟨g, 4, none⟩ v4).setCell ⟨g, 5, none⟩ v5) := e4.setCell (F := fun n => n = g) (p := ⟨g, 5, none⟩) (.inl rfl) v5
  have h6 : Blk (((((((W.setCell ⟨g, 0, none⟩ v0).setCell ⟨g, 1, none⟩ v1).setCell ⟨g, 2, none⟩ v2).setCell ⟨g, 3, none⟩ v3).setCell ⟨g, 4, none⟩ v4).setCell ⟨g, 5, none⟩ v5).setCell ⟨g, 6, none⟩ v6) g 50 #[v0, v1, v2, v3, v4, v5, v6, u7, u8, u9, u10] := h5.set_ 6 v6
  have e6 : Chg (fun n => n = g) W (((((((W.setCell ⟨g, 0, none⟩ v0).setCell ⟨g, 1, none⟩ v1).setCell ⟨g, 2, none⟩ v2).setCell ⟨g, 3, none⟩ v3).setCell ⟨g, 4, none⟩ v4).setCell ⟨g, 5, none⟩ v5).setCell ⟨g, 6, none⟩ v6) := e5.setCell (F := fun n => n = g) (p := ⟨g, 6, none⟩) (.inl rfl) v6
  have h7 : Blk ((((((((W.setCell ⟨g, 0, none⟩ v0).setCell ⟨g, 1, none⟩ v1).setCell ⟨g, 2, none⟩ v2).setCell ⟨g, 3, none⟩ v3).setCell ⟨g, 4, none⟩ v4).setCell ⟨g, 5, none⟩ v5).setCell ⟨g, 6, none⟩ v6).setCell ⟨g, 7, none⟩ v7) g 50 #[v0, v1, v2, v3, v4, v5, v6, v7, u8, u9, u10] := h6.set_ 7 v7
  have e7 : Chg (fun n => n = g) W ((((((((W.setCell ⟨g, 0, none⟩ v0).setCell ⟨g, 1, none⟩ v1).setCell ⟨g, 2, none⟩ v2).setCell ⟨g, 3, none⟩ v3).setCell ⟨g, 4, none⟩ v4).setCell ⟨g, 5, none⟩ v5).setCell ⟨g, 6, none⟩ v6).setCell ⟨g, 7, none⟩ v7) := e6.setCell (F := fun n => n = g) (p := ⟨g, 7, none⟩) (.inl rfl) v7
  have h8 : Blk (((((((((W.setCell ⟨g, 0, none⟩ v0).setCell ⟨g, 1, none⟩ v1).setCell ⟨g, 2, none⟩ v2).setCell ⟨g, 3, none⟩ v3).setCell ⟨g, 4, none⟩ v4).setCell ⟨g, 5, none⟩ v5).setCell ⟨g, 6, none⟩ v6).setCell ⟨g, 7, none⟩ v7).setCell ⟨g, 8, none⟩ v8) g 50 #[v0, v1, v2, v3, v4, v5, v6, v7, v8, u9, u10] := h7.set_ 8 v8
  have e8 : Chg (fun n => n = g) W (((((((((W.setCell ⟨g, 0, none⟩ v0).setCell ⟨g, 1, none⟩ v1).setCell ⟨g, 2, none⟩ v2).setCell ⟨g, 3, none⟩ v3).setCell ⟨g, 4, none⟩ v4).setCell ⟨g, 5, none⟩ v5).setCell ⟨g, 6, none⟩ v6).setCell ⟨g, 7, none⟩ v7).setCell ⟨g, 8, none⟩ v8) := e7.setCell (F := fun n => n = g) (p := ⟨g, 8, none⟩) (.inl rfl) v8
  have h9 : Blk ((((((((((W.setCell ⟨g, 0, none⟩ v0).setCell ⟨g, 1, none⟩ v1).setCell ⟨g, 2, none⟩ v2).setCell ⟨g, 3, none⟩ v3).setCell ⟨g, 4, none⟩ v4).setCell ⟨g, 5, none⟩ v5).setCell ⟨g, 6, none⟩ v6).setCell ⟨g, 7, none⟩ v7).setCell ⟨g, 8, none⟩ v8).setCell ⟨g, 9, none⟩ v9) g 50 #[v0, v1, v2, v3, v4, v5, v6, v7, v8, v9, u10] := h8.set_ 9 v9
  have e9 : Chg (fun n => n = g) W ((((((((((W.setCell ⟨g, 0, none⟩ v0).setCell ⟨g, 1, none⟩ v1).setCell ⟨g, 2, none⟩ v2).setCell ⟨g, 3, none⟩ v3).setCell ⟨g, 4, none⟩ v4).setCell ⟨g, 5, none⟩ v5).setCell ⟨g, 6, none⟩ v6).setCell ⟨g, 7, none⟩ v7).setCell ⟨g, 8, none⟩ v8).setCell ⟨g, 9, none⟩ v9) := e8.setCell (F := fun n => n = g) (p := ⟨g, 9, none⟩) (.inl rfl) v9
  have h10 : Blk (((((((((((W.setCell ⟨g, 0, none⟩ v0).setCell ⟨g, 1, none⟩ v1).setCell ⟨g, 2, none⟩ v2).setCell ⟨g, 3, none⟩ v3).setCell ⟨g, 4, none⟩ v4).setCell ⟨g, 5, none⟩ v5).setCell ⟨g, 6, none⟩ v6).setCell ⟨g, 7, none⟩ v7).setCell ⟨g, 8, none⟩ v8).setCell ⟨g, 9, none⟩ v9).setCell ⟨g, 10, none⟩ v10) g 50 #[v0, v1, v2, v3, v4, v5, v6, v7, v8, v9, v10] := h9.set_ 10 v10
  have e10 : Chg (fun n => n = g) W (((((((((((W.setCell ⟨g, 0, none⟩ v0).setCell ⟨g, 1, none⟩ v1).setCell ⟨g, 2, none⟩ v2).setCell ⟨g, 3, none⟩ v3).setCell ⟨g, 4, none⟩ v4).setCell ⟨g, 5, none⟩ v5).setCell ⟨g, 6, none⟩ v6).setCell ⟨g, 7, none⟩ v7).setCell ⟨g, 8, none⟩ v8).setCell ⟨g, 9, none⟩ v9).setCell ⟨g, 10, none⟩ v10) := e9.setCell (F := fun n => n = g) (p := ⟨g, 10, none⟩) (.inl rfl) v10
  exact ⟨h10, e10⟩
/-- A block of the call's own is written to. -/
theorem PoGo.poke {f : Nat} {t : TypeId} {cs : Array Value} (h : PoGo base w q K w' K' p') (h0 : PQ base w q K p) (hb : Blk w' f t cs) (hf : w.heap.size ≤ f) (hn : ¬ K' f) (hc : Chg (fun n => n = f) w' w'') (ht : dataT t = false := by decide) : PoGo base w q K w'' K' p' := by
  refine ⟨h.at_.chg hc (fun n e => ?_) (fun n e e2 => hn (e2 ▸ e)) (fun e => ?_), h.chg.trans hc (fun n hn e => ?_), h.foot⟩
  · subst e; exact Loose.blk (Nat.le_trans h0.low hf) hb ht
  · have := h0.qlt; omega
  · omega
/-- A pool that went on, with a file's and an inode's box of the call's own. -/
structure WSt (base : Nat) (w : World) (q : Nat) (K : Nat → Prop) (f r : Nat) (Cf Cr : Array Value) (wr : World) (K' : Nat → Prop) (p' : Pl) : Prop where
  go : PoGo base w q K wr K' p'
  file : Blk wr f 147 Cf
  res : Blk wr r 50 Cr
  nf : ¬ K' f
  nr : ¬ K' r
  low : w.heap.size ≤ f ∧ w.heap.size ≤ r
theorem WSt.old {f r : Nat} {Cf Cr : Array Value} {wr : World} (S : WSt base w q K f r Cf Cr wr K' p') (hb : Below wr.heap.size wr w'') : WSt base w q K f r Cf Cr w'' K' p' := ⟨S.go.old hb, S.file.old hb, S.res.old hb, S.nf, S.nr, S.low⟩
theorem WSt.on {f r : Nat} {Cf Cr : Array Value} {wr : World} {K'' : Nat → Prop} {p'' : Pl} (S : WSt base w q K f r Cf Cr wr K' p') (g : PoGo base wr q K' w'' K'' p'') : WSt base w q K f r Cf Cr w'' K'' p'' :=
  ⟨S.go.trans g, (g.keep S.file S.nf).1, (g.keep S.res S.nr).1, (g.keep S.file S.nf).2, (g.keep S.res S.nr).2, S.low⟩
theorem WSt.ne {f r : Nat} {Cf Cr : Array Value} {wr : World} (S : WSt base w q K f r Cf Cr wr K' p') : f ≠ r := by
  intro e
  subst e
  have := blk_type S.file S.res
  exact absurd this (by decide)
theorem WSt.setF {f r : Nat} {Cf Cf' Cr : Array Value} {wr : World} (S : WSt base w q K f r Cf Cr wr K' p') (h0 : PQ base w q K p) (hc : Chg (fun n => n = f) wr w'') (hf : Blk w'' f 147 Cf') : WSt base w q K f r Cf' Cr w'' K' p' :=
  ⟨PoGo.poke S.go h0 S.file S.low.1 S.nf hc, hf, S.res.chg hc (fun e => S.ne e.symm), S.nf, S.nr, S.low⟩
theorem WSt.setR {f r : Nat} {Cf Cr Cr' : Array Value} {wr : World} (S : WSt base w q K f r Cf Cr wr K' p') (h0 : PQ base w q K p) (hc : Chg (fun n => n = r) wr w'') (hf : Blk w'' r 50 Cr') : WSt base w q K f r Cf Cr' w'' K' p' :=
  ⟨PoGo.poke S.go h0 S.res S.low.2 S.nr hc, S.file.chg hc (fun e => S.ne e), hf, S.nf, S.nr, S.low⟩
theorem write_result {w' : World} {g : Nat} {v0 v1 v2 v3 v4 v5 v6 v7 v8 v9 v10 : Value} {n : Int} (hb : Blk w' g 50 #[v0, v1, v2, v3, v4, v5, v6, v7, v8, v9, v10]) (tmps : Array Value) (h2 : tmps[8]? = some (.pointer (some ⟨g, 0, none⟩))) (h3 : tmps[9]? = some (vi n)) :
    (results Tryz.f88 tmps).run Tryz.prog w' = .ok (.tuple #[.agg #[v0, v1, v2, v3, v4, v5, v6, v7, v8, v9, v10], vi n]) w' := by
  have g0 : w'.cell? ⟨g, 0, none⟩ = some v0 := hb.cell 0
  have g1 : w'.cell? ⟨g, 1, none⟩ = some v1 := hb.cell 1
  have g2 : w'.cell? ⟨g, 2, none⟩ = some v2 := hb.cell 2
  have g3 : w'.cell? ⟨g, 3, none⟩ = some v3 := hb.cell 3
  have g4 : w'.cell? ⟨g, 4, none⟩ = some v4 := hb.cell 4
  have g5 : w'.cell? ⟨g, 5, none⟩ = some v5 := hb.cell 5
  have g6 : w'.cell? ⟨g, 6, none⟩ = some v6 := hb.cell 6
  have g7 : w'.cell? ⟨g, 7, none⟩ = some v7 := hb.cell 7
  have g8 : w'.cell? ⟨g, 8, none⟩ = some v8 := hb.cell 8
  have g9 : w'.cell? ⟨g, 9, none⟩ = some v9 := hb.cell 9
  have g10 : w'.cell? ⟨g, 10, none⟩ = some v10 := hb.cell 10
  simp only [results, Tryz.results88]
  simp [go_sem, h2, h3, g0, g1, g2, g3, g4, g5, g6, g7, g8, g9, g10]
/-- A pool whose first page is handed out, and holds these bytes. -/
def _root_.Go.Proofs.YtnfhlocflpdlcaaGreat.pl.Pl.first (p : Pl) (l : List Nat) : Pl := ⟨p.P, MP.put p.U 5 5, MP.put (MP.put p.M 5 (List.replicate 64 0)) 5 (l ++ List.replicate (64 - l.length) 0)⟩
def WrSt (base : Nat) (w w0 : World) (q : Nat) (K : Nat → Prop) (p' : Pl) (kd ln f r m : Nat) (b0 off b : Value) (wr : World) : Prop :=
  (off = vi 0 ∧ b = b0 ∧ wr = w0) ∨ (off = vi m ∧ ∃ K', WSt base w q K f r (fileC q (one kd ln 0 5)) #[vi 0, vi 0, vi 0, vi 0, vi 0, vi 0, vi 0, vi 0, vi 0, vi 0, vi 0] wr K' p')
set_option maxRecDepth 100000 in
set_option maxHeartbeats 4000000 in
theorem Write_first (h : PQ base w q K p) (kd ln : Nat) (a : Option Addr) (l : List Nat) (c : Nat) (hl : 0 < l.length ∧ l.length ≤ 64) (hr : SRow base w a l) (hc : l.length ≤ c) (hP : 1 ≤ p.P ∧ p.P ≤ 1000000) (hu : MP.has p.U 5 = false) (hlen : (p.U.length : Int) < p.P) :
    Calls Tryz.prog 88 #[ptr q, inoV (free0 kd ln 0), vi 0, .slice a l.length c] w fun e w' => ∃ K', e = .returned (.tuple #[inoV (one kd ln l.length 5), vi 0]) ∧ PoGo base w q K w' K' (p.first l) := by
  obtain ⟨b0, o0, rfl, _⟩ := hr.row.lookup (k := 0) (by omega)
  have H := Lib.hid h
  have HR := Lib.hid hr
  have HU := Lib.hid hu
  have HP := Lib.hid hP
  have HLE := Lib.hid hlen
  simp only [inoV, inoC]
  obtain ⟨m, hm⟩ : ∃ m, m = l.length := ⟨_, rfl⟩
  rw [← hm] at hl hc ⊢
  have HM := Lib.hid hm
  clear hm h hr hu hP hlen
  have c1 : ¬ (1024 : Int) < (m : Int) := by omega
  have l1 : IntKind.i64.wrap (67968 - (m : Int)) = 67968 - (m : Int) := IntWalk.i64_in _ (by omega)
  have c2 : ¬ (67968 : Int) - (m : Int) < 0 := by omega
  have c3 : ¬ (m : Int) = 0 := by omega
  have l2 : IntKind.i64.wrap (0 + (m : Int)) = (m : Int) := by rw [IntWalk.i64_in _ (by omega)]; omega
  go_enter Tryz.func88, Tryz.ntmps88
  go_upto_region 1 with fail
  have HB1 : Hid (Below w.heap.size w ((w.alloc (.cells #[vi kd, vi ln, vi 0, vi 0, vi 0, vi 0, vi 0, vi 0, vi 0, vi 0, vi 0] 50)).alloc (.cells #[vi 0, vi 0, vi 0, vi 0, vi 0, vi 0, vi 0, vi 0, vi 0, vi 0, vi 0] 50))) := Lib.hid (((Below.refl _ _).alloc (Nat.le_refl _) _).alloc (by simp) _)
  have HX1 := Lib.hid ((Blk.new w 50 #[vi kd, vi ln, vi 0, vi 0, vi 0, vi 0, vi 0, vi 0, vi 0, vi 0, vi 0]).alloc (.cells #[vi 0, vi 0, vi 0, vi 0, vi 0, vi 0, vi 0, vi 0, vi 0, vi 0, vi 0] 50))
  have HR1 : Hid (Blk ((w.alloc (.cells #[vi kd, vi ln, vi 0, vi 0, vi 0, vi 0, vi 0, vi 0, vi 0, vi 0, vi 0] 50)).alloc (.cells #[vi 0, vi 0, vi 0, vi 0, vi 0, vi 0, vi 0, vi 0, vi 0, vi 0, vi 0] 50)) (w.heap.size + 1) 50 #[vi 0, vi 0, vi 0, vi 0, vi 0, vi 0, vi 0, vi 0, vi 0, vi 0, vi 0]) := Lib.hid (by have h := Blk.new (w.alloc (.cells #[vi kd, vi ln, vi 0, vi 0, vi 0, vi 0, vi 0, vi 0, vi 0, vi 0, vi 0] 50)) 50 #[vi 0, vi 0, vi 0, vi 0, vi 0, vi 0, vi 0, vi 0, vi 0, vi 0, vi 0]; rwa [size_alloc] at h)
  obtain ⟨x, hx⟩ : ∃ x, x = w.heap.size := ⟨_, rfl⟩
  rw [← hx] at HX1 HR1 ⊢
  have HXX := Lib.hid hx
  clear hx
  change Code.wp _ _ _ _ ((w.alloc (.cells #[vi kd, vi ln, vi 0, vi 0, vi 0, vi 0, vi 0, vi 0, vi 0, vi 0, vi 0] 50)).alloc (.cells #[vi 0, vi 0, vi 0, vi 0, vi 0, vi 0, vi 0, vi 0, vi 0, vi 0, vi 0] 50))
  generalize ((w.alloc (.cells #[vi kd, vi ln, vi 0, vi 0, vi 0, vi 0, vi 0, vi 0, vi 0, vi 0, vi 0] 50)).alloc (.cells #[vi 0, vi 0, vi 0, vi 0, vi 0, vi 0, vi 0, vi 0, vi 0, vi 0, vi 0] 50)) = w1 at *
  have H1 := Lib.hid (H.out.old HB1.out)
  go_wp2_with fail
  refine (Size_any H1.out).mono ?_
  rintro e w2 ⟨rfl, rfl⟩
  go_wp2_with fail
  refine Most_64.mono ?_
  rintro e w3 ⟨rfl, rfl⟩
  go_wp2_with fail
  refine (Size_any H1.out).mono ?_
  rintro e w4 ⟨rfl, rfl⟩
  clear c1 l1 c2 c3
  go_upto_region 11 with fail
  have HS : Hid (∀ n : Sub w4, Calls Tryz.prog 73 #[ptr q] n.w fun e w' => e = .returned (vi 64) ∧ Below n.w.heap.size n.w w') := Lib.hid (fun n => (Size_any (H1.out.old n.below)).mono (by rintro e w' ⟨rfl, rfl⟩; exact ⟨rfl, Below.refl _ _⟩))
  have HPG : Hid (∀ n : Sub w4, Calls Tryz.prog 81 #[ptr q, .agg #[vi kd, vi ln, vi 0, vi 0, vi 0, vi 0, vi 0, vi 0, vi 0, vi 0, vi 0]] n.w fun e w' => e = .returned (.slice none 0 0) ∧ Below n.w.heap.size n.w w') := Lib.hid (fun n => Pages_none (H1.out.old n.below) kd ln 0)
  have HMO : Hid (∀ n : Sub w4, Calls Tryz.prog 137 #[vi 64, .slice none 0 0, vi 0, vi 1] n.w fun e w' => e = .returned (.tuple #[vi 1, vi 0]) ∧ Below n.w.heap.size n.w w') := Lib.hid (fun n => More_one)
  have x0 : w4.cell? ⟨x, 0, none⟩ = some (vi kd) := HX1.out.cell 0
  have x1 : w4.cell? ⟨x, 1, none⟩ = some (vi ln) := HX1.out.cell 1
  have x2 : w4.cell? ⟨x, 2, none⟩ = some (vi 0) := HX1.out.cell 2
  have x3 : w4.cell? ⟨x, 3, none⟩ = some (vi 0) := HX1.out.cell 3
  have x4 : w4.cell? ⟨x, 4, none⟩ = some (vi 0) := HX1.out.cell 4
  have x5 : w4.cell? ⟨x, 5, none⟩ = some (vi 0) := HX1.out.cell 5
  have x6 : w4.cell? ⟨x, 6, none⟩ = some (vi 0) := HX1.out.cell 6
  have x7 : w4.cell? ⟨x, 7, none⟩ = some (vi 0) := HX1.out.cell 7
  have x8 : w4.cell? ⟨x, 8, none⟩ = some (vi 0) := HX1.out.cell 8
  have x9 : w4.cell? ⟨x, 9, none⟩ = some (vi 0) := HX1.out.cell 9
  have x10 : w4.cell? ⟨x, 10, none⟩ = some (vi 0) := HX1.out.cell 10
  have x0 := Sub.cell x0
  have x1 := Sub.cell x1
  have x2 := Sub.cell x2
  have x3 := Sub.cell x3
  have x4 := Sub.cell x4
  have x5 := Sub.cell x5
  have x6 := Sub.cell x6
  have x7 := Sub.cell x7
  have x8 := Sub.cell x8
  have x9 := Sub.cell x9
  have x10 := Sub.cell x10
  have l3 : IntKind.i64.wrap ((m : Int) + 64) = (m : Int) + 64 := IntWalk.i64_in _ (by omega)
  have l4 : IntKind.i64.wrap ((m : Int) + 64 - 1) = (m : Int) + 63 := by rw [IntWalk.i64_in _ (by omega)]; omega
  have l5 : IntKind.i64.wrap (((m : Int) + 63).tdiv 64) = 1 := by rw [Int.tdiv_eq_ediv_of_nonneg (by omega)]; rw [IntWalk.i64_in _ (by omega)]; omega
  refine wp_region_sub (by kernel_rfl) (by kernel_rfl) ?_
  repeat (go_big_quiet_step (first | (go_at_call 73; exact ext_of (HS.out _)) | (go_at_call 81; exact ext_of (HPG.out _)) | (go_at_call 137; exact ext_of (HMO.out _))))
  refine wpQuiet_nil ?_
  rintro _ ⟨nq, rfl⟩
  have HB5 := Lib.hid (HB1.out.trans (nq.below.mono HB1.out.size))
  have H5 := Lib.hid (H1.out.old nq.below)
  have HX5 := Lib.hid (HX1.out.old nq.below)
  have HR5 := Lib.hid (HR1.out.old nq.below)
  clear x0 x1 x2 x3 x4 x5 x6 x7 x8 x9 x10 l3 l4 l5 HS HPG HMO H1 HX1 HR1 HB1
  generalize nq.w = w5 at *
  obtain ⟨rm, hrm⟩ : ∃ rm : Int, p.P - p.U.length = rm := ⟨_, rfl⟩
  have c4 : ¬ rm < 1 := by have := HLE.out; omega
  have HRM := Lib.hid (PRoom_any H5.out rm hrm (by have := HP.out; have := HLE.out; omega))
  clear hrm
  go_wp2_with fail
  refine HRM.out.mono ?_
  rintro e w6 ⟨rfl, hb6⟩
  have HB6 := Lib.hid (HB5.out.trans (hb6.mono HB5.out.size))
  have H6 := Lib.hid (H5.out.old hb6)
  have HX6 := Lib.hid (HX5.out.old hb6)
  have HR6 := Lib.hid (HR5.out.old hb6)
  clear hb6 HRM H5 HX5 HR5 HB5
  have x0 : w6.cell? ⟨x, 0, none⟩ = some (vi kd) := HX6.out.cell 0
  have x1 : w6.cell? ⟨x, 1, none⟩ = some (vi ln) := HX6.out.cell 1
  have x2 : w6.cell? ⟨x, 2, none⟩ = some (vi 0) := HX6.out.cell 2
  have x3 : w6.cell? ⟨x, 3, none⟩ = some (vi 0) := HX6.out.cell 3
  have x4 : w6.cell? ⟨x, 4, none⟩ = some (vi 0) := HX6.out.cell 4
  have x5 : w6.cell? ⟨x, 5, none⟩ = some (vi 0) := HX6.out.cell 5
  have x6 : w6.cell? ⟨x, 6, none⟩ = some (vi 0) := HX6.out.cell 6
  have x7 : w6.cell? ⟨x, 7, none⟩ = some (vi 0) := HX6.out.cell 7
  have x8 : w6.cell? ⟨x, 8, none⟩ = some (vi 0) := HX6.out.cell 8
  have x9 : w6.cell? ⟨x, 9, none⟩ = some (vi 0) := HX6.out.cell 9
  have x10 : w6.cell? ⟨x, 10, none⟩ = some (vi 0) := HX6.out.cell 10
  go_wp2_with fail
  clear x0 x1 x2 x3 x4 x5 x6 x7 x8 x9 x10
  have HB7 : Hid (Below w.heap.size w (w6.alloc (.cells #[ptr q, vi kd, vi ln, vi 0, vi 0, vi 0, vi 0, vi 0, vi 0, vi 0, vi 0, vi 0] 147))) := Lib.hid (HB6.out.alloc HB6.out.size _)
  have HR7 := Lib.hid (HR6.out.alloc (.cells #[ptr q, vi kd, vi ln, vi 0, vi 0, vi 0, vi 0, vi 0, vi 0, vi 0, vi 0, vi 0] 147))
  have HF7 := Lib.hid (Blk.new w6 147 #[ptr q, vi kd, vi ln, vi 0, vi 0, vi 0, vi 0, vi 0, vi 0, vi 0, vi 0, vi 0])
  have HN7 : Hid (w.heap.size ≤ w6.heap.size ∧ x + 1 < w6.heap.size) := Lib.hid ⟨HB6.out.size, HR6.out.lt⟩
  obtain ⟨f, hf⟩ : ∃ f, f = w6.heap.size := ⟨_, rfl⟩
  rw [← hf] at HF7 HN7 ⊢
  clear hf
  have H7 := Lib.hid (H.out.old HB7.out)
  clear H6 HX6 HR6 HB6
  change Code.wp _ _ _ _ (w6.alloc (.cells #[ptr q, vi kd, vi ln, vi 0, vi 0, vi 0, vi 0, vi 0, vi 0, vi 0, vi 0, vi 0] 147))
  generalize w6.alloc (.cells #[ptr q, vi kd, vi ln, vi 0, vi 0, vi 0, vi 0, vi 0, vi 0, vi 0, vi 0, vi 0] 147) = w7 at *
  go_loopw [2, 3] (fun off b wr => WrSt base w w7 q K (p.first l) kd ln f (x + 1) m (.slice (some ⟨b0, o0, none⟩) m c) off b wr) (fun off _ _ => m - (intOf off).toNat)
  case atStart => exact .inl ⟨rfl, rfl, rfl⟩
  case round =>
    rcases hrel with ⟨rfl, rfl, rfl⟩ | ⟨rfl, hrd⟩
    · have c5 : (0 : Int) < (m : Int) := by omega
      go_upto_region 16 with fail
      go_region
      go_wp2_with fail
      have HS0 : Hid (WSt base w q K f (x + 1) (fileC q (free0 kd ln 0)) #[vi 0, vi 0, vi 0, vi 0, vi 0, vi 0, vi 0, vi 0, vi 0, vi 0, vi 0] wr.drew K p) := Lib.hid ((WSt.mk (PoGo.of_old H.out HB7.out) HF7.out HR7.out (fun e => by have := H.out.lt f e; have := HN7.out; omega) (fun e => by have := H.out.lt _ e; have := HXX.out; omega) ⟨HN7.out.1, by have := HXX.out; omega⟩).old ((Below.refl _ _).drew))
      have HAT := Lib.hid (at_direct HS0.out.go.at_ (free0 kd ln 0) rfl HS0.out.file 0 (by decide))
      clear HF7 HR7 HB7 HN7 H7 HXX
      generalize wr.drew = w8 at *
      refine HAT.out.mono ?_
      rintro e w9 ⟨rfl, hb9⟩
      have HS1 := Lib.hid (HS0.out.old hb9)
      clear hb9 HAT HS0
      go_wp2_with fail
      refine (Alloc_one HS1.out.go.at_ HP.out.1 HU.out).mono ?_
      rintro e w10 ⟨rfl, hg10⟩
      have HS2 := Lib.hid (HS1.out.on hg10)
      clear hg10 HS1
      go_wp2_with fail
      refine (set_direct HS2.out.go.at_ (free0 kd ln 0) rfl HS2.out.file 0 (by decide) 5).mono ?_
      rintro e w11 ⟨rfl, hf11, hc11⟩
      have HS3 : Hid (WSt base w q K f (x + 1) (fileC q (one kd ln 0 5)) #[vi 0, vi 0, vi 0, vi 0, vi 0, vi 0, vi 0, vi 0, vi 0, vi 0, vi 0] w11 K ⟨p.P, MP.put p.U 5 5, MP.put p.M 5 (List.replicate 64 0)⟩) := Lib.hid (HS2.out.setF H.out hc11 hf11)
      clear hf11 hc11 HS2
      go_wp2_with fail
      have HG := Lib.hid (Get_any HS3.out.go.at_ 5 (by decide) (by unfold Pl.there MP.has; rw [MP.get_put]; rfl))
      refine HG.out.mono ?_
      rintro e w13 ⟨w12, K2, g6, c6, rfl, ho, hpl, hps, hg6, hc6, hcx, hgo, hb13⟩
      have hz : Pl.get ⟨p.P, MP.put p.U 5 5, MP.put p.M 5 (List.replicate 64 0)⟩ ((5 : Nat) : Int) = List.replicate 64 0 := by unfold Pl.get; rw [MP.get_put]; rfl
      rw [hz] at ho
      have HS4 := Lib.hid (HS3.out.on hgo)
      have hrow := ((HS4.out.go.row H.out HR.out).old hb13).row
      obtain ⟨w14, hrun, ho14, hgr⟩ := copy_bytes ho (by simp) 0 (Nat.zero_le _) hrow c c6
      rw [← HM.out, show min m (64 - 0) = m by omega] at hrun
      have hce : (List.replicate 64 0).take 0 ++ l.take (64 - 0) ++ (List.replicate 64 0).drop (0 + min l.length (64 - 0)) = l ++ List.replicate (64 - l.length) 0 := by
        rw [List.take_of_length_le (l := l) (by have := HM.out; omega), List.drop_replicate, show 0 + min l.length (64 - 0) = l.length by have := HM.out; omega]
        rfl
      rw [hce] at ho14
      have HRUN : Hid (CopyRun 56 56 3 (.slice (some ⟨g6, 0, none⟩) 64 c6) (.slice (some ⟨b0, o0, none⟩) m c) w13 (vi (m : Nat)) w14) := Lib.hid hrun
      have hb14 : Below w12.heap.size w12 w14 := hb13.grown hgr hb13.size (fun k e => by injection e with e; omega)
      have HS5 := Lib.hid (HS4.out.old hb14)
      have hsm : ∀ y ∈ l ++ List.replicate (64 - l.length) 0, y < 256 := by
        intro y hy
        rcases List.mem_append.1 hy with hy | hy
        · exact HR.out.row.small y hy
        · rw [List.eq_of_mem_replicate hy]; decide
      have hbr : BRow w14 (some ⟨g6, 0, none⟩) (l ++ List.replicate (64 - l.length) 0) := by
        obtain ⟨a', c', he, hr', _⟩ := ho14.row hsm
        injection he with he _ _
        rwa [← he] at hr'
      have HPT := Lib.hid (Put_any HS5.out.go.at_ 5 (by unfold Pl.there MP.has; rw [MP.get_put]; rfl) (some ⟨g6, 0, none⟩) c6 _ hbr (by rw [List.length_append, List.length_replicate]; have := HM.out; omega))
      clear ho hpl hps hgo hb13 hz hrow hrun ho14 hgr hce hb14 hsm hbr HG HS3 HS4
      have c6' : ¬ c6 = 0 := by omega
      go_wp2_with (refine wpList_copy_run rfl (.tmp 121) (.tmp 122) rfl rfl rfl HRUN.out ?_)
      refine HPT.out.mono ?_
      rintro e w15 ⟨rfl, hg15⟩
      have HS6 := Lib.hid (HS5.out.on hg15)
      clear hg15 HPT HRUN HS5
      have hm0 : (0 : Int) ≤ (m : Int) := by omega
      by_cases hcm : c = m
      · subst hcm
        go_wp2_with fail
        exact ⟨.inr ⟨rfl, _, HS6.out⟩, by simp [intOf]; omega⟩
      · go_wp2_with fail
        exact ⟨.inr ⟨rfl, _, HS6.out⟩, by simp [intOf]; omega⟩
    · have c5 : ¬ (m : Int) < (m : Int) := by omega
      obtain ⟨K', hS⟩ := hrd
      have HS := Lib.hid hS
      have y3 : wr.cell? ⟨f, 3, none⟩ = some (vi 0) := hS.file.cell 3
      have fy3 := hS.file.frozen 3
      have HF2 : Hid (Blk (wr.setCell ⟨f, 3, none⟩ (vi m)) f 147 (fileC q (one kd ln m 5))) := Lib.hid (hS.file.set_ 3 (vi m))
      have HS2 : Hid (WSt base w q K f (x + 1) (fileC q (one kd ln m 5)) #[vi 0, vi 0, vi 0, vi 0, vi 0, vi 0, vi 0, vi 0, vi 0, vi 0, vi 0] (wr.setCell ⟨f, 3, none⟩ (vi m)) K' (p.first l)) := Lib.hid (hS.setF H.out ((Chg.refl _ wr).setCell (F := fun n => n = f) (p := ⟨f, 3, none⟩) (.inl rfl) (vi m)) HF2.out)
      have hmx : max (0 : Int) (m : Int) = (m : Int) := by omega
      clear hS HF7 HR7 HB7 HN7 H7
      go_upto_region 28 with fail
      change Code.wp _ _ _ _ (wr.setCell ⟨f, 3, none⟩ (vi m))
      generalize wr.setCell ⟨f, 3, none⟩ (vi m) = w2 at *
      generalize x + 1 = r at *
      have y1 : w2.cell? ⟨f, 1, none⟩ = some (vi kd) := HS2.out.file.cell 1
      have y2 : w2.cell? ⟨f, 2, none⟩ = some (vi ln) := HS2.out.file.cell 2
      have y3 : w2.cell? ⟨f, 3, none⟩ = some (vi m) := HS2.out.file.cell 3
      have y4 : w2.cell? ⟨f, 4, none⟩ = some (vi 5) := HS2.out.file.cell 4
      have y5 : w2.cell? ⟨f, 5, none⟩ = some (vi 0) := HS2.out.file.cell 5
      have y6 : w2.cell? ⟨f, 6, none⟩ = some (vi 0) := HS2.out.file.cell 6
      have y7 : w2.cell? ⟨f, 7, none⟩ = some (vi 0) := HS2.out.file.cell 7
      have y8 : w2.cell? ⟨f, 8, none⟩ = some (vi 0) := HS2.out.file.cell 8
      have y9 : w2.cell? ⟨f, 9, none⟩ = some (vi 0) := HS2.out.file.cell 9
      have y10 : w2.cell? ⟨f, 10, none⟩ = some (vi 0) := HS2.out.file.cell 10
      have y11 : w2.cell? ⟨f, 11, none⟩ = some (vi 0) := HS2.out.file.cell 11
      have z0 : w2.cell? ⟨r, 0, none⟩ = some (vi 0) := HS2.out.res.cell 0
      have fz0 := HS2.out.res.frozen 0
      have z1 : w2.cell? ⟨r, 1, none⟩ = some (vi 0) := HS2.out.res.cell 1
      have fz1 := HS2.out.res.frozen 1
      have z2 : w2.cell? ⟨r, 2, none⟩ = some (vi 0) := HS2.out.res.cell 2
      have fz2 := HS2.out.res.frozen 2
      have z3 : w2.cell? ⟨r, 3, none⟩ = some (vi 0) := HS2.out.res.cell 3
      have fz3 := HS2.out.res.frozen 3
      have z4 : w2.cell? ⟨r, 4, none⟩ = some (vi 0) := HS2.out.res.cell 4
      have fz4 := HS2.out.res.frozen 4
      have z5 : w2.cell? ⟨r, 5, none⟩ = some (vi 0) := HS2.out.res.cell 5
      have fz5 := HS2.out.res.frozen 5
      have z6 : w2.cell? ⟨r, 6, none⟩ = some (vi 0) := HS2.out.res.cell 6
      have fz6 := HS2.out.res.frozen 6
      have z7 : w2.cell? ⟨r, 7, none⟩ = some (vi 0) := HS2.out.res.cell 7
      have fz7 := HS2.out.res.frozen 7
      have z8 : w2.cell? ⟨r, 8, none⟩ = some (vi 0) := HS2.out.res.cell 8
      have fz8 := HS2.out.res.frozen 8
      have z9 : w2.cell? ⟨r, 9, none⟩ = some (vi 0) := HS2.out.res.cell 9
      have fz9 := HS2.out.res.frozen 9
      have z10 : w2.cell? ⟨r, 10, none⟩ = some (vi 0) := HS2.out.res.cell 10
      have fz10 := HS2.out.res.frozen 10
      clear y3 fy3 hmx c5
      have y3 : w2.cell? ⟨f, 3, none⟩ = some (vi m) := HS2.out.file.cell 3
      go_wp2_with fail
      obtain ⟨hf, hw⟩ := ino_fill2 (vi kd) (vi ln) (vi m) (vi 5) (vi 0) (vi 0) (vi 0) (vi 0) (vi 0) (vi 0) (vi 0) HS2.out.res
      exact bodyPost_ret (write_result hf _ rfl rfl) rfl ⟨K', rfl, (HS2.out.setR H.out hw hf).go⟩
end
end Go.Proofs.YtnfhlocflpdlcaaGreat.nd

