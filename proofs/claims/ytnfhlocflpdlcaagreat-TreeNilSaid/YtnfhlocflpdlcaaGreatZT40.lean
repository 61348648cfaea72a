/-
  Lemmas for a law's proof, put together from several texts: each part says what it shows, and its conditions.
-/
import Derived.Test.YtnfhlocflpdlcaaGreatZT39
/-
  A tree's inodes, told and set. Conditions: a tree whose pool was never committed, of eight inodes, that are right.
-/
namespace Go.Proofs.YtnfhlocflpdlcaaGreat.pl
/-- Where an inode stands. -/
def pageOf (n : Nat) : Nat := 1 + (n - 1) / 2
def kOf (n : Nat) : Nat := (n - 1) % 2
theorem kOf_lt (n : Nat) : kOf n < 2 := Nat.mod_lt _ (by decide)
def cutOf (p : Pl) (n : Nat) : List Nat := ((p.get (pageOf n)).drop (kOf n * 24)).take 24
def Pl.ino (p : Pl) (n : Nat) : PI.Ino := PI.ofBytes (cutOf p n)
def Pl.right (p : Pl) (n : Nat) : Bool := decide ((cutOf p n).getD 1 0 = 0) && PI.right (p.ino n)
def Pl.setIno (p : Pl) (n : Nat) (i : PI.Ino) : Pl := p.put (pageOf n) (PI.lay (p.get (pageOf n)) (kOf n) i)
theorem there_table (p : Pl) {n : Nat} (h : 1 ≤ n ∧ n ≤ 8) : p.there (pageOf n) = true := by
  unfold Pl.there pageOf
  simp
  omega
end Go.Proofs.YtnfhlocflpdlcaaGreat.pl
namespace Go.Proofs.YtnfhlocflpdlcaaGreat.tr
open Go.RowKit Go.Proofs.YtnfhlocflpdlcaaGreat.mgr Go.Proofs.YtnfhlocflpdlcaaGreat.ft Go.Proofs.YtnfhlocflpdlcaaGreat.pl Go.Proofs.YtnfhlocflpdlcaaGreat.ino Go.Proofs.YtnfhlocflpdlcaaGreat.nd
/-- A tree in memory. -/
structure TrAt (base : Nat) (w : World) (t q : Nat) (K : Nat → Prop) (p : Pl) : Prop where
  obj : Blk w t 85 #[ptr q]
  pool : PQ base w q K p
  nt : ¬ K t
/-- A tree that went on. -/
structure TrGo (base : Nat) (w : World) (t q : Nat) (K : Nat → Prop) (w' : World) (K' : Nat → Prop) (p' : Pl) : Prop where
  at_ : TrAt base w' t q K' p'
  go : PoGo base w q K w' K' p'
section
variable {base : Nat} {w w' w'' : World} {t q g : Nat} {p p' p'' : Pl} {K K' K'' : Nat → Prop}
theorem TrAt.on (h : TrAt base w t q K p) (g : PoGo base w q K w' K' p') : TrGo base w t q K w' K' p' := ⟨⟨(g.keep h.obj h.nt).1, g.at_, (g.keep h.obj h.nt).2⟩, g⟩
theorem TrAt.old (h : TrAt base w t q K p) (g : Below w.heap.size w w') : TrAt base w' t q K p := (h.on (PoGo.of_old h.pool g)).at_
theorem TrGo.trans (h : TrGo base w t q K w' K' p') (k : TrGo base w' t q K' w'' K'' p'') : TrGo base w t q K w'' K'' p'' := ⟨k.at_, h.go.trans k.go⟩
theorem TrGo.on (h : TrGo base w t q K w' K' p') (k : PoGo base w' q K' w'' K'' p'') : TrGo base w t q K w'' K'' p'' := h.trans (h.at_.on k)
theorem TrGo.refl (h : TrAt base w t q K p) : TrGo base w t q K w K p := h.on (PoGo.refl h.pool)
theorem TrGo.old (h : TrGo base w t q K w' K' p') (k : Below w'.heap.size w' w'') : TrGo base w t q K w'' K' p' := h.on (PoGo.of_old h.at_.pool k)
theorem TrGo.poke {f : Nat} {ty : TypeId} {cs : Array Value} (S : TrGo base w t q K w' K' p') (h0 : TrAt base w t q K p) (hb : Blk w' f ty cs) (hf : w.heap.size ≤ f) (hn : ¬ K' f) (hc : Chg (fun n => n = f) w' w'') (ht : dataT ty = false := by decide) : TrGo base w t q K w'' K' p' := by
  have hp := PoGo.poke S.go h0.pool hb hf hn hc ht
  exact ⟨⟨S.at_.obj.chg hc (fun e => by have := h0.obj.lt; omega), hp.at_, S.at_.nt⟩, hp⟩
theorem lay_field (P : Int) (w : World) : (Instr.field 99 (.agg #[vi 4, vi 5, vi P, vi 8]) 3).run Tryz.prog w = .ok (vi 8) w := by kernel_rfl
theorem place_any (h : TrAt base w t q K p) (n : Nat) (hn : 1 ≤ n ∧ n ≤ 8) : Calls Tryz.prog 32 #[ptr t, vi n] w fun e w' => e = .returned (.tuple #[vi (pageOf n), vi (kOf n), vi 0]) ∧ Below w.heap.size w w' := by
  have e0 : w.cell? ⟨t, 0, none⟩ = some (ptr q) := h.obj.cell 0
  have H := Lib.hid h
  have HL := Lib.hid (Layout_any h.pool)
  have HPG : Hid (pageOf n = 1 + (n - 1) / 2) := Lib.hid rfl
  have c1 : ¬ (n : Int) < 1 := by omega
  have c2 : ¬ (8 : Int) < (n : Int) := by omega
  have c3 := lay_field p.P
  clear h
  go_enter Tryz.func32, Tryz.ntmps32
  go_wp2_with fail
  refine HL.out.mono ?_
  rintro e w1 ⟨rfl, hb1⟩
  have HB1 := Lib.hid hb1
  have H1 := Lib.hid (H.out.old hb1)
  have e0 : w1.cell? ⟨t, 0, none⟩ = some (ptr q) := H1.out.obj.cell 0
  clear hb1 HL
  go_wp2_with fail
  refine (Size_any H1.out.pool).mono ?_
  rintro e w2 ⟨rfl, rfl⟩
  go_wp2_with fail
  refine PerPage_64.mono ?_
  rintro e w3 ⟨rfl, rfl⟩
  clear e0 c1 c2 c3
  have l1 : IntKind.i64.wrap ((n : Int) - 1) = ((n - 1 : Nat) : Int) := by rw [IntWalk.i64_in _ (by omega)]; omega
  have q1 : IntKind.i64.wrap (((n - 1 : Nat) : Int).tdiv 2) = (((n - 1) / 2 : Nat) : Int) := by rw [Int.tdiv_eq_ediv_of_nonneg (by omega)]; rw [IntWalk.i64_in _ (by omega)]; omega
  have q2 : IntKind.i64.wrap (((n - 1 : Nat) : Int).tmod 2) = (((n - 1) % 2 : Nat) : Int) := by rw [Int.tmod_eq_emod_of_nonneg (by omega)]; rw [IntWalk.i64_in _ (by omega)]; omega
  have l2 : IntKind.i64.wrap (1 + (((n - 1) / 2 : Nat) : Int)) = ((1 + (n - 1) / 2 : Nat) : Int) := by rw [IntWalk.i64_in _ (by omega)]; omega
  go_upto_region 6 with fail
  go_region
  go_wp2_with fail
  go_ret3
  refine ⟨?_, HB1.out.drew⟩
  rw [HPG.out]
  unfold kOf
  rfl
theorem inode_result {w' : World} {g : Nat} {v0 v1 v2 v3 v4 v5 v6 v7 v8 v9 v10 : Value} {n : Int} (hb : Blk w' g 50 #[v0, v1, v2, v3, v4, v5, v6, v7, v8, v9, v10]) (tmps : Array Value) (h2 : tmps[4]? = some (.pointer (some ⟨g, 0, none⟩))) (h3 : tmps[5]? = some (vi n)) :
    (results Tryz.f13 tmps).run Tryz.prog w' = .ok (.tuple #[.agg #[v0, v1, v2, v3, v4, v5, v6, v7, v8, v9, v10], vi n]) w' := by
  have g0 : w'.cell? ⟨g, 0, none⟩ = some v0 := hb.cell 0
  have g1 : w'.cell? ⟨g, 1, none⟩ = some v1 := hb.cell 1
  have g2 : w'.cell? ⟨g, 2, none⟩ = some v2 := hb.cell 2
  have g3 : w'.cell? ⟨g, 3, none⟩ = some v3 := hb.cell 3
  have g4 : w'.cell? ⟨g, 4, none⟩ = some v4 := hb.cell 4
  have g5 : w'.cell? ⟨g, 5, none⟩ = some v5 := hb.cell 5
  have g6 : w'.cell? ⟨g, 6, none⟩ = some v6 := hb.cell 6
  have g7 : w'.cell? ⟨g, 7, none⟩ = some v7 := hb.cell 7
  have g8 : w'.cell? ⟨g, 8, none⟩ = some v8 := hb.cell 8
  have g9 : w'.cell? ⟨g, 9, none⟩ = some v9 := hb.cell 9
  have g10 : w'.cell? ⟨g, 10, none⟩ = some v10 := hb.cell 10
  simp only [results, Tryz.results13]
  simp [go_sem, h2, h3, g0, g1, g2, g3, g4, g5, g6, g7, g8, g9, g10]
/-- An inode that was read. -/
def InoP (base : Nat) (w : World) (t q : Nat) (K : Nat → Prop) (p : Pl) (n : Nat) (e : Ending) (w' : World) : Prop :=
  ∃ K', e = .returned (.tuple #[inoV (p.ino n), vi 0]) ∧ TrGo base w t q K w' K' p
set_option maxRecDepth 100000 in
set_option maxHeartbeats 4000000 in
theorem Inode_any (h : TrAt base w t q K p) (n : Nat) (hn : 1 ≤ n ∧ n ≤ 8) (hr : p.right n = true) : Calls Tryz.prog 13 #[ptr t, vi n] w (InoP base w t q K p n) := by
  have H := Lib.hid h
  have HN := Lib.hid hn
  have HB1 : Hid (Below w.heap.size w (w.alloc (.cells #[vi 0, vi 0, vi 0, vi 0, vi 0, vi 0, vi 0, vi 0, vi 0, vi 0, vi 0] 50))) := Lib.hid ((Below.refl _ _).alloc (Nat.le_refl _) _)
  have HG1 := Lib.hid (Blk.new w 50 #[vi 0, vi 0, vi 0, vi 0, vi 0, vi 0, vi 0, vi 0, vi 0, vi 0, vi 0])
  have HPL := Lib.hid (place_any (h.old HB1.out) n hn)
  have HKL := Lib.hid (kOf_lt n)
  have HTT := Lib.hid (there_table p hn)
  have HPN := Lib.hid (show pageOf n ≤ 1000000 by unfold pageOf; omega)
  have HRT : Hid ((cutOf p n).getD 1 0 = 0 ∧ PI.right (p.ino n) = true) := Lib.hid (by
    unfold Pl.right at hr
    simp only [Bool.and_eq_true, decide_eq_true_eq] at hr
    exact hr)
  have HLO := Lib.hid h.pool.low
  clear h hr
  go_enter Tryz.func13, Tryz.ntmps13
  go_upto_region 1 with fail
  obtain ⟨g, hg⟩ : ∃ g, g = w.heap.size := ⟨_, rfl⟩
  rw [← hg] at HG1 ⊢
  have HGG := Lib.hid hg
  clear hg
  change Code.wp _ _ _ _ (w.alloc (.cells #[vi 0, vi 0, vi 0, vi 0, vi 0, vi 0, vi 0, vi 0, vi 0, vi 0, vi 0] 50))
  have H1 := Lib.hid (H.out.old HB1.out)
  generalize w.alloc (.cells #[vi 0, vi 0, vi 0, vi 0, vi 0, vi 0, vi 0, vi 0, vi 0, vi 0, vi 0] 50) = w1 at *
  go_wp2_with fail
  refine HPL.out.mono ?_
  rintro e w2 ⟨rfl, hb2⟩
  have HB2 := Lib.hid (HB1.out.trans (hb2.mono HB1.out.size))
  have H2 := Lib.hid (H1.out.old hb2)
  have HG2 := Lib.hid (HG1.out.old hb2)
  have e0 : w2.cell? ⟨t, 0, none⟩ = some (ptr q) := H2.out.obj.cell 0
  clear hb2 HPL H1 HG1 HB1
  go_wp2_with fail
  refine (Get_any H2.out.pool (pageOf n) HPN.out HTT.out).mono ?_
  rintro e w3 ⟨w12, K', g6, c6, rfl, ho, hpl, hps, hg6, hc6, hcx, hgo, hb3⟩
  have HR3 := Lib.hid (GetP.row ho hps)
  have HGT : Hid (Calls Tryz.prog 34 #[.slice (some ⟨g6, 0, none⟩) 64 c6, vi (kOf n)] w3 fun e w' => e = .returned (.tuple #[inoV (p.ino n), vi 0]) ∧ Below w3.heap.size w3 w') :=
    Lib.hid (ino.Get_any (w := w3) (some ⟨g6, 0, none⟩) _ c6 (kOf n) HR3.out hpl ⟨hc6, hcx⟩ HKL.out HRT.out.1 HRT.out.2)
  have HT3 := Lib.hid ((((TrGo.refl H.out).old HB2.out).trans (H2.out.on hgo)).old hb3)
  have hK2 : ¬ K g := fun e => by
    have := H.out.pool.lt g e
    have := HGG.out
    omega
  have HG3 : Hid (Blk w3 g 50 #[vi 0, vi 0, vi 0, vi 0, vi 0, vi 0, vi 0, vi 0, vi 0, vi 0, vi 0] ∧ ¬ K' g) := Lib.hid ⟨(hgo.keep HG2.out hK2).1.old hb3, (hgo.keep HG2.out hK2).2⟩
  clear ho hpl hps hgo hb3 e0 HR3 hK2 HTT HPN HRT HKL
  go_wp2_with fail
  refine HGT.out.mono ?_
  rintro e w4 ⟨rfl, hb4⟩
  have HT4 := Lib.hid (HT3.out.old hb4)
  have HG4 : Hid (Blk w4 g 50 #[vi 0, vi 0, vi 0, vi 0, vi 0, vi 0, vi 0, vi 0, vi 0, vi 0, vi 0] ∧ ¬ K' g) := Lib.hid ⟨HG3.out.1.old hb4, HG3.out.2⟩
  clear hb4 HGT HT3 HG3
  generalize hio : p.ino n = io at *
  have hd6 : io.direct.length = 6 := by rw [← hio]; rfl
  obtain ⟨kd, ln, sz, dl, sg, db⟩ := io
  obtain ⟨d0, d1, d2, d3, d4, d5, rfl⟩ := six (l := dl) hd6
  have HIO := Lib.hid hio
  clear hd6 hio
  simp only [inoV, inoC]
  have r0 : w4.cell? ⟨g, 0, none⟩ = some (vi 0) := HG4.out.1.cell 0
  have f0 := HG4.out.1.frozen 0
  have r1 : w4.cell? ⟨g, 1, none⟩ = some (vi 0) := HG4.out.1.cell 1
  have f1 := HG4.out.1.frozen 1
  have r2 : w4.cell? ⟨g, 2, none⟩ = some (vi 0) := HG4.out.1.cell 2
  have f2 := HG4.out.1.frozen 2
  have r3 : w4.cell? ⟨g, 3, none⟩ = some (vi 0) := HG4.out.1.cell 3
  have f3 := HG4.out.1.frozen 3
  have r4 : w4.cell? ⟨g, 4, none⟩ = some (vi 0) := HG4.out.1.cell 4
  have f4 := HG4.out.1.frozen 4
  have r5 : w4.cell? ⟨g, 5, none⟩ = some (vi 0) := HG4.out.1.cell 5
  have f5 := HG4.out.1.frozen 5
  have r6 : w4.cell? ⟨g, 6, none⟩ = some (vi 0) := HG4.out.1.cell 6
  have f6 := HG4.out.1.frozen 6
  have r7 : w4.cell? ⟨g, 7, none⟩ = some (vi 0) := HG4.out.1.cell 7
  have f7 := HG4.out.1.frozen 7
  have r8 : w4.cell? ⟨g, 8, none⟩ = some (vi 0) := HG4.out.1.cell 8
  have f8 := HG4.out.1.frozen 8
  have r9 : w4.cell? ⟨g, 9, none⟩ = some (vi 0) := HG4.out.1.cell 9
  have f9 := HG4.out.1.frozen 9
  have r10 : w4.cell? ⟨g, 10, none⟩ = some (vi 0) := HG4.out.1.cell 10
  have f10 := HG4.out.1.frozen 10
  go_wp2_with fail
  obtain ⟨hf, hw⟩ := nd.ino_fill2 (vi kd) (vi ln) (vi sz) (vi d0) (vi d1) (vi d2) (vi d3) (vi d4) (vi d5) (vi sg) (vi db) HG4.out.1
  exact bodyPost_ret (inode_result hf _ rfl rfl) rfl ⟨K', by rw [HIO.out], HT4.out.poke H.out HG4.out.1 (Nat.le_of_eq HGG.out.symm) HG4.out.2 hw⟩
end
end Go.Proofs.YtnfhlocflpdlcaaGreat.tr

/-
  A tree opened; an inode set; inodes made and counted. Conditions: a tree whose pool was never committed, of eight inodes, that are right.
-/
namespace Go.Proofs.YtnfhlocflpdlcaaGreat.tr
open Go.RowKit Go.Proofs.YtnfhlocflpdlcaaGreat.mgr Go.Proofs.YtnfhlocflpdlcaaGreat.ft Go.Proofs.YtnfhlocflpdlcaaGreat.pl Go.Proofs.YtnfhlocflpdlcaaGreat.ino Go.Proofs.YtnfhlocflpdlcaaGreat.nd
section
variable {base : Nat} {w w' w'' : World} {t q g : Nat} {p p' p'' : Pl} {K K' K'' : Nat → Prop}
theorem Open_any (h : PQ base w q K p) : Calls Tryz.prog 18 #[ptr q] w fun e w' => ∃ t, e = .returned (.tuple #[ptr t, vi 0]) ∧ w.heap.size ≤ t ∧ Below w.heap.size w w' ∧ TrAt base w' t q K p := by
  have H := Lib.hid h
  have HB : Hid (Below w.heap.size w (w.alloc (.cells #[ptr q] 85))) := Lib.hid ((Below.refl _ _).alloc (Nat.le_refl _) _)
  have HG := Lib.hid (Blk.new w 85 #[ptr q])
  clear h
  go_enter Tryz.func18, Tryz.ntmps18
  go_wp2_with fail
  go_ret2
  exact ⟨w.heap.size, rfl, Nat.le_refl _, HB.out, HG.out, H.out.old HB.out, fun e => by have := H.out.lt _ e; omega⟩
theorem Pool_any (h : TrAt base w t q K p) : Calls Tryz.prog 25 #[ptr t] w fun e w' => e = .returned (ptr q) ∧ w' = w := by
  have e0 : w.cell? ⟨t, 0, none⟩ = some (ptr q) := h.obj.cell 0
  clear h
  go_enter Tryz.func25, Tryz.ntmps25
  go_wp2_with fail
  go_ret
  exact ⟨rfl, rfl⟩
/-- An inode that was set. -/
def SetP (base : Nat) (w : World) (t q : Nat) (K : Nat → Prop) (p : Pl) (n : Nat) (i : PI.Ino) (e : Ending) (w' : World) : Prop :=
  ∃ K', e = .returned (vi 0) ∧ TrGo base w t q K w' K' (p.setIno n i)
set_option maxRecDepth 100000 in
set_option maxHeartbeats 4000000 in
theorem Set_any (h : TrAt base w t q K p) (n : Nat) (hn : 1 ≤ n ∧ n ≤ 8) (i : PI.Ino) (hil : i.direct.length = 6) (hir : PI.right i = true) : Calls Tryz.prog 19 #[ptr t, vi n, inoV i] w (SetP base w t q K p n i) := by
  have H := Lib.hid h
  have HIP : Hid (∀ (W : World) (a : Option Addr) (b : List Nat) (c k : Nat), BRow W a b → b.length = 64 → k < 2 → Calls Tryz.prog 38 #[.slice a 64 c, vi k, inoV i] W fun e w' => ∃ v, e = .returned (.tuple #[v, vi 0]) ∧ Own w' W.heap.size v (PI.lay b k i) ∧ Below W.heap.size W w') :=
    Lib.hid (fun W a b c k h1 h2 h3 => ino.Put_any a b c k h1 h2 h3 i hil hir)
  have HLL : Hid (∀ (b : List Nat) (k : Nat), b.length = 64 → k < 2 → (PI.lay b k i).length = 64) := Lib.hid (fun b k h1 h2 => by
    unfold PI.lay
    simp only [List.length_append, List.length_take, List.length_drop, PI.bytes_len hil]
    omega)
  have HLS : Hid (∀ (b : List Nat) (k : Nat), (∀ y ∈ b, y < 256) → ∀ y ∈ PI.lay b k i, y < 256) := Lib.hid (fun b k h1 y hy => by
    unfold PI.lay at hy
    simp only [List.mem_append] at hy
    rcases hy with (hy | hy) | hy
    · exact h1 y (List.mem_of_mem_take hy)
    · exact PI.bytes_small i y hy
    · exact h1 y (List.mem_of_mem_drop hy))
  have HTT := Lib.hid (there_table p hn)
  have HPN := Lib.hid (show pageOf n ≤ 1000000 by unfold pageOf; omega)
  have HKL := Lib.hid (kOf_lt n)
  have HSI : Hid (p.setIno n i = p.put (pageOf n) (PI.lay (p.get (pageOf n)) (kOf n) i)) := Lib.hid rfl
  have HN := Lib.hid hn
  clear h hir hn
  unfold SetP
  generalize p.setIno n i = ps at *
  generalize hlay : (fun (b : List Nat) (k : Nat) => PI.lay b k i) = lay at *
  have HLY : Hid (∀ b k, PI.lay b k i = lay b k) := Lib.hid (fun b k => congrFun (congrFun hlay b) k)
  simp only [HLY.out] at HIP HLL HLS HSI
  clear hlay HLY
  obtain ⟨kd, ln, sz, dl, sg, db⟩ := i
  obtain ⟨d0, d1, d2, d3, d4, d5, rfl⟩ := six (l := dl) hil
  clear hil
  simp only [inoV, inoC] at HIP ⊢
  go_enter Tryz.func19, Tryz.ntmps19
  go_upto_region 1 with fail
  have HB1 : Hid (Below w.heap.size w (w.alloc (.cells #[vi kd, vi ln, vi sz, vi d0, vi d1, vi d2, vi d3, vi d4, vi d5, vi sg, vi db] 50))) := Lib.hid ((Below.refl _ _).alloc (Nat.le_refl _) _)
  have HX1 := Lib.hid (Blk.new w 50 #[vi kd, vi ln, vi sz, vi d0, vi d1, vi d2, vi d3, vi d4, vi d5, vi sg, vi db])
  obtain ⟨g, hg⟩ : ∃ g, g = w.heap.size := ⟨_, rfl⟩
  rw [← hg] at HX1 ⊢
  have HGG := Lib.hid hg
  clear hg
  change Code.wp _ _ _ _ (w.alloc (.cells #[vi kd, vi ln, vi sz, vi d0, vi d1, vi d2, vi d3, vi d4, vi d5, vi sg, vi db] 50))
  have H1 := Lib.hid (H.out.old HB1.out)
  generalize w.alloc (.cells #[vi kd, vi ln, vi sz, vi d0, vi d1, vi d2, vi d3, vi d4, vi d5, vi sg, vi db] 50) = w1 at *
  go_wp2_with fail
  refine (place_any H1.out n HN.out).mono ?_
  rintro e w2 ⟨rfl, hb2⟩
  have HB2 := Lib.hid (HB1.out.trans (hb2.mono HB1.out.size))
  have H2 := Lib.hid (H1.out.old hb2)
  have HX2 := Lib.hid (HX1.out.old hb2)
  have e0 : w2.cell? ⟨t, 0, none⟩ = some (ptr q) := H2.out.obj.cell 0
  clear hb2 H1 HX1 HB1
  go_wp2_with fail
  refine (Get_any H2.out.pool (pageOf n) HPN.out HTT.out).mono ?_
  rintro e w4 ⟨w3, K', g4, c4, rfl, ho, hpl, hps, hg4, hc4, hcx, hgo, hb4⟩
  have HR4 := Lib.hid (GetP.row ho hps)
  have HT4 := Lib.hid ((((TrGo.refl H.out).old HB2.out).trans (H2.out.on hgo)).old hb4)
  have HPL := Lib.hid hpl
  have HPS := Lib.hid hps
  have hK2 : ¬ K g := fun e => by
    have := H.out.pool.lt g e
    have := HGG.out
    omega
  have HX4 : Hid (Blk w4 g 50 #[vi kd, vi ln, vi sz, vi d0, vi d1, vi d2, vi d3, vi d4, vi d5, vi sg, vi db]) := Lib.hid ((hgo.keep HX2.out hK2).1.old hb4)
  have HIP4 := Lib.hid (HIP.out w4 _ _ c4 _ HR4.out HPL.out HKL.out)
  clear ho hpl hps hgo hb4 e0 hK2 HX2 HR4
  have e0 : w4.cell? ⟨t, 0, none⟩ = some (ptr q) := HT4.out.at_.obj.cell 0
  have x0 : w4.cell? ⟨g, 0, none⟩ = some (vi kd) := HX4.out.cell 0
  have x1 : w4.cell? ⟨g, 1, none⟩ = some (vi ln) := HX4.out.cell 1
  have x2 : w4.cell? ⟨g, 2, none⟩ = some (vi sz) := HX4.out.cell 2
  have x3 : w4.cell? ⟨g, 3, none⟩ = some (vi d0) := HX4.out.cell 3
  have x4 : w4.cell? ⟨g, 4, none⟩ = some (vi d1) := HX4.out.cell 4
  have x5 : w4.cell? ⟨g, 5, none⟩ = some (vi d2) := HX4.out.cell 5
  have x6 : w4.cell? ⟨g, 6, none⟩ = some (vi d3) := HX4.out.cell 6
  have x7 : w4.cell? ⟨g, 7, none⟩ = some (vi d4) := HX4.out.cell 7
  have x8 : w4.cell? ⟨g, 8, none⟩ = some (vi d5) := HX4.out.cell 8
  have x9 : w4.cell? ⟨g, 9, none⟩ = some (vi sg) := HX4.out.cell 9
  have x10 : w4.cell? ⟨g, 10, none⟩ = some (vi db) := HX4.out.cell 10
  go_wp2_with fail
  refine HIP4.out.mono ?_
  rintro e w5 ⟨v5, rfl, ho5, hb5⟩
  have HL5 := Lib.hid (HLL.out (p.get (pageOf n)) (kOf n) HPL.out HKL.out)
  have HS5 := Lib.hid (HLS.out (p.get (pageOf n)) (kOf n) HPS.out)
  obtain ⟨a5, c5, rfl, hr5, _⟩ := ho5.srow (base := 0) HS5.out
  rw [HL5.out]
  have HR5 := Lib.hid hr5.row
  have HT5 := Lib.hid (HT4.out.old hb5)
  clear ho5 hr5 hb5 HT4 HX4 HIP HIP4 HLL HLS HPS HPL e0 x0 x1 x2 x3 x4 x5 x6 x7 x8 x9 x10
  have e0 : w5.cell? ⟨t, 0, none⟩ = some (ptr q) := HT5.out.at_.obj.cell 0
  go_wp2_with fail
  refine (pl.Put_any HT5.out.at_.pool (pageOf n) HTT.out a5 c5 _ HR5.out HL5.out).mono ?_
  rintro e w6 ⟨rfl, hg6⟩
  have HT6 := Lib.hid (HT5.out.on hg6)
  clear hg6 HT5 HR5 e0
  go_wp2_with fail
  go_ret
  exact ⟨K', rfl, by rw [HSI.out]; exact HT6.out⟩
end
end Go.Proofs.YtnfhlocflpdlcaaGreat.tr

