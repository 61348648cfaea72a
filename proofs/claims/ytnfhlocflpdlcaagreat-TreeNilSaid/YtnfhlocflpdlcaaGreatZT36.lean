/-
  Lemmas for a law's proof, put together from several texts: each part says what it shows, and its conditions.
-/
import Derived.Test.YtnfhlocflpdlcaaGreatZT35
/-
  A file of one page read from its beginning. Conditions: a file of at most 64 bytes, whose first page is there; a pool told by PQ.
-/
namespace Go.Proofs.YtnfhlocflpdlcaaGreat.nd
open Go.RowKit Go.Proofs.YtnfhlocflpdlcaaGreat.mgr Go.Proofs.YtnfhlocflpdlcaaGreat.ft Go.Proofs.YtnfhlocflpdlcaaGreat.pl Go.Proofs.YtnfhlocflpdlcaaGreat.ino
/-- A file whose first page alone is there. -/
abbrev one (kd ln sz d : Nat) : PI.Ino := ⟨kd, ln, sz, [d, 0, 0, 0, 0, 0], 0, 0⟩
section
variable {base : Nat} {w w' : World} {q g : Nat} {p : Pl} {K : Nat → Prop}
/-- What a read of a page's first bytes leaves. -/
def RdP (base : Nat) (w : World) (q : Nat) (K : Nat → Prop) (p : Pl) (l : List Nat) (v : Value) (w' : World) : Prop :=
  ∃ K', Own w' w.heap.size v l ∧ PoGo base w q K w' K' p
def RdSt (base : Nat) (w w0 : World) (q : Nat) (K : Nat → Prop) (p : Pl) (l : List Nat) (sz : Int) (off out : Value) (wr : World) : Prop :=
  (off = vi 0 ∧ out = .slice none 0 0 ∧ wr = w0) ∨ (off = vi sz ∧ RdP base w q K p l out wr)
theorem GetP.row {n : Int} {w1 : World} {g c : Nat} {w' : World} (ho : Own w' w1.heap.size (.slice (some ⟨g, 0, none⟩) 64 c) (p.get n)) (hs : ∀ y ∈ p.get n, y < 256) : BRow w' (some ⟨g, 0, none⟩) (p.get n) := by
  obtain ⟨a, c', he, hr, _⟩ := ho.row hs
  injection he with he _ _
  rwa [← he] at hr
set_option maxRecDepth 100000 in
set_option maxHeartbeats 4000000 in
theorem Read_one (h : PQ base w q K p) (kd ln sz d : Nat) (hsz : 0 < sz ∧ sz ≤ 64) (hd : 0 < d ∧ d ≤ 1000000) (ht : p.there d = true) :
    Calls Tryz.prog 63 #[ptr q, inoV (one kd ln sz d), vi 0, vi 1024] w fun e w' => ∃ v, e = .returned (.tuple #[v, vi 0]) ∧ RdP base w q K p ((p.get d).take sz) v w' := by
  have H := Lib.hid h
  have HT := Lib.hid ht
  have HD := Lib.hid hd
  have hmk : ∀ w : World, (Instr.makeSlice 56 (.int .i64 64) (.int .i64 64)).run Tryz.prog w = .ok (.slice (some ⟨w.heap.size, 0, none⟩) 64 64) (w.alloc (.cells (madeCells #[vb 0] 64) 5)) := fun w => make_bytes 64 (by omega) w
  simp only [inoV, inoC]
  have m1 : ¬ (sz : Int) ≤ 0 := by omega
  have m2 : min (1024 : Int) (sz : Int) = (sz : Int) := by omega
  have l1 : IntKind.i64.wrap ((sz : Int) - 0) = (sz : Int) := by rw [IntWalk.i64_in _ (by omega)]; omega
  have l2 : IntKind.i64.wrap (0 + (sz : Int)) = (sz : Int) := by rw [IntWalk.i64_in _ (by omega)]; omega
  clear h ht
  go_enter Tryz.func63, Tryz.ntmps63
  go_upto_region 1 with fail
  have HB1 : Hid (Below w.heap.size w (w.alloc (.cells #[vi kd, vi ln, vi sz, vi d, vi 0, vi 0, vi 0, vi 0, vi 0, vi 0, vi 0] 50))) := Lib.hid ((Below.refl _ _).alloc (Nat.le_refl _) _)
  have HX1 := Lib.hid (Blk.new w 50 #[vi kd, vi ln, vi sz, vi d, vi 0, vi 0, vi 0, vi 0, vi 0, vi 0, vi 0])
  obtain ⟨x, hx⟩ : ∃ x, x = w.heap.size := ⟨_, rfl⟩
  rw [← hx] at HX1 ⊢
  clear hx
  change Code.wp _ _ _ _ (w.alloc (.cells #[vi kd, vi ln, vi sz, vi d, vi 0, vi 0, vi 0, vi 0, vi 0, vi 0, vi 0] 50))
  generalize w.alloc (.cells #[vi kd, vi ln, vi sz, vi d, vi 0, vi 0, vi 0, vi 0, vi 0, vi 0, vi 0] 50) = w1 at *
  have x0 : w1.cell? ⟨x, 0, none⟩ = some (vi kd) := HX1.out.cell 0
  have x1 : w1.cell? ⟨x, 1, none⟩ = some (vi ln) := HX1.out.cell 1
  have x2 : w1.cell? ⟨x, 2, none⟩ = some (vi sz) := HX1.out.cell 2
  have x3 : w1.cell? ⟨x, 3, none⟩ = some (vi d) := HX1.out.cell 3
  have x4 : w1.cell? ⟨x, 4, none⟩ = some (vi 0) := HX1.out.cell 4
  have x5 : w1.cell? ⟨x, 5, none⟩ = some (vi 0) := HX1.out.cell 5
  have x6 : w1.cell? ⟨x, 6, none⟩ = some (vi 0) := HX1.out.cell 6
  have x7 : w1.cell? ⟨x, 7, none⟩ = some (vi 0) := HX1.out.cell 7
  have x8 : w1.cell? ⟨x, 8, none⟩ = some (vi 0) := HX1.out.cell 8
  have x9 : w1.cell? ⟨x, 9, none⟩ = some (vi 0) := HX1.out.cell 9
  have x10 : w1.cell? ⟨x, 10, none⟩ = some (vi 0) := HX1.out.cell 10
  go_upto_region 8 with fail
  have HB2 : Hid (Below w.heap.size w (w1.alloc (.cells #[ptr q, vi kd, vi ln, vi sz, vi d, vi 0, vi 0, vi 0, vi 0, vi 0, vi 0, vi 0] 147))) := Lib.hid (HB1.out.alloc HB1.out.size _)
  have HX2 := Lib.hid (HX1.out.alloc (.cells #[ptr q, vi kd, vi ln, vi sz, vi d, vi 0, vi 0, vi 0, vi 0, vi 0, vi 0, vi 0] 147))
  have HF2 := Lib.hid (Blk.new w1 147 #[ptr q, vi kd, vi ln, vi sz, vi d, vi 0, vi 0, vi 0, vi 0, vi 0, vi 0, vi 0])
  change Code.wp _ _ _ _ (w1.alloc (.cells #[ptr q, vi kd, vi ln, vi sz, vi d, vi 0, vi 0, vi 0, vi 0, vi 0, vi 0, vi 0] 147))
  clear x0 x1 x2 x3 x4 x5 x6 x7 x8 x9 x10
  generalize w1.alloc (.cells #[ptr q, vi kd, vi ln, vi sz, vi d, vi 0, vi 0, vi 0, vi 0, vi 0, vi 0, vi 0] 147) = w2 at *
  generalize w1.heap.size = f at *
  have x2 : w2.cell? ⟨x, 2, none⟩ = some (vi sz) := HX2.out.cell 2
  have H2 := Lib.hid (H.out.old HB2.out)
  go_wp2_with fail
  refine (Size_any H2.out).mono ?_
  rintro e w3 ⟨rfl, rfl⟩
  clear HX1 HB1 HX2 x2 m1 m2 l1
  go_wp2_with fail
  go_loopw [2, 12] (fun off out wr => RdSt base w w3 q K p ((p.get d).take sz) sz off out wr) (fun off _ _ => sz - (intOf off).toNat)
  case atStart => exact .inl ⟨rfl, rfl, rfl⟩
  case round =>
    rcases hrel with ⟨rfl, rfl, rfl⟩ | ⟨rfl, hrd⟩
    · have c1 : (0 : Int) < (sz : Int) := by omega
      have HB4 : Hid (Below wr.heap.size wr (wr.alloc (.cells (madeCells #[vb 0] 64) 5))) := Lib.hid ((Below.refl _ _).alloc (Nat.le_refl _) _)
      have HAT : Hid (Calls Tryz.prog 84 #[ptr f, vi 0] (wr.alloc (.cells (madeCells #[vb 0] 64) 5)) fun e w' => e = .returned (vi d) ∧ Below (wr.alloc (.cells (madeCells #[vb 0] 64) 5)).heap.size (wr.alloc (.cells (madeCells #[vb 0] 64) 5)) w') :=
        Lib.hid (at_direct (H2.out.old HB4.out) (one kd ln sz d) rfl (HF2.out.old HB4.out) 0 (by decide))
      go_wp2_with fail
      refine HAT.out.mono ?_
      rintro e w5 ⟨rfl, hb5⟩
      have HB5 := Lib.hid (HB4.out.trans (hb5.mono HB4.out.size))
      have H5 := Lib.hid (H2.out.old HB5.out)
      have d0 : ¬ (d : Int) = 0 := by have := HD.out; omega
      clear hb5 HB4 HAT hmk
      go_wp2_with fail
      refine (Get_any H5.out d HD.out.2 HT.out).mono ?_
      rintro e w7 ⟨w6, K', g6, c6, rfl, ho, hpl, hps, hg6, hc6, hcx, hgo, hb7⟩
      have HR7 := Lib.hid (GetP.row ho hps)
      have HL7 := Lib.hid hpl
      have HGO := Lib.hid ((PoGo.ahead H.out (HB2.out.trans (HB5.out.mono HB2.out.size)) hgo).old hb7)
      have HSM := Lib.hid hps
      clear ho hpl hps hgo hb7
      go_wp2_with fail
      have n1 : IntKind.i64.wrap ((sz : Int) - 0) = (sz : Int) := by rw [IntWalk.i64_in _ (by omega)]; omega
      have n2 : min (64 : Int) (sz : Int) = (sz : Int) := by omega
      have n3 : sz ≤ c6 := by omega
      have n4 : (0 : Int) ≤ (sz : Int) := by omega
      have n5 : ¬ c6 = 0 := by omega
      go_region
      rw [show (if (sz : Int) < 64 then (sz : Int) else 64).toNat = sz by split <;> omega]
      obtain ⟨v8, w8, hrun, ho8, hst8, hgr8⟩ := append_bytes' (w := w7.drew) (base := w7.heap.size) (Own.nil _ _) (c := c6) ((HR7.out.take sz).below ((Below.refl _ _).drew)) (by simp [List.length_take]; omega) (Nat.le_refl _)
      rw [show ((p.get d).take sz).length = sz by rw [List.length_take, HL7.out]; omega] at hrun
      rw [List.nil_append] at ho8
      have HRUN : Hid (AppRun 56 56 56 (.slice none 0 0) (.slice (some ⟨g6, 0, none⟩) sz c6) w7.drew v8 w8) := Lib.hid ⟨hrun⟩
      have hb8 : Below w7.heap.size w7 w8 := ((Below.refl w7.heap.size w7).drew).grown hgr8 (Nat.le_refl _) (fun k e => by cases e)
      have HG8 := Lib.hid (HGO.out.old hb8)
      have HO8 := Lib.hid (ho8.more HGO.out.size)
      obtain ⟨a8, c8, he8, _⟩ := ho8.row (fun y hy => HSM.out y (List.mem_of_mem_take hy))
      rw [show ((p.get d).take sz).length = sz by rw [List.length_take, HL7.out]; omega] at he8
      subst he8
      have l3 : IntKind.i64.wrap (0 + (sz : Int)) = (sz : Int) := by rw [IntWalk.i64_in _ (by omega)]; omega
      clear hrun ho8 hst8 hgr8 hb8
      go_wp2_with (at_builtin; refine wpList_append_run rfl (.tmp 88) (.tmp 89) rfl rfl rfl HRUN.out.run ?_)
      go_roundw
      case rel => exact .inr ⟨rfl, _, HO8.out, HG8.out⟩
      case measure => simp [intOf]; omega
    · have c1 : ¬ (sz : Int) < (sz : Int) := by omega
      have HRD := Lib.hid hrd
      clear hrd
      go_wp2_with fail
      go_ret2
      exact ⟨_, rfl, HRD.out⟩
end
end Go.Proofs.YtnfhlocflpdlcaaGreat.nd

