/-
  Rows of the same operations: told to be the same. Conditions: rows that are read.
-/
import Derived.Test.YtneoeekhinlhgaaGreatHL
namespace Go.Proofs.YtneoeekhinlhgaaGreat
open Go.RowKit

set_option maxRecDepth 100000 in
set_option maxHeartbeats 1000000 in
theorem Same_any (x y : OpE) (w : World) (he : x.o = y.o) (h : BRow w x.s x.o.bytes) (h' : BRow w y.s y.o.bytes) :
    Calls Tryz.prog 36 #[x.v, y.v] w fun e w' => e = .returned (.bool true) ∧ Below w.heap.size w w' := by
  obtain ⟨o, s, c⟩ := x
  obtain ⟨o', s', c'⟩ := y
  dsimp only at he h h'
  subst he
  obtain ⟨k, p, q, hh, n, f, b⟩ := o
  dsimp only at h h'
  have hb : Below w.heap.size w ((w.alloc (.cells (OpE.cs ⟨⟨k, p, q, hh, n, f, b⟩, s, c⟩) 48)).alloc (.cells (OpE.cs ⟨⟨k, p, q, hh, n, f, b⟩, s', c'⟩) 48)) :=
    ((Below.refl _ _).alloc (Nat.le_refl _) _).alloc (by simp) _
  have h1 := run_text (h.below hb) c
  have h2 := run_text (h'.below hb) c'
  have HB := Lib.hid hb
  clear h h' hb
  dsimp only [OpE.cs] at h1 h2
  go_enter Tryz.func36, Tryz.ntmps36
  go_wp2_with fail
  go_ret
  exact ⟨rfl, HB.out⟩

set_option maxRecDepth 100000 in
set_option maxHeartbeats 2000000 in
theorem same_any (a a' : Option Addr) (es fs : List OpE) (c c' : Nat) (w : World) (h : ORow w a es) (h' : ORow w a' fs) (he : opsOf es = opsOf fs) (hl : es.length ≤ 1000000) :
    Calls Tryz.prog 17 #[.slice a es.length c, .slice a' fs.length c'] w fun e w' => e = .returned (.bool true) ∧ Below w.heap.size w w' := by
  have HR := Lib.hid h
  have HS := Lib.hid h'
  have hlen : fs.length = es.length := by
    have := congrArg List.length he
    simpa [opsOf] using this.symm
  have hE : ∀ k, k < es.length → (es.getD k default).o = (fs.getD k default).o := fun k hk => by
    have := congrArg (fun l => l.getD k default) he
    simpa [opsOf, List.getD, hk, show k < fs.length by omega] using this
  have HE := Lib.hid hE
  rw [hlen]
  have HL := Lib.hid hlen
  clear h h' he hlen hE
  go_enter Tryz.func17, Tryz.ntmps17
  go_wp2_with fail
  go_loopw [5] (fun i wr => ∃ k : Nat, k ≤ es.length ∧ i = vi k ∧ Hid (Below w.heap.size w wr)) (fun i _ => es.length - (intOf i).toNat)
  case atStart => exact ⟨0, Nat.zero_le _, rfl, Lib.hid (Below.refl _ _)⟩
  case round =>
    obtain ⟨k, hk, rfl, hb⟩ := hrel
    by_cases hlt : k < es.length
    · obtain ⟨b, o, rfl, hc, hbx, -, -⟩ := (HR.out.below hb.out).lookup hlt
      obtain ⟨b', o', rfl, hc', hby, -, -⟩ := (HS.out.below hb.out).lookup (k := k) (by have := HL.out; omega)
      have HXY := Lib.hid (HE.out k hlt)
      generalize es.getD k default = x at hc hbx HXY
      generalize fs.getD k default = y at hc' hby HXY
      have HX := Lib.hid hbx
      have HY := Lib.hid hby
      have g0 := hc 0 _ rfl
      have g1 := hc 1 _ rfl
      have g2 := hc 2 _ rfl
      have g3 := hc 3 _ rfl
      have g4 := hc 4 _ rfl
      have g5 := hc 5 _ rfl
      have g6 := hc 6 _ rfl
      have k0 := hc' 0 _ rfl
      have k1 := hc' 1 _ rfl
      have k2 := hc' 2 _ rfl
      have k3 := hc' 3 _ rfl
      have k4 := hc' 4 _ rfl
      have k5 := hc' 5 _ rfl
      have k6 := hc' 6 _ rfl
      clear hc hc' hbx hby
      rw [Nat.add_zero] at g0 k0
      have G : Hid (∀ w', Below wr.heap.size wr w' → (w'.cell? ⟨b, o + k * 7, none⟩ = some (vi x.o.kind) ∧ w'.cell? ⟨b, o + k * 7 + 1, none⟩ = some (.string (bs x.o.path)) ∧ w'.cell? ⟨b, o + k * 7 + 2, none⟩ = some (.string (bs x.o.dest)) ∧ w'.cell? ⟨b, o + k * 7 + 3, none⟩ = some (vi x.o.handle) ∧ w'.cell? ⟨b, o + k * 7 + 4, none⟩ = some (vi x.o.n) ∧ w'.cell? ⟨b, o + k * 7 + 5, none⟩ = some (vi x.o.off) ∧ w'.cell? ⟨b, o + k * 7 + 6, none⟩ = some (.slice x.s x.o.bytes.length x.c)) ∧ (w'.cell? ⟨b', o' + k * 7, none⟩ = some (vi y.o.kind) ∧ w'.cell? ⟨b', o' + k * 7 + 1, none⟩ = some (.string (bs y.o.path)) ∧ w'.cell? ⟨b', o' + k * 7 + 2, none⟩ = some (.string (bs y.o.dest)) ∧ w'.cell? ⟨b', o' + k * 7 + 3, none⟩ = some (vi y.o.handle) ∧ w'.cell? ⟨b', o' + k * 7 + 4, none⟩ = some (vi y.o.n) ∧ w'.cell? ⟨b', o' + k * 7 + 5, none⟩ = some (vi y.o.off) ∧ w'.cell? ⟨b', o' + k * 7 + 6, none⟩ = some (.slice y.s y.o.bytes.length y.c))) := Lib.hid fun w' hw => ⟨⟨cell_below g0 hw, cell_below g1 hw, cell_below g2 hw, cell_below g3 hw, cell_below g4 hw, cell_below g5 hw, cell_below g6 hw⟩, ⟨cell_below k0 hw, cell_below k1 hw, cell_below k2 hw, cell_below k3 hw, cell_below k4 hw, cell_below k5 hw, cell_below k6 hw⟩⟩
      have B0 : Hid (Below wr.heap.size wr wr.drew) := Lib.hid (Below.refl _ _).drew
      go_wp2_with fail
      have tok1 : True := trivial
      go_region_held3 (fun w' => (w'.cell? ⟨b, o + k * 7, none⟩ = some (vi x.o.kind) ∧ w'.cell? ⟨b, o + k * 7 + 1, none⟩ = some (.string (bs x.o.path)) ∧ w'.cell? ⟨b, o + k * 7 + 2, none⟩ = some (.string (bs x.o.dest)) ∧ w'.cell? ⟨b, o + k * 7 + 3, none⟩ = some (vi x.o.handle) ∧ w'.cell? ⟨b, o + k * 7 + 4, none⟩ = some (vi x.o.n) ∧ w'.cell? ⟨b, o + k * 7 + 5, none⟩ = some (vi x.o.off) ∧ w'.cell? ⟨b, o + k * 7 + 6, none⟩ = some (.slice x.s x.o.bytes.length x.c)) ∧ (w'.cell? ⟨b', o' + k * 7, none⟩ = some (vi y.o.kind) ∧ w'.cell? ⟨b', o' + k * 7 + 1, none⟩ = some (.string (bs y.o.path)) ∧ w'.cell? ⟨b', o' + k * 7 + 2, none⟩ = some (.string (bs y.o.dest)) ∧ w'.cell? ⟨b', o' + k * 7 + 3, none⟩ = some (vi y.o.handle) ∧ w'.cell? ⟨b', o' + k * 7 + 4, none⟩ = some (vi y.o.n) ∧ w'.cell? ⟨b', o' + k * 7 + 5, none⟩ = some (vi y.o.off) ∧ w'.cell? ⟨b', o' + k * 7 + 6, none⟩ = some (.slice y.s y.o.bytes.length y.c)))
        (first
          | exact G.out _ B2.out
          | exact G.out _ B1.out
          | exact G.out _ B0.out)
        (first
          | (go_at_call 37; have _t := tok1; refine (is_any x _).mono ?_; rintro e w1 ⟨rfl, hb1⟩; clear _t tok1; have B1 := Lib.hid (B0.out.trans (hb1.mono B0.out.size)))
          | (go_at_call 36; refine (Same_any x y _ HXY.out (HX.out.below B1.out) (HY.out.below B1.out)).mono ?_; rintro e w2 ⟨rfl, hb2⟩; have B2 := Lib.hid (B1.out.trans (hb2.mono B1.out.size))))
      clear g0 g1 g2 g3 g4 g5 g6 k0 k1 k2 k3 k4 k5 k6
      go_wp2_with fail
      go_roundw
      case rel => exact ⟨k + 1, by omega, by go_num, Lib.hid (hb.out.trans (B2.out.mono hb.out.size))⟩
      case measure => simp [intOf]; omega
    · obtain rfl : k = es.length := by omega
      go_wp2_with fail
      go_ret
      exact ⟨rfl, hb.out⟩

end Go.Proofs.YtneoeekhinlhgaaGreat
