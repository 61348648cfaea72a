/-
  Lemmas for a law's proof, put together from several texts: each part says what it shows, and its conditions.
-/
import Derived.Test.YtpggkehfbhffbaaZC21
import Derived.Test.YtpggkehfbhffbaaZC23
import Derived.Test.YtpggkehfbhffbaaZC22
import Derived.RangeFuncNested
import Derived.RangeFuncBound
import Derived.RangeFuncCalls
import Derived.RangeFuncLeaves
import Derived.OwnWalkIn
import Derived.TacticsInMore
import Derived.LoopNIn
import Derived.LoopIn
import Derived.WalkMore
/-
  An operation done with a manager and with the document's. Conditions: both side by side; an operation that is read.
-/
namespace Go.Proofs.Ytpggkehfbhffbaa.mgr
open Go.RowKit

/-- What an operation does. -/
def act6 (o : Op6) (c : NP.Chp) (g : Mg) : NP.Chp × Mg :=
  if o.kind = 1 then (Mg.program o.b c g).2 else if o.kind = 2 then (c, (g.drop o.block).2) else if o.kind = 3 then (Mg.erase c g o.block).2
  else if o.kind = 4 then (Mg.retire c g o.block).2 else if o.kind = 5 then (NP.downP c, g) else if o.kind = 6 then (NP.upP c, g) else (c, g)
def Plays6 (base : Nat) (w : World) (m : Nat) (G : MgM) (M : ChM) (r : Nat) (H : R6) (R : RefM) (o : Op6) (e : Ending) (w' : World) : Prop :=
  ∃ b G' M' H' R', e = .returned (.bool b) ∧ B6Goes base w m G M r H R w' G' M' H' R' ∧ (M'.view, G'.view) = act6 o M.view G.view
section
variable {base : Nat} {w : World} {m r : Nat} {G : MgM} {M : ChM} {H : R6} {R : RefM}
theorem Plays6.mk {w' : World} {b : Bool} {G' : MgM} {M' : ChM} {H' : R6} {R' : RefM} {o : Op6} {V : NP.Chp} {g : Mg} (h : B6Goes base w m G M r H R w' G' M' H' R') (hv : M'.view = V) (hg : G'.view = g) (ha : act6 o M.view G.view = (V, g)) : Plays6 base w m G M r H R o (.returned (.bool b)) w' :=
  ⟨b, G', M', H', R', rfl, h, by rw [ha, hv, hg]⟩
theorem B6.P32 (h : B6 base w m G M r H R) : M.P ≤ 32 := (ok_dims h.good.ok).2.2.2.1
/-- The document's chip loses its power, or is started. -/
theorem R6At.power {base : Nat} {w : World} {r : Nat} {G : R6} {R : RefM} (h : R6At base w r G R) (b : Bool) : R6Goes base w r G R (w.setCell ⟨G.q, 10, none⟩ (.bool b)) G { R with down := b } := by
  refine h.chipGoes (h.chip.field (R' := { R with down := b }) 10 (.bool b) rfl rfl) ?_ rfl
  cases b
  · exact NP.up_ok h.ok
  · exact NP.down_ok h.ok
set_option maxRecDepth 100000 in
set_option maxHeartbeats 4000000 in
theorem plays6_2 (h : B6 base w m G M r H R) (o : Op6) (hk : o.kind = 2) : Calls Try.prog 51 #[ptr m, ptr G.k, ptr r, .agg o.cs] w (Plays6 base w m G M r H R o) := by
  have HD : Hid (act6 o M.view G.view = (M.view, (G.view.drop o.block).2)) := Lib.hid (by unfold act6; rw [if_neg (by omega), if_pos hk])
  obtain ⟨kind, block, ba, b, bc⟩ := o
  dsimp only at hk HD ⊢
  subst hk
  have H0 := Lib.hid h
  have F0 := Blk.new w 88 #[vi 2, vi block, .slice ba b.length bc]
  have HB := Lib.hid (alloc_box w #[vi 2, vi block, .slice ba b.length bc] 88)
  have HLT := Lib.hid h.lt
  clear h
  change Calls Try.prog 51 #[ptr m, ptr G.k, ptr r, .agg #[vi 2, vi block, .slice ba b.length bc]] w _
  go_enter Try.func51, Try.ntmps51
  go_upto_region 7 with fail
  generalize w.alloc (.cells #[vi 2, vi block, .slice ba b.length bc] 88) = w1 at *
  have H1 := Lib.hid (H0.out.old (HB.out.drew))
  have k1 : w1.drew.cell? ⟨w.heap.size, 1, none⟩ = some (vi block) := F0.drew.cell 1
  have K1 := Lib.hid k1
  have HA := Lib.hid (Drop_any H1.out.held H1.out.gok H1.out.P32 block)
  have HK : Hid (∀ w' (G' : MgM) (M' : ChM) (H' : R6) (R' : RefM), B6Goes base w1.drew m G M r H R w' G' M' H' R' → w'.cell? ⟨w.heap.size, 1, none⟩ = some (vi block)) := Lib.hid (fun w' G' M' H' R' g => by
    exact (F0.drew.chg g.chg (fun e => by have := HLT.out _ e; omega)).cell 1)
  have HG : Hid ((G.view.drop block).2.ok M.view) := Lib.hid (drop_right H1.out.gok block)
  have HBD := Lib.hid HB.out.drew
  clear F0 HB k1
  generalize (G.view.drop block).1 = n1 at *
  generalize (G.view.drop block).2 = g1 at *
  go_region_held3 (fun w' => w'.cell? ⟨w.heap.size, 1, none⟩ = some (vi block))
    (first | exact HK.out _ _ _ _ _ HGB.out | exact HK.out _ _ _ _ _ HGA.out | exact K1.out)
    (first
      | (go_at_call 40; refine HA.out.mono ?_; rintro e wa ⟨rfl, hga⟩; have HGA := Lib.hid (H1.out.left hga H1.out.good HG.out); clear hga)
      | (go_at_call 53; refine (rDrop6_any HGA.out.at_.ref block).mono ?_; rintro e wb ⟨n2, H2, R2, rfl, hgb⟩; have HGB := Lib.hid (HGA.out.right hgb); clear hgb))
  go_wp2_with fail
  go_ret
  exact .mk ((B6Goes.of_old H0.out HBD.out).trans HGB.out) rfl rfl HD.out
set_option maxRecDepth 100000 in
set_option maxHeartbeats 4000000 in
theorem plays6_3 (h : B6 base w m G M r H R) (o : Op6) (hk : o.kind = 3) : Calls Try.prog 51 #[ptr m, ptr G.k, ptr r, .agg o.cs] w (Plays6 base w m G M r H R o) := by
  have HD : Hid (act6 o M.view G.view = (Mg.erase M.view G.view o.block).2) := Lib.hid (by unfold act6; rw [if_neg (by omega)]; rw [if_neg (by omega)]; rw [if_pos hk])
  obtain ⟨kind, block, ba, b, bc⟩ := o
  dsimp only at hk HD ⊢
  subst hk
  have H0 := Lib.hid h
  have F0 := Blk.new w 88 #[vi 3, vi block, .slice ba b.length bc]
  have HB := Lib.hid (alloc_box w #[vi 3, vi block, .slice ba b.length bc] 88)
  have HLT := Lib.hid h.lt
  clear h
  change Calls Try.prog 51 #[ptr m, ptr G.k, ptr r, .agg #[vi 3, vi block, .slice ba b.length bc]] w _
  go_enter Try.func51, Try.ntmps51
  go_upto_region 9 with fail
  generalize w.alloc (.cells #[vi 3, vi block, .slice ba b.length bc] 88) = w1 at *
  have H1 := Lib.hid (H0.out.old (HB.out.drew))
  have k1 : w1.drew.cell? ⟨w.heap.size, 1, none⟩ = some (vi block) := F0.drew.cell 1
  have K1 := Lib.hid k1
  have HA : Hid (Calls Try.prog 41 #[ptr m, vi block] w1.drew fun e w' => ∃ M', e = .returned (vi (Mg.erase M.view G.view block).1) ∧ HGoes base w1.drew m G M w' (Mg.erase M.view G.view block).2.2 M' ∧ M'.view = (Mg.erase M.view G.view block).2.1) := Lib.hid (Erase_any H1.out.held H1.out.good.ok block)
  have HK : Hid (∀ w' (G' : MgM) (M' : ChM) (H' : R6) (R' : RefM), B6Goes base w1.drew m G M r H R w' G' M' H' R' → w'.cell? ⟨w.heap.size, 1, none⟩ = some (vi block)) := Lib.hid (fun w' G' M' H' R' g => by
    exact (F0.drew.chg g.chg (fun e => by have := HLT.out _ e; omega)).cell 1)
  have HG1 : Hid (Good6 (Mg.erase M.view G.view block).2.1) := Lib.hid ((erase_acts6 block).good H1.out.good)
  have HG : Hid ((Mg.erase M.view G.view block).2.2.ok (Mg.erase M.view G.view block).2.1) := Lib.hid (erase_right H1.out.gok block)
  have HBD := Lib.hid HB.out.drew
  clear F0 HB k1
  generalize Mg.erase M.view G.view block = q at *
  obtain ⟨n1, V1, g1⟩ := q
  dsimp only at HA HG HG1 HD
  go_region_held3 (fun w' => w'.cell? ⟨w.heap.size, 1, none⟩ = some (vi block))
    (first | exact HK.out _ _ _ _ _ HGB.out | exact HK.out _ _ _ _ _ HGA.out | exact K1.out)
    (first
      | (go_at_call 41; refine HA.out.mono ?_; rintro e wa ⟨Ma, rfl, hga, hva⟩; have HVA := Lib.hid hva; have HGA := Lib.hid (H1.out.left hga (by rw [hva]; exact HG1.out) (by rw [hva]; exact HG.out)); clear hga hva)
      | (go_at_call 96; refine (rErase6_any HGA.out.at_.ref block).mono ?_; rintro e wb ⟨n2, H2, R2, rfl, hgb⟩; have HGB := Lib.hid (HGA.out.right hgb); clear hgb))
  go_wp2_with fail
  go_ret
  exact .mk ((B6Goes.of_old H0.out HBD.out).trans HGB.out) HVA.out rfl HD.out
set_option maxRecDepth 100000 in
set_option maxHeartbeats 4000000 in
theorem plays6_4 (h : B6 base w m G M r H R) (o : Op6) (hk : o.kind = 4) : Calls Try.prog 51 #[ptr m, ptr G.k, ptr r, .agg o.cs] w (Plays6 base w m G M r H R o) := by
  have HD : Hid (act6 o M.view G.view = (Mg.retire M.view G.view o.block).2) := Lib.hid (by unfold act6; rw [if_neg (by omega)]; rw [if_neg (by omega)]; rw [if_neg (by omega)]; rw [if_pos hk])
  obtain ⟨kind, block, ba, b, bc⟩ := o
  dsimp only at hk HD ⊢
  subst hk
  have H0 := Lib.hid h
  have F0 := Blk.new w 88 #[vi 4, vi block, .slice ba b.length bc]
  have HB := Lib.hid (alloc_box w #[vi 4, vi block, .slice ba b.length bc] 88)
  have HLT := Lib.hid h.lt
  clear h
  change Calls Try.prog 51 #[ptr m, ptr G.k, ptr r, .agg #[vi 4, vi block, .slice ba b.length bc]] w _
  go_enter Try.func51, Try.ntmps51
  go_upto_region 11 with fail
  generalize w.alloc (.cells #[vi 4, vi block, .slice ba b.length bc] 88) = w1 at *
  have H1 := Lib.hid (H0.out.old (HB.out.drew))
  have k1 : w1.drew.cell? ⟨w.heap.size, 1, none⟩ = some (vi block) := F0.drew.cell 1
  have K1 := Lib.hid k1
  have HA : Hid (Calls Try.prog 42 #[ptr m, vi block] w1.drew fun e w' => ∃ M', e = .returned (vi (Mg.retire M.view G.view block).1) ∧ HGoes base w1.drew m G M w' (Mg.retire M.view G.view block).2.2 M' ∧ M'.view = (Mg.retire M.view G.view block).2.1) := Lib.hid (Retire_any H1.out.held H1.out.good.ok block)
  have HK : Hid (∀ w' (G' : MgM) (M' : ChM) (H' : R6) (R' : RefM), B6Goes base w1.drew m G M r H R w' G' M' H' R' → w'.cell? ⟨w.heap.size, 1, none⟩ = some (vi block)) := Lib.hid (fun w' G' M' H' R' g => by
    exact (F0.drew.chg g.chg (fun e => by have := HLT.out _ e; omega)).cell 1)
  have HG1 : Hid (Good6 (Mg.retire M.view G.view block).2.1) := Lib.hid ((retire_acts block).good H1.out.good)
  have HG : Hid ((Mg.retire M.view G.view block).2.2.ok (Mg.retire M.view G.view block).2.1) := Lib.hid (retire_right H1.out.gok block)
  have HBD := Lib.hid HB.out.drew
  clear F0 HB k1
  generalize Mg.retire M.view G.view block = q at *
  obtain ⟨n1, V1, g1⟩ := q
  dsimp only at HA HG HG1 HD
  go_region_held3 (fun w' => w'.cell? ⟨w.heap.size, 1, none⟩ = some (vi block))
    (first | exact HK.out _ _ _ _ _ HGB.out | exact HK.out _ _ _ _ _ HGA.out | exact K1.out)
    (first
      | (go_at_call 42; refine HA.out.mono ?_; rintro e wa ⟨Ma, rfl, hga, hva⟩; have HVA := Lib.hid hva; have HGA := Lib.hid (H1.out.left hga (by rw [hva]; exact HG1.out) (by rw [hva]; exact HG.out)); clear hga hva)
      | (go_at_call 97; refine (rRetire6_any HGA.out.at_.ref block).mono ?_; rintro e wb ⟨n2, H2, R2, rfl, hgb⟩; have HGB := Lib.hid (HGA.out.right hgb); clear hgb))
  go_wp2_with fail
  go_ret
  exact .mk ((B6Goes.of_old H0.out HBD.out).trans HGB.out) HVA.out rfl HD.out
set_option maxRecDepth 100000 in
set_option maxHeartbeats 4000000 in
theorem plays6_1 (h : B6 base w m G M r H R) (o : Op6) (ho : o.ok base w) (hk : o.kind = 1) : Calls Try.prog 51 #[ptr m, ptr G.k, ptr r, .agg o.cs] w (Plays6 base w m G M r H R o) := by
  have HD : Hid (act6 o M.view G.view = (Mg.program o.b M.view G.view).2) := Lib.hid (by unfold act6; rw [if_pos hk])
  obtain ⟨kind, block, ba, b, bc⟩ := o
  have HR := Lib.hid ho.row
  dsimp only at hk HD HR ⊢
  subst hk
  have H0 := Lib.hid h
  have F0 := Lib.hid (Blk.new w 88 #[vi 1, vi block, .slice ba b.length bc])
  have HB := Lib.hid (alloc_box w #[vi 1, vi block, .slice ba b.length bc] 88)
  have HLT := Lib.hid h.lt
  clear h ho
  change Calls Try.prog 51 #[ptr m, ptr G.k, ptr r, .agg #[vi 1, vi block, .slice ba b.length bc]] w _
  go_enter Try.func51, Try.ntmps51
  go_upto_region 3 with fail
  generalize w.alloc (.cells #[vi 1, vi block, .slice ba b.length bc] 88) = w1 at *
  have H1 := Lib.hid (H0.out.old HB.out)
  have HR1 := Lib.hid (HR.out.old HB.out)
  have k2 : w1.cell? ⟨w.heap.size, 2, none⟩ = some (.slice ba b.length bc) := F0.out.cell 2
  go_wp2_with fail
  refine (Program_any H1.out.held H1.out.good.ok H1.out.gok ba b bc HR1.out).mono ?_
  rintro e wa ⟨Ma, rfl, hga, hva⟩
  have HVA := Lib.hid hva
  have HGA := Lib.hid (H1.out.left hga (by rw [hva]; exact (program_acts6 HR.out.row.small).good H1.out.good) (by rw [hva]; exact program_right HR.out.row.small H1.out.good H1.out.gok))
  have k2 : wa.cell? ⟨w.heap.size, 2, none⟩ = some (.slice ba b.length bc) := (F0.out.chg HGA.out.chg (fun e => by have := HLT.out _ e; omega)).cell 2
  clear hga hva
  have HRA := Lib.hid (HR1.out.chg HGA.out.chg H1.out.mine)
  go_wp2_with fail
  refine (rProgram6_any HGA.out.at_.ref ba b bc HRA.out).mono ?_
  rintro e wb ⟨x, y, z, H2, R2, rfl, hgb⟩
  have HGB := Lib.hid (HGA.out.right hgb)
  clear hgb k2
  generalize Mg.program b M.view G.view = q at *
  obtain ⟨⟨x1, y1, z1⟩, V1, g1⟩ := q
  dsimp only at HGB HVA HD HGA
  have hx : (x1 == x) = true ∨ (x1 == x) = false := by cases (x1 == x) <;> simp
  have hy : (y1 == y) = true ∨ (y1 == y) = false := by cases (y1 == y) <;> simp
  rcases hx with hx | hx
  · rcases hy with hy | hy
    · go_wp2_with fail
      go_ret
      exact .mk ((B6Goes.of_old H0.out HB.out).trans HGB.out) HVA.out rfl HD.out
    · go_wp2_with fail
      go_ret
      exact .mk ((B6Goes.of_old H0.out HB.out).trans HGB.out) HVA.out rfl HD.out
  · go_wp2_with fail
    go_ret
    exact .mk ((B6Goes.of_old H0.out HB.out).trans HGB.out) HVA.out rfl HD.out
set_option maxRecDepth 100000 in
set_option maxHeartbeats 4000000 in
theorem plays6_5 (h : B6 base w m G M r H R) (o : Op6) (hk : o.kind = 5) : Calls Try.prog 51 #[ptr m, ptr G.k, ptr r, .agg o.cs] w (Plays6 base w m G M r H R o) := by
  have HD : Hid (act6 o M.view G.view = (NP.downP M.view, G.view)) := Lib.hid (by unfold act6; rw [if_neg (by omega)]; rw [if_neg (by omega)]; rw [if_neg (by omega)]; rw [if_neg (by omega)]; rw [if_pos hk])
  obtain ⟨kind, block, ba, b, bc⟩ := o
  dsimp only at hk HD ⊢
  subst hk
  have H0 := Lib.hid h
  have HB := Lib.hid (alloc_box w #[vi 5, vi block, .slice ba b.length bc] 88)
  clear h
  change Calls Try.prog 51 #[ptr m, ptr G.k, ptr r, .agg #[vi 5, vi block, .slice ba b.length bc]] w _
  go_enter Try.func51, Try.ntmps51
  go_upto_region 13 with fail
  generalize w.alloc (.cells #[vi 5, vi block, .slice ba b.length bc] 88) = w1 at *
  have H1 := Lib.hid (H0.out.old HB.out)
  go_wp2_with fail
  refine (Lose_any H1.out.held.chip).mono ?_
  rintro e wa ⟨rfl, hga⟩
  have HGA := Lib.hid (H1.out.left (H1.out.held.chipGoes hga) (H1.out.good.act .lose trivial) (H1.out.gok.acts (ActsN.one (E := fun _ => False) .lose trivial (fun k e => by cases e))))
  clear hga
  have c0 := HGA.out.at_.ref.cell.1
  have c10 : wa.cell? ⟨H.q, 10, none⟩ = some (.bool R.down) := HGA.out.at_.ref.chip.chip.cell 10
  have z10 := HGA.out.at_.ref.chip.chip.frozen 10
  have HGB := Lib.hid (HGA.out.right (HGA.out.at_.ref.power true))
  go_wp2_with fail
  go_ret
  exact .mk ((B6Goes.of_old H0.out HB.out).trans HGB.out) rfl rfl HD.out
set_option maxRecDepth 100000 in
set_option maxHeartbeats 4000000 in
theorem plays6_6 (h : B6 base w m G M r H R) (o : Op6) (hk : o.kind = 6) : Calls Try.prog 51 #[ptr m, ptr G.k, ptr r, .agg o.cs] w (Plays6 base w m G M r H R o) := by
  have HD : Hid (act6 o M.view G.view = (NP.upP M.view, G.view)) := Lib.hid (by unfold act6; rw [if_neg (by omega)]; rw [if_neg (by omega)]; rw [if_neg (by omega)]; rw [if_neg (by omega)]; rw [if_neg (by omega)]; rw [if_pos hk])
  obtain ⟨kind, block, ba, b, bc⟩ := o
  dsimp only at hk HD ⊢
  subst hk
  have H0 := Lib.hid h
  have HB := Lib.hid (alloc_box w #[vi 6, vi block, .slice ba b.length bc] 88)
  clear h
  change Calls Try.prog 51 #[ptr m, ptr G.k, ptr r, .agg #[vi 6, vi block, .slice ba b.length bc]] w _
  go_enter Try.func51, Try.ntmps51
  go_upto_region 16 with fail
  generalize w.alloc (.cells #[vi 6, vi block, .slice ba b.length bc] 88) = w1 at *
  have H1 := Lib.hid (H0.out.old HB.out)
  go_wp2_with fail
  refine (Start_any H1.out.held.chip).mono ?_
  rintro e wa ⟨rfl, hga⟩
  have HGA := Lib.hid (H1.out.left (H1.out.held.chipGoes hga) (H1.out.good.act .start trivial) (H1.out.gok.acts (ActsN.one (E := fun _ => False) .start trivial (fun k e => by cases e))))
  clear hga
  have c0 := HGA.out.at_.ref.cell.1
  have c10 : wa.cell? ⟨H.q, 10, none⟩ = some (.bool R.down) := HGA.out.at_.ref.chip.chip.cell 10
  have z10 := HGA.out.at_.ref.chip.chip.frozen 10
  have HGB := Lib.hid (HGA.out.right (HGA.out.at_.ref.power false))
  go_wp2_with fail
  go_ret
  exact .mk ((B6Goes.of_old H0.out HB.out).trans HGB.out) rfl rfl HD.out
set_option maxRecDepth 100000 in
set_option maxHeartbeats 4000000 in
theorem plays6_0 (h : B6 base w m G M r H R) (o : Op6) (h1 : ¬ o.kind = 1) (h2 : ¬ o.kind = 2) (h3 : ¬ o.kind = 3) (h4 : ¬ o.kind = 4) (h5 : ¬ o.kind = 5) (h6 : ¬ o.kind = 6) : Calls Try.prog 51 #[ptr m, ptr G.k, ptr r, .agg o.cs] w (Plays6 base w m G M r H R o) := by
  have HD : Hid (act6 o M.view G.view = (M.view, G.view)) := Lib.hid (by unfold act6; rw [if_neg h1, if_neg h2, if_neg h3, if_neg h4, if_neg h5, if_neg h6])
  obtain ⟨kind, block, ba, b, bc⟩ := o
  dsimp only at h1 h2 h3 h4 h5 h6 HD ⊢
  have H0 := Lib.hid h
  have HB := Lib.hid (alloc_box w #[vi kind, vi block, .slice ba b.length bc] 88)
  clear h
  change Calls Try.prog 51 #[ptr m, ptr G.k, ptr r, .agg #[vi kind, vi block, .slice ba b.length bc]] w _
  go_enter Try.func51, Try.ntmps51
  go_wp2_with fail
  go_ret
  exact .mk (B6Goes.of_old H0.out HB.out) rfl rfl HD.out
theorem plays6_any (h : B6 base w m G M r H R) (o : Op6) (ho : o.ok base w) : Calls Try.prog 51 #[ptr m, ptr G.k, ptr r, .agg o.cs] w (Plays6 base w m G M r H R o) := by
  by_cases h1 : o.kind = 1
  · exact plays6_1 h o ho h1
  by_cases h2 : o.kind = 2
  · exact plays6_2 h o h2
  by_cases h3 : o.kind = 3
  · exact plays6_3 h o h3
  by_cases h4 : o.kind = 4
  · exact plays6_4 h o h4
  by_cases h5 : o.kind = 5
  · exact plays6_5 h o h5
  by_cases h6 : o.kind = 6
  · exact plays6_6 h o h6
  exact plays6_0 h o h1 h2 h3 h4 h5 h6
end

end Go.Proofs.Ytpggkehfbhffbaa.mgr

/-
  What BlkReads keeps: places and texts beside both managers. Conditions: rows of the call's own; both managers side by side.
-/
namespace Go.Proofs.Ytpggkehfbhffbaa.mgr
open Go.RowKit

/-- A place, and what was programmed there. -/
structure Pt where
  k : Int
  p : Int
  a : Option Addr
  b : List Nat
  c : Nat
instance : Inhabited Pt := ⟨⟨0, 0, none, [], 0⟩⟩
def Pt.cs (x : Pt) : List Value := [vi x.k, vi x.p]
abbrev Pt.v (x : Pt) : Value := .slice x.a x.b.length x.c
theorem Pt.cs_len (x : Pt) : x.cs.length = 2 := rfl
/-- It is looked at no more, or it is there. -/
def Pt.ok (V : NP.Chp) (x : Pt) : Prop := x.k < 0 ∨ (0 ≤ x.k ∧ x.k < V.B ∧ 0 ≤ x.p ∧ x.p < V.P ∧ x.b ≠ [] ∧ (V.blk x.k.toNat).page x.p.toNat = x.b)
theorem Pt.ok.kept {E : Int → Prop} {V V' : NP.Chp} {x : Pt} (h : x.ok V) (q : ActsN E V V') (hg : Good6 V) (hE : 0 ≤ x.k → ¬ E x.k) : x.ok V' := by
  rcases h with h | ⟨h1, h2, h3, h4, h5, h6⟩
  · exact .inl h
  · refine .inr ⟨h1, by rw [q.dims.1]; exact h2, h3, by rw [q.dims.2.1]; exact h4, h5, ?_⟩
    rw [q.kept hg (by rw [Int.toNat_of_nonneg h1]; exact hE h1) (by rw [h6]; exact h5), h6]
theorem act6_acts (o : Op6) (hb : ∀ y ∈ o.b, y < 256) (c : NP.Chp) (g : Mg) : ActsN (fun j => o.kind = 3 ∧ j = o.block) c (act6 o c g).1 := by
  unfold act6
  split
  · exact (program_acts6 hb).mono (fun _ e => e.elim)
  split
  · exact .refl
  split
  · rename_i h; exact (erase_acts6 o.block).mono (fun j e => ⟨h, e⟩)
  split
  · exact (retire_acts o.block).mono (fun _ e => e.elim)
  split
  · exact .one .lose trivial (fun k e => by cases e)
  split
  · exact .one .start trivial (fun k e => by cases e)
  · exact .refl

/-- One element appended to a row of the call's own, and where the row lies then. -/
theorem append_el {T t : TypeId} {z : Value} {size bytes : Nat} (hT : Try.prog.underlying T = some (.slice t)) (hinfo : (Try.prog.info? t).map (fun i => (i.zero, i.size, i.bytes)) = some (some z, size, bytes)) (hz : z.cells.size = size) (hs : 0 < size) (hby : bytes ≤ 100)
    {w : World} {base n : Nat} {v : Value} {xs : List Value} (hown : w.ownsRow base t size v n xs) (cs : List Value) (hcs : cs.length = size) (h1 : ∀ u ∈ cs, u.oneCell' = true) (hn : n + 1 ≤ 1000000) (hb : base ≤ w.heap.size) :
    ∃ v' w', AppRun T T T v (.slice (some ⟨w.heap.size, 0, none⟩) 1 1) (w.alloc (.cells cs.toArray t)) v' w' ∧ w'.ownsRow base t size v' (n + 1) (xs ++ cs) ∧ (w.alloc (.cells cs.toArray t)).grownBy w' v.ownBlock ∧ (v'.ownBlock = v.ownBlock ∨ v'.ownBlock = some (w.heap.size + 1)) := by
  obtain ⟨i0, hi, hz0, hz1, hz2⟩ := info_parts hinfo
  have hown' := own_old hown ((Below.refl _ w).alloc (Nat.le_refl _) (.cells cs.toArray t))
  obtain ⟨v', w', h2, h3, h4, _, h5⟩ := run_append_own_at (P := Try.prog) (w.alloc (.cells cs.toArray t)) base T T t i0 z size bytes hT hi hz0 hz1 hz2 hz hs v n xs hown' ⟨w.heap.size, 0, none⟩ 1 1 cs (by omega) (fun j u hu => by
      rw [add_plain, Nat.zero_add, (Blk.new w t cs.toArray).cell]
      simpa using hu) h1 (by unfold maxLen; omega) (Nat.le_trans (Nat.mul_le_mul_left _ hby) (by omega)) (by rw [size_alloc]; omega)
  exact ⟨v', w', ⟨h2⟩, h3, h4, by rw [size_alloc] at h5; exact h5⟩
theorem pair_info : (Try.prog.info? 89).map (fun i => (i.zero, i.size, i.bytes)) = some (some (.agg #[vi 0, vi 0]), 2, 16) := by kernel_rfl

structure Rd (base : Nat) (w0 : World) (m : Nat) (G : MgM) (M : ChM) (r : Nat) (H : R6) (R : RefM) (vp vt : Value) (l : List Pt) (wr : World) : Prop where
  b6 : B6 base wr m G M r H R
  below : Below base w0 wr
  low : base ≤ wr.heap.size
  op : wr.ownsRow base 89 2 vp l.length (l.flatMap Pt.cs)
  ot : wr.ownsRow base 32 1 vt l.length (l.map Pt.v)
  dp : ∀ g, vp.ownBlock = some g → ¬ foot2 m G M r H R g
  dt : ∀ g, vt.ownBlock = some g → ¬ foot2 m G M r H R g
  rows : ∀ x ∈ l, SRow base wr x.a x.b
  pts : ∀ x ∈ l, x.ok M.view
section
variable {base : Nat} {w0 wr w' w'' : World} {m r : Nat} {G G' : MgM} {M M' : ChM} {H H' : R6} {R R' : RefM} {vp vt v' : Value} {l : List Pt}
theorem Rd.old (h : Rd base w0 m G M r H R vp vt l wr) (b : Below wr.heap.size wr w') : Rd base w0 m G M r H R vp vt l w' :=
  ⟨h.b6.old b, h.below.trans (b.mono h.low), Nat.le_trans h.low b.size, own_old h.op b, own_old h.ot b, h.dp, h.dt, fun x hx => (h.rows x hx).old b, h.pts⟩
theorem own_chg {F : Nat → Prop} {w w' : World} {base size n : Nat} {t : TypeId} {v : Value} {xs : List Value} (h : w.ownsRow base t size v n xs) (q : Chg F w w') (hn : ∀ g, v.ownBlock = some g → ¬ F g) : w'.ownsRow base t size v n xs := by
  refine ⟨h.1, ?_⟩
  rcases h.2 with h1 | ⟨g, cap, cur, hv, hb, hg, h1⟩
  · exact .inl h1
  · have hl : g < w.heap.size := by
      have : Blk w g t cur := hg
      exact this.lt
    exact .inr ⟨g, cap, cur, hv, hb, (q.block g hl (hn g (by rw [hv]; rfl))).trans hg, h1⟩
theorem Rd.goes (h : Rd base w0 m G M r H R vp vt l wr) (q : B6Goes base wr m G M r H R w' G' M' H' R') (hp : ∀ x ∈ l, x.ok M'.view) : Rd base w0 m G' M' r H' R' vp vt l w' := by
  have hl : ∀ {t : TypeId} {size n : Nat} {v : Value} {xs : List Value}, wr.ownsRow base t size v n xs → (∀ g, v.ownBlock = some g → ¬ foot2 m G M r H R g) → ∀ g, v.ownBlock = some g → ¬ foot2 m G' M' r H' R' g := by
    intro t size n v xs ho hd g e e2
    rcases q.foot g e2 with e3 | e3
    · exact hd g e e3
    · obtain ⟨_, cur, hb⟩ := own_row ho g e
      have := hb.lt
      omega
  exact ⟨q.at_, h.below.trans (q.chg.to_below (fun n _ e => h.b6.low n e) h.low), Nat.le_trans h.low q.chg.size, own_chg h.op q.chg h.dp, own_chg h.ot q.chg h.dt, hl h.op h.dp, hl h.ot h.dt, fun x hx => (h.rows x hx).chg q.chg h.b6.mine, hp⟩
/-- A row of the call's own goes. -/
theorem B6.grown {t : TypeId} {size n : Nat} {v : Value} {xs : List Value} (h : B6 base wr m G M r H R) (ho : wr.ownsRow base t size v n xs) (hd : ∀ g, v.ownBlock = some g → ¬ foot2 m G M r H R g) (ht : dataT t = false) (q : wr.grownBy w' v.ownBlock) :
    Chg (fun n => v.ownBlock = some n) wr w' ∧ (∀ n, v.ownBlock = some n → Mine base wr n) ∧ B6 base w' m G M r H R := by
  have hc : Chg (fun n => v.ownBlock = some n) wr w' := (Chg.refl _ wr).grown q (fun k e => .inl e)
  have hm : ∀ n, v.ownBlock = some n → Mine base wr n := fun n e => by
    obtain ⟨h1, cur, hb⟩ := own_row ho n e
    exact ⟨h1, t, cur, ht, hb⟩
  exact ⟨hc, hm, h.chg hc hm (fun n e e2 => hd n e2 e)⟩
theorem Rd.addP (h : Rd base w0 m G M r H R vp vt l wr) (k p : Int) (hn : l.length + 1 ≤ 1000000) :
    ∃ v' w', AppRun 86 86 86 vp (.slice (some ⟨wr.heap.size, 0, none⟩) 1 1) (wr.alloc (.cells #[vi k, vi p] 89)) v' w' ∧ B6 base w' m G M r H R ∧ Below base w0 w' ∧ base ≤ w'.heap.size ∧
      w'.ownsRow base 89 2 v' (l.length + 1) (l.flatMap Pt.cs ++ [vi k, vi p]) ∧ w'.ownsRow base 32 1 vt l.length (l.map Pt.v) ∧ (∀ g, v'.ownBlock = some g → ¬ foot2 m G M r H R g) ∧ (∀ a b, SRow base wr a b → SRow base w' a b) ∧ (∀ (g : Nat) (t : TypeId) (cs : Array Value), t ≠ 89 → Blk wr g t cs → Blk w' g t cs) := by
  obtain ⟨v', w', h1, h2, h3, h4⟩ := append_el Try.underlying86 pair_info rfl (by decide) (by decide) h.op [vi k, vi p] rfl (by intro u hu; simp at hu; rcases hu with rfl | rfl <;> rfl) hn h.low
  have hA := h.old ((Below.refl _ wr).alloc (Nat.le_refl _) (.cells #[vi k, vi p] 89))
  obtain ⟨q1, q2, q3⟩ := hA.b6.grown hA.op hA.dp (by decide) h3
  refine ⟨v', w', h1, q3, hA.below.grown h3 hA.low (fun b e => (own_row hA.op b e).1), Nat.le_trans hA.low h3.size, h2, World.ownsRow.kept hA.ot h3 (own_ne hA.ot hA.op (by decide)), ?_, fun a b hs => ?_, fun g t cs ht hg => (hg.alloc _).grown h3 (own_blk_ne hA.op (hg.alloc _) ht)⟩
  · intro g e e2
    rcases h4 with h4 | h4
    · exact h.dp g (h4.symm.trans e) e2
    · rw [h4] at e
      injection e with e
      have := h.b6.lt g e2
      omega
  · exact (hs.old ((Below.refl _ wr).alloc (Nat.le_refl _) _)).chg q1 q2
/-- A place more. -/
theorem Rd.addT (h1 : B6 base wr m G M r H R) (h2 : Below base w0 wr) (h3 : base ≤ wr.heap.size) (x : Pt) (h4 : wr.ownsRow base 89 2 vp (l.length + 1) (l.flatMap Pt.cs ++ [vi x.k, vi x.p])) (h5 : wr.ownsRow base 32 1 vt l.length (l.map Pt.v)) (h6 : ∀ g, vp.ownBlock = some g → ¬ foot2 m G M r H R g)
    (h7 : ∀ g, vt.ownBlock = some g → ¬ foot2 m G M r H R g) (h8 : ∀ y ∈ l, SRow base wr y.a y.b) (h9 : SRow base wr x.a x.b) (h10 : ∀ y ∈ l, y.ok M.view) (h11 : x.ok M.view) (hn : l.length + 1 ≤ 1000000) :
    ∃ v' w', AppRun 51 51 51 vt (.slice (some ⟨wr.heap.size, 0, none⟩) 1 1) (wr.alloc (.cells #[x.v] 32)) v' w' ∧ Rd base w0 m G M r H R vp v' (l ++ [x]) w' := by
  obtain ⟨v', w', g1, g2, g3, g4⟩ := append_el Try.underlying51 pages_info rfl (by decide) (by decide) h5 [x.v] rfl (by intro u hu; simp at hu; subst hu; rfl) hn h3
  have hb := (Below.refl _ wr).alloc (Nat.le_refl _) (.cells #[x.v] 32)
  have hA := h1.old hb
  have h5' := own_old h5 hb
  have h4' := own_old h4 hb
  obtain ⟨q1, q2, q3⟩ := hA.grown h5' h7 (by decide) g3
  refine ⟨v', w', g1, q3, (h2.trans (hb.mono h3)).grown g3 (Nat.le_trans h3 hb.size) (fun b e => (own_row h5' b e).1), Nat.le_trans (Nat.le_trans h3 hb.size) g3.size, ?_, ?_, h6, ?_, ?_, ?_⟩
  · have := World.ownsRow.kept h4' g3 (own_ne h4' h5' (by decide))
    rw [List.length_append, List.flatMap_append]
    simpa [Pt.cs] using this
  · rw [List.length_append, List.map_append]
    exact g2
  · intro g e e2
    rcases g4 with g4 | g4
    · exact h7 g (g4.symm.trans e) e2
    · rw [g4] at e
      injection e with e
      have := h1.lt g e2
      omega
  · intro y hy
    rcases List.mem_append.1 hy with hy | hy
    · exact ((h8 y hy).old hb).chg q1 q2
    · rw [List.mem_singleton] at hy
      subst hy
      exact (h9.old hb).chg q1 q2
  · intro y hy
    rcases List.mem_append.1 hy with hy | hy
    · exact h10 y hy
    · rw [List.mem_singleton] at hy
      subst hy
      exact h11
theorem Rd.nil (h : B6 base wr m G M r H R) (hb : Below base w0 wr) (hl : base ≤ wr.heap.size) : Rd base w0 m G M r H R (.slice none 0 0) (.slice none 0 0) [] wr :=
  ⟨h, hb, hl, World.ownsRow_nil _ _ _ _, World.ownsRow_nil _ _ _ _, (by intro g e; simp [Value.ownBlock] at e), (by intro g e; simp [Value.ownBlock] at e), (by simp), (by simp)⟩
/-- Where the places lie. -/
theorem Rd.at_p (h : Rd base w0 m G M r H R vp vt l wr) (hl : 0 < l.length) : ∃ g c, vp = .slice (some ⟨g, 0, none⟩) l.length c ∧ base ≤ g ∧ (∀ i, i < l.length → wr.cell? ⟨g, i * 2, none⟩ = some (vi (l.getD i default).k) ∧ wr.cell? ⟨g, i * 2 + 1, none⟩ = some (vi (l.getD i default).p)) ∧ (∀ j, wr.frozen? ⟨g, j, none⟩ = false) := by
  obtain ⟨g, c, rfl, ha, hg⟩ := Arr.of_own h.op hl
  have hc : ∀ i, i < l.length → ∀ j, j < 2 → wr.cell? ⟨g, i * 2 + j, none⟩ = (l.getD i default).cs[j]? := fun i hi j hj => by
    rw [ha.cell (by omega), flat_get Pt.cs_len default _ _ _ hi hj]
  exact ⟨g, c, rfl, hg, fun i hi => ⟨hc i hi 0 (by decide), hc i hi 1 (by decide)⟩, fun j => ha.frozen j⟩
theorem Rd.at_t (h : Rd base w0 m G M r H R vp vt l wr) (hl : 0 < l.length) : ∃ g c, vt = .slice (some ⟨g, 0, none⟩) l.length c ∧ ∀ i, i < l.length → wr.cell? ⟨g, i, none⟩ = some (l.getD i default).v := by
  obtain ⟨g, c, rfl, ha, hg⟩ := Arr.of_own h.ot hl
  refine ⟨g, c, rfl, fun i hi => ?_⟩
  rw [ha.cell (by omega), List.getElem?_map, List.getD_eq_getElem?_getD, List.getElem?_eq_getElem hi]
  rfl
theorem Rd.cell_p {g n c : Nat} (h : Rd base w0 m G M r H R (.slice (some ⟨g, 0, none⟩) n c) vt l wr) {i : Nat} (hi : i < l.length) : wr.cell? ⟨g, i * 2, none⟩ = some (vi (l.getD i default).k) ∧ wr.cell? ⟨g, i * 2 + 1, none⟩ = some (vi (l.getD i default).p) ∧ wr.frozen? ⟨g, i * 2, none⟩ = false ∧ n = l.length := by
  obtain ⟨g', c', e, _, hc, hz⟩ := h.at_p (by omega)
  injection e with e1 e2 e3
  injection e1 with e1
  injection e1 with e1
  subst e1
  exact ⟨(hc i hi).1, (hc i hi).2, hz _, e2⟩
theorem Rd.cell_t {g n c : Nat} (h : Rd base w0 m G M r H R vp (.slice (some ⟨g, 0, none⟩) n c) l wr) {i : Nat} (hi : i < l.length) : wr.cell? ⟨g, i, none⟩ = some (l.getD i default).v := by
  obtain ⟨g', c', e, hc⟩ := h.at_t (by omega)
  injection e with e1 e2 e3
  injection e1 with e1
  injection e1 with e1
  subst e1
  exact hc i hi
/-- Of a place that is there the bytes are read. -/
theorem read_there {V : NP.Chp} (hd : V.down = false) {x : Pt} (h : x.ok V) (h0 : ¬ x.k < 0) : NP.readP V x.k x.p = ((x.b, 0), { V with reads := NP.w64 (V.reads + 1) }) := by
  rcases h with h | ⟨h1, h2, h3, h4, h5, h6⟩
  · exact absurd h h0
  · have ha : NP.asked V x.k x.p = 0 := by
      unfold NP.asked
      rw [hd, if_neg (by decide), if_pos ⟨h1, h2, h3, h4⟩]
    unfold NP.readP
    dsimp only
    rw [if_pos ha, h6, if_neg h5]
/-- A place is looked at no more. -/
theorem Rd.mark {g n c : Nat} (h : Rd base w0 m G M r H R (.slice (some ⟨g, 0, none⟩) n c) vt l wr) {i : Nat} (hi : i < l.length) :
    Rd base w0 m G M r H R (.slice (some ⟨g, 0, none⟩) n c) vt (l.set i { l.getD i default with k := -1 }) (wr.setCell ⟨g, i * 2, none⟩ (vi (-1))) := by
  have hgr : wr.grownBy (wr.setCell ⟨g, i * 2, none⟩ (vi (-1))) (some g) := set_grown wr g (i * 2) (vi (-1))
  obtain ⟨q1, q2, q3⟩ := h.b6.grown (v := .slice (some ⟨g, 0, none⟩) n c) h.op h.dp (by decide) hgr
  have hm : ∀ x ∈ l.set i { l.getD i default with k := -1 }, x ∈ l ∨ x = { l.getD i default with k := -1 } := fun x hx => List.mem_or_eq_of_mem_set hx
  have hd : l.getD i default ∈ l := NP.getD_mem hi
  refine ⟨q3, h.below.setCell (p := ⟨g, i * 2, none⟩) (own_row h.op g rfl).1 _, by have := h.low; simpa [World.setCell] using this, ?_, ?_, h.dp, h.dt, ?_, ?_⟩
  · have hn : n = l.length := by
      rcases h.op.2 with ⟨e, _⟩ | ⟨g', c', cur, e, _⟩
      · cases e
      · injection e
    subst hn
    have := (World.ownsRow.stored h.op (i * 2) (vi (-1))).1
    rw [List.length_set, ← flat_set Pt.cs_len default l i 0 { l.getD i default with k := -1 } (vi (-1)) hi (by decide) rfl]
    exact this
  · have := World.ownsRow.kept h.ot hgr (own_ne h.ot h.op (by decide))
    rw [List.length_set]
    have e : (l.set i { l.getD i default with k := -1 }).map Pt.v = l.map Pt.v := by
      rw [List.map_set]
      refine List.ext_getElem? fun j => ?_
      rw [List.getElem?_set]
      split
      · rename_i e
        subst e
        rw [if_pos (by simpa using hi), List.getElem?_map, List.getD_eq_getElem?_getD, List.getElem?_eq_getElem hi]
        rfl
      · rfl
    rw [e]
    exact this
  · intro x hx
    rcases hm x hx with hx | rfl
    · exact (h.rows x hx).chg q1 q2
    · exact (h.rows _ hd).chg q1 q2
  · intro x hx
    rcases hm x hx with hx | rfl
    · exact h.pts x hx
    · exact .inl (by show (-1 : Int) < 0; decide)
end

end Go.Proofs.Ytpggkehfbhffbaa.mgr

/-
  A block's pages told one by one: the function that tells them; of a chip that is not there none are told. No conditions of its own.
-/
namespace Go.Proofs.Ytpggkehfbhffbaa
open Go.RowKit
attribute [local go_sem] Oper.semAt_some

section
variable {w : World}
theorem Pages_any (p : Option Addr) (j : Int) : Calls Try.prog 15 #[.pointer p, vi j] w fun e w' => e = .returned (.func (.func 61) #[] #[.pointer (some ⟨w.heap.size, 0, none⟩), .pointer (some ⟨w.heap.size + 1, 0, none⟩)]) ∧ w' = (w.alloc (.cells #[.pointer p] 26)).alloc (.cells #[vi j] 3) := by
  go_enter Try.func15, Try.ntmps15
  go_wp2_with fail
  go_ret
  exact ⟨rfl, rfl⟩
/-- A page that is told. -/
structure Told where
  i : Int
  a : Option Addr
  l : List Nat
  c : Nat
abbrev Told.encs (x : Told) : Array Value := #[vi x.i, .slice x.a x.l.length x.c]
theorem Pages1_nil (n b1 b2 : Nat) (j : Int) (h1 : w.cell? ⟨b1, 0, none⟩ = some nilp) (h2 : w.cell? ⟨b2, 0, none⟩ = some (vi j)) (Kp : World → World → Prop) :
    SeqStopsK Fence.wide n Try.prog 61 #[.pointer (some ⟨b1, 0, none⟩), .pointer (some ⟨b2, 0, none⟩)] Told.encs Kp (fun xs => xs = []) (fun _ => False) 0 w := by
  intro l J Jx W hW hJ hJx hY h0
  refine callsIn_wide.2 ?_
  have c1 := cell_below h1 hW
  have c2 := cell_below h2 hW
  clear hY hJ hJx h1 h2
  have H0 := Lib.hid h0
  clear h0
  go_enter Try.func61, Try.ntmps61
  go_wp2_with fail
  refine (there_nil j).mono ?_
  rintro e w' ⟨rfl, rfl⟩
  go_wp2_with fail
  refine bodyPost_ret (results_none rfl _ _ _) rfl ?_
  exact ⟨⟨_, rfl⟩, .inl ⟨[], rfl, H0.out⟩⟩
theorem eql_seq_nil (w : World) (f : Fn) (a b : Array Value) : (binOp .eql 37 (.func f a b) .nilFunc).run Try.prog w = .ok (.bool false) w := by
  have h : ∀ d : Nat, (Op.equalIn (d + 1) 37 (.func f a b) .nilFunc).run Try.prog w = .ok false w := fun d => by
    simp [Op.equalIn, run_underlying Try.underlying37]
  simp only [binOp]
  simp [Op.equal, Op.maxDepth, h 9999]
/-- A function that holds one range over a function returns. -/
theorem marks_ret {n : Nat} {fn : Func} {R : Ending → World → Prop} {tmps : Array Value} {D : Nat} {v : Value} (hK : w.heap[D]? = some (.deferred (some []))) (hres : ∀ w, (results fn tmps).run Try.prog w = .ok v w)
    (h : R (.returned v) (w.putObj D (.deferred none))) : bodyPostM Fence.wide n Try.prog fn R .ret { tmps, defers := [{ target := .collected D, args := #[] }] } w :=
  ⟨by simp, .inl ⟨_, _, rfl, run_takeDeferred hK, ⟨_, hres _, h⟩⟩⟩
/-- A range over a function that tells nothing, its loop without variables of its own. -/
theorem wp_rangeFunc_none {α : Type} {g : Operand} {ps : Array Tmp} {body : Code} {Q : Exit → Act → World → Prop} {a : Act} {gf : Nat} {lb : Array Value} (hg : a.eval g = .func (.func gf) #[] lb)
    (eg : ∀ args w, (callFunc gf args).run Try.prog w = .ok (.enter gf args) w) {encs : α → Array Value} (hseq : SeqStopsK Fence.wide 5 Try.prog gf lb encs (fun _ _ => True) (fun xs => xs = []) (fun _ => False) 0 w)
    (hps : ∀ x, (encs x).size = ps.size)
    (hdone : ∀ (D : Nat) (W : World), w.heap.size ≤ D → Below w.heap.size w W → W.heap[D]? = some (.deferred (some [])) → Q .normal { a with defers := { target := .collected D, args := #[] } :: a.defers } W) :
    (Code.rangeFunc g ps Code.skip body).wp Try.prog Q a w :=
  wpIn_wide.1 (wpIn_rangeFunc_ownF (F := Fence.wide) (n := 6) rfl (by omega) (gf := gf) (lb := lb) hg trivial eg hseq (fun _ _ => trivial) (fun _ _ _ _ _ _ _ _ => trivial) (Below.refl _ _) hps
    (fun _ W => Below w.heap.size w W) (fun _ _ _ => False) (ownFrom_below (Nat.le_refl _) (Nat.le_refl _)) (fun _ _ _ _ _ h _ _ => h) (Below.refl _ _)
    (fun x => { tmps := (ps.zip (encs x)).foldl (fun t (p, v) => t.setIfInBounds p v) a.tmps, defers := [] }) (fun _ _ _ _ hK => wpIn_skip hK) (fun _ _ _ _ _ h => absurd h (Nat.not_lt_zero _))
    (fun D _ W hD _ hB hK => hdone D W hD hB hK) (fun _ _ _ _ _ _ h => h.elim))
theorem below_taken {w0 : World} {D : Nat} (h : Below w0.heap.size w0 w) (hD : w0.heap.size ≤ D) : Below w0.heap.size w0 (w.putObj D (.deferred none)) :=
  h.grown (grownBy_putObj' w D _) h.size (fun k e => by cases e; exact hD)
end

end Go.Proofs.Ytpggkehfbhffbaa

/-
  A manager that is not there: what each method answers; none of a chip that is not there. No conditions.
-/
namespace Go.Proofs.Ytpggkehfbhffbaa.mgr
open Go.RowKit
attribute [local go_sem] Oper.semAt_some

section
variable {w : World}
theorem ready_nil : Calls Try.prog 79 #[nilp] w fun e w' => e = .returned (vi 3) ∧ w' = w := by
  go_enter Try.func79, Try.ntmps79
  go_wp2_with fail
  go_ret
  exact ⟨rfl, rfl⟩
theorem idle_nil (j : Int) : Calls Try.prog 88 #[nilp, vi j] w fun e w' => e = .returned (vi 3) ∧ w' = w := by
  go_enter Try.func88, Try.ntmps88
  go_wp2_with fail
  refine ready_nil.mono ?_
  rintro e w' ⟨rfl, rfl⟩
  go_wp2_with fail
  go_ret
  exact ⟨rfl, rfl⟩
set_option maxRecDepth 100000 in
theorem Program_nil (v : Value) : Calls Try.prog 37 #[nilp, v] w fun e w' => e = .returned (.tuple #[vi 0, vi 0, vi 3]) ∧ w' = w := by
  go_enter Try.func37, Try.ntmps37
  go_wp2_with fail
  go_step3
  go_wp2_with fail
  refine ready_nil.mono ?_
  rintro e w' ⟨rfl, rfl⟩
  go_wp2_with fail
  rw [Exit.noGoto_ret]
  go_ret3
  exact ⟨rfl, rfl⟩
theorem Drop_nil (j : Int) : Calls Try.prog 40 #[nilp, vi j] w fun e w' => e = .returned (vi 3) ∧ w' = w := by
  go_enter Try.func40, Try.ntmps40
  go_wp2_with fail
  go_ret
  exact ⟨rfl, rfl⟩
theorem Erase_nil (j : Int) : Calls Try.prog 41 #[nilp, vi j] w fun e w' => e = .returned (vi 3) ∧ w' = w := by
  go_enter Try.func41, Try.ntmps41
  go_wp2_with fail
  refine (idle_nil j).mono ?_
  rintro e w' ⟨rfl, rfl⟩
  go_wp2_with fail
  go_ret
  exact ⟨rfl, rfl⟩
theorem Retire_nil (j : Int) : Calls Try.prog 42 #[nilp, vi j] w fun e w' => e = .returned (vi 3) ∧ w' = w := by
  go_enter Try.func42, Try.ntmps42
  go_wp2_with fail
  refine (idle_nil j).mono ?_
  rintro e w' ⟨rfl, rfl⟩
  go_wp2_with fail
  go_ret
  exact ⟨rfl, rfl⟩
theorem Free_nil : Calls Try.prog 44 #[nilp] w fun e w' => e = .returned (vi 0) ∧ w' = w := by
  go_enter Try.func44, Try.ntmps44
  go_wp2_with fail
  go_ret
  exact ⟨rfl, rfl⟩
theorem Room_nil : Calls Try.prog 43 #[nilp] w fun e w' => e = .returned (vi 0) ∧ w' = w := by
  go_enter Try.func43, Try.ntmps43
  go_wp2_with fail
  go_ret
  exact ⟨rfl, rfl⟩
theorem Left_nil : Calls Try.prog 45 #[nilp] w fun e w' => e = .returned (vi 0) ∧ w' = w := by
  go_enter Try.func45, Try.ntmps45
  go_wp2_with fail
  go_ret
  exact ⟨rfl, rfl⟩
set_option maxRecDepth 100000 in
theorem Open_nil (v1 v2 v3 v4 : Value) : Calls Try.prog 38 #[nilp, v1, v2, v3, v4] w fun e w' => e = .returned (.tuple #[.pointer none, vi 3]) ∧ w' = w := by
  go_enter Try.func38, Try.ntmps38
  go_wp2_with fail
  go_ret2
  exact ⟨rfl, rfl⟩
theorem Next_nil : Calls Try.prog 39 #[nilp] w fun e w' => e = .returned (.agg #[vi 0, vi (-1)]) ∧ Below w.heap.size w w' := by
  go_enter Try.func39, Try.ntmps39
  go_wp2_with fail
  exact bodyPost_ret (v := .agg #[vi 0, vi (-1)]) (by simp [results, Try.results39, go_sem]) rfl ⟨rfl, (Below.refl _ _).alloc (Nat.le_refl _) _⟩
theorem All_any (p : Option Addr) : Calls Try.prog 91 #[.pointer p] w fun e w' => e = .returned (.func (.func 121) #[] #[.pointer (some ⟨w.heap.size, 0, none⟩)]) ∧ w' = w.alloc (.cells #[.pointer p] 68) := by
  go_enter Try.func91, Try.ntmps91
  go_wp2_with fail
  go_ret
  exact ⟨rfl, rfl⟩
abbrev noEncs : Empty → Array Value := fun e => e.elim
theorem All1_nil (n b1 : Nat) (h1 : w.cell? ⟨b1, 0, none⟩ = some nilp) (Kp : World → World → Prop) :
    SeqStopsK Fence.wide n Try.prog 121 #[.pointer (some ⟨b1, 0, none⟩)] noEncs Kp (fun xs => xs = []) (fun _ => False) 0 w := by
  intro l J Jx W hW hJ hJx hY h0
  refine callsIn_wide.2 ?_
  have c1 := cell_below h1 hW
  clear hY hJ hJx h1
  have H0 := Lib.hid h0
  clear h0
  go_enter Try.func121, Try.ntmps121
  go_wp2_with fail
  refine bodyPost_ret (results_none rfl _ _ _) rfl ?_
  exact ⟨⟨_, rfl⟩, .inl ⟨[], rfl, H0.out⟩⟩
/-- A range over a function that tells nothing, whatever its loop does with its variables. -/
theorem wp_rangeFunc_empty {g : Operand} {ps : Array Tmp} {assign body : Code} {Q : Exit → Act → World → Prop} {a : Act} {gf : Nat} {lb : Array Value} (hg : a.eval g = .func (.func gf) #[] lb)
    (eg : ∀ args w, (callFunc gf args).run Try.prog w = .ok (.enter gf args) w) (hseq : SeqStopsK Fence.wide 5 Try.prog gf lb noEncs (fun _ _ => True) (fun xs => xs = []) (fun _ => False) 0 w)
    (hdone : ∀ (D : Nat) (W : World), w.heap.size ≤ D → Below w.heap.size w W → W.heap[D]? = some (.deferred (some [])) → Q .normal { a with defers := { target := .collected D, args := #[] } :: a.defers } W) :
    (Code.rangeFunc g ps assign body).wp Try.prog Q a w :=
  wpIn_wide.1 (wpIn_rangeFunc_ownF (F := Fence.wide) (n := 6) rfl (by omega) (gf := gf) (lb := lb) hg trivial eg hseq (fun _ _ => trivial) (fun _ _ _ _ _ _ _ _ => trivial) (Below.refl _ _) (fun x => x.elim)
    (fun _ W => Below w.heap.size w W) (fun _ _ _ => False) (ownFrom_below (Nat.le_refl _) (Nat.le_refl _)) (fun _ _ _ _ _ h _ _ => h) (Below.refl _ _)
    (fun x => x.elim) (fun _ x => x.elim) (fun _ _ x => x.elim)
    (fun D _ W hD _ hB hK => hdone D W hD hB hK) (fun _ _ _ _ _ _ h => h.elim))
theorem eql_seq_nil (w : World) (f : Fn) (a b : Array Value) : (binOp .eql 126 (.func f a b) .nilFunc).run Try.prog w = .ok (.bool false) w := by
  have h : ∀ d : Nat, (Op.equalIn (d + 1) 126 (.func f a b) .nilFunc).run Try.prog w = .ok false w := fun d => by
    simp [Op.equalIn, run_underlying Try.underlying126]
  simp only [binOp]
  simp [Op.equal, Op.maxDepth, h 9999]
set_option maxRecDepth 100000 in
set_option maxHeartbeats 2000000 in
theorem all_nil : Calls Try.prog 46 #[nilp] w fun e w' => e = .returned (.slice none 0 0) ∧ Below w.heap.size w w' := by
  have HB1 : Hid (Below w.heap.size w ((w.alloc (.cells #[.slice none 0 0] 76)).alloc (.cells #[.pointer none] 68))) := Lib.hid (((Below.refl _ _).alloc (Nat.le_refl _) _).alloc (by simp) _)
  have F0 : Blk ((w.alloc (.cells #[.slice none 0 0] 76)).alloc (.cells #[.pointer none] 68)) w.heap.size 76 #[.slice none 0 0] := (Blk.new _ _ _).alloc _
  have F1 : Blk ((w.alloc (.cells #[.slice none 0 0] 76)).alloc (.cells #[.pointer none] 68)) (w.heap.size + 1) 68 #[.pointer none] := by
    have := Blk.new (w.alloc (.cells #[.slice none 0 0] 76)) 68 #[.pointer none]
    rwa [size_alloc] at this
  refine callsIn_wide.1 (callsIn_of_wp_marks (F := Fence.wide) (n := 6) Try.func46 rfl trivial (wpIn_wide.2 ?_) rfl)
  simp only [Try.ntmps46, List.size_toArray, List.length_cons, List.length_nil, Nat.reduceAdd, Nat.reduceSub, Array.replicate_succ, Array.replicate_zero, List.push_toArray, List.append_toArray, List.nil_append, List.cons_append]
  go_wp2_with fail
  refine (All_any none).mono ?_
  rintro e w' ⟨rfl, rfl⟩
  have heq := eql_seq_nil
  go_wp2_with fail
  clear heq
  generalize (w.alloc (.cells #[.slice none 0 0] 76)).alloc (.cells #[.pointer none] 68) = w1 at *
  refine wp_rangeFunc_empty (gf := 121) (lb := #[.pointer (some ⟨w.heap.size + 1, 0, none⟩)]) rfl (enter_of Try.func121 (by kernel_rfl) rfl)
    (All1_nil 5 _ (F1.cell 0) (fun _ _ => True)) ?_
  rintro D W hD hB hK
  have HB := Lib.hid (HB1.out.trans (hB.mono HB1.out.size))
  have HK := Lib.hid hK
  have HD := Lib.hid hD
  have c0 : W.cell? ⟨w.heap.size, 0, none⟩ = some (.slice none 0 0) := cell_below (F0.cell 0) hB
  clear hK hB hD F0 F1
  go_wp2_with fail
  exact marks_ret (v := .slice none 0 0) HK.out (fun w => by simp [results, Try.results46, go_sem]) ⟨rfl, below_taken HB.out (Nat.le_trans HB1.out.size HD.out)⟩
end

end Go.Proofs.Ytpggkehfbhffbaa.mgr

