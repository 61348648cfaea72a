/-
  Lemmas for a law's proof, put together from several texts: each part says what it shows, and its conditions.
-/
import Derived.Test.YtnfhlocflpdlcaaGreatZT19
import Derived.Deep.RegionLaw
import Derived.Deep.RegionHeld3
import Derived.Test.YtnfhlocflpdlcaaGreatZT13
import Derived.Test.YtnfhlocflpdlcaaGreatZT15
/-
  A manager of a chip's blocks: a block gone, a block retired. Conditions: a manager and its chip told by Held.
-/
namespace Go.Proofs.YtnfhlocflpdlcaaGreat.mgr
open Go.RowKit

section
variable {base : Nat} {w w' : World} {m : Nat} {G : MgM} {M : ChM}
theorem other4 {gl o : Nat} {v0 v1 v2 v3 : Value} {p : Addr} (hp : gl ≠ p.block) : ((((w.setCell ⟨gl, o, none⟩ v0).setCell ⟨gl, o + 1, none⟩ v1).setCell ⟨gl, o + 2, none⟩ v2).setCell ⟨gl, o + 3, none⟩ v3).cell? p = w.cell? p := by
  have : ∀ o', (⟨gl, o', none⟩ : Addr) ≠ p := fun o' e => hp (by rw [← e])
  rw [World.cell?_setCell_other _ _ _ _ (this _), World.cell?_setCell_other _ _ _ _ (this _), World.cell?_setCell_other _ _ _ _ (this _), World.cell?_setCell_other _ _ _ _ (this _)]
theorem wearM_view (M : ChM) (hok : M.view.ok) (j : Int) : wearM M j = NP.wearAt M.view j := wear_view M j (ok_len hok)
set_option maxRecDepth 100000 in
set_option maxHeartbeats 4000000 in
theorem gone_any (h : Held base w m G M) (hok : M.view.ok) (i : Nat) (hi : i < G.l.length) : Calls Tryz.prog 262 #[ptr m, vi i] w (HPost base w m G M (G.view.gone M.view i)) := by
  obtain ⟨c0, c1, c2, c3, c4, c5⟩ := h.cells
  have HM := Lib.hid (Mark_any h.chip hok i)
  have HDEF : Hid (G.view.gone M.view i = if (NP.mark M.view i).1 = 0 then (0, (NP.mark M.view i).2, (G.view.put i ⟨4, 0, NP.wearAt (NP.mark M.view i).2 i, 0⟩).shut i) else ((NP.mark M.view i).1, (NP.mark M.view i).2, G.view)) := Lib.hid rfl
  have hact := (NP.act_ok hok (faults_small h.chip.faults) (.mark i) trivial).1
  change (NP.mark M.view i).2.ok at hact
  have hPB : (NP.mark M.view i).2.P = M.view.P ∧ (NP.mark M.view i).2.B = M.view.B := by
    unfold NP.mark; dsimp only; split
    · exact ⟨rfl, rfl⟩
    · exact ⟨rfl, rfl⟩
  have H := Lib.hid h
  have hi0 : (0 : Int) ≤ (i : Int) := by omega
  have hi1 : (i : Int) < (G.l.length : Int) := by omega
  have HI := Lib.hid hi
  clear c1 c2 c3 c4 c5 h hok
  generalize hr1 : (NP.mark M.view i).1 = r1 at *
  generalize hr2 : (NP.mark M.view i).2 = V2 at *
  have HOK2 := Lib.hid hact
  have HM2 : Hid (Calls Tryz.prog 115 #[ptr G.k, vi i] w fun e w' => ∃ M', e = .returned (vi r1) ∧ Goes base w G.k M w' M' ∧ M'.view = V2) := Lib.hid (HM.out.mono (by
    rintro e w' ⟨M', he, hg, hv⟩
    exact ⟨M', by rw [he, hr1], hg, by rw [hv, hr2]⟩))
  clear hr1 hr2 hact HM hPB
  by_cases hz : r1 = 0
  · rw [if_pos hz] at HDEF
    have hzq : (r1 != 0) = false := by simp [hz]
    go_enter Tryz.func262, Tryz.ntmps262
    go_wp2_with fail
    refine HM2.out.mono ?_
    rintro e w1 ⟨M', rfl, hg, hv⟩
    have HG1 := Lib.hid (H.out.chipGoes hg)
    have HV := Lib.hid hv
    have hws : wearM M' i = NP.wearAt V2 i := by rw [wearM_view M' (by rw [hv]; exact HOK2.out), hv]
    generalize NP.wearAt V2 i = wr at *
    have HW := Lib.hid (fun w' (hc : ChipAt base w' G.k M') => Wear_any hc i)
    rw [hws] at HW
    have k0 : w1.cell? ⟨m, 0, none⟩ = some (ptr G.k) := HG1.out.at_.cells.1
    have k1 : w1.cell? ⟨m, 1, none⟩ = some (.slice (some ⟨G.gl, 0, none⟩) G.l.length G.cl) := HG1.out.at_.cells.2.1
    have k2 : w1.cell? ⟨m, 2, none⟩ = some (vi G.at_) := HG1.out.at_.cells.2.2.1
    have z2 := HG1.out.at_.mgr.mgr.frozen 2
    have z := fun j => HG1.out.at_.mgr.row.frozen j
    obtain ⟨d0, d1, d2, d3⟩ := HG1.out.at_.bcells HI.out
    clear hg hv hws c0
    have zz0 := z (i * 4)
    have zz1 := z (i * 4 + 1)
    have zz2 := z (i * 4 + 2)
    have zz3 := z (i * 4 + 3)
    have hne : Hid (G.gl ≠ m) := Lib.hid (fun e => H.out.ne e.symm)
    have hne1 : ¬ G.gl = m := hne.out
    have HS : Hid (w1.drew.cell? ⟨m, 0, none⟩ = some (ptr G.k) ∧ w1.drew.cell? ⟨m, 1, none⟩ = some (.slice (some ⟨G.gl, 0, none⟩) G.l.length G.cl)) := Lib.hid ⟨k0, k1⟩
    have HWD := Lib.hid (HW.out _ (HG1.out.at_.chip.old (Below.refl _ _).drew))
    have HFIN := Lib.hid ((HG1.out.old (Below.refl _ _).drew).trans ((HG1.out.old (Below.refl _ _).drew).at_.block (i := i) HI.out ⟨4, 0, wr, 0⟩))
    clear z HW
    go_upto_region 4 with fail
    go_region_held3 (fun w' => w'.cell? ⟨m, 0, none⟩ = some (ptr G.k) ∧ w'.cell? ⟨m, 1, none⟩ = some (.slice (some ⟨G.gl, 0, none⟩) G.l.length G.cl))
      (first
        | exact HS.out
        | exact ⟨(other4 hne.out).trans HS.out.1, (other4 hne.out).trans HS.out.2⟩)
      (first | (go_at_call 155; refine HWD.out.mono ?_; rintro e w' ⟨rfl, rfl⟩))
    change Hid (HGoes base w m G M ((((w1.setCell ⟨G.gl, i * 4, none⟩ (vi 4)).setCell ⟨G.gl, i * 4 + 1, none⟩ (vi 0)).setCell ⟨G.gl, i * 4 + 2, none⟩ (vi wr)).setCell ⟨G.gl, i * 4 + 3, none⟩ (vi 0)).drew (G.view.put i ⟨4, 0, wr, 0⟩) M') at HFIN
    change Exit.then _ _ _ _ ((((w1.setCell ⟨G.gl, i * 4, none⟩ (vi 4)).setCell ⟨G.gl, i * 4 + 1, none⟩ (vi 0)).setCell ⟨G.gl, i * 4 + 2, none⟩ (vi wr)).setCell ⟨G.gl, i * 4 + 3, none⟩ (vi 0)).drew
    clear k0 k1 k2 z2 d0 d1 d2 d3 zz0 zz1 zz2 zz3 HS HWD HG1
    generalize ((((w1.setCell ⟨G.gl, i * 4, none⟩ (vi 4)).setCell ⟨G.gl, i * 4 + 1, none⟩ (vi 0)).setCell ⟨G.gl, i * 4 + 2, none⟩ (vi wr)).setCell ⟨G.gl, i * 4 + 3, none⟩ (vi 0)).drew = w2 at *
    have k2 : w2.cell? ⟨m, 2, none⟩ = some (vi G.at_) := HFIN.out.at_.cells.2.2.1
    have z2 := HFIN.out.at_.mgr.mgr.frozen 2
    by_cases ha : (i : Int) = G.at_
    · have hq : ((i : Int) == G.at_) = true := beq_iff_eq.2 ha
      have HE := Lib.hid (HFIN.out.shut (i := i) ha)
      clear ha
      go_wp2_with fail
      go_ret
      exact HPost.mk HDEF.out HE.out HV.out
    · have hq : ((i : Int) == G.at_) = false := beq_eq_false_iff_ne.2 ha
      have HE := Lib.hid (HFIN.out.shutNo (i := i) ha)
      clear ha
      go_wp2_with fail
      go_ret
      exact HPost.mk HDEF.out HE.out HV.out
  · rw [if_neg hz] at HDEF
    have hzq : (r1 != 0) = true := by simp [hz]
    go_enter Tryz.func262, Tryz.ntmps262
    go_wp2_with fail
    refine HM2.out.mono ?_
    rintro e w1 ⟨M', rfl, hg, hv⟩
    have HG1 := Lib.hid (H.out.chipGoes hg)
    have HV := Lib.hid hv
    clear hg hv
    go_wp2_with fail
    go_ret
    exact HPost.mk HDEF.out HG1.out HV.out
set_option maxRecDepth 100000 in
theorem Retire_any (h : Held base w m G M) (hok : M.view.ok) (k : Int) : Calls Tryz.prog 230 #[ptr m, vi k] w (HPost base w m G M (G.view.retire M.view k)) := by
  have HDEF : Hid (G.view.retire M.view k = if G.view.idle M.view k ≠ 0 then (G.view.idle M.view k, M.view, G.view) else G.view.gone M.view k.toNat) := Lib.hid rfl
  have HI := Lib.hid (idle_any h k)
  have H := Lib.hid h
  have HOK := Lib.hid hok
  by_cases hz : G.view.idle M.view k = 0
  · rw [if_neg (by simp [hz])] at HDEF
    rw [hz] at HI
    obtain ⟨i, rfl, hi, -⟩ : ∃ i : Nat, k = i ∧ i < G.view.l.length ∧ True := by
      unfold Mg.idle at hz
      split at hz
      · simp at hz
      · split at hz
        · simp at hz
        · rename_i h1 h2
          obtain ⟨i, h3, h4, _⟩ := there_yes (k := k) (g := G.view) (by
            cases ht : G.view.there k
            · exact absurd (.inl ht) h2
            · rfl)
          exact ⟨i, h3, h4, trivial⟩
    rw [Int.toNat_natCast] at HDEF
    have HJ := Lib.hid hi
    clear hz h hok hi
    go_enter Tryz.func230, Tryz.ntmps230
    go_wp2_with fail
    refine HI.out.mono ?_
    rintro e w' ⟨rfl, rfl⟩
    go_wp2_with fail
    refine (gone_any H.out HOK.out i HJ.out).mono ?_
    rintro e w2 ⟨M', rfl, hg, hv⟩
    have HG := Lib.hid hg
    have HV := Lib.hid hv
    have HX : Hid ((G.view.gone M.view i).1 = (G.view.gone M.view i).1) := Lib.hid rfl
    clear hg hv HX
    generalize G.view.retire M.view i = R at *
    generalize G.view.gone M.view i = R' at *
    obtain rfl := HDEF.out
    go_wp2_with fail
    go_ret
    exact ⟨M', rfl, HG.out, HV.out⟩
  · rw [if_pos hz] at HDEF
    generalize G.view.idle M.view k = n at *
    have hzq : (n != 0) = true := by simp [hz]
    clear h hok hz
    go_enter Tryz.func230, Tryz.ntmps230
    go_wp2_with fail
    refine HI.out.mono ?_
    rintro e w' ⟨rfl, rfl⟩
    go_wp2_with fail
    go_ret
    exact HPost.mk HDEF.out (HGoes.refl H.out) rfl
end

end Go.Proofs.YtnfhlocflpdlcaaGreat.mgr

/-
  Faults are set. Conditions: a chip that is told by ChipAt; faults of fewer than 900000 bytes.
-/
namespace Go.Proofs.YtnfhlocflpdlcaaGreat
open Go.RowKit

theorem step_app {w w' : World} {ops : Array Oper} {o : Oper} {a : Act} {K : Act → World → Prop} {Q : Exit → Act → World → Prop} {E : Prop} (s x : Operand) {t u : TypeId} {v src v' : Value}
    (hrun : AppRun t u o.type v src w v' w') (hgd : o.guard = none) (ho : o.op = .call { callee := .builtin .append, args := #[s, x], argTypes := #[t, u] }) (hs : a.eval s = v) (hx : a.eval x = src) (h : K (a.put o.dst v') w') : if Region.wanted o (yielded ops a.tmps) = true then Oper.wp Tryz.prog o a w K Q else E :=
  step_append_run hgd s x ho hs hx hrun.run h

def fltCells (fs : List FltM) : List Value := fs.flatMap fun f => f.cs.toList
theorem flt_len (f : FltM) : f.cs.toList.length = 3 := rfl
theorem flt_info : (Tryz.prog.info? 229).map (fun i => (i.zero, i.size, i.bytes)) = some (some (.agg flt0), 3, 40) := by kernel_rfl
/-- A row of faults of the call's own. -/
def FOwn (w : World) (b0 : Nat) (v : Value) (fs : List FltM) : Prop := w.ownsRow b0 229 3 v fs.length (fltCells fs)
theorem FOwn.nil (w : World) (b0 : Nat) : FOwn w b0 (.slice none 0 0) [] := World.ownsRow_nil _ _ _ _
theorem FOwn.grown {w w' : World} {b0 : Nat} {v : Value} {fs : List FltM} (h : FOwn w b0 v fs) {row : Option Nat} (q : w.grownBy w' row) (hne : v.ownBlock = none ∨ v.ownBlock ≠ row) : FOwn w' b0 v fs := World.ownsRow.kept h q hne
theorem FOwn.old {w w' : World} {b0 : Nat} {v : Value} {fs : List FltM} (h : FOwn w b0 v fs) (hb : Below w.heap.size w w') : FOwn w' b0 v fs :=
  h.grown (row := none) ⟨hb.os, hb.tape, hb.output, hb.size, fun k hk _ => hb.block k hk⟩ (by cases hv : v.ownBlock <;> simp)
theorem FOwn.form {w : World} {b0 : Nat} {v : Value} {fs : List FltM} (h : FOwn w b0 v fs) : ∃ a c, v = .slice a fs.length c := by
  rcases h.2 with ⟨rfl, h0⟩ | ⟨g, cap, cur, rfl, _⟩
  · exact ⟨none, 0, by rw [h0]⟩
  · exact ⟨_, _, rfl⟩
theorem append_flt {w : World} {b0 : Nat} {v : Value} {fs : List FltM} (hown : FOwn w b0 v fs) (f : FltM) (hn : fs.length + 1 ≤ 1000000) (hb : b0 ≤ w.heap.size) :
    ∃ v' w', AppRun 178 178 178 v (.slice (some ⟨w.heap.size, 0, none⟩) 1 1) (w.alloc (.cells f.cs 229)) v' w' ∧ FOwn w' b0 v' (fs ++ [f]) ∧ (w.alloc (.cells f.cs 229)).grownBy w' v.ownBlock := by
  obtain ⟨i0, hi, hz0, hz1, hz2⟩ := info_parts flt_info
  have hown' := hown.old ((Below.refl _ w).alloc (Nat.le_refl _) (.cells f.cs 229))
  obtain ⟨v', w', h1, h2, h3, _⟩ := run_append_own_at (P := Tryz.prog) (w.alloc (.cells f.cs 229)) b0 178 178 229 i0 _ 3 40 Tryz.underlying178 hi hz0 hz1 hz2 rfl (by omega) v fs.length (fltCells fs) hown'
    ⟨w.heap.size, 0, none⟩ 1 1 (fltCells [f]) rfl (fun j u hu => by
      rw [add_plain, Nat.zero_add, (Blk.new w 229 f.cs).cell]
      simpa [fltCells] using hu) (by intro u hu; simp [fltCells] at hu; rcases hu with rfl | rfl | rfl <;> rfl)
      (by unfold maxLen; omega) (by omega) (by simp; omega)
  refine ⟨v', w', ⟨h1⟩, ?_, h3⟩
  unfold FOwn
  rw [List.length_append, fltCells, List.flatMap_append]
  exact h2
theorem set_grown (w : World) (g j : Nat) (u : Value) : w.grownBy (w.setCell ⟨g, j, none⟩ u) (some g) := ⟨rfl, rfl, rfl, by simp [World.setCell], fun k _ hne => Below.heap_setCell w _ u k (fun e => hne (by rw [e]))⟩
/-- A row of bytes stays where a row of faults grows. -/
theorem SRow.grown {base : Nat} {w w' : World} {a : Option Addr} {l : List Nat} {row : Option Nat} (h : SRow base w a l) (q : w.grownBy w' row) (hrow : ∀ b, row = some b → base ≤ b ∧ ∃ cur, Blk w b 229 cur) : SRow base w' a l := by
  rcases h.safe with rfl | ⟨b, o, rfl, hs⟩
  · exact SRow.nil _ _ _
  · have hne : some b ≠ row := by
      intro e
      obtain ⟨h1, cur, h2⟩ := hrow b e.symm
      rcases hs with hs | ⟨cur', hs⟩
      · omega
      · unfold Blk at h2 hs
        rw [h2] at hs
        injection hs with hs
        injection hs with _ hs
        exact absurd hs (by decide)
    refine ⟨h.row.grown q hne, .inr ⟨b, o, rfl, ?_⟩⟩
    rcases hs with hs | ⟨cur', hs⟩
    · exact .inl hs
    · exact .inr ⟨cur', hs.grown q hne⟩
theorem FOwn.row {w : World} {b0 : Nat} {v : Value} {fs : List FltM} (h : FOwn w b0 v fs) : ∀ b, v.ownBlock = some b → b0 ≤ b ∧ ∃ cur, Blk w b 229 cur := by
  intro b hb
  rcases h.2 with ⟨rfl, _⟩ | ⟨g, cap, cur, rfl, hg, hh, _⟩
  · simp [Value.ownBlock] at hb
  · simp [Value.ownBlock] at hb
    subst hb
    exact ⟨hg, cur, hh⟩
theorem FOwn.frow {base : Nat} {w : World} {b0 : Nat} {v : Value} {fs : List FltM} (h : FOwn w b0 v fs) (hd : ∀ f ∈ fs, SRow base w f.a f.l ∧ f.l.length ≤ f.c ∧ f.c ≤ maxLen) (hl : fs.length ≤ maxLen) : ∃ a c, v = .slice a fs.length c ∧ FRow base w a fs := by
  rcases h.2 with ⟨rfl, h0⟩ | ⟨g, cap, cur, rfl, hg, hh, _⟩
  · have : fs = [] := List.eq_nil_of_length_eq_zero h0
    subst this
    exact ⟨none, 0, rfl, FRow.nil _ _ _⟩
  · refine ⟨_, cap, rfl, .inr ⟨g, 0, rfl, .inr ⟨cur, hh⟩, fun i hi j u hu => ?_⟩, hd, hl⟩
    have hj : j < 3 := by
      have := (Array.getElem?_eq_some_iff.1 hu).1
      simpa using this
    rw [Nat.zero_add, World.ownsRow.cellAt h (i * 3 + j) (by omega), fltCells, flat_get (f := fun f : FltM => f.cs.toList) flt_len default _ _ _ hi hj]
    simpa using hu

section
variable {base : Nat} {w wr : World} {k : Nat} {M : ChM} {n : Nat} {v : Value} {gs fs : List FltM}
/-- The state while faults are laid. -/
structure ScrSt (base : Nat) (w : World) (k : Nat) (M : ChM) (fs : List FltM) (n : Nat) (v : Value) (gs : List FltM) (wr : World) : Prop where
  chg : Chg (fun m => m = k) w wr
  chip : Blk wr k 180 #[vi M.B, vi M.P, vi M.S, .slice (some ⟨M.kb, 0, none⟩) M.bs.length M.kc, v, vi 0, .bool M.down, vi M.strokes, vi M.reads]
  own : FOwn wr w.heap.size v gs
  data : ∀ f ∈ gs, SRow base wr f.a f.l ∧ f.l.length ≤ f.c ∧ f.c ≤ maxLen
  say : gs.map (·.view) = (fs.take n).map (·.view)
  len : gs.length = n
theorem ScrSt.old {w2 : World} (h : ScrSt base w k M fs n v gs wr) (q : Below wr.heap.size wr w2) : ScrSt base w k M fs n v gs w2 :=
  ⟨h.chg.below q, h.chip.old q, h.own.old q, fun f hf => ⟨(h.data f hf).1.old q, (h.data f hf).2⟩, h.say, h.len⟩
/-- A variable of this loop's is laid. -/
theorem ScrSt.var {g j : Nat} {cs : Array Value} (h : ScrSt base w k M fs n v gs wr) (hb : base ≤ w.heap.size) (hg : Blk wr g 229 cs) (hw : w.heap.size ≤ g) (ho : v.ownBlock ≠ some g) (hk : g ≠ k) (u : Value) : ScrSt base w k M fs n v gs (wr.setCell ⟨g, j, none⟩ u) :=
  ⟨h.chg.setCell (.inr hw) u, h.chip.far (p := ⟨g, j, none⟩) hk.symm u, h.own.grown (row := some g) ⟨rfl, rfl, rfl, by simp [World.setCell], fun m _ hne => Below.heap_setCell wr _ u m (fun e => hne (by rw [e]))⟩ (.inr ho),
    fun f hf => ⟨(h.data f hf).1.grown (row := some g) ⟨rfl, rfl, rfl, by simp [World.setCell], fun m _ hne => Below.heap_setCell wr _ u m (fun e => hne (by rw [e]))⟩ (fun b e => by injection e with e; subst e; exact ⟨Nat.le_trans hb hw, cs, hg⟩), (h.data f hf).2⟩, h.say, h.len⟩
theorem ScrSt.next {w5 : World} {v' : Value} {g : FltM} (h : ScrSt base w k M fs n v gs wr) (hm : Mine base w k) (hb : base ≤ w.heap.size) (hn : n < fs.length) (hv : g.view = (fs.getD n default).view)
    (hg : SRow base wr g.a g.l ∧ g.l.length ≤ g.c ∧ g.c ≤ maxLen) (ho : FOwn w5 w.heap.size v' (gs ++ [g])) (hgr : (wr.alloc (.cells g.cs 229)).grownBy w5 v.ownBlock) :
    ScrSt base w k M fs (n + 1) v' (gs ++ [g]) (w5.setCell ⟨k, 4, none⟩ v') := by
  have hoa := h.own.old ((Below.refl _ wr).alloc (Nat.le_refl _) (.cells g.cs 229))
  have hrow : ∀ b, v.ownBlock = some b → base ≤ b ∧ ∃ cur, Blk (wr.alloc (.cells g.cs 229)) b 229 cur := fun b e => ⟨Nat.le_trans hb (hoa.row b e).1, (hoa.row b e).2⟩
  have hc5 : Blk w5 k 180 _ := (h.chip.alloc (.cells g.cs 229)).grown hgr (own_blk_ne hoa (h.chip.alloc _) (by decide))
  have hk5 : some k ≠ v'.ownBlock := own_blk_ne ho hc5 (by decide)
  have hm5 : ∀ m, m = k → Mine base w5 m := fun m e => by subst e; exact ⟨hm.1, _, _, by decide, hc5⟩
  have hq5 : Chg (fun m => m = k) w5 (w5.setCell ⟨k, 4, none⟩ v') := Chg.set (F := fun m => m = k) w5 (p := ⟨k, 4, none⟩) rfl v'
  have row5 : ∀ {a : Option Addr} {l : List Nat}, SRow base wr a l → SRow base (w5.setCell ⟨k, 4, none⟩ v') a l := fun hr =>
    ((hr.old ((Below.refl _ wr).alloc (Nat.le_refl _) (.cells g.cs 229))).grown hgr hrow).chg hq5 hm5
  refine ⟨((h.chg.alloc _).grown hgr fun b e => .inr (hoa.row b e).1).setCell (.inl rfl) _, hc5.set_ 4 v', ho.grown (row := some k) ⟨rfl, rfl, rfl, by simp [World.setCell], fun m _ hne => Below.heap_setCell w5 _ _ m (fun e => hne (by rw [e]))⟩ (.inr (fun e => hk5 e.symm)), ?_, ?_, by simp [h.len]⟩
  · intro f hf
    rcases List.mem_append.1 hf with hf | hf
    · exact ⟨row5 (h.data f hf).1, (h.data f hf).2⟩
    · rw [List.mem_singleton] at hf
      subst hf
      exact ⟨row5 hg.1, hg.2⟩
  · rw [List.map_append, h.say, List.take_succ_eq_append_getElem hn, List.map_append]
    simp only [List.map_cons, List.map_nil]
    rw [hv, List.getD_eq_getElem?_getD, List.getElem?_eq_getElem hn]
    rfl
/-- Fields of the chip are laid, its faults too: told from the world at first. -/
theorem ChipAt.fields' {w' : World} {M' : ChM} (h : ChipAt base w k M) (q : Chg (fun n => n = k) w w') (hb : Blk w' k 180 M'.cs) (h1 : M'.kb = M.kb) (h2 : M'.kc = M.kc) (h3 : M'.bs = M.bs) (hf : FRow base w' M'.fa M'.fs) : Goes base w k M w' M' := by
  have hF : ∀ n, n = k → Mine base w n := fun n e => h.mine n (.inl e)
  refine ⟨⟨hb, ?_, ?_, ?_, ?_, hf, ?_⟩, q.mono (fun n _ e => .inl e), ?_⟩
  · rw [h1, h2, h3]; exact h.blocks.chg q h.kb_ne
  · rw [h3]; exact fun x hx => (h.pages x hx).chg q (h.g_ne hx).1
  · rw [h3]; exact h.nodup
  · rw [h3]; exact fun x hx p hp => (h.rows x hx p hp).chg q hF
  · intro n hn; exact h.low n (by unfold ChM.foot at hn ⊢; rw [h1, h3] at hn; exact hn)
  · intro n hn; exact .inl (by unfold ChM.foot at hn ⊢; rw [h1, h3] at hn; exact hn)
theorem ScrSt.done (h : ChipAt base w k M) (s : ScrSt base w k M fs fs.length v gs wr) : ∃ M', Goes base w k M wr M' ∧ M'.view = { M.view with fs := fs.map (·.view), since := 0 } := by
  have hl : gs.length ≤ maxLen := by
    rcases s.own.2 with ⟨_, h0⟩ | ⟨_, _, _, _, _, _, h1, h2, _⟩
    · omega
    · omega
  obtain ⟨a, c, rfl, hf⟩ := s.own.frow s.data hl
  refine ⟨{ M with fa := a, fs := gs, fc := c, since := 0 }, h.fields' s.chg s.chip rfl rfl rfl hf, ?_⟩
  have := s.say
  rw [List.take_length] at this
  simp only [ChM.view, this]

theorem all_take {l : List FltM} {n : Nat} (h : n < l.length) (h1 : (l.take n).all (fun f => decide (0 ≤ f.at_)) = true) (h2 : 0 ≤ (l.getD n default).at_) : (l.take (n + 1)).all (fun f => decide (0 ≤ f.at_)) = true := by
  rw [List.take_succ_eq_append_getElem h, List.all_append, h1]
  rw [List.getD_eq_getElem?_getD, List.getElem?_eq_getElem h] at h2
  simpa using h2

end

end Go.Proofs.YtnfhlocflpdlcaaGreat

/-
  A row of blocks copied. Conditions: a row that can be read.
-/
namespace Go.Proofs.YtnfhlocflpdlcaaGreat.mgr
open Go.RowKit

theorem row_info : (Tryz.prog.info? 236).map (fun i => (i.zero, i.size, i.bytes)) = some (some (.agg #[vi 0, vi 0, vi 0, vi 0]), 4, 32) := by kernel_rfl
set_option maxHeartbeats 1000000 in
theorem CloneR_any (a : Option Addr) (n c : Nat) (xs : List Value) (w : World) (hx : xs.length = n * 4) (hc : ∀ ad, a = some ad → ∀ j u, xs[j]? = some u → w.cell? (ad.add j) = some u) (h1 : ∀ u ∈ xs, u.oneCell' = true) (hz : a = none → n = 0) (hn : n ≤ 100000) :
    Calls Tryz.prog 223 #[.slice a n c] w fun e w' => ∃ v', e = .returned v' ∧ w'.ownsRow w.heap.size 236 4 v' n xs ∧ Below w.heap.size w w' := by
  have hen := fun (w : World) (a : Option Addr) (n c : Nat) => Lib.run_eql_slice_nil (P := Tryz.prog) w 232 236 a n c 0 0 Tryz.underlying232
  cases a with
  | none =>
    have h0 := hz rfl
    subst h0
    have hx0 : xs = [] := List.eq_nil_of_length_eq_zero (by omega)
    subst hx0
    clear hx hc h1 hz hn
    go_enter Tryz.func223, Tryz.ntmps223
    go_wp2_with fail
    go_ret
    exact ⟨_, rfl, World.ownsRow_nil _ _ _ _, Below.refl _ _⟩
  | some ad =>
    obtain ⟨i0, hi, hz0, hz1, hz2⟩ := info_parts row_info
    have hown : (w.alloc (.cells #[] 236)).ownsRow w.heap.size 236 4 (.slice (some ⟨w.heap.size, 0, none⟩) 0 0) 0 [] := World.ownsRow_lit w #[] 0 (Nat.le_refl _) (Nat.zero_le _) rfl
    have hb := (Below.refl w.heap.size w).alloc (Nat.le_refl _) (.cells #[] 236)
    obtain ⟨v', w', hrun, ho, hg, _⟩ := run_append_own_at (P := Tryz.prog) (w.alloc (.cells #[] 236)) w.heap.size 232 232 236 i0 _ 4 32 Tryz.underlying232 hi hz0 hz1 hz2 rfl (by omega) _ 0 [] hown
      ad n c xs (by omega) (fun j u hu => cell_below (hc ad rfl j u hu) hb) h1 (by unfold maxLen; omega) (by omega) (by simp)
    have R : AppRun 232 232 232 (.slice (some ⟨w.heap.size, 0, none⟩) 0 0) (.slice (some ad) n c) (w.alloc (.cells #[] 236)) v' w' := ⟨hrun⟩
    have HB := Lib.hid (hb.grown hg (by simp) (fun k hk => (hown.lt k hk).1))
    rw [Nat.zero_add, List.nil_append] at ho
    have HO := Lib.hid ho
    clear hrun ho hg hown hi hz0 hz1 hz2 hx hc h1 hz hb
    go_enter Tryz.func223, Tryz.ntmps223
    go_wp2_with (at_builtin; refine wpList_append_run rfl (.tmp 5) (.tmp 6) rfl rfl rfl R.run ?_)
    go_ret
    exact ⟨_, rfl, HO.out, HB.out⟩


end Go.Proofs.YtnfhlocflpdlcaaGreat.mgr

/-
  Truth values that a slice reads as; numbers made. No conditions.
-/
namespace Go.Proofs.YtnfhlocflpdlcaaGreat
open Go.RowKit

/-- Truth values that a slice reads as. -/
def BoRow (w : World) (a : Option Addr) (l : List Bool) : Prop := l = [] ∨ ∃ b o, a = some ⟨b, o, none⟩ ∧ ∀ i, i < l.length → w.cell? ⟨b, o + i, none⟩ = some (.bool (l.getD i false))
theorem BoRow.lookup {w : World} {a : Option Addr} {l : List Bool} (h : BoRow w a l) {i : Nat} (hi : i < l.length) : ∃ b o, a = some ⟨b, o, none⟩ ∧ w.cell? ⟨b, o + i, none⟩ = some (.bool (l.getD i false)) := by
  rcases h with rfl | ⟨b, o, rfl, h⟩
  · simp at hi
  · exact ⟨b, o, rfl, h i hi⟩
theorem BoRow.old {w w' : World} {a : Option Addr} {l : List Bool} (h : BoRow w a l) (q : Below w.heap.size w w') : BoRow w' a l := by
  rcases h with h | ⟨b, o, rfl, h⟩
  · exact .inl h
  · exact .inr ⟨b, o, rfl, fun i hi => cell_below (h i hi) q⟩
theorem borow_own {w : World} {base : Nat} {v : Value} {l : List Bool} (h : w.ownsRow base 4 1 v l.length (l.map Value.bool)) : ∃ a c, v = .slice a l.length c ∧ BoRow w a l := by
  have h' := h
  rcases h'.2 with ⟨rfl, h0⟩ | ⟨g, cap, cur, rfl, _⟩
  · have : l = [] := List.eq_nil_of_length_eq_zero h0
    subst this
    exact ⟨none, 0, rfl, .inl rfl⟩
  · refine ⟨_, cap, rfl, .inr ⟨g, 0, rfl, fun i hi => ?_⟩⟩
    rw [Nat.zero_add, World.ownsRow.cellAt h i (by omega), List.getElem?_map, List.getElem?_eq_getElem hi, List.getD_eq_getElem?_getD, List.getElem?_eq_getElem hi]
    rfl
theorem mgr.int_info : (Tryz.prog.info? 3).map (fun i => (i.zero, i.size, i.bytes)) = some (some (vi 0), 1, 8) := by kernel_rfl
theorem mgr.make_ints (n : Nat) (hn : n ≤ 1000000) (w : World) : (Instr.makeSlice 34 (.int .i64 (n : Int)) (.int .i64 (n : Int))).run Tryz.prog w = .ok (.slice (some ⟨w.heap.size, 0, none⟩) n n) (w.alloc (.cells (madeCells #[vi 0] n) 3)) :=
  run_make_row' 34 3 (vi 0) 8 Tryz.underlying34 mgr.int_info rfl .i64 .i64 n (by omega) (by omega) w

theorem alloc_box (w : World) (cs : Array Value) (t : TypeId) : Below w.heap.size w (w.alloc (.cells cs t)) := (Below.refl _ _).alloc (Nat.le_refl _) _
theorem bad_view (M : ChM) (j : Int) (hB : M.bs.length = M.B) : badM M j = NP.badAt M.view j := by
  have hB' : (M.view.B : Int) = M.bs.length := by rw [hB]; rfl
  unfold badM NP.badAt
  rw [hB']
  by_cases h : 0 ≤ j ∧ j < M.bs.length
  · rw [if_pos h, if_pos h, view_blk (by omega)]
    rfl
  · rw [if_neg h, if_neg h]

end Go.Proofs.YtnfhlocflpdlcaaGreat

