/-
  Lemmas for a law's proof, put together from several texts: each part says what it shows, and its conditions.
-/
import Derived.Test.YtnfhlocflpdlcaaGreatZT14
import Derived.Test.YtnfhlocflpdlcaaGreatZT20
import Derived.Test.YtnfhlocflpdlcaaGreatZT19
import Derived.WalkMore
import Derived.Deep.LoopGhost
/-
  A manager of a chip's blocks: what is to be done next. Conditions: a manager and its chip told by Held.
-/
namespace Go.Proofs.YtnfhlocflpdlcaaGreat.mgr
open Go.RowKit

def zeroTo (l : List gcs.Blk) : Nat → List gcs.Blk
  | 0 => l
  | n + 1 => (zeroTo l n).set n { (zeroTo l n).getD n default with r := 0 }
def nextL (G : MgM) (P : Nat) : Int × Int := gcs.NextL (if G.even then zeroTo G.l G.l.length else G.l) P (decide ((P : Int) ≤ roomL G P))
theorem zeroTo_length (l : List gcs.Blk) : ∀ n, (zeroTo l n).length = l.length
  | 0 => rfl
  | n + 1 => by unfold zeroTo; rw [List.length_set, zeroTo_length l n]
section
variable {base : Nat} {w : World} {m : Nat} {G : MgM} {M : ChM}
theorem gcells_one (l : List gcs.Blk) : ∀ u ∈ l.flatMap gcells, u.oneCell' = true := by
  intro u hu
  obtain ⟨x, _, hx⟩ := List.mem_flatMap.1 hu
  simp [gcells] at hx
  rcases hx with rfl | rfl | rfl | rfl <;> rfl
theorem arr_row {g c : Nat} {l : List gcs.Blk} (h : Arr w 236 4 g l.length c (l.flatMap gcells)) : gcs.Row w (.slice (some ⟨g, 0, none⟩) l.length c) l := by
  obtain ⟨cur, _, g1, g2, _⟩ := h.blk
  refine ⟨by unfold maxLen at g2; omega, _, _, rfl, .inr ⟨g, 0, rfl, fun i hi => ?_⟩⟩
  have hc : ∀ j, j < 4 → w.cell? ⟨g, i * 4 + j, none⟩ = (gcells (l.getD i default))[j]? := fun j hj => by
    rw [h.cell (by omega), flat_get gcells_len default _ _ _ hi hj]
  rw [Nat.zero_add]
  exact ⟨hc 0 (by decide), hc 1 (by decide), hc 2 (by decide), hc 3 (by decide)⟩
/-- The row while its wear is set to 0. -/
structure NxSt (w1 : World) (g c : Nat) (l : List gcs.Blk) (wr : World) : Prop where
  below : Below w1.heap.size w1 wr
  arr : Arr wr 236 4 g l.length c (l.flatMap gcells)
  low : w1.heap.size ≤ g
theorem NxSt.zero {w1 wr : World} {g c : Nat} {l : List gcs.Blk} (h : NxSt w1 g c l wr) {n : Nat} (hn : n < l.length) : NxSt w1 g c (l.set n { l.getD n default with r := 0 }) (wr.setCell ⟨g, n * 4 + 2, none⟩ (vi 0)) := by
  refine ⟨h.below.setCell (p := ⟨g, n * 4 + 2, none⟩) h.low _, ?_, h.low⟩
  rw [List.length_set, ← flat_set gcells_len default l n 2 { l.getD n default with r := 0 } (vi 0) hn (by decide) rfl]
  exact h.arr.set _ _
set_option maxRecDepth 100000 in
set_option maxHeartbeats 4000000 in
theorem Next_any (h : Held base w m G M) (hf : G.fit M.P) (hl0 : 0 < G.l.length) : Calls Tryz.prog 207 #[ptr m] w fun e w' => e = .returned (gcs.vact (nextL G M.P)) ∧ Below w.heap.size w w' := by
  have HDEF : Hid (nextL G M.P = gcs.NextL (if G.even then zeroTo G.l G.l.length else G.l) M.P (decide ((M.P : Int) ≤ roomL G M.P))) := Lib.hid rfl
  have H := Lib.hid h
  have HF := Lib.hid hf
  have HZL := Lib.hid (zeroTo_length G.l)
  have hlen : G.l.length ≤ 128 := hf.1
  have HL := Lib.hid hlen
  have B0 := Lib.hid (alloc_below w (.cells #[vi 0, vi 0] 275))
  have R0 := Lib.hid (Blk.new w 275 #[vi 0, vi 0])
  clear h hf
  go_enter Tryz.func207, Tryz.ntmps207
  go_upto_region 1 with fail
  generalize w.alloc (.cells #[vi 0, vi 0] 275) = w1 at *
  generalize hrb : w.heap.size = rb at *
  have HRB := Lib.hid hrb
  clear hrb
  have H1 : Hid (Held base w1 m G M) := Lib.hid (H.out.old (by rw [HRB.out]; exact B0.out))
  have c1 : w1.cell? ⟨m, 1, none⟩ = some (.slice (some ⟨G.gl, 0, none⟩) G.l.length G.cl) := H1.out.cells.2.1
  go_wp2_with fail
  have hown := H1.out.mgr.row
  refine (CloneR_any (some ⟨G.gl, 0, none⟩) G.l.length G.cl (G.l.flatMap gcells) _ (flat_length gcells_len G.l) (fun ad had j u hu => by
      injection had with had
      subst had
      rw [add_plain, Nat.zero_add, hown.cell (by rw [← flat_length gcells_len G.l]; exact (List.getElem?_eq_some_iff.1 hu).1)]
      exact hu) (gcells_one _) (by simp) (by omega)).mono ?_
  rintro e w2 ⟨v2, rfl, ho2, hb2⟩
  obtain ⟨g, c, rfl, harr, hg⟩ := Arr.of_own ho2 hl0
  have HEL : Hid ((if G.even then zeroTo G.l 0 else G.l) = G.l) := Lib.hid (by cases G.even <;> rfl)
  have ST : Hid (NxSt w1 g c (if G.even then zeroTo G.l 0 else G.l) w2) := Lib.hid (by rw [HEL.out]; exact ⟨hb2, harr, hg⟩)
  clear ho2 hb2 harr hg hown c1
  go_wp2_with fail
  go_loopw [15] (fun i wr => ∃ n : Nat, n ≤ G.l.length ∧ i = vi n ∧ Hid (NxSt w1 g c (if G.even then zeroTo G.l n else G.l) wr)) (fun i _ => G.l.length - (intOf i).toNat)
  case atStart => exact ⟨0, Nat.zero_le _, rfl, ST⟩
  case round =>
    clear ST
    obtain ⟨n, hn, rfl, st⟩ := hrel
    by_cases hlt : n < G.l.length
    · have c5 : wr.cell? ⟨m, 5, none⟩ = some (.bool G.even) := (H1.out.old st.out.below).cells.2.2.2.2.2
      have hn0 : (0 : Int) ≤ (n : Int) := by omega
      have hn1 : (n : Int) < (G.l.length : Int) := by omega
      generalize hev : G.even = ev at *
      cases ev
      · rw [if_neg (by simp)] at st
        go_wp2_with fail
        go_roundw
        case rel => exact ⟨n + 1, by omega, by go_num, by rw [if_neg (by simp)]; exact st⟩
        case measure => simp [intOf]; omega
      · rw [if_pos rfl] at st
        have hnz : n < (zeroTo G.l n).length := by rw [HZL.out]; exact hlt
        have d2 : wr.cell? ⟨g, n * 4 + 2, none⟩ = some (vi ((zeroTo G.l n).getD n default).r) := by
          rw [st.out.arr.cell (by omega), flat_get gcells_len default _ _ _ hnz (by decide)]
          rfl
        have z2 := st.out.arr.frozen (n * 4 + 2)
        have S1 : Hid (NxSt w1 g c (zeroTo G.l (n + 1)) (wr.setCell ⟨g, n * 4 + 2, none⟩ (vi 0))) := Lib.hid (st.out.zero hnz)
        generalize ((zeroTo G.l n).getD n default).r = rr at *
        clear st hnz
        go_wp2_with fail
        go_roundw
        case rel => exact ⟨n + 1, by omega, by go_num, S1⟩
        case measure => simp [intOf]; omega
    · obtain rfl : n = G.l.length := by omega
      have HLL : Hid ((if G.even then zeroTo G.l G.l.length else G.l).length = G.l.length) := Lib.hid (by split; exact HZL.out _; rfl)
      generalize (if G.even then zeroTo G.l G.l.length else G.l) = L at *
      have H2 := Lib.hid (H1.out.old st.out.below)
      have R2 := Lib.hid (R0.out.old st.out.below)
      have RW := Lib.hid (arr_row st.out.arr)
      rw [HLL.out] at RW
      have B2 : Hid (Below w.heap.size w wr) := Lib.hid (by rw [HRB.out]; exact B0.out.trans (st.out.below.mono (by rw [← HRB.out]; exact B0.out.size)))
      clear st hn hlt hlen
      go_wp2_with fail
      refine (pages_any H2.out.mgr H2.out.chip).mono ?_
      rintro e w4 ⟨rfl, hb4⟩
      have H4 := Lib.hid (H2.out.old hb4)
      have R4 := Lib.hid (R2.out.old hb4)
      have W4 := Lib.hid (RW.out.below hb4)
      have B4 := Lib.hid (B2.out.trans (hb4.mono B2.out.size))
      clear hb4
      go_wp2_with fail
      refine (Room_any H4.out.mgr H4.out.chip HF.out).mono ?_
      rintro e w5 ⟨rfl, hb5⟩
      have H5 := Lib.hid (H4.out.old hb5)
      have R5 := Lib.hid (R4.out.old hb5)
      have W5 := Lib.hid (W4.out.below hb5)
      have B5 := Lib.hid (B4.out.trans (hb5.mono B4.out.size))
      clear hb5
      generalize roomL G M.P = rm at *
      go_wp2_with fail
      refine (pages_any H5.out.mgr H5.out.chip).mono ?_
      rintro e w6 ⟨rfl, hb6⟩
      have R6 := Lib.hid (R5.out.old hb6)
      have W6 := Lib.hid (W5.out.below hb6)
      have B6 := Lib.hid (B5.out.trans (hb6.mono B5.out.size))
      clear hb6
      go_wp2_with fail
      have HN := Lib.hid (gcs.Next_any _ L M.P (decide ((M.P : Int) ≤ rm)) _ W6.out)
      refine HN.out.mono ?_
      rintro e w7 ⟨rfl, hb7⟩
      have R7 := Lib.hid (R6.out.old hb7)
      have B7 := Lib.hid (B6.out.trans (hb7.mono B6.out.size))
      clear hb7 HN
      generalize gcs.NextL L M.P (decide ((M.P : Int) ≤ rm)) = r at *
      have c0 : w7.cell? ⟨rb, 0, none⟩ = some (vi 0) := R7.out.cell 0
      have c1 : w7.cell? ⟨rb, 1, none⟩ = some (vi 0) := R7.out.cell 1
      have z0 := R7.out.frozen 0
      have z1 := R7.out.frozen 1
      go_wp2_with fail
      refine bodyPost_ret (v := gcs.vact r) (by simp [results, Tryz.results207, go_sem, c0, c1]) rfl ⟨by rw [HDEF.out], ?_⟩
      exact (B7.out.setCell (p := ⟨rb, 0, none⟩) (by rw [HRB.out]; exact Nat.le_refl _) _).setCell (p := ⟨rb, 1, none⟩) (by rw [HRB.out]; exact Nat.le_refl _) _
end

end Go.Proofs.YtnfhlocflpdlcaaGreat.mgr

/-
  A manager of a chip's blocks: a page programmed somewhere. Conditions: a manager and its chip told by Held.
-/
namespace Go.Proofs.YtnfhlocflpdlcaaGreat.mgr
open Go.RowKit

section
variable {base : Nat} {w w' : World} {m : Nat} {G : MgM} {M : ChM}
theorem field_g2 (x y z : Int) (w : World) : (Instr.field 122 (.agg #[vi x, vi y, vi z]) 2).run Tryz.prog w = .ok (vi z) w := by kernel_rfl
theorem chip_Program {k : Nat} (h : ChipAt base w k M) (hok : M.view.ok) (j p : Int) (a : Option Addr) (l : List Nat) (c : Nat) (hr : SRow base w a l) : Calls Tryz.prog 228 #[ptr k, vi j, vi p, .slice a l.length c] w (ActPost base w k M (NP.program M.view j p l)) := Go.Proofs.YtnfhlocflpdlcaaGreat.Program_any h hok j p a l c hr
/-- What a programming answers and leaves. -/
def PPost (base : Nat) (w : World) (m : Nat) (G : MgM) (M : ChM) (r : (Int × Int × Int) × NP.Chp × Mg) (e : Ending) (w' : World) : Prop :=
  ∃ M', e = .returned (.tuple #[vi r.1.1, vi r.1.2.1, vi r.1.2.2]) ∧ HGoes base w m G M w' r.2.2 M' ∧ M'.view = r.2.1
theorem PPost.mk {r : (Int × Int × Int) × NP.Chp × Mg} {x y z : Int} {V : NP.Chp} {g' : Mg} (hr : r = ((x, y, z), V, g')) {M' : ChM} (hg : HGoes base w m G M w' g' M') (hv : M'.view = V) : PPost base w m G M r (.returned (.tuple #[vi x, vi y, vi z])) w' :=
  ⟨M', by rw [hr], by rw [hr]; exact hg, by rw [hr]; exact hv⟩
theorem program_BP (c : NP.Chp) (j p : Int) (b : List Nat) : (NP.program c j p b).2.B = c.B ∧ (NP.program c j p b).2.P = c.P ∧ (NP.program c j p b).2.S = c.S := by
  unfold NP.program
  dsimp only
  repeat (first | exact ⟨rfl, rfl, rfl⟩ | split)
theorem count_set (s : Int) : ∀ (l : List gcs.Blk) (i : Nat) (x : gcs.Blk), i < l.length → countL s (l.set i x) + (if (l.getD i default).s = s then 1 else 0) = countL s l + (if x.s = s then 1 else 0)
  | y :: l, 0, x, _ => by
    unfold countL
    simp only [List.set_cons_zero, List.filter_cons, List.getD_cons_zero, beq_iff_eq]
    split <;> split <;> simp <;> omega
  | y :: l, i + 1, x, h => by
    have ih := count_set s l i x (by simpa using h)
    unfold countL at ih ⊢
    simp only [List.set_cons_succ, List.filter_cons, List.getD_cons_succ, beq_iff_eq] at ih ⊢
    by_cases hy : y.s = s
    · rw [if_pos hy, if_pos hy]; simp only [List.length_cons]; omega
    · rw [if_neg hy, if_neg hy]; exact ih
def Mg.ready (g : Mg) : Mg := if g.at_ = -1 then g.begun else g
/-- How many blocks may be asked yet. -/
def Mg.need (g : Mg) : Nat := countL 0 g.l + (if g.at_ = -1 then 1 else 2)
/-- One step of a programming. -/
def Mg.progStep (b : List Nat) (n : Nat) (c : NP.Chp) (g : Mg) : (Int × Int × Int) × NP.Chp × Mg :=
  if g.at_ = -1 then ((0, 0, 40), c, g)
  else
    let i := g.at_.toNat
    let x := g.blk i
    let r := NP.program c i x.n b
    if r.1 = 10 then Mg.progTo b n r.2 (g.close i)
    else if r.1 = 0 then
      let g1 := g.put i { x with n := x.n + 1, l := x.l + 1 }
      ((i, x.n, 0), r.2, if x.n + 1 = c.P then g1.close i else g1)
    else if r.1 = 11 then ((i, x.n, 11), r.2, g.close i)
    else ((0, 0, r.1), r.2, g)
theorem progTo_succ (b : List Nat) (n : Nat) (c : NP.Chp) (g : Mg) : Mg.progTo b (n + 1) c g = Mg.progStep b n c g.ready := rfl
theorem Mg.need_close {g : Mg} {i : Nat} (hi : i < g.l.length) (ha : g.at_ = i) (hs : (g.blk i).s = 1) : (g.close i).need + 1 = countL 0 g.l + 2 := by
  have h1 := count_set 0 g.l i (closeB (g.blk i)) hi
  have h2 : (closeB (g.blk i)).s ≠ 0 := by unfold closeB; dsimp only; split <;> decide
  have h3 : ¬ (g.l.getD i default).s = 0 := by
    have : (g.l.getD i default).s = 1 := hs
    omega
  rw [if_neg h2, if_neg h3] at h1
  have h4 : (g.close i).at_ = -1 := by unfold Mg.close Mg.shut Mg.put; dsimp only; rw [if_pos ha.symm]
  have h5 : (g.close i).l = g.l.set i (closeB (g.blk i)) := rfl
  unfold Mg.need
  rw [h4, h5, if_pos rfl]
  omega
theorem Mg.need_ready {g : Mg} (ha : g.ready.at_ ≠ -1) : countL 0 g.ready.l + 2 ≤ g.need := by
  unfold Mg.ready at ha ⊢
  by_cases h0 : g.at_ = -1
  · rw [if_pos h0] at ha ⊢
    unfold Mg.begun at ha ⊢
    split
    · rename_i h1
      rw [if_pos h1] at ha
      exact absurd h0 ha
    · rename_i h1
      have hi : g.freeI.toNat < g.l.length := by have := g.freeI_lt; omega
      have h2 := count_set 0 g.l g.freeI.toNat ⟨1, 0, (g.blk g.freeI.toNat).r, 0⟩ hi
      have h3 : (g.l.getD g.freeI.toNat default).s = 0 := Mg.freeI_free (by omega)
      rw [if_pos h3, if_neg (show ¬ (1 : Int) = 0 by decide)] at h2
      unfold Mg.need
      rw [if_pos h0]
      show countL 0 (g.l.set _ _) + 2 ≤ _
      omega
  · rw [if_neg h0]
    unfold Mg.need
    rw [if_neg h0]
    exact Nat.le_refl _
theorem Mg.ok.ready {c : NP.Chp} {g : Mg} (h : g.ok c) (hP : 0 < c.P) : g.ready.ok c := by
  unfold Mg.ready
  split
  · rename_i h0; exact h.begun hP h0
  · exact h
/-- A programming under way: so many blocks may be asked yet. -/
structure PSt (base : Nat) (w : World) (m : Nat) (G : MgM) (M : ChM) (l : List Nat) (R : (Int × Int × Int) × NP.Chp × Mg) (k : Nat) (wr : World) (g : Mg) (M' : ChM) : Prop where
  goes : HGoes base w m G M wr g M'
  vok : M'.view.ok
  gok : g.ok M'.view
  eq : R = Mg.progTo l k M'.view g
  need : g.need ≤ k
  P : M'.P = M.P
theorem HGoes.closed {g' : Mg} {M' M'' : ChM} {w'' : World} {g'' : Mg} (h : HGoes base w m G M w' g' M') (q : HGoes base w' m (G.lay g') M' w'' g'' M'') : HGoes base w m G M w'' g'' M'' := h.trans q
set_option maxRecDepth 100000 in
set_option maxHeartbeats 8000000 in
theorem Program_any (h : Held base w m G M) (hok : M.view.ok) (hg : G.view.ok M.view) (a : Option Addr) (l : List Nat) (c : Nat) (hr : SRow base w a l) :
    Calls Tryz.prog 209 #[ptr m, .slice a l.length c] w (PPost base w m G M (G.view.program l M.view)) := by
  have HDEF : Hid (G.view.program l M.view = if M.down then ((0, 0, 4), M.view, G.view) else if l.length ≠ M.S + 32 then ((0, 0, 1), M.view, G.view) else Mg.progTo l (countL 0 G.l + 2) M.view G.view) := Lib.hid rfl
  have HR := Lib.hid (ready_any h)
  have H := Lib.hid h
  have HOK := Lib.hid hok
  have HGK := Lib.hid hg
  have HRW := Lib.hid hr
  have hS := (ok_S hok).1
  obtain ⟨c0, c1, c2, c3, c4, c5⟩ := h.cells
  clear c1 c2 c3 c4 c5
  by_cases hd : M.down = true
  · rw [hd, if_pos rfl] at HR HDEF
    clear h hok hg hr hd
    go_enter Tryz.func209, Tryz.ntmps209
    go_wp2_with fail
    go_step3
    go_wp2_with fail
    refine HR.out.mono ?_
    rintro e w' ⟨rfl, rfl⟩
    go_wp2_with fail
    rw [Exit.noGoto_ret]
    go_ret3
    exact PPost.mk HDEF.out (HGoes.refl H.out) rfl
  · have hd' : M.down = false := by simpa using hd
    rw [hd', if_neg (by simp)] at HR HDEF
    by_cases hl : l.length = M.S + 32
    · rw [if_neg (by simpa using hl)] at HDEF
      have HL := Lib.hid hl
      have hq : ((l.length : Int) != (M.S : Int) + 32) = false := by rw [hl]; simp
      have hP4 : Hid (4 ≤ M.P ∧ M.P ≤ 32) := Lib.hid (by
        have : NP.rightB M.B M.P M.S = true := hok.right
        unfold NP.rightB at this
        simp only [Bool.and_eq_true, decide_eq_true_eq] at this
        omega)
      have HB0 : Hid (countL 0 G.l + 2 = countL 0 G.l + 2) := Lib.hid rfl
      clear h hok hg hr hd hd' hl HB0
      go_enter Tryz.func209, Tryz.ntmps209
      go_wp2_with fail
      go_step3
      go_wp2_with fail
      refine HR.out.mono ?_
      rintro e w' ⟨rfl, rfl⟩
      go_wp2_with fail
      refine (Geo_any H.out.chip).mono ?_
      rintro e w1 ⟨rfl, hb1⟩
      have hf := field_g2
      have HB := Lib.hid hb1
      have hst : PSt base w' m G M l (G.view.program l M.view) (countL 0 G.l + 2) w1 G.view M := ⟨HGoes.of_old H.out hb1, HOK.out, HGK.out, HDEF.out, by unfold Mg.need; split <;> simp, rfl⟩
      have HST := Lib.hid hst
      generalize G.view.program l M.view = R at *
      clear hb1 c0 hst
      go_wp2_with fail
      clear hf
      go_step3
      go_wp2_with fail
      go_loopg [8, 9, 10] (countL 0 G.l + 2) (fun n s8 s9 s10 wr => ∃ (x y : Int) (g : Mg) (M' : ChM), s8 = vi x ∧ s9 = vi y ∧ s10 = vi 40 ∧ Hid (PSt base w' m G M l R n wr g M'))
      case atStart => exact ⟨0, 0, G.view, M, rfl, rfl, rfl, HST⟩
      case round =>
        clear HST
        obtain ⟨x, y, g, M', rfl, rfl, rfl, HST⟩ := hrel
        obtain ⟨n, rfl⟩ : ∃ n, gk = n + 1 := ⟨gk - 1, by have := HST.out.need; unfold Mg.need at this; split at this <;> omega⟩
        have k2 : wr.cell? ⟨m, 2, none⟩ = some (vi g.at_) := HST.out.goes.at_.cells.2.2.1
        have HE := Lib.hid HST.out.eq
        rw [progTo_succ] at HE
        have hg1 : 0 < M'.view.P := by have h1 := hP4.out; have h2 := HST.out.P; show 0 < M'.P; omega
        have HGR := Lib.hid (HST.out.gok.ready hg1)
        have HNR := Lib.hid (fun h => Nat.le_trans (Mg.need_ready (g := g) h) HST.out.need)
        have HVK := Lib.hid HST.out.vok
        have HPP := Lib.hid HST.out.P
        clear hg1
        go_upto_region 7 with fail
        go_cut [35] from 27 to 94 (fun v wx => v = .bool (g.ready.at_ != -1) ∧ Hid (HGoes base w' m G M wx g.ready M'))
        case first =>
          by_cases ha : g.at_ = -1
          · have haq : (g.at_ != -1) = false := by simp [ha]
            have HRD : Hid (g.ready = g.begun) := Lib.hid (by unfold Mg.ready; rw [if_pos ha])
            have HFR : Hid (decide (0 ≤ g.freeI) = (g.begun.at_ != -1)) := Lib.hid (by
              unfold Mg.begun
              split
              · rename_i h1
                rw [decide_eq_false (by omega), haq]
              · rename_i h1
                rw [decide_eq_true (by omega)]
                have : (g.openAt g.freeI.toNat).at_ = g.freeI.toNat := rfl
                rw [this]; simp only [Bool.true_eq, bne_iff_ne, ne_eq]; omega)
            clear ha
            go_wp2_with fail
            refine (begin_any HST.out.goes.at_).mono ?_
            rintro e wx ⟨rfl, hgx⟩
            have HGX := Lib.hid (HST.out.goes.trans hgx)
            clear hgx
            rw [show (MgM.view (G.lay g)).freeI = g.freeI from rfl, HFR.out]
            go_wp2_with fail
            go_meet
            exact ⟨by rw [HRD.out], by rw [HRD.out]; exact HGX⟩
          · have haq : (g.at_ != -1) = true := by simp [ha]
            have HRD : Hid (g.ready = g) := Lib.hid (by unfold Mg.ready; rw [if_neg ha])
            clear ha
            go_wp2_with fail
            go_meet
            exact ⟨by rw [HRD.out, haq], by rw [HRD.out]; exact Lib.hid HST.out.goes⟩
        case rest =>
        obtain ⟨rfl, HG2⟩ := hcut
        clear k2 HST
        generalize g.ready = g2 at *
        by_cases ha : g2.at_ = -1
        · have haq : (g2.at_ != -1) = false := by simp [ha]
          have HE2 : Hid (R = ((0, 0, 40), M'.view, g2)) := Lib.hid (by rw [HE.out]; unfold Mg.progStep; rw [if_pos ha])
          clear ha
          go_wp2_with fail
          rw [Exit.noGoto_ret]
          go_ret3
          exact PPost.mk HE2.out HG2.out rfl
        · have haq : (g2.at_ != -1) = true := by simp [ha]
          rcases HGR.out.at1 with e | ⟨i, hat, hi, hsi⟩
          · exact absurd e ha
          have hx := HGR.out.open_ (g2.blk i) (blk_mem hi) hsi
          have hr := HGR.out.rng (g2.blk i) (blk_mem hi)
          have hE : R = Mg.progStep l n M'.view g2 := HE.out
          unfold Mg.progStep at hE
          dsimp only at hE
          rw [if_neg ha, hat, Int.toNat_natCast] at hE
          have hact := NP.act_ok HVK.out (faults_small HG2.out.at_.chip.faults) (.program i (g2.blk i).n l) HRW.out.row.small
          change (NP.program M'.view i (g2.blk i).n l).2.ok ∧ _ at hact
          have hBP := program_BP M'.view i (g2.blk i).n l
          have HCP : Hid (∀ w', HGoes base w' m (G.lay g2) M' w' g2 M' → SRow base w' a l → Calls Tryz.prog 228 #[ptr G.k, vi i, vi (g2.blk i).n, .slice a l.length c] w' (ActPost base w' G.k M' (NP.program M'.view i (g2.blk i).n l))) := Lib.hid (fun w' h hr => chip_Program h.at_.chip HVK.out i _ a l c hr)
          have HNC : Hid ((g2.close i).need ≤ n) := Lib.hid (by
            have h1 := Mg.need_close hi hat hsi
            have h2 := HNR.out ha
            omega)
          have HCK : Hid ((g2.close i).ok M'.view) := Lib.hid (HGR.out.close hi)
          have HII := Lib.hid hi
          have HAT := Lib.hid hat
          have hP2 : M'.view.P = M.P := HPP.out
          have hP5 := hP4.out
          rw [hP2] at hx hr hE
          have k0 : wc.cell? ⟨m, 0, none⟩ = some (ptr G.k) := HG2.out.at_.cells.1
          have k1 : wc.cell? ⟨m, 1, none⟩ = some (.slice (some ⟨G.gl, 0, none⟩) g2.l.length G.cl) := HG2.out.at_.cells.2.1
          have k2 : wc.cell? ⟨m, 2, none⟩ = some (vi i) := by have := HG2.out.at_.cells.2.2.1; rw [← hat]; exact this
          obtain ⟨d0, d1, d2, d3⟩ := HG2.out.at_.bcells (i := i) hi
          change _ = some (vi (g2.blk i).n) at d3
          have hi0 : (0 : Int) ≤ (i : Int) := by omega
          have hi1 : (i : Int) < (g2.l.length : Int) := by omega
          generalize hxx : g2.blk i = x at *
          generalize hr1 : (NP.program M'.view i x.n l).1 = r1 at *
          generalize hr2 : (NP.program M'.view i x.n l).2 = V2 at *
          have HX := Lib.hid hxx
          have HR1 := Lib.hid hr1
          have HR2 := Lib.hid hr2
          have HE2 := Lib.hid hE
          have HACT := Lib.hid hact
          have HBP := Lib.hid hBP
          have HXB := Lib.hid hx
          have HRB := Lib.hid hr
          clear ha hat hi hsi hx hr hE hact hBP hP2 hxx hr1 hr2 d0 d1 d2 HE
          obtain ⟨xs, xl, xr, xn⟩ := x
          dsimp only at *
          go_wp2_with fail
          refine (HCP.out _ (HGoes.refl HG2.out.at_) (HRW.out.chg HG2.out.chg H.out.mine)).mono ?_
          rintro e wd ⟨Md, rfl, hgd, hvd⟩
          rw [HR1.out]
          rw [HR2.out] at hvd
          have HGD := Lib.hid (HG2.out.trans (HG2.out.at_.chipGoes hgd))
          have HVD := Lib.hid hvd
          clear hgd hvd k0 k1 k2 d3
          by_cases e10 : r1 = 10
          · subst e10
            have HE3 : Hid (R = Mg.progTo l n V2 (g2.close i)) := Lib.hid (by rw [HE2.out, if_pos rfl])
            clear HE2
            go_wp2_with fail
            refine (close_any HGD.out.at_ i HII.out).mono ?_
            rintro e we ⟨rfl, hge⟩
            have HGE := Lib.hid (HGD.out.trans hge)
            clear hge
            go_wp2_with fail
            go_roundg n
            case measure => omega
            case rel =>
              refine ⟨i, xn, g2.close i, Md, rfl, rfl, rfl, Lib.hid ⟨HGE.out, by rw [HVD.out]; exact HACT.out.1, HCK.out.chip (by rw [HVD.out]; exact HBP.out.1) (by rw [HVD.out]; exact HBP.out.2.1), by rw [HVD.out]; exact HE3.out, HNC.out, ?_⟩⟩
              have h1 : Md.view.P = M'.view.P := by rw [HVD.out]; exact HBP.out.2.1
              exact h1.trans HPP.out
          · have q10 : (r1 == 10) = false := beq_eq_false_iff_ne.2 e10
            by_cases e0 : r1 = 0
            · subst e0
              rw [if_neg (by decide), if_pos rfl] at HE2
              have k0 : wd.cell? ⟨m, 0, none⟩ = some (ptr G.k) := HGD.out.at_.cells.1
              obtain ⟨d0, d1, d2, d3⟩ := HGD.out.at_.bcells (i := i) HII.out
              change wd.cell? _ = some (vi (g2.blk i).l) at d1
              change wd.cell? _ = some (vi (g2.blk i).n) at d3
              rw [HX.out] at d1 d3
              dsimp only at d1 d3
              have z1 := HGD.out.at_.mgr.row.frozen (i * 4 + 1)
              have z3 := HGD.out.at_.mgr.row.frozen (i * 4 + 3)
              have hx := HXB.out
              have hr := HRB.out
              have q1 : IntKind.i64.wrap (xn + 1) = xn + 1 := IntWalk.i64_in _ (by omega)
              have q2 : IntKind.i64.wrap (xl + 1) = xl + 1 := IntWalk.i64_in _ (by omega)
              have HY : Hid (HGoes base w' m G M ((wd.setCell ⟨G.gl, i * 4 + 3, none⟩ (vi (xn + 1))).setCell ⟨G.gl, i * 4 + 1, none⟩ (vi (xl + 1))) (g2.put i ⟨xs, xl + 1, xr, xn + 1⟩) Md) := Lib.hid (by
                have hx2 : (MgM.lay G g2).l.getD i default = ⟨xs, xl, xr, xn⟩ := HX.out
                have h1 := HGD.out.at_.cell (i := i) (j := 3) HII.out (by decide) (vi (xn + 1)) ⟨xs, xl, xr, xn + 1⟩ (by rw [hx2]; rfl)
                have h2 := h1.at_.cell (i := i) (j := 1) (by simpa [Mg.put] using HII.out) (by decide) (vi (xl + 1)) ⟨xs, xl + 1, xr, xn + 1⟩ (by dsimp only [MgM.lay, Mg.put, MgM.view]; rw [blk_set _ _ _ _ HII.out, if_pos rfl]; rfl)
                have h3 := HGD.out.trans (h1.trans h2)
                simpa only [Mg.put, MgM.view, MgM.lay, List.set_set] using h3)
              have HPA : Hid (∀ n : Sub ((wd.setCell ⟨G.gl, i * 4 + 3, none⟩ (vi (xn + 1))).setCell ⟨G.gl, i * 4 + 1, none⟩ (vi (xl + 1))), Calls Tryz.prog 225 #[ptr m] n.w fun e w' => e = .returned (vi Md.P) ∧ Below n.w.heap.size n.w w') := Lib.hid (fun n => pages_any (HY.out.at_.mgr.old n.below) (HY.out.at_.chip.old n.below))
              have hMP : Md.P = M.P := by
                have h1 : Md.view.P = M'.view.P := by rw [HVD.out]; exact HBP.out.2.1
                exact h1.trans HPP.out
              rw [hMP] at HPA
              have HCI := Lib.hid (show i < (g2.put i ⟨xs, xl + 1, xr, xn + 1⟩).l.length by simpa [Mg.put] using HII.out)
              clear d0 d2 hMP e10
              generalize g2.put i ⟨xs, xl + 1, xr, xn + 1⟩ = g3 at *
              go_upto_region 19 with fail
              have e3 : ((wd.setCell ⟨G.gl, i * 4 + 3, none⟩ (vi (xn + 1))).setCell ⟨G.gl, i * 4 + 1, none⟩ (vi (xl + 1))).cell? ⟨G.gl, i * 4 + 3, none⟩ = some (vi (xn + 1)) := by
                rw [World.cell?_setCell_other _ _ _ _ (by intro e; injection e with _ e; omega)]
                go_simp
              generalize (wd.setCell ⟨G.gl, i * 4 + 3, none⟩ (vi (xn + 1))).setCell ⟨G.gl, i * 4 + 1, none⟩ (vi (xl + 1)) = we at *
              have e3 := Sub.cell e3
              clear d1 d3 z1 z3 k0
              refine wp_region_sub (by kernel_rfl) (by kernel_rfl) ?_
              repeat (go_big_quiet_step (exact ext_of (HPA.out _)))
              refine wpQuiet_nil ?_
              rintro _ ⟨nq, rfl⟩
              have HZ := Lib.hid (HY.out.old nq.below)
              clear e3
              by_cases hnp : xn + 1 = (M.P : Int)
              · have hnq : (xn + 1 == (M.P : Int)) = true := beq_iff_eq.2 hnp
                have HE3 : Hid (R = (((i : Int), xn, 0), V2, g3.close i)) := Lib.hid (by rw [HE2.out, if_pos hnp])
                clear hnp HE2 hx hr
                go_wp2_with fail
                refine (close_any HZ.out.at_ i HCI.out).mono ?_
                rintro e wf ⟨rfl, hgf⟩
                have HGF := Lib.hid (HZ.out.trans hgf)
                clear hgf
                go_wp2_with fail
                rw [Exit.noGoto_ret]
                go_ret3
                exact PPost.mk HE3.out HGF.out HVD.out
              · have hnq : (xn + 1 == (M.P : Int)) = false := beq_eq_false_iff_ne.2 hnp
                have HE3 : Hid (R = (((i : Int), xn, 0), V2, g3)) := Lib.hid (by rw [HE2.out, if_neg hnp])
                clear hnp HE2 hx hr
                go_wp2_with fail
                rw [Exit.noGoto_ret]
                go_ret3
                exact PPost.mk HE3.out HZ.out HVD.out
            · have q0 : (r1 == 0) = false := beq_eq_false_iff_ne.2 e0
              have q0' : (r1 != 0) = true := by simp [e0]
              by_cases e11 : r1 = 11
              · subst e11
                have HE3 : Hid (R = (((i : Int), xn, 11), V2, g2.close i)) := Lib.hid (by rw [HE2.out, if_neg (by decide), if_neg (by decide), if_pos rfl])
                clear HE2
                go_wp2_with fail
                refine (close_any HGD.out.at_ i HII.out).mono ?_
                rintro e we ⟨rfl, hge⟩
                have HGE := Lib.hid (HGD.out.trans hge)
                clear hge
                go_wp2_with fail
                rw [Exit.noGoto_ret]
                go_ret3
                exact PPost.mk HE3.out HGE.out HVD.out
              · have q11 : (r1 == 11) = false := beq_eq_false_iff_ne.2 e11
                have q11' : (r1 != 11) = true := by simp [e11]
                have HE3 : Hid (R = ((0, 0, r1), V2, g2)) := Lib.hid (by rw [HE2.out, if_neg e10, if_neg e0, if_neg e11])
                clear HE2 e10 e0 e11
                go_wp2_with fail
                rw [Exit.noGoto_ret]
                go_ret3
                exact PPost.mk HE3.out HGD.out HVD.out
    · have HD2 : Hid (G.view.program l M.view = ((0, 0, 1), M.view, G.view)) := Lib.hid (by rw [HDEF.out, if_pos hl])
      have hq : ((l.length : Int) != (M.S : Int) + 32) = true := by simp only [bne_iff_ne, ne_eq]; omega
      clear h hok hg hr hd hd' hl HDEF
      go_enter Tryz.func209, Tryz.ntmps209
      go_wp2_with fail
      go_step3
      go_wp2_with fail
      refine HR.out.mono ?_
      rintro e w' ⟨rfl, rfl⟩
      go_wp2_with fail
      refine (Geo_any H.out.chip).mono ?_
      rintro e w1 ⟨rfl, hb1⟩
      have hf := field_g2
      have HG1 := Lib.hid (HGoes.of_old H.out hb1)
      clear hb1 c0
      go_wp2_with fail
      rw [Exit.noGoto_ret]
      go_ret3
      exact PPost.mk HD2.out HG1.out rfl
end

end Go.Proofs.YtnfhlocflpdlcaaGreat.mgr

