/-
  Lemmas for a law's proof, put together from several texts: each part says what it shows, and its conditions.
-/
import Derived.Test.YtnfhlocflpdlcaaGreatZT28
/-
  A seal's payload. Conditions: moderate numbers, a row that is read.
-/
namespace Go.Proofs.YtnfhlocflpdlcaaGreat.ft
open Go.RowKit Go.Proofs.YtnfhlocflpdlcaaGreat.mgr

theorem own_made (w : World) (n m : Nat) (hm : n + m ≤ 1000000) : Own (w.alloc (.cells (madeCells #[vb 0] (n + m)) 5)) w.heap.size (.slice (some ⟨w.heap.size, 0, none⟩) n (n + m)) (List.replicate n 0) := by
  refine ⟨by simp [bv], .inr ⟨w.heap.size, n + m, madeCells #[vb 0] (n + m), by rw [List.length_replicate], Nat.le_refl _, heap_alloc_new w _, by rw [List.length_replicate]; omega, by unfold maxLen; omega, by simp [madeCells], ?_⟩⟩
  rw [toList_madeCells_one, List.length_replicate, Nat.mul_one, List.take_replicate, Nat.min_eq_left (by omega), bv, List.map_replicate]
theorem make_more (n m : Nat) (hm : n + m ≤ 1000000) (w : World) : (Instr.makeSlice 56 (.int .i64 (n : Int)) (.int .i64 ((n : Int) + (m : Int)))).run Tryz.prog w = .ok (.slice (some ⟨w.heap.size, 0, none⟩) n (n + m)) (w.alloc (.cells (madeCells #[vb 0] (n + m)) 5)) := by
  obtain ⟨i0, hi, hz0, hz1, hz2⟩ := info_parts byte_info
  have := run_make (P := Tryz.prog) w 56 5 i0 (vb 0) Tryz.underlying56 hi hz0 .i64 .i64 (n : Int) ((n : Int) + (m : Int)) (by omega) (by omega) (by rw [hz2]; omega) (by omega)
  rw [hz1] at this
  rw [show ((n : Int) + (m : Int)).toNat = n + m by omega, Int.toNat_natCast, Nat.mul_one] at this
  exact this
set_option maxRecDepth 100000 in
set_option maxHeartbeats 4000000 in
theorem head_any (reserve bad : Int) (a : Option Addr) (l : List Nat) (c : Nat) (w : World) (h : BRow w a l) (hl : l.length ≤ 10000) (h1 : 0 ≤ reserve ∧ reserve ≤ 65535) (h2 : 0 ≤ bad ∧ bad ≤ 65535) :
    Calls Tryz.prog 162 #[vi reserve, vi bad, .slice a l.length c] w fun e w' => ∃ v, e = .returned v ∧ Own w' w.heap.size v (FP.headP reserve bad l) ∧ Below w.heap.size w w' := by
  obtain ⟨rn, rfl⟩ : ∃ rn : Nat, reserve = rn := ⟨reserve.toNat, by omega⟩
  obtain ⟨bn, rfl⟩ : ∃ bn : Nat, bad = bn := ⟨bad.toNat, by omega⟩
  have HHD : Hid (FP.headP (rn : Int) (bn : Int) l = [rn % 256, rn / 256, bn % 256, bn / 256, 0, 0, 0, 0] ++ l) := Lib.hid (by
    have e1 : ((rn : Int) % 256).toNat = rn % 256 := by omega
    have e2 : ((rn : Int) / 256 % 256).toNat = rn / 256 := by omega
    have e3 : ((bn : Int) % 256).toNat = bn % 256 := by omega
    have e4 : ((bn : Int) / 256 % 256).toNat = bn / 256 := by omega
    unfold FP.headP
    rw [e1, e2, e3, e4])
  have hmk : (Instr.makeSlice 56 (.int .i64 8) (.int .i64 (8 + (l.length : Int)))).run Tryz.prog w = .ok (.slice (some ⟨w.heap.size, 0, none⟩) 8 (8 + l.length)) (w.alloc (.cells (madeCells #[vb 0] (8 + l.length)) 5)) := make_more 8 l.length (by omega) w
  have HO := Lib.hid (own_made w 8 l.length (by omega))
  have HB : Hid (Below w.heap.size w (w.alloc (.cells (madeCells #[vb 0] (8 + l.length)) 5))) := Lib.hid ((Below.refl _ _).alloc (Nat.le_refl _) _)
  have HR0 := Lib.hid h
  have HR := Lib.hid (h.below HB.out)
  have hc : (8 : Nat) ≤ 8 + l.length := by omega
  clear h
  go_enter Tryz.func162, Tryz.ntmps162
  go_upto_region 2 with fail
  generalize w.alloc (.cells (madeCells #[vb 0] (8 + l.length)) 5) = w0 at *
  have f0 := own_frozen HO.out (by simp) 0
  have f1 := own_frozen HO.out (by simp) 1
  have f2 := own_frozen HO.out (by simp) 2
  have f3 := own_frozen HO.out (by simp) 3
  have e0 := own_cell HO.out (by simp) (j := 0) (by decide)
  have e1 := own_cell HO.out (by simp) (j := 1) (by decide)
  have e2 := own_cell HO.out (by simp) (j := 2) (by decide)
  have e3 := own_cell HO.out (by simp) (j := 3) (by decide)
  go_upto_region 3 with fail
  have hbase : w.heap.size ≤ w0.heap.size := HB.out.size
  have HO4 := Lib.hid (own_set (own_set (own_set (own_set HO.out (by simp) 0 (rn % 256)) (by simp) 1 (rn / 256)) (by simp) 2 (bn % 256)) (by simp) 3 (bn / 256))
  have HB4 : Hid (Below w.heap.size w ((((w0.setCell ⟨w.heap.size, 0, none⟩ (vb (rn % 256))).setCell ⟨w.heap.size, 1, none⟩ (vb (rn / 256))).setCell ⟨w.heap.size, 2, none⟩ (vb (bn % 256))).setCell ⟨w.heap.size, 3, none⟩ (vb (bn / 256)))) := Lib.hid
    ((((HB.out.setCell (p := ⟨w.heap.size, 0, none⟩) (Nat.le_refl _) _).setCell (p := ⟨w.heap.size, 1, none⟩) (Nat.le_refl _) _).setCell (p := ⟨w.heap.size, 2, none⟩) (Nat.le_refl _) _).setCell (p := ⟨w.heap.size, 3, none⟩) (Nat.le_refl _) _)
  have HR4 : Hid (BRow ((((w0.setCell ⟨w.heap.size, 0, none⟩ (vb (rn % 256))).setCell ⟨w.heap.size, 1, none⟩ (vb (rn / 256))).setCell ⟨w.heap.size, 2, none⟩ (vb (bn % 256))).setCell ⟨w.heap.size, 3, none⟩ (vb (bn / 256))) a l) := Lib.hid (by
    exact HR0.out.below HB4.out)
  change Code.wp _ _ _ _ ((((w0.setCell ⟨w.heap.size, 0, none⟩ (vb (rn % 256))).setCell ⟨w.heap.size, 1, none⟩ (vb (rn / 256))).setCell ⟨w.heap.size, 2, none⟩ (vb (bn % 256))).setCell ⟨w.heap.size, 3, none⟩ (vb (bn / 256)))
  clear e0 e1 e2 e3 f0 f1 f2 f3 HO HB hmk
  generalize ((((w0.setCell ⟨w.heap.size, 0, none⟩ (vb (rn % 256))).setCell ⟨w.heap.size, 1, none⟩ (vb (rn / 256))).setCell ⟨w.heap.size, 2, none⟩ (vb (bn % 256))).setCell ⟨w.heap.size, 3, none⟩ (vb (bn / 256))) = w1 at *
  obtain ⟨v2, w2, hrun, ho2, hs2⟩ := append_bytes (c := c) HO4.out HR4.out (by simp; omega) HB4.out.size
  have RA : AppRun 56 56 56 (.slice (some ⟨w.heap.size, 0, none⟩) 8 (8 + l.length)) (.slice a l.length c) w1 v2 w2 := ⟨hrun⟩
  have HO2 := Lib.hid ho2
  have HB2 := Lib.hid (HB4.out.trans hs2.below)
  clear hrun ho2 hs2
  go_wp2_with (at_builtin; refine wpList_append_run rfl (.tmp 30) (.tmp 31) rfl rfl rfl RA.run ?_)
  go_ret
  rw [HHD.out]
  exact ⟨_, rfl, HO2.out, HB2.out⟩
end Go.Proofs.YtnfhlocflpdlcaaGreat.ft

/-
  Sealing, in plain words: whatever order what was written and what was dropped is told in, the same comes of it. No program in sight.
-/
namespace Go.Proofs.YtnfhlocflpdlcaaGreat.ft
open Go.RowKit Go.Proofs.YtnfhlocflpdlcaaGreat.mgr

theorem foldl_perm {S A : Type} {f : S → A → S} {I : S → Prop} (hI : ∀ s x, I s → I (f s x)) {l₁ l₂ : List A} (p : l₁.Perm l₂) (comm : ∀ x ∈ l₁, ∀ y ∈ l₁, x ≠ y → ∀ s, I s → f (f s x) y = f (f s y) x) :
    ∀ s, I s → l₁.foldl f s = l₂.foldl f s := by
  induction p with
  | nil => intro s _; rfl
  | cons x p ih =>
    intro s hs
    exact ih (fun a ha b hb => comm a (List.mem_cons_of_mem _ ha) b (List.mem_cons_of_mem _ hb)) _ (hI s x hs)
  | swap x y l =>
    intro s hs
    simp only [List.foldl_cons]
    by_cases e : x = y
    · rw [e]
    · rw [comm y (by simp) x (by simp) (fun h => e h.symm) s hs]
  | trans p q ih1 ih2 =>
    intro s hs
    rw [ih1 comm s hs]
    exact ih2 (fun a ha b hb => comm a (p.symm.subset ha) b (p.symm.subset hb)) s hs
/-- A block's number that is there, with something needed in it. -/
def liveK (g : Mg) (k : Int) : Bool := g.there k && (g.blk k.toNat).l != 0
def lessB (x : gcs.Blk) : gcs.Blk := { x with l := x.l - 1, s := if x.s = 2 ∧ x.l - 1 = 0 then 3 else x.s }
theorem drop_def (g : Mg) (k : Int) : (g.drop k).2 = if liveK g k then g.put k.toNat (lessB (g.blk k.toNat)) else g := by
  unfold Mg.drop liveK
  generalize g.blk k.toNat = x
  cases h1 : g.there k
  · rw [if_pos (.inl rfl)]; rfl
  · by_cases h2 : x.l = 0
    · rw [if_pos (.inr h2), h2]; rfl
    · have h3 : (x.l != 0) = true := by simp [h2]
      rw [if_neg (by simp [h2]), h3]; rfl
theorem blk_put_ne (g : Mg) {i j : Nat} (x : gcs.Blk) (h : i ≠ j) : (g.put i x).blk j = g.blk j := by
  simp only [Mg.blk, Mg.put, List.getD_eq_getElem?_getD, List.getElem?_set]
  rw [if_neg h]
theorem there_put (g : Mg) {i : Nat} (x : gcs.Blk) (k : Int) (h : 0 ≤ k → i ≠ k.toNat) : (g.put i x).there k = g.there k ∧ (0 ≤ k → (g.put i x).blk k.toNat = g.blk k.toNat) := by
  refine ⟨?_, fun h0 => blk_put_ne g x (h h0)⟩
  by_cases h0 : 0 ≤ k
  · have := blk_put_ne g x (h h0)
    unfold Mg.there
    rw [this]
    simp [Mg.put]
  · unfold Mg.there
    rw [decide_eq_false h0]
    rfl
theorem live_there {g : Mg} {k : Int} (h : liveK g k = true) : 0 ≤ k := by
  unfold liveK at h
  simp only [Bool.and_eq_true] at h
  exact (there_i h.1).1
theorem live_put (g : Mg) {a b : Int} (ha : 0 ≤ a) (hab : a ≠ b) (x : gcs.Blk) : liveK (g.put a.toNat x) b = liveK g b := by
  have h := there_put g (i := a.toNat) x b (fun hb => by omega)
  unfold liveK
  rw [h.1]
  by_cases hb : 0 ≤ b
  · rw [h.2 hb]
  · have : g.there b = false := by unfold Mg.there; rw [decide_eq_false hb]; rfl
    rw [this]; rfl
theorem drop_comm (g : Mg) (a b : Int) : ((g.drop a).2.drop b).2 = ((g.drop b).2.drop a).2 := by
  by_cases hab : a = b
  · rw [hab]
  · have A := drop_def g a
    have B := drop_def g b
    cases ha : liveK g a
    · rw [ha, if_neg (by simp)] at A
      cases hb : liveK g b
      · rw [hb, if_neg (by simp)] at B
        rw [A, B, A]
      · have h1 := live_put g (live_there hb) (fun e => hab e.symm) (lessB (g.blk b.toNat))
        rw [hb, if_pos rfl] at B
        rw [A, B, drop_def _ a, h1, ha, if_neg (by simp)]
    · have h1 := live_put g (live_there ha) hab (lessB (g.blk a.toNat))
      rw [ha, if_pos rfl] at A
      cases hb : liveK g b
      · rw [hb, if_neg (by simp)] at B
        rw [A, B, A, drop_def _ b, h1, hb, if_neg (by simp)]
      · have h2 := live_put g (live_there hb) (fun e => hab e.symm) (lessB (g.blk b.toNat))
        have a0 := live_there ha
        have b0 := live_there hb
        have e1 := (there_put g (i := a.toNat) (lessB (g.blk a.toNat)) b (fun _ => by omega)).2 b0
        have e2 := (there_put g (i := b.toNat) (lessB (g.blk b.toNat)) a (fun _ => by omega)).2 a0
        rw [hb, if_pos rfl] at B
        rw [A, B, drop_def _ b, h1, hb, if_pos rfl, drop_def _ a, h2, ha, if_pos rfl, e1, e2]
        simp only [Mg.put]
        rw [List.set_comm _ _ (by omega)]
theorem put_comm {m : Mp FP.Plc} (h : MP.Ok m) {a b : Int} (u v : FP.Plc) (hab : a ≠ b) : MP.put (MP.put m a u) b v = MP.put (MP.put m b v) a u := by
  refine MP.ext (MP.put_ok (MP.put_ok h _ _) _ _) (MP.put_ok (MP.put_ok h _ _) _ _) fun k => ?_
  simp only [MP.get_put]
  by_cases h1 : b = k
  · rw [if_pos h1, if_neg (by omega), if_pos h1]
  · rw [if_neg h1]
    by_cases h2 : a = k
    · rw [if_pos h2, if_pos h2]
    · rw [if_neg h2, if_neg h2, if_neg h1]
theorem del_comm {m : Mp FP.Plc} (h : MP.Ok m) (a b : Int) : MP.del (MP.del m a) b = MP.del (MP.del m b) a := by
  refine MP.ext (MP.del_ok (MP.del_ok h _) _) (MP.del_ok (MP.del_ok h _) _) fun k => ?_
  rw [MP.get_del (MP.del_ok h _), MP.get_del (MP.del_ok h _), MP.get_del h, MP.get_del h]
  by_cases h1 : a = k <;> by_cases h2 : b = k <;> simp [h1, h2]
/-- What holds while a translation is sealed. -/
structure SlOk (c : NP.Chp) (r b : Int) (s : FP.Sl) : Prop where
  gok : s.g.ok c
  same : s.g.reserve = r ∧ s.g.bad = b
  slow : Low s.sld
  dlow : Low s.gone
section
variable {c : NP.Chp} {r b : Int} {s : FP.Sl}
theorem SlOk.take (h : SlOk c r b s) {x : Int × FP.Plc} (hx : 0 ≤ x.1 ∧ x.1 < 8192) : SlOk c r b (s.take x) := by
  unfold FP.Sl.take
  cases MP.get s.sld x.1 with
  | none => exact ⟨h.gok, h.same, h.slow.put hx _, h.dlow.del _⟩
  | some p =>
    have := drop_same s.g p.block
    exact ⟨drop_right h.gok _, ⟨this.1.trans h.same.1, this.2.trans h.same.2⟩, h.slow.put hx _, h.dlow.del _⟩
theorem SlOk.strike (h : SlOk c r b s) (x : Int × FP.Plc) : SlOk c r b (s.strike x) := by
  unfold FP.Sl.strike
  have := drop_same s.g ((MP.get s.sld x.1).getD default).block
  exact ⟨drop_right h.gok _, ⟨this.1.trans h.same.1, this.2.trans h.same.2⟩, h.slow.del _, h.dlow⟩
theorem take_comm {x y : Int × FP.Plc} (h1 : MP.Ok s.sld) (h2 : MP.Ok s.gone) (hxy : x.1 ≠ y.1) : (s.take x).take y = (s.take y).take x := by
  have e1 : MP.get (MP.put s.sld x.1 x.2) y.1 = MP.get s.sld y.1 := by rw [MP.get_put, if_neg hxy]
  have e2 : MP.get (MP.put s.sld y.1 y.2) x.1 = MP.get s.sld x.1 := by rw [MP.get_put, if_neg (fun e => hxy e.symm)]
  simp only [FP.Sl.take, e1, e2, put_comm h1 x.2 y.2 hxy, del_comm h2 x.1 y.1]
  cases MP.get s.sld x.1 <;> cases MP.get s.sld y.1 <;> simp [drop_comm]
theorem strike_comm {x y : Int × FP.Plc} (h1 : MP.Ok s.sld) (hxy : x.1 ≠ y.1) : (s.strike x).strike y = (s.strike y).strike x := by
  have e1 : MP.get (MP.del s.sld x.1) y.1 = MP.get s.sld y.1 := by rw [MP.get_del h1, if_neg hxy]
  have e2 : MP.get (MP.del s.sld y.1) x.1 = MP.get s.sld x.1 := by rw [MP.get_del h1, if_neg (fun e => hxy e.symm)]
  simp only [FP.Sl.strike, e1, e2, del_comm h1 x.1 y.1, drop_comm]
theorem keys_ne {m : Mp FP.Plc} (h : MP.Ok m) {x y : Int × FP.Plc} (hx : x ∈ m) (hy : y ∈ m) (e : x ≠ y) : x.1 ≠ y.1 := by
  intro e1
  have h1 := MP.mem_get h hx
  have h2 := MP.mem_get h hy
  rw [e1, h2] at h1
  injection h1 with h1
  exact e (Prod.ext e1 h1.symm)
/-- In whatever order what was written is sealed. -/
theorem takes_perm {m done : Mp FP.Plc} (hm : MP.Ok m) (hp : done.Perm m) (h1 : MP.Ok s.sld) (h2 : MP.Ok s.gone) : done.foldl FP.Sl.take s = m.foldl FP.Sl.take s :=
  foldl_perm (I := fun s => MP.Ok s.sld ∧ MP.Ok s.gone) (fun _ _ h => ⟨MP.put_ok h.1 _ _, MP.del_ok h.2 _⟩) hp (fun _ hx _ hy e _ hs => take_comm hs.1 hs.2 (keys_ne hm (hp.subset hx) (hp.subset hy) e)) s ⟨h1, h2⟩
theorem strikes_perm {m done : Mp FP.Plc} (hm : MP.Ok m) (hp : done.Perm m) (h1 : MP.Ok s.sld) : done.foldl FP.Sl.strike s = m.foldl FP.Sl.strike s :=
  foldl_perm (I := fun s => MP.Ok s.sld) (fun _ _ h => MP.del_ok h _) hp (fun _ hx _ hy e _ hs => strike_comm hs (keys_ne hm (hp.subset hx) (hp.subset hy) e)) s h1
theorem SlOk.takes {m : Mp FP.Plc} (hm : ∀ x ∈ m, 0 ≤ x.1 ∧ x.1 < 8192) (h : SlOk c r b s) : SlOk c r b (m.foldl FP.Sl.take s) := by
  induction m generalizing s with
  | nil => exact h
  | cons x m ih => exact ih (fun y hy => hm y (List.mem_cons_of_mem _ hy)) (h.take (hm x (by simp)))
theorem SlOk.strikes (m : Mp FP.Plc) (h : SlOk c r b s) : SlOk c r b (m.foldl FP.Sl.strike s) := by
  induction m generalizing s with
  | nil => exact h
  | cons x m ih => exact ih (h.strike x)
theorem strikes_gone (m : Mp FP.Plc) (s : FP.Sl) : (m.foldl FP.Sl.strike s).gone = s.gone := by
  induction m generalizing s with
  | nil => rfl
  | cons x m ih => exact ih _
end
/-- What was written is taken, with the seal itself. -/
def takeS (f1 : FP.Ft) (p : FP.Plc) : FP.Sl := (MP.put f1.now 0 p).foldl FP.Sl.take ⟨f1.g, f1.sld, f1.gone⟩
def strikeS (s1 : FP.Sl) : FP.Sl := s1.gone.foldl FP.Sl.strike s1
def sealF (f1 : FP.Ft) (p : FP.Plc) (text : List Nat) : FP.Ft :=
  { f1 with g := (strikeS (takeS f1 p)).g, sld := (strikeS (takeS f1 p)).sld, now := [], gone := [], epoch := f1.epoch + 1, text := text }
theorem sealed_eq (F : FP.Ft) (text : List Nat) : F.sealed text = if F.ready ≠ 0 then some (F.ready, F) else if (text.length : Int) ≠ F.c.S - 8 then some (1, F) else if F.shut then some (41, F) else
    match F.put 2 0 (FP.headP F.reserve F.bad text) with
    | none => none
    | some (p, f1) => some (0, sealF f1 p text) := rfl
theorem head_small {reserve bad : Int} {text : List Nat} (ht : ∀ y ∈ text, y < 256) : ∀ y ∈ FP.headP reserve bad text, y < 256 := by
  intro y hy
  unfold FP.headP at hy
  simp only [List.cons_append, List.nil_append, List.mem_cons] at hy
  rcases hy with rfl | rfl | rfl | rfl | rfl | rfl | rfl | rfl | hy
  all_goals first | omega | exact ht y hy
theorem Fit.sealed {F : FP.Ft} (h : Fit F) {text : List Nat} (ht : ∀ y ∈ text, y < 256) {r : Int × FP.Ft} (e : F.sealed text = some r) : Fit r.2 := by
  rw [sealed_eq] at e
  split at e
  · cases e; exact h
  · split at e
    · cases e; exact h
    · rename_i hl
      split at e
      · cases e; exact h
      · split at e
        · cases e
        · rename_i p f1 hput
          cases e
          have h1 := (h.put (head_small ht) hput).1
          have hS := h.good.ok.right
          have hs : F.c.S ≤ 512 := by
            unfold NP.rightB at hS
            simp only [Bool.and_eq_true, Bool.or_eq_true, beq_iff_eq, decide_eq_true_eq] at hS
            omega
          have hn := h1.nlow.put (k := 0) (by decide) p
          have k1 : SlOk f1.c f1.g.reserve f1.g.bad (takeS f1 p) := SlOk.takes hn.2 ⟨h1.gok, ⟨rfl, rfl⟩, h1.slow, h1.dlow⟩
          have k2 : SlOk f1.c f1.g.reserve f1.g.bad (strikeS (takeS f1 p)) := k1.strikes _
          refine ⟨h1.good, k2.gok, h1.res, ?_, k2.slow, Low.nil, Low.nil, h1.llen, ?_⟩
          · show 0 ≤ (strikeS (takeS f1 p)).g.reserve ∧ (strikeS (takeS f1 p)).g.reserve ≤ 65535 ∧ 0 ≤ (strikeS (takeS f1 p)).g.bad ∧ (strikeS (takeS f1 p)).g.bad ≤ 65535
            rw [k2.same.1, k2.same.2]; exact h1.gres
          · show text.length ≤ 1000; omega
end Go.Proofs.YtnfhlocflpdlcaaGreat.ft

/-
  A translation's map told one by one, while other things of it are written. Conditions: a translation told by FtAt.
-/
namespace Go.Proofs.YtnfhlocflpdlcaaGreat.ft
open Go.RowKit Go.Proofs.YtnfhlocflpdlcaaGreat.mgr

/-- One of a translation's maps is told one by one. -/
structure It1 (base : Nat) (w : World) (f : Nat) (X : FtM) (r b : Nat) (left : Mp FP.Plc) (wr : World) (Y : FtM) : Prop where
  goes : FGoes base w f X wr Y
  it : MpIt wr r b .u32 encP left
  which : b = Y.bn ∨ b = Y.bg
  rf : ¬ Y.foot f r
  young : w.heap.size ≤ r ∧ base ≤ w.heap.size
section
variable {base : Nat} {w wr w' : World} {f r b : Nat} {X Y : FtM} {left : Mp FP.Plc} {m : Mp FP.Plc}
theorem noblk {α : Type} {K : IntKind} {enc : α → Value} {l : Mp α} (h : MpIt wr r b K enc l) : ∀ t cur, ¬ Blk wr r t cur := by
  intro t cur hb
  obtain ⟨_, _, _, _, _, _, h2, _⟩ := h
  unfold Blk at hb
  rw [hb] at h2
  cases h2
theorem It1.old (h : It1 base w f X r b left wr Y) (q : Below wr.heap.size wr w') : It1 base w f X r b left w' Y := ⟨h.goes.old q, h.it.old q, h.which, h.rf, h.young⟩
theorem It1.ne_bs (h : It1 base w f X r b left wr Y) : b ≠ Y.bs := by
  rcases h.which with e | e
  · rw [e]; exact h.goes.at_.ne.1.symm
  · rw [e]; exact h.goes.at_.ne.2.1.symm
theorem It1.begin (h : FGoes base w f X wr Y) (hb : b = Y.bn ∨ b = Y.bg) (hbase : base ≤ w.heap.size) (hm : MpAt wr b .u32 encP m) : ∃ w', RngRun 185 (.map (some b)) (.pointer (some ⟨wr.heap.size, 0, none⟩)) wr w' ∧ It1 base w f X wr.heap.size b m w' Y := by
  obtain ⟨w', h1, h2, h3, h4⟩ := hm.range (P := Tryz.prog) Tryz.underlying185
  exact ⟨w', ⟨h1⟩, h.old h3, h2, hb, fun e => by have := h.at_.lt _ e; omega, h.size, hbase⟩
/-- The step. -/
theorem It1.next (h : It1 base w f X r b left wr Y) : (left = [] ∧ NxtRun (.pointer (some ⟨r, 0, none⟩)) (.tuple #[.bool false]) wr wr) ∨
    ∃ (k : Int) (pb pp : Int) (w' : World), (k, (⟨pb, pp⟩ : FP.Plc)) ∈ left ∧ NxtRun (.pointer (some ⟨r, 0, none⟩)) (.tuple #[.bool true, .int .u32 k, .agg #[vi pb, vi pp]]) wr w' ∧ It1 base w f X r b (MP.del left k) w' Y ∧ (MP.del left k).length < left.length ∧ left.Perm ((k, ⟨pb, pp⟩) :: MP.del left k) ∧
      (Instr.entry (.pointer (some ⟨r, 0, none⟩))).run Tryz.prog w' = .ok (.tuple #[.int .u32 k, .agg #[vi pb, vi pp]]) w' := by
  rcases h.it.next (P := Tryz.prog) with ⟨h1, h2⟩ | ⟨⟨k, pb, pp⟩, w', h1, h2, h3, h4, h5, h6⟩
  · exact .inl ⟨h1, ⟨h2⟩⟩
  · have hok : MP.Ok left := by obtain ⟨_, _, _, _, _, _, _, _, _, _, _, _, hok⟩ := h.it; exact hok
    have hg := MP.mem_get hok h1
    refine .inr ⟨k, pb, pp, w', h1, ⟨h2⟩, ⟨?_, h3, h.which, h.rf, h.young⟩, by have := MP.del_len hg; dsimp only at this ⊢; omega, MP.perm_del hg, h6⟩
    have hF : FtAt base w' f Y := h.goes.at_.chg h4 (fun n e => by subst e; exact ⟨Nat.le_trans h.young.2 h.young.1, fun t cur hb => (noblk h.it t cur hb).elim⟩) (fun n e e2 => h.rf (e2 ▸ e))
    exact h.goes.young ⟨h4.os, h4.tape, h4.output, h4.size, fun i hi => h4.block i (Nat.lt_of_lt_of_le hi h.goes.size) (by have := h.young.1; omega)⟩ hF
theorem It1.drop (h : It1 base w f X r b left wr Y) {g' : Mg} (q : HGoes base wr Y.m Y.G Y.M w' g' Y.M) : It1 base w f X r b left w' { Y with G := Y.G.lay g' } := by
  have hb : ¬ foot1 Y.m Y.G Y.M b := by
    rcases h.which with e | e
    · rw [e]; exact (h.goes.at_.map_ne h.goes.at_.now).2.2
    · rw [e]; exact (h.goes.at_.map_ne h.goes.at_.gone).2.2
  have hr : ¬ foot1 Y.m Y.G Y.M r := fun e => h.rf (.inr (.inr (.inr (.inr (.inr e)))))
  have hgo := h.goes.at_.goes q
  refine ⟨h.goes.trans hgo, h.it.chg q.chg hb hr, h.which, fun e => ?_, h.young⟩
  rcases hgo.foot _ e with e | e
  · exact h.rf e
  · have := h.it.lt.1; omega
theorem It1.sld (h : It1 base w f X r b left wr Y) {S' : Mp FP.Plc} (g : wr.grownBy w' (some Y.bs)) (hm : MpAt w' Y.bs .u32 encP S') : It1 base w f X r b left w' { Y with S := S' } := by
  have hl := h.it.lt
  refine ⟨h.goes.trans (h.goes.at_.sealPut g hm), h.it.of_heap (g.block b hl.2 (fun e => ?_)) (g.block r hl.1 (fun e => ?_)), h.which, h.rf, h.young⟩
  · injection e with e; exact h.ne_bs e
  · injection e with e; exact h.rf (.inr (.inl e))
theorem It1.gone (h : It1 base w f X r b left wr Y) {D' : Mp FP.Plc} (hb : b = Y.bn) (g : wr.grownBy w' (some Y.bg)) (hm : MpAt w' Y.bg .u32 encP D') : It1 base w f X r b left w' { Y with D := D' } := by
  have hl := h.it.lt
  refine ⟨h.goes.trans (h.goes.at_.gonePut g hm), h.it.of_heap (g.block b hl.2 (fun e => ?_)) (g.block r hl.1 (fun e => ?_)), h.which, h.rf, h.young⟩
  · injection e with e; rw [hb] at e; exact h.goes.at_.ne.2.2 e
  · injection e with e; exact h.rf (.inr (.inr (.inr (.inl e))))
/-- The manager's Drop, told of the manager alone. -/
theorem drop_call1 (h : FtAt base w f X) (hx : X.Fit) (k : Int) : Calls Tryz.prog 163 #[ptr X.m, vi k] w fun e w' => e = .returned (vi (X.G.view.drop k).1) ∧ HGoes base w X.m X.G X.M w' (X.G.view.drop k).2 X.M :=
  mgr.Drop_any h.held hx.gok hx.dims.2.2.2.1 k
theorem HGoes.cells {base : Nat} {w w' : World} {m : Nat} {G : MgM} {M : ChM} {g' : Mg} (q : HGoes base w m G M w' g' M) {p : Addr} {v : Value} (hc : w.cell? p = some v) (hn : ¬ foot1 m G M p.block) : w'.cell? p = some v := q.chg.cell hc hn
/-- What is laid anew by sealing fits. -/
theorem Fit.sl {F : FP.Ft} (h : Fit F) {s : FP.Sl} (k : SlOk F.c F.g.reserve F.g.bad s) : Fit { F with g := s.g, sld := s.sld, gone := s.gone } :=
  ⟨h.good, k.gok, h.res, by dsimp only; rw [k.same.1, k.same.2]; exact h.gres, k.slow, h.nlow, k.dlow, h.llen, h.tlen⟩
end
end Go.Proofs.YtnfhlocflpdlcaaGreat.ft

