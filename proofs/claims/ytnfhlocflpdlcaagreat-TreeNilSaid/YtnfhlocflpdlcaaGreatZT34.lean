/-
  Lemmas for a law's proof, put together from several texts: each part says what it shows, and its conditions.
-/
import Derived.Test.YtnfhlocflpdlcaaGreatZT33
import Derived.Test.YtnfhlocflpdlcaaGreatZT06
/-
  A pool with all that lies under it, in plain words; a page read and written. Conditions: nothing was ever committed.
-/
namespace Go.Proofs.YtnfhlocflpdlcaaGreat.pl
open Go.RowKit Go.Proofs.YtnfhlocflpdlcaaGreat.mgr Go.Proofs.YtnfhlocflpdlcaaGreat.ft
/-- A pool in plain words. -/
structure Pl where
  P : Int
  U : Mp Int
  M : Mp (List Nat)
def Pl.there (p : Pl) (n : Int) : Bool := (decide (1 ≤ n) && decide (n ≤ 4)) || MP.has p.U n
def Pl.get (p : Pl) (n : Int) : List Nat := (MP.get p.M n).getD (List.replicate 64 0)
def Pl.put (p : Pl) (n : Int) (l : List Nat) : Pl := { p with M := MP.put p.M n l }
def foot (Y : PlM) (X : FtM) (n : Nat) : Prop := n = Y.bu ∨ n = Y.bd ∨ X.foot Y.f n
def PRow (base : Nat) (w : World) (D : Mp Value) (M : Mp (List Nat)) (n : Int) : Prop :=
  (MP.get D n = none ∧ MP.get M n = none) ∨ ∃ g c l, MP.get D n = some (.slice (some ⟨g, 0, none⟩) 64 c) ∧ MP.get M n = some l ∧ l.length = 64 ∧ 64 ≤ c ∧ c ≤ maxLen ∧ SRow base w (some ⟨g, 0, none⟩) l
structure PoAt (base : Nat) (w : World) (q : Nat) (Y : PlM) (X : FtM) (p : Pl) : Prop where
  pl : PlAt w q Y
  ft : FtAt base w Y.f X
  fit : X.Fit
  dis : ∀ n, Y.foot q n → ¬ X.foot Y.f n
  low : base ≤ Y.bu ∧ base ≤ Y.bd ∧ base ≤ q
  lay : Y.T = 4 ∧ Y.F = 5 ∧ Y.P = p.P ∧ Y.I = 8 ∧ Y.sz = 64
  used : Y.U = p.U
  rows : ∀ n, PRow base w Y.D p.M n
  zero : ∀ n : Nat, 1 ≤ n → n ≤ 4 → X.view.read n = (([], 60), X.view)
  full : ∀ n, MP.has p.U n = true → MP.has p.M n = true
def PQ (base : Nat) (w : World) (q : Nat) (K : Nat → Prop) (p : Pl) : Prop := ∃ Y X, PoAt base w q Y X p ∧ K = foot Y X
structure PoGo (base : Nat) (w : World) (q : Nat) (K : Nat → Prop) (w' : World) (K' : Nat → Prop) (p' : Pl) : Prop where
  at_ : PQ base w' q K' p'
  chg : Chg K w w'
  foot : ∀ n, K' n → K n ∨ w.heap.size ≤ n
section
variable {F : Nat → Prop} {base : Nat} {w w' w'' : World} {q : Nat} {Y : PlM} {X : FtM} {p p' p'' : Pl} {K K' K'' : Nat → Prop}
theorem PRow.chg {D : Mp Value} {M : Mp (List Nat)} {n : Int} (h : PRow base w D M n) (k : Chg F w w') (hF : ∀ n, F n → Loose base w n) : PRow base w' D M n := by
  rcases h with h | ⟨g, c, l, h1, h2, h3, h4, h5, h6⟩
  · exact .inl h
  · exact .inr ⟨g, c, l, h1, h2, h3, h4, h5, h6.chg' k hF⟩
theorem PoAt.loose (h : PoAt base w q Y X p) : ∀ n, foot Y X n → Loose base w n := by
  intro n e
  rcases e with e | e | e
  · rw [e]; exact Loose.map h.low.1 h.pl.used
  · rw [e]; exact Loose.map h.low.2.1 h.pl.dirty
  · exact h.ft.loose n e
theorem PoAt.lt (h : PoAt base w q Y X p) : ∀ n, foot Y X n → n < w.heap.size := by
  intro n e
  rcases e with e | e | e
  · rw [e]; exact h.pl.used.lt
  · rw [e]; exact h.pl.dirty.lt
  · exact h.ft.lt n e
theorem PoAt.self (h : PoAt base w q Y X p) : ¬ foot Y X q := by
  intro e
  rcases e with e | e | e
  · exact h.pl.used.ne_blk h.pl.obj e.symm
  · exact h.pl.dirty.ne_blk h.pl.obj e.symm
  · exact h.dis q (.inl rfl) e
theorem PoAt.chg (h : PoAt base w q Y X p) (k : Chg F w w') (hF : ∀ n, F n → Loose base w n) (hn : ∀ n, foot Y X n → ¬ F n) (hq : ¬ F q) : PoAt base w' q Y X p :=
  ⟨h.pl.chg k (fun n e => by
    rcases e with e | e | e
    · rw [e]; exact hq
    · exact hn n (.inl e)
    · exact hn n (.inr (.inl e))), h.ft.chg k hF (fun n e => hn n (.inr (.inr e))), h.fit, h.dis, h.low, h.lay, h.used, fun n => (h.rows n).chg k hF, h.zero, h.full⟩
theorem PQ.loose (h : PQ base w q K p) : ∀ n, K n → Loose base w n := by obtain ⟨Y, X, h, rfl⟩ := h; exact h.loose
theorem PQ.lt (h : PQ base w q K p) : ∀ n, K n → n < w.heap.size := by obtain ⟨Y, X, h, rfl⟩ := h; exact h.lt
theorem PQ.self (h : PQ base w q K p) : ¬ K q := by obtain ⟨Y, X, h, rfl⟩ := h; exact h.self
theorem PQ.qlt (h : PQ base w q K p) : q < w.heap.size := by obtain ⟨Y, X, h, rfl⟩ := h; exact h.pl.obj.lt
theorem PQ.low (h : PQ base w q K p) : base ≤ w.heap.size := by obtain ⟨Y, X, h, rfl⟩ := h; have := h.pl.obj.lt; have := h.low; omega
theorem PQ.chg (h : PQ base w q K p) (k : Chg F w w') (hF : ∀ n, F n → Loose base w n) (hn : ∀ n, K n → ¬ F n) (hq : ¬ F q) : PQ base w' q K p := by
  obtain ⟨Y, X, h, rfl⟩ := h
  exact ⟨Y, X, h.chg k hF hn hq, rfl⟩
theorem PQ.old (h : PQ base w q K p) (k : Below w.heap.size w w') : PQ base w' q K p := h.chg (F := fun _ => False) (Chg.of_below k) (fun _ e => e.elim) (fun _ _ e => e) (fun e => e)
theorem PoGo.refl (h : PQ base w q K p) : PoGo base w q K w K p := ⟨h, Chg.refl _ _, fun _ e => .inl e⟩
theorem PoGo.trans (h : PoGo base w q K w' K' p') (k : PoGo base w' q K' w'' K'' p'') : PoGo base w q K w'' K'' p'' := by
  refine ⟨k.at_, h.chg.trans k.chg fun n hn e => ?_, fun n hn => ?_⟩
  · rcases h.foot n e with h1 | h1
    · exact h1
    · omega
  · rcases k.foot n hn with h1 | h1
    · exact h.foot n h1
    · exact .inr (Nat.le_trans h.chg.size h1)
theorem PoGo.old (h : PoGo base w q K w' K' p') (k : Below w'.heap.size w' w'') : PoGo base w q K w'' K' p' := ⟨h.at_.old k, h.chg.below k, h.foot⟩
theorem PoGo.of_old (h : PQ base w q K p) (k : Below w.heap.size w w') : PoGo base w q K w' K p := (PoGo.refl h).old k
theorem PoGo.ahead {w0 : World} (h : PQ base w0 q K p) (hb : Below w0.heap.size w0 w) (k : PoGo base w q K w' K' p') : PoGo base w0 q K w' K' p' := (PoGo.of_old h hb).trans k
theorem PoGo.size (h : PoGo base w q K w' K' p') : w.heap.size ≤ w'.heap.size := h.chg.size
/-- A block apart from a pool stays as it is. -/
theorem PoGo.keep {g : Nat} {t : TypeId} {cs : Array Value} (h : PoGo base w q K w' K' p') (hb : Blk w g t cs) (hn : ¬ K g) : Blk w' g t cs ∧ ¬ K' g := by
  refine ⟨hb.chg h.chg hn, fun e => ?_⟩
  rcases h.foot g e with h1 | h1
  · exact hn h1
  · have := hb.lt; omega
theorem PoGo.row {a : Option Addr} {l : List Nat} (h : PoGo base w q K w' K' p') (h0 : PQ base w q K p) (hr : SRow base w a l) : SRow base w' a l := hr.chg' h.chg h0.loose
def GetP (base : Nat) (w : World) (q : Nat) (K : Nat → Prop) (p : Pl) (n : Int) (e : Ending) (w' : World) : Prop :=
  ∃ w1 K' g c, e = .returned (.tuple #[.slice (some ⟨g, 0, none⟩) 64 c, vi 0]) ∧ Own w' w1.heap.size (.slice (some ⟨g, 0, none⟩) 64 c) (p.get n) ∧ (p.get n).length = 64 ∧ (∀ y ∈ p.get n, y < 256) ∧ w1.heap.size ≤ g ∧ 64 ≤ c ∧ c ≤ maxLen ∧ PoGo base w q K w1 K' p ∧ Below w1.heap.size w1 w'
theorem own_some {w : World} {base : Nat} {v : Value} {l : List Nat} (h : Own w base v l) (hn : 0 < l.length) : ∃ g cap, v = .slice (some ⟨g, 0, none⟩) l.length cap ∧ base ≤ g ∧ l.length ≤ cap ∧ cap ≤ maxLen := by
  rcases h.2 with ⟨_, h0⟩ | ⟨g, cap, cur, hv, hb, _, hnc, hcm, _⟩
  · omega
  · exact ⟨g, cap, hv, hb, hnc, hcm⟩
theorem PoAt.there_eq (h : PoAt base w q Y X p) (n : Int) : Y.there n = p.there n := by
  unfold PlM.there Pl.there
  rw [h.lay.1, h.used]
set_option maxRecDepth 100000 in
theorem Get_dirty (h : PoAt base w q Y X p) (n : Int) (ht : p.there n = true) (g c : Nat) (l : List Nat) (hd : MP.get Y.D n = some (.slice (some ⟨g, 0, none⟩) 64 c)) (hl : l.length = 64) (hr : BRow w (some ⟨g, 0, none⟩) l) :
    Calls Tryz.prog 33 #[ptr q, vi n] w fun e w' => ∃ v, e = .returned (.tuple #[v, vi 0]) ∧ Own w' w.heap.size v l ∧ Below w.heap.size w w' := by
  have HA := Lib.hid (asked_any h.pl n)
  rw [h.there_eq, ht] at HA
  have e7 : w.cell? ⟨q, 7, none⟩ = some (.map (some Y.bd)) := h.pl.obj.cell 7
  have L := h.pl.lookD n
  rw [show MP.has Y.D n = true by unfold MP.has; rw [hd]; rfl, hd] at L
  simp only [Option.map_some, Option.getD_some] at L
  have HCL : Hid (Calls Tryz.prog 75 #[.slice (some ⟨g, 0, none⟩) 64 c] w fun e w' => ∃ v', e = .returned v' ∧ Own w' w.heap.size v' l ∧ Below w.heap.size w w') := Lib.hid (by
    have h := Clone_any (some ⟨g, 0, none⟩) l c w hr (by rw [hl]; decide)
    rwa [hl] at h)
  clear h ht hd hl hr
  go_enter Tryz.func33, Tryz.ntmps33
  go_wp2_with fail
  refine HA.out.mono ?_
  rintro e w' ⟨rfl, rfl⟩
  go_wp2_with fail
  refine HCL.out.mono ?_
  rintro e w2 ⟨v, rfl, ho, hb⟩
  have HO := Lib.hid ho
  have HB := Lib.hid hb
  clear ho hb HCL HA L e7
  go_wp2_with fail
  go_ret2
  exact ⟨v, rfl, HO.out, HB.out⟩
def GetZ2 (base : Nat) (w : World) (q : Nat) (Y : PlM) (X : FtM) (s : Nat) (e : Ending) (w' : World) : Prop :=
  ∃ w1 X', e = .returned (.tuple #[.slice (some ⟨w1.heap.size, 0, none⟩) s s, vi 0]) ∧ Own w' w1.heap.size (.slice (some ⟨w1.heap.size, 0, none⟩) s s) (List.replicate s 0) ∧ FGoes base w Y.f X w1 X' ∧ X'.view = X.view ∧ PlAt w1 q Y ∧ Below w1.heap.size w1 w'
set_option maxRecDepth 100000 in
/-- A page that was never written. -/
theorem Get_zero2 {base : Nat} {X : FtM} (h : PlAt w q Y) (hF : FtAt base w Y.f X) (hx : X.Fit) (hdis : ∀ n, Y.foot q n → ¬ X.foot Y.f n) (m : Nat) (hm : m < 4294967296) (ht : Y.there m = true) (hd : MP.has Y.D m = false) (s : Nat) (hs : Y.sz = s) (hsl : s ≤ 1000000)
    (hr : X.view.read m = (([], 60), X.view)) : Calls Tryz.prog 33 #[ptr q, vi m] w (GetZ2 base w q Y X s) := by
  have HA := Lib.hid (asked_any h m)
  rw [ht] at HA
  have e7 : w.cell? ⟨q, 7, none⟩ = some (.map (some Y.bd)) := h.obj.cell 7
  have e0 : w.cell? ⟨q, 0, none⟩ = some (ptr Y.f) := h.obj.cell 0
  have L := h.lookD m
  rw [hd] at L
  have HRD := Lib.hid (ft.Read_any hF hx m hm)
  rw [hr] at HRD
  have H := Lib.hid h
  have HDIS := Lib.hid hdis
  have HSZ := Lib.hid hs
  have hmk := make_bytes s hsl
  have w1 : IntKind.u32.wrap (m : Int) = m := by simp only [IntKind.wrap, IntKind.bits, IntKind.signed]; simp; omega
  clear h hF ht hd hr hdis hs
  generalize ((MP.get Y.D m).map fun v => v).getD (.slice none 0 0) = v0 at *
  go_enter Tryz.func33, Tryz.ntmps33
  go_wp2_with fail
  refine HA.out.mono ?_
  rintro e w' ⟨rfl, rfl⟩
  go_wp2_with fail
  refine HRD.out.mono ?_
  rintro e w2 ⟨va, X', rfl, _, hrd, hv⟩
  have HG := Lib.hid hrd.goes
  have HV := Lib.hid hv
  have H2 := Lib.hid (H.out.chg hrd.goes.chg HDIS.out)
  have d5 : w2.cell? ⟨q, 5, none⟩ = some (.int .i64 (s : Int)) := by
    have h := H2.out.obj.cell 5
    change w2.cell? ⟨q, 5, none⟩ = some (vi Y.sz) at h
    rwa [HSZ.out] at h
  clear hrd hv e7 e0 L
  go_wp2_with fail
  go_ret2
  have hb : Below w2.heap.size w2 (w2.alloc (.cells (madeCells #[vb 0] s) 5)) := (Below.refl _ _).alloc (Nat.le_refl _) _
  exact ⟨w2, X', rfl, own_zeros w2 s hsl, HG.out, HV.out, H2.out, hb⟩
theorem Get_any (h : PQ base w q K p) (n : Nat) (hn : n ≤ 1000000) (ht : p.there n = true) : Calls Tryz.prog 33 #[ptr q, vi n] w (GetP base w q K p n) := by
  obtain ⟨Y, X, h, rfl⟩ := h
  rcases h.rows n with ⟨h1, h2⟩ | ⟨g, c, l, h1, h2, h3, h4, h5, h6⟩
  · have hu : MP.has p.U n = false := by
      cases hh : MP.has p.U n with
      | false => rfl
      | true => have := h.full n hh; unfold MP.has at this; rw [h2] at this; cases this
    have hn4 : 1 ≤ n ∧ n ≤ 4 := by
      unfold Pl.there at ht
      rw [hu] at ht
      simp at ht
      omega
    refine (Get_zero2 h.pl h.ft h.fit h.dis n (by omega) (by rw [h.there_eq]; exact ht) (by unfold MP.has; rw [h1]; rfl) 64 h.lay.2.2.2.2 (by decide) (h.zero n hn4.1 hn4.2)).mono ?_
    rintro e w' ⟨w1, X', rfl, ho, hg, hv, hp, hb⟩
    have hz : p.get n = List.replicate 64 0 := by unfold Pl.get; rw [h2]; rfl
    have hlo : ∀ m, X.foot Y.f m → Loose base w m := h.ft.loose
    have hat : PoAt base w1 q Y X' p := ⟨hp, hg.at_, by show ft.Fit X'.view; rw [hv]; exact h.fit, fun m e e2 => by
      rcases hg.foot m e2 with e3 | e3
      · exact h.dis m e e3
      · have := h.pl.lt m e; omega, h.low, h.lay, h.used, fun m => (h.rows m).chg hg.chg hlo, fun m h1 h2 => by rw [hv]; exact h.zero m h1 h2, h.full⟩
    refine ⟨w1, foot Y X', w1.heap.size, 64, rfl, by rw [hz]; exact ho, by rw [hz]; simp, by rw [hz]; intro y hy; rw [List.eq_of_mem_replicate hy]; decide, Nat.le_refl _, Nat.le_refl _, by decide, ⟨⟨Y, X', hat, rfl⟩, hg.chg.mono (fun m _ e => .inr (.inr e)), fun m e => ?_⟩, hb⟩
    rcases e with e | e | e
    · exact .inl (.inl e)
    · exact .inl (.inr (.inl e))
    · rcases hg.foot m e with e3 | e3
      · exact .inl (.inr (.inr e3))
      · exact .inr e3
  · have hg : p.get n = l := by unfold Pl.get; rw [h2]; rfl
    refine (Get_dirty h n ht g c l h1 h3 h6.row).mono ?_
    rintro e w' ⟨v, rfl, ho, hb⟩
    obtain ⟨g', c', rfl, hg', hc, hc'⟩ := own_some ho (by omega)
    rw [h3] at hc ho ⊢
    refine ⟨w, _, g', c', rfl, by rw [hg]; exact ho, by rw [hg]; exact h3, by rw [hg]; exact h6.row.small, hg', hc, hc', PoGo.refl ⟨Y, X, h, rfl⟩, hb⟩
end
end Go.Proofs.YtnfhlocflpdlcaaGreat.pl

/-
  A page of a pool written, a page handed out, a pool's numbers. Conditions: nothing was ever committed.
-/
namespace Go.Proofs.YtnfhlocflpdlcaaGreat.pl
open Go.RowKit Go.Proofs.YtnfhlocflpdlcaaGreat.mgr Go.Proofs.YtnfhlocflpdlcaaGreat.ft
section
variable {F : Nat → Prop} {base : Nat} {w w' w'' : World} {q : Nat} {Y : PlM} {X : FtM} {p p' p'' : Pl} {K K' K'' : Nat → Prop}
/-- The pool's two maps go on. -/
theorem PoAt.go (h : PoAt base w q Y X p) {U : Mp Int} {D : Mp Value} (g : Chg (fun n => n = Y.bu ∨ n = Y.bd) w w') (hp : PlAt w' q { Y with U := U, D := D }) {M : Mp (List Nat)} (hr : ∀ n, PRow base w' D M n) (hfull : ∀ n, MP.has U n = true → MP.has M n = true) :
    PoGo base w q (foot Y X) w' (foot Y X) ⟨p.P, U, M⟩ := by
  have hl : ∀ n, (n = Y.bu ∨ n = Y.bd) → Loose base w n := by
    intro n e
    rcases e with e | e
    · exact h.loose n (.inl e)
    · exact h.loose n (.inr (.inl e))
  refine ⟨⟨{ Y with U := U, D := D }, X, ⟨hp, h.ft.chg g hl (fun n e e2 => ?_), h.fit, h.dis, h.low, h.lay, rfl, hr, h.zero, hfull⟩, rfl⟩, g.mono (fun n _ e => ?_), fun n e => .inl e⟩
  · rcases e2 with e2 | e2
    · exact h.dis n (.inr (.inl e2)) e
    · exact h.dis n (.inr (.inr e2)) e
  · rcases e with e | e
    · exact .inl e
    · exact .inr (.inl e)
theorem PoAt.rows_put (h : PoAt base w q Y X p) (g : Chg (fun n => n = Y.bu ∨ n = Y.bd) w w') {n : Int} {a c : Nat} {l : List Nat} (hl : l.length = 64) (hc : 64 ≤ c ∧ c ≤ maxLen) (hr : SRow base w' (some ⟨a, 0, none⟩) l) :
    ∀ m, PRow base w' (MP.put Y.D n (.slice (some ⟨a, 0, none⟩) 64 c)) (MP.put p.M n l) m := by
  intro m
  unfold PRow
  simp only [MP.get_put]
  by_cases e : n = m
  · rw [if_pos e, if_pos e]
    exact .inr ⟨a, c, l, rfl, rfl, hl, hc.1, hc.2, hr⟩
  · rw [if_neg e, if_neg e]
    refine (h.rows m).chg g (fun n e => ?_)
    rcases e with e | e
    · exact h.loose n (.inl e)
    · exact h.loose n (.inr (.inl e))
set_option maxRecDepth 100000 in
set_option maxHeartbeats 1000000 in
theorem Put_any (h : PQ base w q K p) (n : Int) (ht : p.there n = true) (a : Option Addr) (c : Nat) (l : List Nat) (hr : BRow w a l) (hl : l.length = 64) :
    Calls Tryz.prog 39 #[ptr q, vi n, .slice a 64 c] w fun e w' => e = .returned (vi 0) ∧ PoGo base w q K w' K (p.put n l) := by
  obtain ⟨Y, X, h, rfl⟩ := h
  have HA := Lib.hid (asked_any h.pl n)
  rw [h.there_eq, ht] at HA
  have e5 : w.cell? ⟨q, 5, none⟩ = some (vi 64) := by have e := h.pl.obj.cell 5; change w.cell? ⟨q, 5, none⟩ = some (vi Y.sz) at e; rwa [h.lay.2.2.2.2] at e
  have e7 : w.cell? ⟨q, 7, none⟩ = some (.map (some Y.bd)) := h.pl.obj.cell 7
  have H := Lib.hid h
  have HCL : Hid (∀ W, Below w.heap.size w W → Calls Tryz.prog 75 #[.slice a 64 c] W fun e w' => ∃ v', e = .returned v' ∧ Own w' W.heap.size v' l ∧ Below W.heap.size W w') := Lib.hid (fun W hb => by
    have h := Clone_any a l c W (hr.below hb) (by rw [hl]; decide)
    rwa [hl] at h)
  have HSM := Lib.hid hr.small
  have HL := Lib.hid hl
  have HK : Hid (∀ W, Below w.heap.size w W → W.cell? ⟨q, 7, none⟩ = some (.map (some Y.bd))) := Lib.hid (fun W hb => (h.pl.old hb).obj.cell 7)
  have HB0 : Hid (Below w.heap.size w w) := Lib.hid (Below.refl _ _)
  have HBD : Hid (∀ W, Below w.heap.size w W → Below w.heap.size w W.drew) := Lib.hid (fun W h => h.drew)
  have HB2 : Hid (∀ W W' : World, Below W.heap.size W W' → Below w.heap.size w W → Below w.heap.size w W') := Lib.hid (fun W W' q h => h.trans (q.mono h.size))
  clear h ht hr hl
  go_enter Tryz.func39, Tryz.ntmps39
  go_wp2_with fail
  refine HA.out.mono ?_
  rintro e w' ⟨rfl, rfl⟩
  go_upto_region 6 with fail
  clear e5 e7 HA
  go_region_held3 (fun W => W.cell? ⟨q, 7, none⟩ = some (.map (some Y.bd)))
    (first | assumption | exact HK.out _ (by repeat first | exact HB0.out | (refine HB2.out _ _ (by assumption) ?_) | (refine HBD.out _ ?_)))
    (first | (go_at_call 75; refine (HCL.out _ (by repeat first | exact HB0.out | (refine HBD.out _ ?_))).mono ?_; rintro e w5 ⟨v5, rfl, ho5, hb5⟩; obtain ⟨g5, c5, rfl, hg5, hc5, hc5'⟩ := own_some ho5 (by rw [HL.out]; decide); rw [HL.out] at ho5 hc5 ⊢; obtain ⟨w6, hu6, h6, hg6⟩ := (H.out.pl.old (HB2.out _ _ hb5 (by repeat first | exact HB0.out | (refine HBD.out _ ?_)))).putD n (.slice (some ⟨g5, 0, none⟩) 64 c5); have hup : (Instr.mapUpdate 135 (.map (some Y.bd)) (vi n) (.slice (some ⟨g5, 0, none⟩) 64 c5)).run Tryz.prog w5 = .ok () w6 := hu6.run; have hs6 : w6.cell? ⟨q, 7, none⟩ = some (.map (some Y.bd)) := h6.obj.cell 7))
  all_goals
    have hbw : Below w'.heap.size w' w5 := HB2.out _ _ hb5 (HBD.out _ HB0.out)
    have hc6 : Chg (fun n => n = Y.bu ∨ n = Y.bd) w' w6 := (Chg.of_below hbw).grown hg6 (fun k e => by cases e; exact .inl (.inr rfl))
    obtain ⟨a', c', he, hsr, _⟩ := ho5.srow (base := base) HSM.out
    injection he with he
    subst he
    have hsr6 : SRow base w6 (some ⟨g5, 0, none⟩) l := hsr.chg' (F := fun n => n = Y.bd) ((Chg.refl _ w5).grown hg6 (fun k e => by cases e; exact .inl rfl)) (fun n e => by rw [e]; exact Loose.map H.out.low.2.1 (H.out.pl.old hbw).dirty)
    have HG := Lib.hid (H.out.go hc6 h6 (H.out.rows_put hc6 HL.out ⟨hc5, hc5'⟩ hsr6) (fun m e => by
      rw [H.out.used] at e
      have := H.out.full m e
      unfold MP.has at this ⊢
      rw [MP.get_put]
      by_cases e2 : n = m
      · rw [if_pos e2]; rfl
      · rw [if_neg e2]; exact this))
    rw [H.out.used] at HG
    clear hbw hc6 hsr hsr6 hup hs6 hu6 h6 hg6 ho5 hb5 HCL HK HB0 HBD HB2
    go_wp2_with fail
    go_ret
    exact ⟨rfl, HG.out⟩
theorem Size_any (h : PQ base w q K p) : Calls Tryz.prog 73 #[ptr q] w fun e w' => e = .returned (vi 64) ∧ w' = w := by
  obtain ⟨Y, X, h, rfl⟩ := h
  have e5 : w.cell? ⟨q, 5, none⟩ = some (vi 64) := by have e := h.pl.obj.cell 5; change w.cell? ⟨q, 5, none⟩ = some (vi Y.sz) at e; rwa [h.lay.2.2.2.2] at e
  clear h
  go_enter Tryz.func73, Tryz.ntmps73
  go_wp2_with fail
  go_ret
  exact ⟨rfl, rfl⟩
theorem lay_result {w' : World} {g : Nat} {v0 v1 v2 v3 : Value} (hb : Blk w' g 99 #[v0, v1, v2, v3]) (tmps : Array Value) (h2 : tmps[2]? = some (.pointer (some ⟨g, 0, none⟩))) :
    (results Tryz.f45 tmps).run Tryz.prog w' = .ok (.agg #[v0, v1, v2, v3]) w' := by
  have g0 : w'.cell? ⟨g, 0, none⟩ = some v0 := hb.cell 0
  have g1 : w'.cell? ⟨g, 1, none⟩ = some v1 := hb.cell 1
  have g2 : w'.cell? ⟨g, 2, none⟩ = some v2 := hb.cell 2
  have g3 : w'.cell? ⟨g, 3, none⟩ = some v3 := hb.cell 3
  simp only [results, Tryz.results45]
  simp [go_sem, h2, g0, g1, g2, g3]
theorem lay_fill {w w1 : World} {g : Nat} {u0 u1 u2 u3 : Value} (v0 v1 v2 v3 : Value) (h : Blk w1 g 99 #[u0, u1, u2, u3]) (hb : Below w.heap.size w w1) (hg : w.heap.size ≤ g) :
    Blk ((((w1.setCell ⟨g, 0, none⟩ v0).setCell ⟨g, 1, none⟩ v1).setCell ⟨g, 2, none⟩ v2).setCell ⟨g, 3, none⟩ v3) g 99 #[v0, v1, v2, v3] ∧ Below w.heap.size w ((((w1.setCell ⟨g, 0, none⟩ v0).setCell ⟨g, 1, none⟩ v1).setCell ⟨g, 2, none⟩ v2).setCell ⟨g, 3, none⟩ v3) := by
  refine ⟨(((h.set_ 0 v0).set_ 1 v1).set_ 2 v2).set_ 3 v3, ?_⟩
  exact (((hb.setCell (p := ⟨g, 0, none⟩) hg v0).setCell (p := ⟨g, 1, none⟩) hg v1).setCell (p := ⟨g, 2, none⟩) hg v2).setCell (p := ⟨g, 3, none⟩) hg v3
theorem Layout_any (h : PQ base w q K p) : Calls Tryz.prog 45 #[ptr q] w fun e w' => e = .returned (.agg #[vi 4, vi 5, vi p.P, vi 8]) ∧ Below w.heap.size w w' := by
  obtain ⟨Y, X, h, rfl⟩ := h
  have HB : Hid (Below w.heap.size w (w.alloc (.cells #[vi 0, vi 0, vi 0, vi 0] 99))) := Lib.hid ((Below.refl _ _).alloc (Nat.le_refl _) _)
  have HF := Lib.hid (Blk.new w 99 #[vi 0, vi 0, vi 0, vi 0])
  have HP := Lib.hid (h.pl.old HB.out)
  obtain ⟨h1, h2, h3, h4, _⟩ := h.lay
  go_enter Tryz.func45, Tryz.ntmps45
  go_upto_region 1 with fail
  change Code.wp _ _ _ _ (w.alloc (.cells #[vi 0, vi 0, vi 0, vi 0] 99))
  generalize w.alloc (.cells #[vi 0, vi 0, vi 0, vi 0] 99) = w1 at *
  have e1 : w1.cell? ⟨q, 1, none⟩ = some (vi 4) := by have e := HP.out.obj.cell 1; change w1.cell? ⟨q, 1, none⟩ = some (vi Y.T) at e; rwa [h1] at e
  have e2 : w1.cell? ⟨q, 2, none⟩ = some (vi 5) := by have e := HP.out.obj.cell 2; change w1.cell? ⟨q, 2, none⟩ = some (vi Y.F) at e; rwa [h2] at e
  have e3 : w1.cell? ⟨q, 3, none⟩ = some (vi p.P) := by have e := HP.out.obj.cell 3; change w1.cell? ⟨q, 3, none⟩ = some (vi Y.P) at e; rwa [h3] at e
  have e4 : w1.cell? ⟨q, 4, none⟩ = some (vi 8) := by have e := HP.out.obj.cell 4; change w1.cell? ⟨q, 4, none⟩ = some (vi Y.I) at e; rwa [h4] at e
  have r0 : w1.cell? ⟨w.heap.size, 0, none⟩ = some (vi 0) := HF.out.cell 0
  have f0 := HF.out.frozen 0
  have r1 : w1.cell? ⟨w.heap.size, 1, none⟩ = some (vi 0) := HF.out.cell 1
  have f1 := HF.out.frozen 1
  have r2 : w1.cell? ⟨w.heap.size, 2, none⟩ = some (vi 0) := HF.out.cell 2
  have f2 := HF.out.frozen 2
  have r3 : w1.cell? ⟨w.heap.size, 3, none⟩ = some (vi 0) := HF.out.cell 3
  have f3 := HF.out.frozen 3
  clear h h1 h2 h3 h4
  go_wp2_with fail
  obtain ⟨hf, hw⟩ := lay_fill (vi 4) (vi 5) (vi p.P) (vi 8) HF.out HB.out (Nat.le_refl _)
  exact bodyPost_ret (lay_result hf _ rfl) rfl ⟨rfl, hw⟩
theorem PRoom_any (h : PQ base w q K p) (n : Int) (hn : p.P - p.U.length = n) (hb : 0 ≤ p.P ∧ p.P ≤ 1000000 ∧ p.U.length ≤ 1000000) : Calls Tryz.prog 56 #[ptr q] w fun e w' => e = .returned (vi n) ∧ Below w.heap.size w w' := by
  obtain ⟨Y, X, h, rfl⟩ := h
  exact Room_any h.pl n (by rw [h.lay.2.2.1, h.used]; exact hn) (by rw [h.lay.2.2.1, h.used]; exact hb)
set_option maxRecDepth 100000 in
set_option maxHeartbeats 1000000 in
/-- The first page is handed out. -/
theorem Alloc_first2 (h : PlAt w q Y) (hb : 0 ≤ Y.F ∧ Y.F ≤ 1000000) (hg : Y.given Y.F = true) (ht : Y.there Y.F = false) (s : Nat) (hs : Y.sz = s) (hsl : s ≤ 1000000) (hbd : base ≤ Y.bd) : Calls Tryz.prog 138 #[ptr q] w fun e w' =>
    ∃ g, e = .returned (.tuple #[vi Y.F, vi 0]) ∧ PlAt w' q { Y with U := MP.put Y.U Y.F Y.F, D := MP.put Y.D Y.F (.slice (some ⟨g, 0, none⟩) s s) } ∧ Chg (fun n => n = Y.bu ∨ n = Y.bd) w w' ∧ SRow base w' (some ⟨g, 0, none⟩) (List.replicate s 0) := by
  have e2 : w.cell? ⟨q, 2, none⟩ = some (vi Y.F) := h.obj.cell 2
  have H := Lib.hid h
  have HG := Lib.hid (given_any h Y.F (by omega))
  rw [hg] at HG
  have HSZ := Lib.hid hs
  have HT := Lib.hid ht
  have hmk := make_bytes s hsl
  clear h hg ht hs
  go_enter Tryz.func138, Tryz.ntmps138
  go_wp2_with fail
  clear e2
  go_loopw [4] (fun v wr => v = vi Y.F ∧ wr = w) (fun _ _ => 0)
  case atStart => exact ⟨rfl, rfl⟩
  case round =>
    obtain ⟨rfl, rfl⟩ := hrel
    go_wp2_with fail
    refine HG.out.mono ?_
    rintro e w1 ⟨rfl, hb1⟩
    have HB1 := Lib.hid hb1
    have H1 := Lib.hid (H.out.old hb1)
    have HTH := Lib.hid (there_any H1.out Y.F)
    rw [HT.out] at HTH
    clear hb1
    go_wp2_with fail
    refine HTH.out.mono ?_
    rintro e w2 ⟨rfl, rfl⟩
    obtain ⟨w3, hu, h3, hg3⟩ := H1.out.putU Y.F Y.F
    have HU := Lib.hid hu
    have H3 := Lib.hid h3
    have HC3 : Hid (Chg (fun n => n = Y.bu ∨ n = Y.bd) wr w3) := Lib.hid ((Chg.of_below HB1.out).grown hg3 (fun k e => by cases e; exact .inl (.inl rfl)))
    have e6 : w2.cell? ⟨q, 6, none⟩ = some (.map (some Y.bu)) := H1.out.obj.cell 6
    clear hu h3 hg3
    go_upto_region 7 with fail
    go_wp2_with (at_mapUpdate; refine wpList_mapUpdate_run rfl (.tmp 24) (.tmp 25) (.tmp 26) rfl rfl rfl rfl HU.out.run ?_)
    clear e6 HU HTH HG
    go_frame
    have d7 : w3.cell? ⟨q, 7, none⟩ = some (.map (some Y.bd)) := H3.out.obj.cell 7
    have d5 : w3.cell? ⟨q, 5, none⟩ = some (.int .i64 (s : Int)) := by
      have h := H3.out.obj.cell 5
      change w3.cell? ⟨q, 5, none⟩ = some (vi Y.sz) at h
      rwa [HSZ.out] at h
    have hb4 : Below w3.heap.size w3 (w3.drew.alloc (.cells (madeCells #[vb 0] s) 5)) := (Below.refl _ _).drew.alloc (Nat.le_refl _) _
    obtain ⟨w5, hu5, h5, hg5⟩ := (H3.out.old hb4).putD Y.F (.slice (some ⟨w3.heap.size, 0, none⟩) s s)
    have hup : (Instr.mapUpdate 135 (.map (some Y.bd)) (vi Y.F) (.slice (some ⟨w3.heap.size, 0, none⟩) s s)).run Tryz.prog ((w3.alloc (.cells (madeCells #[vb 0] s) 5)).drew) = .ok () w5 := hu5.run
    have H5 := Lib.hid h5
    have HZ : Hid (SRow base w5 (some ⟨w3.heap.size, 0, none⟩) (List.replicate s 0)) := Lib.hid ((zero_row (base := base) w3.drew s).chg' (F := fun n => n = Y.bd) ((Chg.refl _ _).grown hg5 (fun k e => by cases e; exact .inl rfl)) (fun n e => by rw [e]; exact Loose.map hbd (H3.out.old hb4).dirty))
    have HC5 : Hid (Chg (fun n => n = Y.bu ∨ n = Y.bd) wr w5) := Lib.hid ((HC3.out.below hb4).grown hg5 (fun k e => by cases e; exact .inl (.inr rfl)))
    have HS1 : Hid (w3.drew.cell? ⟨q, 7, none⟩ = some (.map (some Y.bd)) ∧ w3.drew.cell? ⟨q, 5, none⟩ = some (.int .i64 (s : Int))) := Lib.hid ⟨d7, d5⟩
    have HS2 : Hid (((w3.alloc (.cells (madeCells #[vb 0] s) 5)).drew).cell? ⟨q, 7, none⟩ = some (.map (some Y.bd)) ∧ ((w3.alloc (.cells (madeCells #[vb 0] s) 5)).drew).cell? ⟨q, 5, none⟩ = some (.int .i64 (s : Int))) := Lib.hid ⟨cell_below d7 hb4, cell_below d5 hb4⟩
    have HS3 : Hid (w5.cell? ⟨q, 7, none⟩ = some (.map (some Y.bd)) ∧ w5.cell? ⟨q, 5, none⟩ = some (.int .i64 (s : Int))) := Lib.hid ⟨h5.obj.cell 7, by
      have h := h5.obj.cell 5
      change w5.cell? ⟨q, 5, none⟩ = some (vi Y.sz) at h
      rwa [HSZ.out] at h⟩
    clear hu5 h5 hg5 hb4 HC3 H3
    go_region_held3 (fun W => W.cell? ⟨q, 7, none⟩ = some (.map (some Y.bd)) ∧ W.cell? ⟨q, 5, none⟩ = some (.int .i64 (s : Int)))
      (first | exact HS1.out | exact HS2.out | exact HS3.out)
      (fail)
    go_wp2_with fail
    go_ret2
    exact ⟨rfl, ⟨_, H5.out, HC5.out, HZ.out⟩⟩
/-- The first page is handed out. -/
theorem Alloc_one (h : PQ base w q K p) (hP : 1 ≤ p.P) (hu : MP.has p.U 5 = false) : Calls Tryz.prog 138 #[ptr q] w fun e w' => e = .returned (.tuple #[vi 5, vi 0]) ∧ PoGo base w q K w' K ⟨p.P, MP.put p.U 5 5, MP.put p.M 5 (List.replicate 64 0)⟩ := by
  obtain ⟨Y, X, h, rfl⟩ := h
  refine (Alloc_first2 h.pl (by rw [h.lay.2.1]; omega) (by unfold PlM.given; rw [h.lay.2.1, h.lay.2.2.1]; simp; omega) (by rw [h.there_eq, h.lay.2.1]; unfold Pl.there; rw [hu]; rfl) 64 h.lay.2.2.2.2 (by decide) h.low.2.1).mono ?_
  rintro e w' ⟨g, rfl, hp, hc, hr⟩
  have HG := h.go hc hp (h.rows_put hc (n := Y.F) (by simp) ⟨Nat.le_refl _, by decide⟩ hr) (fun m e => by
    have := h.full m
    unfold MP.has at this e ⊢
    rw [MP.get_put] at e ⊢
    by_cases e2 : Y.F = m
    · rw [if_pos e2]; rfl
    · rw [if_neg e2] at e ⊢
      rw [h.used] at e
      exact this e)
  rw [h.used, h.lay.2.1] at HG
  exact ⟨by rw [h.lay.2.1], HG⟩
end
end Go.Proofs.YtnfhlocflpdlcaaGreat.pl

