/-
  Lemmas for a law's proof, put together from several texts: each part says what it shows, and its conditions.
-/
import Derived.Test.YtpggkehfbhffbaaZC20
import Derived.Test.YtpggkehfbhffbaaZC02
import Derived.Deep.Slices
import Derived.Deep.Fields
import Derived.ChangeSame
import Derived.SizedLaws
import Derived.Test.YtpggkehfbhffbaaZC13
/-
  What an operation of a manager leaves, in plain words: the chip goes by its own acts, the manager stays right, a page that is programmed stays. No program in sight; conditions: a chip and a manager that are right.
-/
namespace Go.Proofs.Ytpggkehfbhffbaa.mgr
open Go.RowKit

/-- A chip behind acts; only these blocks may be erased. -/
inductive ActsN (E : Int → Prop) (c : NP.Chp) : NP.Chp → Prop where
  | refl : ActsN E c c
  | step {c' : NP.Chp} (a : NP.Act) : ActsN E c c' → a.fine → (∀ k, a = .erase k → E k) → ActsN E c (NP.act c' a)
theorem act_dims6 (c : NP.Chp) (a : NP.Act) : (NP.act c a).B = c.B ∧ (NP.act c a).P = c.P ∧ (NP.act c a).S = c.S := by
  cases a with
  | program k p b =>
    unfold NP.act NP.program
    dsimp only
    repeat (first | exact ⟨rfl, rfl, rfl⟩ | split)
  | erase k =>
    unfold NP.act NP.erase
    dsimp only
    repeat (first | exact ⟨rfl, rfl, rfl⟩ | split)
  | mark k =>
    unfold NP.act NP.mark
    dsimp only
    repeat (first | exact ⟨rfl, rfl, rfl⟩ | split)
  | read k p =>
    unfold NP.act NP.readP
    dsimp only
    repeat (first | exact ⟨rfl, rfl, rfl⟩ | split)
  | lose => exact ⟨rfl, rfl, rfl⟩
  | start => exact ⟨rfl, rfl, rfl⟩
  | none => exact ⟨rfl, rfl, rfl⟩
  | script l =>
    show (NP.script c l).2.B = c.B ∧ (NP.script c l).2.P = c.P ∧ (NP.script c l).2.S = c.S
    unfold NP.script
    split <;> exact ⟨rfl, rfl, rfl⟩
section
variable {E E' : Int → Prop} {c c' c'' : NP.Chp}
theorem ActsN.trans (h : ActsN E c c') (q : ActsN E c' c'') : ActsN E c c'' := by
  induction q with
  | refl => exact h
  | step a _ h2 h3 ih => exact .step a ih h2 h3
theorem ActsN.mono (h : ActsN E c c') (hE : ∀ k, E k → E' k) : ActsN E' c c' := by
  induction h with
  | refl => exact .refl
  | step a _ h2 h3 ih => exact .step a ih h2 (fun k e => hE k (h3 k e))
theorem ActsN.good (h : ActsN E c c') (hg : Good6 c) : Good6 c' := by
  induction h with
  | refl => exact hg
  | step a _ h2 _ ih => exact ih.act a h2
theorem ActsN.dims (h : ActsN E c c') : c'.B = c.B ∧ c'.P = c.P ∧ c'.S = c.S := by
  induction h with
  | refl => exact ⟨rfl, rfl, rfl⟩
  | step a _ _ _ ih =>
    exact ⟨(act_dims6 _ a).1.trans ih.1, (act_dims6 _ a).2.1.trans ih.2.1, (act_dims6 _ a).2.2.trans ih.2.2⟩
theorem ActsN.kept (h : ActsN E c c') (hg : Good6 c) {k p : Nat} (hk : ¬ E k) (hp : (c.blk k).page p ≠ []) : (c'.blk k).page p = (c.blk k).page p := by
  induction h with
  | refl => rfl
  | @step c1 a h1 h2 h3 ih =>
    have hg1 := h1.good hg
    rw [← ih]
    exact NP.keeps hg1.ok hg1.order a (by rw [ih]; exact hp) (fun e => hk (h3 _ e))
theorem ActsN.one (a : NP.Act) (h2 : a.fine) (h3 : ∀ k, a = .erase k → E k) : ActsN E c (NP.act c a) := .step a .refl h2 h3
theorem Mg.ok.acts {g : Mg} (h : g.ok c) (q : ActsN E c c') : g.ok c' := h.chip q.dims.1 q.dims.2.1
theorem ok_dims (h : c.ok) : 8 ≤ c.B ∧ c.B ≤ 128 ∧ 4 ≤ c.P ∧ c.P ≤ 32 ∧ 64 ≤ c.S := by
  have : NP.rightB c.B c.P c.S = true := h.right
  unfold NP.rightB at this
  simp only [Bool.and_eq_true, decide_eq_true_eq, Bool.or_eq_true, beq_iff_eq] at this
  omega
/-- What is programmed is there. -/
theorem program_there (h : c.ok) {k p : Int} {b : List Nat} (h0 : (NP.program c k p b).1 = 0) : 0 ≤ k ∧ k < c.B ∧ 0 ≤ p ∧ p < c.P ∧ b.length = c.full ∧ ((NP.program c k p b).2.blk k.toNat).page p.toNat = b := by
  revert h0
  unfold NP.program
  dsimp only
  split
  · rename_i he
    obtain ⟨_, h0, h1, h2, h3⟩ := NP.asked_zero he
    have hk : k.toNat < c.B := by omega
    split
    · rename_i hl
      split
      · intro h; cases h
      · split
        · intro h; cases h
        · rename_i hb
          simp only [Bool.or_eq_true, decide_eq_true_eq, not_or, Decidable.not_not] at hb
          have hn : (c.blk k.toNat).next < c.P := by omega
          split
          · intro h; cases h
          · split
            · intro h; cases h
            · split
              · intro h; cases h
              · intro _
                refine ⟨h0, h1, h2, h3, hl, ?_⟩
                rw [NP.put_page (NP.stroke_ok h) hk hn, if_pos]
                exact ⟨rfl, by show (c.blk k.toNat).next = _; omega⟩
    · intro h; cases h
  · intro h; rename_i he; exact absurd h he
end

section
variable {c : NP.Chp} {g : Mg} {b : List Nat}
theorem progTo_acts (hb : ∀ y ∈ b, y < 256) : ∀ (n : Nat) (c : NP.Chp) (g : Mg), ActsN (fun _ => False) c (Mg.progTo b n c g).2.1
  | 0, c, g => .refl
  | n + 1, c, g => by
    rw [progTo_succ]
    unfold Mg.progStep
    dsimp only
    generalize g.ready = g
    split
    · exact .refl
    · have h1 : ActsN (fun _ => False) c (NP.program c g.at_.toNat (g.blk g.at_.toNat).n b).2 := .one (.program g.at_.toNat (g.blk g.at_.toNat).n b) hb (fun k e => by cases e)
      split
      · exact h1.trans (progTo_acts hb n _ _)
      · split
        · exact h1
        · split <;> exact h1
theorem program_acts6 (hb : ∀ y ∈ b, y < 256) : ActsN (fun _ => False) c (Mg.program b c g).2.1 := by
  unfold Mg.program
  split
  · exact .refl
  · split
    · exact .refl
    · exact progTo_acts hb _ _ _
/-- A page more in a block that is open. -/
theorem Mg.ok.more (h : g.ok c) {i : Nat} (hi : i < g.l.length) (ha : g.at_ = i) (hs : (g.blk i).s = 1) :
    (if (g.blk i).n + 1 = c.P then (g.put i { g.blk i with n := (g.blk i).n + 1, l := (g.blk i).l + 1 }).close i else g.put i { g.blk i with n := (g.blk i).n + 1, l := (g.blk i).l + 1 }).ok c := by
  obtain ⟨h1, h2, h3, h4, h5, h6⟩ := h.rng (g.blk i) (blk_mem hi)
  obtain ⟨h7, h8⟩ := h.open_ (g.blk i) (blk_mem hi) hs
  split
  · rename_i e
    have e1 : (g.put i { g.blk i with n := (g.blk i).n + 1, l := (g.blk i).l + 1 }).close i = { g with l := g.l.set i (closeB { g.blk i with n := (g.blk i).n + 1, l := (g.blk i).l + 1 }), at_ := if (i : Int) = g.at_ then -1 else g.at_ } := by
      unfold Mg.close Mg.shut Mg.put Mg.blk
      dsimp only
      rw [blk_set _ _ _ _ hi, if_pos rfl, List.set_set]
    rw [e1]
    refine h.lay hi _ ?_ ?_ ?_ _ ?_ (fun _ => rfl)
    · unfold closeB; dsimp only; split <;> omega
    · unfold closeB; dsimp only; split <;> omega
    · unfold closeB; dsimp only; split <;> omega
    · unfold closeB; dsimp only; split <;> omega
  · have e1 : g.put i { g.blk i with n := (g.blk i).n + 1, l := (g.blk i).l + 1 } = { g with l := g.l.set i { g.blk i with n := (g.blk i).n + 1, l := (g.blk i).l + 1 }, at_ := i } := by
      unfold Mg.put
      rw [← ha]
    rw [e1]
    refine h.lay hi _ ?_ ?_ ?_ _ ?_ ?_
    · dsimp only; omega
    · dsimp only; intro e; exact absurd hs e
    · dsimp only; omega
    · intro _; exact ⟨.inr ha, rfl⟩
    · dsimp only; intro e; exact absurd hs e
theorem progTo_right (hb : ∀ y ∈ b, y < 256) : ∀ (n : Nat) (c : NP.Chp) (g : Mg), c.ok → Good6 c → g.ok c → (Mg.progTo b n c g).2.2.ok (Mg.progTo b n c g).2.1
  | 0, c, g, _, _, h => h
  | n + 1, c, g, hc, hG, h => by
    rw [progTo_succ]
    unfold Mg.progStep
    dsimp only
    have hr := h.ready (by have := ok_dims hc; omega)
    generalize g.ready = g at *
    split
    · exact hr
    · rename_i ha
      rcases hr.at1 with e | ⟨i, e, hi, hs⟩
      · exact absurd e ha
      · rw [e, Int.toNat_natCast]
        have h1 : ActsN (fun _ => False) c (NP.program c i (g.blk i).n b).2 := .one (.program i (g.blk i).n b) hb (fun k e => by cases e)
        split
        · exact progTo_right hb n _ _ (h1.good hG).ok (h1.good hG) ((hr.close hi).acts h1)
        · split
          · exact (hr.more hi e hs).acts h1
          · split
            · exact (hr.close hi).acts h1
            · exact hr.acts h1
theorem program_right (hb : ∀ y ∈ b, y < 256) (hG : Good6 c) (h : g.ok c) : (Mg.program b c g).2.2.ok (Mg.program b c g).2.1 := by
  unfold Mg.program
  split
  · exact h
  · split
    · exact h
    · exact progTo_right hb _ _ _ hG.ok hG h
/-- Where it was told that it was programmed it is. -/
theorem progTo_there (hb : ∀ y ∈ b, y < 256) : ∀ (n : Nat) (c : NP.Chp) (g : Mg), Good6 c → g.ok c → (Mg.progTo b n c g).1.2.2 = 0 →
    0 ≤ (Mg.progTo b n c g).1.1 ∧ (Mg.progTo b n c g).1.1 < c.B ∧ 0 ≤ (Mg.progTo b n c g).1.2.1 ∧ (Mg.progTo b n c g).1.2.1 < c.P ∧ b.length = c.full ∧ ((Mg.progTo b n c g).2.1.blk (Mg.progTo b n c g).1.1.toNat).page (Mg.progTo b n c g).1.2.1.toNat = b
  | 0, c, g, _, _ => fun e => by cases e
  | n + 1, c, g, hG, h => by
    rw [progTo_succ]
    unfold Mg.progStep
    dsimp only
    have hr := h.ready (by have := ok_dims hG.ok; omega)
    generalize g.ready = g at *
    split
    · intro e; cases e
    · rename_i ha
      rcases hr.at1 with e | ⟨i, e, hi, hs⟩
      · exact absurd e ha
      · rw [e, Int.toNat_natCast]
        have h1 : ActsN (fun _ => False) c (NP.program c i (g.blk i).n b).2 := .one (.program i (g.blk i).n b) hb (fun k e => by cases e)
        split
        · intro h0
          have ih := progTo_there hb n _ _ (h1.good hG) ((hr.close hi).acts h1) h0
          rw [h1.dims.1, h1.dims.2.1] at ih
          have hf : (NP.program c i (g.blk i).n b).2.full = c.full := by unfold NP.Chp.full; rw [h1.dims.2.2]
          rw [hf] at ih
          exact ih
        · split
          · rename_i h0
            intro _
            have := program_there hG.ok h0
            dsimp only
            rw [Int.toNat_natCast] at this ⊢
            exact this
          · split
            · rename_i h0; intro e; cases e
            · rename_i h0 _; intro e; exact absurd e h0
theorem program_there6 (hb : ∀ y ∈ b, y < 256) (hG : Good6 c) (h : g.ok c) (h0 : (Mg.program b c g).1.2.2 = 0) :
    0 ≤ (Mg.program b c g).1.1 ∧ (Mg.program b c g).1.1 < c.B ∧ 0 ≤ (Mg.program b c g).1.2.1 ∧ (Mg.program b c g).1.2.1 < c.P ∧ b.length = c.full ∧ ((Mg.program b c g).2.1.blk (Mg.program b c g).1.1.toNat).page (Mg.program b c g).1.2.1.toNat = b := by
  revert h0
  unfold Mg.program
  split
  · intro e; cases e
  · split
    · intro e; cases e
    · exact progTo_there hb _ _ _ hG h
theorem there_i {k : Int} (h : g.there k = true) : 0 ≤ k ∧ k.toNat < g.l.length := by
  unfold Mg.there at h
  simp only [Bool.and_eq_true, decide_eq_true_eq] at h
  omega
theorem drop_right (h : g.ok c) (k : Int) : (g.drop k).2.ok c := by
  unfold Mg.drop
  dsimp only
  split
  · exact h
  · rename_i hn
    simp only [not_or, Bool.not_eq_false] at hn
    obtain ⟨h0, hi⟩ := there_i hn.1
    obtain ⟨h1, h2, h3, h4, h5, h6⟩ := h.rng (g.blk k.toNat) (blk_mem hi)
    have h7 := h.none_ (g.blk k.toNat) (blk_mem hi)
    have h8 := h.open_ (g.blk k.toNat) (blk_mem hi)
    have h9 := h.at2 k.toNat hi
    have HA := Lib.hid h.at1
    refine h.lay hi _ ?_ ?_ ?_ g.at_ ?_ ?_
    · dsimp only; split <;> omega
    · dsimp only; split <;> omega
    · dsimp only; split <;> omega
    · dsimp only
      intro e
      split at e
      · omega
      · have := h9 e
        exact ⟨.inr this, this⟩
    · dsimp only
      intro e
      split
      · rename_i e2
        rcases HA.out with e3 | ⟨i, e3, hi2, hs⟩
        · omega
        · obtain rfl : i = k.toNat := by omega
          rw [if_neg (by omega)] at e
          exact absurd hs e
      · rfl
/-- A block is done with: it is free, or bad. -/
theorem Mg.ok.done (h : g.ok c) {i : Nat} (hi : i < g.l.length) (s r : Int) (h0 : s = 0 ∨ s = 4) : ((g.put i ⟨s, 0, r, 0⟩).shut i).ok c := by
  refine h.lay hi ⟨s, 0, r, 0⟩ ?_ ?_ ?_ _ ?_ (fun _ => rfl)
  · dsimp only; omega
  · dsimp only; omega
  · dsimp only; omega
  · dsimp only; omega
theorem Mg.ok.worn (h : g.ok c) {i : Nat} (hi : i < g.l.length) (r : Int) : (g.put i { g.blk i with r := r }).ok c := by
  have h1 := h.rng (g.blk i) (blk_mem hi)
  have h7 := h.none_ (g.blk i) (blk_mem hi)
  have h8 := h.open_ (g.blk i) (blk_mem hi)
  have h9 := h.at2 i hi
  have HA := Lib.hid h.at1
  refine h.lay hi { g.blk i with r := r } h1 h7 h8 g.at_ ?_ ?_
  · intro e; exact ⟨.inr (h9 e), h9 e⟩
  · dsimp only
    intro e
    split
    · rename_i e2
      rcases HA.out with e3 | ⟨j, e3, hi2, hs⟩
      · omega
      · obtain rfl : j = i := by omega
        exact absurd hs e
    · rfl
theorem gone_acts (k : Nat) : ActsN (fun _ => False) c (Mg.gone c g k).2.1 := by
  unfold Mg.gone
  dsimp only
  have h1 : ActsN (fun _ => False) c (NP.mark c k).2 := .one (.mark k) trivial (fun k e => by cases e)
  split <;> exact h1
theorem gone_right (h : g.ok c) {k : Nat} (hi : k < g.l.length) : (Mg.gone c g k).2.2.ok (Mg.gone c g k).2.1 := by
  have h1 := gone_acts (c := c) (g := g) k
  refine Mg.ok.acts ?_ h1
  unfold Mg.gone
  dsimp only
  split
  · exact h.done hi 4 _ (.inr rfl)
  · exact h
theorem idle_i {k : Int} (h : g.idle c k = 0) : 0 ≤ k ∧ k.toNat < g.l.length := by
  unfold Mg.idle at h
  split at h
  · cases h
  · split at h
    · cases h
    · rename_i hn
      simp only [not_or, Bool.not_eq_false] at hn
      exact there_i hn.1
theorem erase_acts6 (k : Int) : ActsN (fun j => j = k) c (Mg.erase c g k).2.1 := by
  unfold Mg.erase
  dsimp only
  have h1 : ActsN (fun j => j = k) c (NP.erase c k).2 := .one (.erase k) trivial (fun j e => by injection e with e; exact e.symm)
  split
  · exact .refl
  · split
    · exact .refl
    · split
      · exact h1
      · split
        · refine h1.trans ?_
          exact (gone_acts _).mono (fun _ e => e.elim)
        · exact h1
theorem erase_right (h : g.ok c) (k : Int) : (Mg.erase c g k).2.2.ok (Mg.erase c g k).2.1 := by
  refine Mg.ok.acts ?_ (erase_acts6 (c := c) (g := g) k)
  unfold Mg.erase
  dsimp only
  split
  · exact h
  · rename_i hz
    obtain ⟨h0, hi⟩ := idle_i (by simpa using hz)
    split
    · exact h
    · have hw := h.worn hi (NP.wearAt (NP.erase c k).2 k)
      have hil : k.toNat < (g.put k.toNat { g.blk k.toNat with r := NP.wearAt (NP.erase c k).2 k }).l.length := by
        show k.toNat < (g.l.set _ _).length
        rw [List.length_set]; exact hi
      split
      · exact hw.done hil 0 _ (.inl rfl)
      · split
        · dsimp only
          unfold Mg.gone
          dsimp only
          split
          · exact hw.done hil 4 _ (.inr rfl)
          · exact hw
        · exact hw
theorem retire_acts (k : Int) : ActsN (fun _ => False) c (Mg.retire c g k).2.1 := by
  unfold Mg.retire
  dsimp only
  split
  · exact .refl
  · exact gone_acts _
theorem retire_right (h : g.ok c) (k : Int) : (Mg.retire c g k).2.2.ok (Mg.retire c g k).2.1 := by
  unfold Mg.retire
  dsimp only
  split
  · exact h
  · rename_i hz
    exact gone_right h (idle_i (by simpa using hz)).2
end

end Go.Proofs.Ytpggkehfbhffbaa.mgr

/-
  Data that came in, opened: numbers, truth values, rows of them, structs, rows of structs. For every program; no conditions.
-/
namespace Go.Proofs.Ytpggkehfbhffbaa
open Go.ChangeShapes Go.WideShapes Go.ChangeAt Go.RowKit Go.Deep

theorem reach_le : reachBytes ≤ 140737488355328 := by decide

/-- A row's slice. -/
structure RowE (E : Type) where
  a : Option Addr
  l : List E
  c : Nat
abbrev RowE.v {E : Type} (r : RowE E) : Value := .slice r.a r.l.length r.c
instance {E : Type} : Inhabited (RowE E) := ⟨⟨none, [], 0⟩⟩

section
variable {H : Type} {enc : TypeId × Value → H} {P : Program} {W : World}

theorem weights_at {ts us : List TypeId} {ds gs : List (DataW H)} (h : (DataW.weightsEach P (ts ++ us) (ds ++ gs)).all (· ≤ reachBytes) = true) {j : Nat} {t : TypeId} {d : DataW H} (ht : ts[j]? = some t) (hd : ds[j]? = some d) :
    ∀ n ∈ d.weights P t, n ≤ reachBytes := by
  intro n hn
  have h1 : (ts ++ us)[j]? = some t := by rw [List.getElem?_append_left ((List.getElem?_eq_some_iff.1 ht).1)]; exact ht
  have h2 : (ds ++ gs)[j]? = some d := by rw [List.getElem?_append_left ((List.getElem?_eq_some_iff.1 hd).1)]; exact hd
  have := List.all_eq_true.1 h n (DataW.weights_mem_each h1 h2 n hn)
  simpa using this
theorem weightsAll_mem {e : TypeId} : ∀ {l : List (DataW H)} {d : DataW H}, d ∈ l → ∀ n ∈ d.weights P e, n ∈ DataW.weightsAll P e l
  | x :: l, d, h, n, hn => by
    simp only [DataW.weightsAll, List.mem_append]
    rcases List.mem_cons.1 h with rfl | h
    · exact Or.inl hn
    · exact Or.inr (weightsAll_mem h n hn)

/-- Cells of a type read as elements of a kind. -/
structure Opens (enc : TypeId × Value → H) (P : Program) (W : World) (t : TypeId) (m : Nat) {E : Type} (cs : E → List Value) (good : E → Prop) : Prop where
  size : P.cellsOf t = m
  len : ∀ e, (cs e).length = m
  elem : ∀ fuel c x, DataW.trod enc P W 0 (fun _ => true) true fuel t c = some x → (∀ n ∈ x.1.weights P t, n ≤ reachBytes) → ∃ e, c = cs e ∧ good e

theorem Opens.map {t : TypeId} {m : Nat} {E E' : Type} {cs : E → List Value} {good : E → Prop} {cs' : E' → List Value} {good' : E' → Prop} (h : Opens enc P W t m cs good) (f : E → E') (hl : ∀ e, (cs' e).length = m) (hc : ∀ e, cs' (f e) = cs e) (hg : ∀ e, good e → good' (f e)) : Opens enc P W t m cs' good' :=
  ⟨h.size, hl, fun fuel c x hx hw => by
    obtain ⟨e, rfl, hgd⟩ := h.elem fuel c x hx hw
    exact ⟨f e, (hc e).symm, hg e hgd⟩⟩

theorem Opens.int {t : TypeId} (ht : P.underlying t = some (.int .i64)) (hs : P.cellsOf t = 1) : Opens enc P W t 1 (fun n : Int => [vi n]) (fun n => -9223372036854775808 ≤ n ∧ n ≤ 9223372036854775807) :=
  ⟨hs, fun _ => rfl, fun fuel c x hx _ => by
    obtain ⟨k, hk, _, hwf⟩ := DataW.trod_int ht hx
    exact ⟨k, hk, by simpa [Lit.wf, IntKind.min, IntKind.max, IntKind.signed, IntKind.bits] using hwf⟩⟩
theorem Opens.byte {t : TypeId} (ht : P.underlying t = some (.int .u8)) (hs : P.cellsOf t = 1) : Opens enc P W t 1 (fun n : Nat => [.int .u8 n]) (fun n => n < 256) :=
  ⟨hs, fun _ => rfl, fun fuel c x hx _ => by
    obtain ⟨k, hk, _, hwf⟩ := DataW.trod_int ht hx
    have hr : 0 ≤ k ∧ k ≤ 255 := by simpa [Lit.wf, IntKind.min, IntKind.max, IntKind.signed, IntKind.bits] using hwf
    exact ⟨k.toNat, by rw [hk, Int.toNat_of_nonneg hr.1], by omega⟩⟩
theorem Opens.bool {t : TypeId} (ht : P.underlying t = some .bool) (hs : P.cellsOf t = 1) : Opens enc P W t 1 (fun b : Bool => [.bool b]) (fun _ => True) :=
  ⟨hs, fun _ => rfl, fun fuel c x hx _ => by
    obtain ⟨b, hb, _⟩ := DataW.trod_bool ht hx
    exact ⟨b, hb, trivial⟩⟩

/-- A row of elements. -/
structure RowOf (W : World) (m : Nat) {E : Type} [Inhabited E] (cs : E → List Value) (good : E → Prop) (r : RowE E) : Prop where
  at_ : r.l = [] ∨ ∃ b o, r.a = some ⟨b, o, none⟩ ∧ b < W.heap.size ∧ ∀ i, i < r.l.length → ∀ j u, (cs (r.l.getD i default))[j]? = some u → W.cell? ⟨b, o + i * m + j, none⟩ = some u
  good : ∀ e ∈ r.l, good e
  len : r.l.length ≤ r.c
  cap : r.c ≤ maxLen

theorem Opens.row {t T : TypeId} {m bytes : Nat} {E : Type} [Inhabited E] {cs : E → List Value} {good : E → Prop} (h : Opens enc P W t m cs good) (hm : 0 < m) (hT : P.underlying T = some (.slice t)) (hs : P.cellsOf T = 1) (hb : P.bytesOf t = bytes) :
    Opens enc P W T 1 (fun r : RowE E => [r.v]) (fun r => RowOf W m cs good r ∧ r.l.length * bytes ≤ reachBytes) := by
  refine ⟨hs, fun _ => rfl, fun fuel c x hx hw => ?_⟩
  rcases open_slice hT hx with ⟨rfl, _⟩ | ⟨a, len, cap, q, n, D, Pl, rfl, _, hl, hcm, hmm, rfl, hi⟩
  · exact ⟨⟨none, [], 0⟩, rfl, ⟨.inl rfl, by simp, Nat.le_refl _, Nat.zero_le _⟩, by simp⟩
  · simp only [if_true] at hmm
    subst hmm
    rw [h.size] at hi
    obtain ⟨B, hB⟩ := choose_lt (α := E) (n := len) (p := fun i e => W.cells? 0 (a.add (i * m)) m = some (cs e) ∧ good e) (fun i hlt => by
      obtain ⟨c', hc, ht⟩ := hi i (by omega)
      obtain ⟨e, rfl, hg⟩ := h.elem _ _ _ ht (fun n hn => hw n (by
        simp only [DataW.weights, hT, List.mem_cons, List.mem_append]
        exact .inr (.inl (weightsAll_mem (List.mem_map.2 ⟨i, List.mem_range.2 hlt, rfl⟩) n hn))))
      exact ⟨e, hc, hg⟩)
    have hL : ((List.range len).map B).length = len := by simp
    refine ⟨⟨some a, (List.range len).map B, q⟩, by simp [RowE.v], ⟨?_, ?_, by rw [hL]; exact hl, hcm⟩, ?_⟩
    · rcases Nat.eq_zero_or_pos len with h0 | h0
      · exact .inl (by simp [h0])
      · have hcell : ∀ i, i < len → ∀ j u, (cs (B i))[j]? = some u → W.cell? ((a.add (i * m)).add j) = some u := fun i hlt j u hu => by
          obtain ⟨_, hl2, hat⟩ := World.cells?_some (hB i hlt).1
          have hj : j < m := by
            have := (List.getElem?_eq_some_iff.1 hu).1
            rw [h.len] at this
            exact this
          rw [hat j hj]
          exact hu
        have h00 := hcell 0 h0 0 ((cs (B 0))[0]'(by rw [h.len]; exact hm)) (List.getElem?_eq_getElem _)
        have hsp : a.spot = none := by
          cases hh : a.spot with
          | none => rfl
          | some q => exact absurd (World.cell?_spot h00) (by simp [Addr.add, hh])
        obtain ⟨b', o', s'⟩ := a
        dsimp only at hsp
        subst hsp
        refine .inr ⟨b', o', rfl, ?_, fun i hlt j u hu => ?_⟩
        · have := cell_lt h00
          simpa [Addr.add] using this
        · have hlt' : i < len := by simpa using hlt
          have hg : ((List.range len).map B).getD i default = B i := by simp [List.getD, hlt']
          rw [hg] at hu
          have := hcell i hlt' j u hu
          rw [add_plain, add_plain] at this
          exact this
    · intro e he
      obtain ⟨i, hi', rfl⟩ := List.mem_map.1 he
      exact (hB i (List.mem_range.1 hi')).2
    · rw [hL]
      have := hw ((((List.range len).map D).length + ((List.range (q - len)).map fun j => D (len + j)).length) * P.bytesOf t) (by simp [DataW.weights, hT])
      rw [hb] at this
      simp only [List.length_map, List.length_range] at this
      exact Nat.le_trans (Nat.mul_le_mul_right _ (by omega)) this

section
variable {T : TypeId} {f0 f1 f2 f3 f4 f5 f6 : Field} {m0 m1 m2 m3 m4 m5 m6 : Nat} {E0 E1 E2 E3 E4 E5 E6 : Type} {c0 : E0 → List Value} {c1 : E1 → List Value} {c2 : E2 → List Value} {c3 : E3 → List Value} {c4 : E4 → List Value} {c5 : E5 → List Value} {c6 : E6 → List Value}
  {g0 : E0 → Prop} {g1 : E1 → Prop} {g2 : E2 → Prop} {g3 : E3 → Prop} {g4 : E4 → Prop} {g5 : E5 → Prop} {g6 : E6 → Prop}
/-- A field's cells. -/
theorem field_opens {fs : Array Field} (hS : P.underlying T = some (.struct fs)) {n : Nat} {c : List Value} {ys : List (DataW H × List MemPlace)} {j m off : Nat} {f : Field} {E : Type} {cs : E → List Value} {good : E → Prop}
    (hf : fs[j]? = some f) (hl : ys.length = fs.size)
    (hg : ∀ (i : Nat) (f : Field), fs[i]? = some f → DataW.trod enc P W 0 (fun _ => true) true n f.type ((c.drop f.offset).take (P.cellsOf f.type)) = ys[i]?)
    (hw : ∀ n ∈ (DataW.agg (ys.map (·.1))).weights P T, n ≤ reachBytes)
    (h : Opens enc P W f.type m cs good) (ho : f.offset = off) : ∃ e, (c.drop off).take m = cs e ∧ good e := by
  have ht := hg j f hf
  have hj : j < ys.length := by rw [hl]; exact (Array.getElem?_eq_some_iff.1 hf).1
  have hy : ys[j]? = some ys[j] := List.getElem?_eq_getElem hj
  rw [hy, ho, h.size] at ht
  exact h.elem _ _ _ ht (fun n hn => hw n (by
    simp only [DataW.weights, hS]
    exact DataW.weights_mem_each (j := j) (by simp [hf]) (by simp [hy]) n hn))
end
end

end Go.Proofs.Ytpggkehfbhffbaa

/-
  Data that came in, opened: structs of three and five fields, arguments. For every program; no conditions.
-/
namespace Go.Proofs.Ytpggkehfbhffbaa
open Go.ChangeShapes Go.WideShapes Go.ChangeAt Go.RowKit Go.Deep

section
variable {H : Type} {enc : TypeId × Value → H} {P : Program} {W : World}
theorem split3 {α : Type} {c : List α} {a b d : Nat} (h : c.length = a + b + d) : c = (c.drop 0).take a ++ ((c.drop a).take b ++ (c.drop (a + b)).take d) := by
  rw [List.drop_zero]
  have h1 : (c.drop (a + b)).take d = c.drop (a + b) := List.take_of_length_le (by rw [List.length_drop]; omega)
  rw [h1, ← List.drop_drop, List.take_append_drop, List.take_append_drop]
variable {T : TypeId} {f0 f1 f2 f3 f4 : Field} {m0 m1 m2 m3 m4 : Nat} {E0 E1 E2 E3 E4 : Type} {c0 : E0 → List Value} {c1 : E1 → List Value} {c2 : E2 → List Value} {c3 : E3 → List Value} {c4 : E4 → List Value}
  {g0 : E0 → Prop} {g1 : E1 → Prop} {g2 : E2 → Prop} {g3 : E3 → Prop} {g4 : E4 → Prop}
theorem Opens.agg3 (hS : P.underlying T = some (.struct #[f0, f1, f2])) (hC : P.cellsOf T = m0 + m1 + m2) (h0 : Opens enc P W f0.type m0 c0 g0) (o0 : f0.offset = 0) (h1 : Opens enc P W f1.type m1 c1 g1) (o1 : f1.offset = m0)
    (h2 : Opens enc P W f2.type m2 c2 g2) (o2 : f2.offset = m0 + m1) : Opens enc P W T (m0 + m1 + m2) (fun e : E0 × E1 × E2 => c0 e.1 ++ (c1 e.2.1 ++ c2 e.2.2)) (fun e => g0 e.1 ∧ g1 e.2.1 ∧ g2 e.2.2) := by
  refine ⟨hC, fun e => by simp [h0.len, h1.len, h2.len, Nat.add_assoc], fun fuel c x hx hw => ?_⟩
  obtain ⟨xs, n, _, rfl, hl, hlen, hf⟩ := DataW.trod_struct hS hx
  obtain ⟨e0, p0, q0⟩ := field_opens (W := W) (j := 0) hS (c := c) (f := f0) rfl (by simpa using hlen) hf hw h0 o0
  obtain ⟨e1, p1, q1⟩ := field_opens (W := W) (j := 1) hS (c := c) (f := f1) rfl (by simpa using hlen) hf hw h1 o1
  obtain ⟨e2, p2, q2⟩ := field_opens (W := W) (j := 2) hS (c := c) (f := f2) rfl (by simpa using hlen) hf hw h2 o2
  refine ⟨(e0, e1, e2), ?_, q0, q1, q2⟩
  dsimp only
  rw [← p0, ← p1, ← p2]
  exact split3 (by rw [hl, hC])
theorem split5 {α : Type} {c : List α} {a b d e f : Nat} (h : c.length = a + b + d + e + f) : c = (c.drop 0).take a ++ ((c.drop a).take b ++ ((c.drop (a + b)).take d ++ ((c.drop (a + b + d)).take e ++ (c.drop (a + b + d + e)).take f))) := by
  rw [List.drop_zero]
  have h1 : (c.drop (a + b + d + e)).take f = c.drop (a + b + d + e) := List.take_of_length_le (by rw [List.length_drop]; omega)
  rw [h1, ← List.drop_drop (i := e), List.take_append_drop, ← List.drop_drop (i := d), List.take_append_drop, ← List.drop_drop (i := b), List.take_append_drop, List.take_append_drop]
theorem Opens.agg5 (hS : P.underlying T = some (.struct #[f0, f1, f2, f3, f4])) (hC : P.cellsOf T = m0 + m1 + m2 + m3 + m4) (h0 : Opens enc P W f0.type m0 c0 g0) (o0 : f0.offset = 0) (h1 : Opens enc P W f1.type m1 c1 g1) (o1 : f1.offset = m0)
    (h2 : Opens enc P W f2.type m2 c2 g2) (o2 : f2.offset = m0 + m1) (h3 : Opens enc P W f3.type m3 c3 g3) (o3 : f3.offset = m0 + m1 + m2) (h4 : Opens enc P W f4.type m4 c4 g4) (o4 : f4.offset = m0 + m1 + m2 + m3) :
    Opens enc P W T (m0 + m1 + m2 + m3 + m4) (fun e : E0 × E1 × E2 × E3 × E4 => c0 e.1 ++ (c1 e.2.1 ++ (c2 e.2.2.1 ++ (c3 e.2.2.2.1 ++ c4 e.2.2.2.2)))) (fun e => g0 e.1 ∧ g1 e.2.1 ∧ g2 e.2.2.1 ∧ g3 e.2.2.2.1 ∧ g4 e.2.2.2.2) := by
  refine ⟨hC, fun e => by simp [h0.len, h1.len, h2.len, h3.len, h4.len, Nat.add_assoc], fun fuel c x hx hw => ?_⟩
  obtain ⟨xs, n, _, rfl, hl, hlen, hf⟩ := DataW.trod_struct hS hx
  obtain ⟨e0, p0, q0⟩ := field_opens (W := W) (j := 0) hS (c := c) (f := f0) rfl (by simpa using hlen) hf hw h0 o0
  obtain ⟨e1, p1, q1⟩ := field_opens (W := W) (j := 1) hS (c := c) (f := f1) rfl (by simpa using hlen) hf hw h1 o1
  obtain ⟨e2, p2, q2⟩ := field_opens (W := W) (j := 2) hS (c := c) (f := f2) rfl (by simpa using hlen) hf hw h2 o2
  obtain ⟨e3, p3, q3⟩ := field_opens (W := W) (j := 3) hS (c := c) (f := f3) rfl (by simpa using hlen) hf hw h3 o3
  obtain ⟨e4, p4, q4⟩ := field_opens (W := W) (j := 4) hS (c := c) (f := f4) rfl (by simpa using hlen) hf hw h4 o4
  refine ⟨(e0, e1, e2, e3, e4), ?_, q0, q1, q2, q3, q4⟩
  dsimp only
  rw [← p0, ← p1, ← p2, ← p3, ← p4]
  exact split5 (by rw [hl, hC])
end

end Go.Proofs.Ytpggkehfbhffbaa

/-
  A chip and the document's beside it: what a step of one leaves of the other. No conditions of its own.
-/
namespace Go.Proofs.Ytpggkehfbhffbaa
open Go.RowKit

/-- Both, that share no block of their own. -/
structure Two (base : Nat) (w : World) (k : Nat) (M : ChM) (q : Nat) (R : RefM) : Prop where
  a : ChipAt base w k M
  b : RefAt base w q R
  apart : ∀ n, M.foot k n → ¬ R.foot q n
/-- What a step may change. -/
def foot2 (k : Nat) (M : ChM) (q : Nat) (R : RefM) (n : Nat) : Prop := M.foot k n ∨ R.foot q n
structure TwoGoes (base : Nat) (w : World) (k : Nat) (M : ChM) (q : Nat) (R : RefM) (w' : World) (M' : ChM) (R' : RefM) : Prop where
  at_ : Two base w' k M' q R'
  chg : Chg (foot2 k M q R) w w'
  footM : ∀ n, M'.foot k n → M.foot k n ∨ w.heap.size ≤ n
  footR : ∀ n, R'.foot q n → R.foot q n ∨ w.heap.size ≤ n
section
variable {base : Nat} {w w' w'' wa wb : World} {k q : Nat} {M M' M'' : ChM} {R R' R'' : RefM}
theorem Two.mine (h : Two base w k M q R) : ∀ n, foot2 k M q R n → Mine base w n := fun n hn => hn.elim (h.a.mine n) (h.b.mine n)
theorem Two.lt (h : Two base w k M q R) : ∀ n, foot2 k M q R n → n < w.heap.size := fun n hn => hn.elim (h.a.lt n) (h.b.lt n)
theorem Two.leftAt (h : Two base w k M q R) (c : Chg (R.foot q) w w') : ChipAt base w' k M := h.a.chg c h.b.mine (fun n hn hr => h.apart n hn hr)
theorem Two.rightAt (h : Two base w k M q R) (c : Chg (M.foot k) w w') : RefAt base w' q R := h.b.chg c h.a.mine (fun n hn hr => h.apart n hr hn)
theorem Two.old (h : Two base w k M q R) (c : Below w.heap.size w w') : Two base w' k M q R := ⟨h.a.old c, h.b.old c, h.apart⟩
theorem TwoGoes.refl (h : Two base w k M q R) : TwoGoes base w k M q R w M R := ⟨h, Chg.refl _ _, fun _ h => .inl h, fun _ h => .inl h⟩
theorem TwoGoes.size (h : TwoGoes base w k M q R w' M' R') : w.heap.size ≤ w'.heap.size := h.chg.size
theorem TwoGoes.trans (h : TwoGoes base w k M q R w' M' R') (g : TwoGoes base w' k M' q R' w'' M'' R'') : TwoGoes base w k M q R w'' M'' R'' := by
  refine ⟨g.at_, h.chg.trans g.chg fun n hn e => ?_, fun n hn => ?_, fun n hn => ?_⟩
  · rcases e with e | e
    · rcases h.footM n e with h1 | h1
      · exact .inl h1
      · omega
    · rcases h.footR n e with h1 | h1
      · exact .inr h1
      · omega
  · rcases g.footM n hn with h1 | h1
    · exact h.footM n h1
    · exact .inr (Nat.le_trans h.chg.size h1)
  · rcases g.footR n hn with h1 | h1
    · exact h.footR n h1
    · exact .inr (Nat.le_trans h.chg.size h1)
theorem TwoGoes.old (h : TwoGoes base w k M q R w' M' R') (c : Below w'.heap.size w' w'') : TwoGoes base w k M q R w'' M' R' := ⟨h.at_.old c, h.chg.below c, h.footM, h.footR⟩
theorem TwoGoes.of_old (h : Two base w k M q R) (c : Below w.heap.size w w') : TwoGoes base w k M q R w' M R := (TwoGoes.refl h).old c
theorem Two.left (h : Two base w k M q R) (g : Goes base w k M w' M') : TwoGoes base w k M q R w' M' R :=
  ⟨⟨g.at_, h.rightAt g.chg, fun n hn hr => by
    rcases g.foot n hn with h1 | h1
    · exact h.apart n h1 hr
    · have := h.b.lt n hr; omega⟩, g.chg.mono (fun n _ e => .inl e), g.foot, fun n hn => .inl hn⟩
theorem Two.right (h : Two base w k M q R) (g : RGoes base w q R w' R') : TwoGoes base w k M q R w' M R' :=
  ⟨⟨h.leftAt g.chg, g.at_, fun n hn hr => by
    rcases g.foot n hr with h1 | h1
    · exact h.apart n hn h1
    · have := h.a.lt n hn; omega⟩, g.chg.mono (fun n _ e => .inr e), fun n hn => .inl hn, g.foot⟩
theorem Two.ab (h : Two base w k M q R) (c : Below w.heap.size w w') (ga : Goes base w' k M wa M') (gb : RGoes base wa q R wb R') : TwoGoes base w k M q R wb M' R' :=
  (TwoGoes.of_old h c).trans (((h.old c).left ga).trans (((h.old c).left ga).at_.right gb))
theorem Two.ba (h : Two base w k M q R) (c : Below w.heap.size w w') (gb : RGoes base w' q R wa R') (ga : Goes base wa k M wb M') : TwoGoes base w k M q R wb M' R' :=
  (TwoGoes.of_old h c).trans (((h.old c).right gb).trans (((h.old c).right gb).at_.left ga))
theorem TwoGoes.opok (h : TwoGoes base w k M q R w' M' R') (h0 : Two base w k M q R) {o : OpM} (ho : o.ok base w) : o.ok base w' := ho.chg h.chg h0.mine
theorem TwoGoes.oprow (h : TwoGoes base w k M q R w' M' R') (h0 : Two base w k M q R) {a : Option Addr} {l : List OpM} (ho : OpRow base w a l) : OpRow base w' a l := ho.chg h.chg h0.mine
/-- What an operation does with a chip. -/
def actOf (o : OpM) : NP.Act :=
  if o.kind = 1 then .program o.block o.page o.b else if o.kind = 2 then .erase o.block else if o.kind = 3 then .mark o.block else if o.kind = 4 then .read o.block o.page
  else if o.kind = 5 then .lose else if o.kind = 6 then .start else if o.kind = 7 then .script (o.fs.map (·.view)) else .none
theorem actOf_fine {o : OpM} (h : o.ok base w) : (actOf o).fine := by
  unfold actOf
  split
  · exact h.bytes.row.small
  · split
    · trivial
    · split
      · trivial
      · split
        · trivial
        · split
          · trivial
          · split
            · trivial
            · split
              · intro f hf
                obtain ⟨g, hg, rfl⟩ := List.mem_map.1 hf
                exact (h.faults.data g hg).1.row.small
              · trivial
/-- What plays leaves. -/
def PlaysPost (base : Nat) (w : World) (k : Nat) (M : ChM) (q : Nat) (R : RefM) (V : NP.Chp) (e : Ending) (w' : World) : Prop :=
  ∃ M' R', e = .returned (.bool true) ∧ TwoGoes base w k M q R w' M' R' ∧ M'.view = V ∧ R'.view = V
theorem PlaysPost.mk {V : NP.Chp} (hg : TwoGoes base w k M q R w' M' R') (h1 : M'.view = V) (h2 : R'.view = V) : PlaysPost base w k M q R V (.returned (.bool true)) w' := ⟨M', R', rfl, hg, h1, h2⟩
end

end Go.Proofs.Ytpggkehfbhffbaa

/-
  What a law of chapter 2 is given, opened: a geometry, numbers, operations. No conditions of its own.
-/
namespace Go.Proofs.Ytpggkehfbhffbaa
open Go.ChangeShapes Go.WideShapes Go.ChangeAt Go.RowKit Go.Deep

section
variable {H : Type} {enc : TypeId × Value → H} {W : World}
set_option maxRecDepth 100000 in
theorem opens_int : Opens enc Try.prog W 3 1 (fun n : Int => [vi n]) (fun n => -9223372036854775808 ≤ n ∧ n ≤ 9223372036854775807) := Opens.int Try.underlying3 (by kernel_rfl)
theorem opens_byte : Opens enc Try.prog W 5 1 (fun n : Nat => [vb n]) (fun n => n < 256) := Opens.byte Try.underlying5 (by kernel_rfl)
theorem opens_bool : Opens enc Try.prog W 4 1 (fun b : Bool => [.bool b]) (fun _ => True) := Opens.bool Try.underlying4 (by kernel_rfl)
/-- What is good of a row that came in. -/
def RowGood (W : World) (m : Nat) {E : Type} [Inhabited E] (cs : E → List Value) (good : E → Prop) (bytes : Nat) (r : RowE E) : Prop := RowOf W m cs good r ∧ r.l.length * bytes ≤ reachBytes
theorem opens_ints : Opens enc Try.prog W 24 1 (fun r : RowE Int => [r.v]) (RowGood W 1 (fun n : Int => [vi n]) (fun n => -9223372036854775808 ≤ n ∧ n ≤ 9223372036854775807) 8) := Opens.row opens_int (by decide) Try.underlying24 (by kernel_rfl) (bytes := 8) (by kernel_rfl)
theorem opens_bytes : Opens enc Try.prog W 32 1 (fun r : RowE Nat => [r.v]) (RowGood W 1 (fun n : Nat => [vb n]) (fun n => n < 256) 1) := Opens.row opens_byte (by decide) Try.underlying32 (by kernel_rfl) (bytes := 1) (by kernel_rfl)
theorem opens_bools : Opens enc Try.prog W 52 1 (fun r : RowE Bool => [r.v]) (RowGood W 1 (fun b : Bool => [.bool b]) (fun _ => True) 1) := Opens.row opens_bool (by decide) Try.underlying52 (by kernel_rfl) (bytes := 1) (by kernel_rfl)

theorem irow_of {good : Int → Prop} {r : RowE Int} (h : RowOf W 1 (fun n : Int => [vi n]) good r) : IRow W r.a r.l := by
  rcases h.at_ with h0 | ⟨b, o, ha, _, hc⟩
  · exact .inl h0
  · refine .inr ⟨b, o, ha, fun i hi => ?_⟩
    have := hc i hi 0 (vi (r.l.getD i default)) rfl
    simpa using this
theorem srow_of {good : Nat → Prop} {r : RowE Nat} (h : RowOf W 1 (fun n : Nat => [vb n]) good r) (hs : ∀ x ∈ r.l, x < 256) : SRow W.heap.size W r.a r.l := by
  rcases h.at_ with h0 | ⟨b, o, ha, hb, hc⟩
  · rw [h0]; exact SRow.nil _ _ _
  · refine ⟨⟨hs, .inr ⟨b, o, ha, fun i hi => ?_⟩⟩, .inr ⟨b, o, ha, .inl hb⟩⟩
    have := hc i hi 0 (vb (r.l.getD i default)) rfl
    simpa using this
/-- What is good of a fault that came in. -/
def fltGood (W : World) (f : FltM) : Prop := SRow W.heap.size W f.a f.l ∧ f.l.length ≤ f.c ∧ f.c ≤ maxLen ∧ f.l.length ≤ 140737488355328
set_option maxRecDepth 100000 in
theorem fault_fields : ∃ f0 f1 f2 : Field, Try.prog.underlying 96 = some (.struct #[f0, f1, f2]) ∧ (f0.type = 3 ∧ f0.offset = 0) ∧ (f1.type = 3 ∧ f1.offset = 1) ∧ (f2.type = 32 ∧ f2.offset = 2) :=
  ⟨_, _, _, Try.underlying96, ⟨rfl, rfl⟩, ⟨rfl, rfl⟩, ⟨rfl, rfl⟩⟩
set_option maxRecDepth 100000 in
theorem op_fields : ∃ f0 f1 f2 f3 f4 : Field, Try.prog.underlying 43 = some (.struct #[f0, f1, f2, f3, f4]) ∧ (f0.type = 3 ∧ f0.offset = 0) ∧ (f1.type = 3 ∧ f1.offset = 1) ∧ (f2.type = 3 ∧ f2.offset = 2) ∧ (f3.type = 32 ∧ f3.offset = 3) ∧ (f4.type = 41 ∧ f4.offset = 4) :=
  ⟨_, _, _, _, _, Try.underlying43, ⟨rfl, rfl⟩, ⟨rfl, rfl⟩, ⟨rfl, rfl⟩, ⟨rfl, rfl⟩, ⟨rfl, rfl⟩⟩
set_option maxRecDepth 100000 in
theorem geo_fields : ∃ f0 f1 f2 : Field, Try.prog.underlying 23 = some (.struct #[f0, f1, f2]) ∧ (f0.type = 3 ∧ f0.offset = 0) ∧ (f1.type = 3 ∧ f1.offset = 1) ∧ (f2.type = 3 ∧ f2.offset = 2) :=
  ⟨_, _, _, Try.underlying23, ⟨rfl, rfl⟩, ⟨rfl, rfl⟩, ⟨rfl, rfl⟩⟩
set_option maxRecDepth 100000 in
theorem opens_fault : Opens enc Try.prog W 96 3 (fun f : FltM => [vi f.at_, vi f.kind, .slice f.a f.l.length f.c]) (fltGood W) := by
  obtain ⟨f0, f1, f2, hs, t0, t1, t2⟩ := fault_fields
  have h := Opens.agg3 (enc := enc) (P := Try.prog) (W := W) (T := 96) hs (by kernel_rfl) (by rw [t0.1]; exact opens_int) t0.2 (by rw [t1.1]; exact opens_int) t1.2 (by rw [t2.1]; exact opens_bytes) t2.2
  refine h.map (fun e => ⟨e.1, e.2.1, e.2.2.a, e.2.2.l, e.2.2.c⟩) (fun _ => rfl) (fun _ => rfl) ?_
  rintro ⟨x, y, r⟩ ⟨_, _, hr, hl⟩
  refine ⟨srow_of hr hr.good, hr.len, hr.cap, ?_⟩
  have := reach_le
  dsimp only at hl ⊢
  omega
theorem opens_faults : Opens enc Try.prog W 41 1 (fun r : RowE FltM => [r.v]) (RowGood W 3 (fun f : FltM => [vi f.at_, vi f.kind, .slice f.a f.l.length f.c]) (fltGood W) 40) := Opens.row opens_fault (by decide) Try.underlying41 (by kernel_rfl) (bytes := 40) (by kernel_rfl)
theorem frow_of {r : RowE FltM} (h : RowOf W 3 (fun f : FltM => [vi f.at_, vi f.kind, .slice f.a f.l.length f.c]) (fltGood W) r) : FRow W.heap.size W r.a r.l := by
  refine ⟨?_, fun f hf => ⟨(h.good f hf).1, (h.good f hf).2.1, (h.good f hf).2.2.1⟩, Nat.le_trans h.len h.cap⟩
  rcases h.at_ with h0 | ⟨b, o, ha, hb, hc⟩
  · exact .inl h0
  · refine .inr ⟨b, o, ha, .inl hb, fun i hi j u hu => hc i hi j u ?_⟩
    simpa using hu
set_option maxRecDepth 100000 in
theorem opens_op : Opens enc Try.prog W 43 5 (fun o : OpM => [vi o.kind, vi o.block, vi o.page, .slice o.ba o.b.length o.bc, .slice o.fa o.fs.length o.fc]) (fun o => o.ok W.heap.size W) := by
  obtain ⟨f0, f1, f2, f3, f4, hs, t0, t1, t2, t3, t4⟩ := op_fields
  have h := Opens.agg5 (enc := enc) (P := Try.prog) (W := W) (T := 43) hs (by kernel_rfl) (by rw [t0.1]; exact opens_int) t0.2 (by rw [t1.1]; exact opens_int) t1.2 (by rw [t2.1]; exact opens_int) t2.2 (by rw [t3.1]; exact opens_bytes) t3.2 (by rw [t4.1]; exact opens_faults) t4.2
  refine h.map (fun e => ⟨e.1, e.2.1, e.2.2.1, e.2.2.2.1.a, e.2.2.2.1.l, e.2.2.2.1.c, e.2.2.2.2.a, e.2.2.2.2.l, e.2.2.2.2.c⟩) (fun _ => rfl) (fun _ => rfl) ?_
  rintro ⟨x, y, z, r, q⟩ ⟨_, _, _, ⟨hr, hl⟩, hq, hl2⟩
  have := reach_le
  dsimp only at hl hl2 hr hq ⊢
  exact ⟨srow_of hr hr.good, ⟨hr.len, hr.cap⟩, frow_of hq, by show r.l.length ≤ _; omega, by show q.l.length ≤ _; omega, fun f hf => (hq.good f hf).2.2.2⟩
theorem opens_ops : Opens enc Try.prog W 25 1 (fun r : RowE OpM => [r.v]) (RowGood W 5 (fun o : OpM => [vi o.kind, vi o.block, vi o.page, .slice o.ba o.b.length o.bc, .slice o.fa o.fs.length o.fc]) (fun o => o.ok W.heap.size W) 72) := Opens.row opens_op (by decide) Try.underlying25 (by kernel_rfl) (bytes := 72) (by kernel_rfl)
theorem oprow_of {r : RowE OpM} (h : RowGood W 5 (fun o : OpM => [vi o.kind, vi o.block, vi o.page, .slice o.ba o.b.length o.bc, .slice o.fa o.fs.length o.fc]) (fun o => o.ok W.heap.size W) 72 r) : OpRow W.heap.size W r.a r.l := by
  obtain ⟨h, hl⟩ := h
  have := reach_le
  refine ⟨?_, h.good, by omega⟩
  rcases h.at_ with h0 | ⟨b, o, ha, hb, hc⟩
  · exact .inl h0
  · refine .inr ⟨b, o, ha, hb, fun i hi j u hu => hc i hi j u ?_⟩
    simpa using hu
set_option maxRecDepth 100000 in
theorem opens_geo : Opens enc Try.prog W 23 3 (fun e : Int × Int × Int => [vi e.1, vi e.2.1, vi e.2.2]) (fun _ => True) := by
  obtain ⟨f0, f1, f2, hs, t0, t1, t2⟩ := geo_fields
  have h := Opens.agg3 (enc := enc) (P := Try.prog) (W := W) (T := 23) hs (by kernel_rfl) (by rw [t0.1]; exact opens_int) t0.2 (by rw [t1.1]; exact opens_int) t1.2 (by rw [t2.1]; exact opens_int) t2.2
  exact h.map id (fun _ => rfl) (fun _ => rfl) (fun _ _ => trivial)

/-! Arguments. -/
variable {r : Reach} {n : Nat} {v : Value} {d : DataW H} {p : List MemPlace}
set_option maxRecDepth 100000 in
theorem arg_geo (h : DataW.Trod enc Try.prog W 0 (fun _ => true) true 23 v d p) (hv : Value.okWide Try.prog W r n 23 v) (hw : ∀ n ∈ d.weights Try.prog 23, n ≤ reachBytes) : ∃ b p s, v = .agg #[vi b, vi p, vi s] := by
  obtain ⟨f0, f1, f2, hs, _⟩ := geo_fields
  obtain ⟨cs, rfl, _⟩ := okWide_struct hs hv
  obtain ⟨fuel, hf⟩ := h
  obtain ⟨e, he, _⟩ := opens_geo.elem _ _ _ hf hw
  refine ⟨e.1, e.2.1, e.2.2, ?_⟩
  have : cs.toList = [vi e.1, vi e.2.1, vi e.2.2] := he
  rw [← Array.toArray_toList (xs := cs), this]
set_option maxRecDepth 100000 in
theorem arg_op (h : DataW.Trod enc Try.prog W 0 (fun _ => true) true 43 v d p) (hv : Value.okWide Try.prog W r n 43 v) (hw : ∀ n ∈ d.weights Try.prog 43, n ≤ reachBytes) : ∃ o : OpM, v = .agg o.cs ∧ o.ok W.heap.size W := by
  obtain ⟨f0, f1, f2, f3, f4, hs, _⟩ := op_fields
  obtain ⟨cs, rfl, _⟩ := okWide_struct hs hv
  obtain ⟨fuel, hf⟩ := h
  obtain ⟨o, he, ho⟩ := opens_op.elem _ _ _ hf hw
  refine ⟨o, ?_, ho⟩
  have : cs.toList = [vi o.kind, vi o.block, vi o.page, .slice o.ba o.b.length o.bc, .slice o.fa o.fs.length o.fc] := he
  rw [← Array.toArray_toList (xs := cs), this]
set_option maxRecDepth 100000 in
theorem arg_ints (h : DataW.Trod enc Try.prog W 0 (fun _ => true) true 24 v d p) (hv : Value.okWide Try.prog W r n 24 v) (hw : ∀ n ∈ d.weights Try.prog 24, n ≤ reachBytes) : ∃ (x : RowE Int), v = x.v ∧ IRow W x.a x.l ∧ x.l.length ≤ 140737488355328 := by
  obtain ⟨a, len, cap, rfl⟩ := okWide_slice Try.underlying24 hv
  obtain ⟨fuel, hf⟩ := h
  obtain ⟨x, he, hx, hl⟩ := opens_ints.elem _ _ _ hf hw
  have := reach_le
  refine ⟨x, ?_, irow_of hx, by omega⟩
  simpa [Value.cells] using he
set_option maxRecDepth 100000 in
theorem arg_ops (h : DataW.Trod enc Try.prog W 0 (fun _ => true) true 25 v d p) (hv : Value.okWide Try.prog W r n 25 v) (hw : ∀ n ∈ d.weights Try.prog 25, n ≤ reachBytes) : ∃ (x : RowE OpM), v = x.v ∧ OpRow W.heap.size W x.a x.l := by
  obtain ⟨a, len, cap, rfl⟩ := okWide_slice Try.underlying25 hv
  obtain ⟨fuel, hf⟩ := h
  obtain ⟨x, he, hx⟩ := opens_ops.elem _ _ _ hf hw
  refine ⟨x, ?_, oprow_of hx⟩
  simpa [Value.cells] using he
end

end Go.Proofs.Ytpggkehfbhffbaa

