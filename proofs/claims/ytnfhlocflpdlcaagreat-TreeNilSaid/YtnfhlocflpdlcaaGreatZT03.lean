/-
  Lemmas for a law's proof, put together from several texts: each part says what it shows, and its conditions.
-/
/-
  A chip, in plain words: pages, blocks, faults, and what each operation answers and leaves. No program in sight; no conditions.
-/
namespace Go.Proofs.YtnfhlocflpdlcaaGreat.NP

/-- A number as 64 binary digits tell it. -/
def w64 (n : Int) : Int := (n + 9223372036854775808) % 18446744073709551616 - 9223372036854775808

structure Flt where
  at_ : Int
  kind : Int
  data : List Nat
instance : Inhabited Flt := ⟨⟨0, 0, []⟩⟩
/-- A block: its pages' bytes (none: erased), the next page. -/
structure Blo where
  ps : List (List Nat)
  next : Nat
  broken : Bool
  bad : Bool
  wear : Int
instance : Inhabited Blo := ⟨⟨[], 0, false, false, 0⟩⟩
structure Chp where
  B : Nat
  P : Nat
  S : Nat
  bs : List Blo
  fs : List Flt
  since : Int
  down : Bool
  strokes : Int
  reads : Int

def rightB (b p s : Int) : Bool := decide (8 ≤ b) && decide (b ≤ 128) && decide (4 ≤ p) && decide (p ≤ 32) && (s == 64 || s == 128 || s == 256 || s == 512)
abbrev Chp.full (c : Chp) : Nat := c.S + 32
abbrev Chp.blk (c : Chp) (k : Nat) : Blo := c.bs.getD k default
abbrev Blo.page (x : Blo) (i : Nat) : List Nat := x.ps.getD i []
/-- What holds of every chip. -/
structure Chp.ok (c : Chp) : Prop where
  right : rightB c.B c.P c.S = true
  blocks : c.bs.length = c.B
  pages : ∀ x ∈ c.bs, x.ps.length = c.P
  full : ∀ x ∈ c.bs, ∀ l ∈ x.ps, l = [] ∨ l.length = c.full
  small : ∀ x ∈ c.bs, ∀ l ∈ x.ps, ∀ y ∈ l, y < 256
  next : ∀ x ∈ c.bs, x.next ≤ c.P
/-- What holds of a chip that was made anew. -/
def Chp.order (c : Chp) : Prop := ∀ x ∈ c.bs, x.broken = false → ∀ i, x.next ≤ i → x.page i = []

def blankB (p : Nat) : Blo := ⟨List.replicate p [], 0, false, false, 0⟩
def blank (b p s : Nat) : Chp := ⟨b, p, s, List.replicate b (blankB p), [], 0, false, 0, 0⟩
def setBlk (c : Chp) (k : Nat) (x : Blo) : Chp := { c with bs := c.bs.set k x }
def markB (c : Chp) (k : Nat) : Chp := setBlk c k { c.blk k with bad := true }
/-- Blocks marked as bad, till one is none. -/
def badTo (c : Chp) : List Int → Option Chp
  | [] => some c
  | k :: l => if 0 ≤ k ∧ k < c.B then badTo (markB c k.toNat) l else none
def new (b p s : Int) (bad : List Int) : Option Chp := if rightB b p s then badTo (blank b.toNat p.toNat s.toNat) bad else none

/-- The error of a page. -/
def asked (c : Chp) (k page : Int) : Int := if c.down then 4 else if 0 ≤ k ∧ k < c.B ∧ 0 ≤ page ∧ page < c.P then 0 else 12
/-- What is torn. -/
def torn (n : Nat) (data : List Nat) : List Nat := data.take n ++ List.replicate (n - data.length) 255
def readP (c : Chp) (k page : Int) : (List Nat × Int) × Chp :=
  let e := asked c k page
  if e = 0 then
    let b := (c.blk k.toNat).page page.toNat
    ((if b = [] then List.replicate c.full 255 else b, 0), { c with reads := w64 (c.reads + 1) })
  else (([], e), c)
def faultOf : List Flt → Int → Flt
  | [], _ => default
  | f :: l, a => if f.at_ = a then f else faultOf l a
/-- A stroke counted. -/
def stroke (c : Chp) : Chp := { c with since := w64 (c.since + 1), strokes := w64 (c.strokes + 1) }
def putP (c : Chp) (k : Nat) (l : List Nat) : Chp :=
  let x := c.blk k
  setBlk c k { x with ps := x.ps.set x.next l, next := x.next + 1 }
def downP (c : Chp) : Chp := { c with down := true }
def program (c : Chp) (k page : Int) (b : List Nat) : Int × Chp :=
  let e := asked c k page
  if e = 0 then
    let x := c.blk k.toNat
    if b.length = c.full then
      if x.bad then (13, c)
      else if x.broken || decide (page ≠ x.next) then (10, c)
      else
        let f := faultOf c.fs c.since
        if f.kind = 1 then (4, downP (stroke c))
        else if f.kind = 2 then (4, downP (putP (stroke c) k.toNat (torn c.full f.data)))
        else if f.kind = 3 then (11, putP (stroke c) k.toNat (torn c.full f.data))
        else (0, putP (stroke c) k.toNat b)
    else (1, c)
  else (e, c)
/-- Pages of a block that is broken off. -/
def cutOne (n : Nat) (y : Nat) (l : List Nat) : List Nat := if y = 0 then l else if 1 < y then List.replicate n y else []
def cutTo (n : Nat) (data : List Nat) (ps : List (List Nat)) : Nat → List (List Nat)
  | 0 => ps
  | k + 1 => let q := cutTo n data ps k; q.set k (cutOne n (data.getD k 0) (q.getD k []))
def breakOff (c : Chp) (k : Nat) (data : List Nat) : Chp :=
  let x := c.blk k
  setBlk c k { x with ps := cutTo c.full data x.ps x.ps.length, broken := true, wear := w64 (x.wear + 1) }
def erase (c : Chp) (k : Int) : Int × Chp :=
  let e := asked c k 0
  if e = 0 then
    let x := c.blk k.toNat
    if x.bad then (13, c)
    else
      let f := faultOf c.fs c.since
      if f.kind = 1 then (4, downP (stroke c))
      else if f.kind = 2 then (4, downP (breakOff (stroke c) k.toNat f.data))
      else if f.kind = 3 then (11, breakOff (stroke c) k.toNat f.data)
      else (0, setBlk (stroke c) k.toNat ⟨List.replicate c.P [], 0, false, false, w64 (x.wear + 1)⟩)
  else (e, c)
def mark (c : Chp) (k : Int) : Int × Chp :=
  let e := asked c k 0
  if e = 0 then (0, markB c k.toNat) else (e, c)
def script (c : Chp) (l : List Flt) : Int × Chp :=
  if l.all (fun f => decide (0 ≤ f.at_)) then (0, { c with fs := l, since := 0 }) else (1, c)
def upP (c : Chp) : Chp := { c with down := false }
def badAt (c : Chp) (k : Int) : Bool := if 0 ≤ k ∧ k < c.B then (c.blk k.toNat).bad else true
def wearAt (c : Chp) (k : Int) : Int := if 0 ≤ k ∧ k < c.B then (c.blk k.toNat).wear else 0

/-- What is done with a chip. -/
inductive Act where
  | program (k page : Int) (b : List Nat)
  | erase (k : Int)
  | mark (k : Int)
  | read (k page : Int)
  | lose
  | start
  | script (l : List Flt)
  | none
def act (c : Chp) : Act → Chp
  | .program k p b => (program c k p b).2
  | .erase k => (erase c k).2
  | .mark k => (mark c k).2
  | .read k p => (readP c k p).2
  | .lose => downP c
  | .start => upP c
  | .script l => (script c l).2
  | .none => c

section
variable {c : Chp}
theorem getD_mem {α : Type} {l : List α} {d : α} {i : Nat} (h : i < l.length) : l.getD i d ∈ l := by
  rw [List.getD_eq_getElem?_getD, List.getElem?_eq_getElem h]
  exact List.getElem_mem h
theorem getD_set {α : Type} (l : List α) (d x : α) (i j : Nat) (hi : i < l.length) : (l.set i x).getD j d = if i = j then x else l.getD j d := by
  simp only [List.getD_eq_getElem?_getD, List.getElem?_set]
  split
  · rename_i h; subst h; simp
  · rfl
theorem asked_zero {k page : Int} (h : asked c k page = 0) : c.down = false ∧ 0 ≤ k ∧ k < c.B ∧ 0 ≤ page ∧ page < c.P := by
  unfold asked at h
  split at h
  · simp at h
  · split at h
    · rename_i h1 h2; exact ⟨by simpa using h1, h2⟩
    · simp at h
theorem Chp.ok.mem (h : c.ok) {k : Nat} (hk : k < c.B) : c.blk k ∈ c.bs := getD_mem (by rw [h.blocks]; exact hk)
theorem Chp.ok.set (h : c.ok) {k : Nat} {x : Blo} (h1 : x.ps.length = c.P) (h2 : ∀ l ∈ x.ps, l = [] ∨ l.length = c.full) (h3 : ∀ l ∈ x.ps, ∀ y ∈ l, y < 256) (h4 : x.next ≤ c.P) : (setBlk c k x).ok := by
  have hm : ∀ y ∈ c.bs.set k x, y = x ∨ y ∈ c.bs := fun y hy => (List.mem_or_eq_of_mem_set hy).symm
  refine ⟨h.right, by simp [setBlk, h.blocks], ?_, ?_, ?_, ?_⟩
  · intro y hy; rcases hm y hy with rfl | hy
    · exact h1
    · exact h.pages y hy
  · intro y hy; rcases hm y hy with rfl | hy
    · exact h2
    · exact h.full y hy
  · intro y hy; rcases hm y hy with rfl | hy
    · exact h3
    · exact h.small y hy
  · intro y hy; rcases hm y hy with rfl | hy
    · exact h4
    · exact h.next y hy
theorem torn_length (n : Nat) (data : List Nat) : (torn n data).length = n := by
  simp only [torn, List.length_append, List.length_take, List.length_replicate]
  omega
theorem torn_small {n : Nat} {data : List Nat} (h : ∀ y ∈ data, y < 256) : ∀ y ∈ torn n data, y < 256 := by
  intro y hy
  rcases List.mem_append.1 hy with hy | hy
  · exact h y (List.mem_of_mem_take hy)
  · rw [List.mem_replicate] at hy; omega
theorem torn_whole {n : Nat} {b : List Nat} (h : b.length = n) : torn n b = b := by
  simp [torn, h, List.take_of_length_le (Nat.le_of_eq h)]
theorem cutTo_length (n : Nat) (data : List Nat) (ps : List (List Nat)) : ∀ k, (cutTo n data ps k).length = ps.length
  | 0 => rfl
  | k + 1 => by simp [cutTo, cutTo_length n data ps k]
theorem cutTo_mem (n : Nat) (data : List Nat) (ps : List (List Nat)) (Q : List Nat → Prop) (h0 : Q []) (hq : ∀ l ∈ ps, Q l) (hr : ∀ y ∈ data, Q (List.replicate n y)) : ∀ k, ∀ l ∈ cutTo n data ps k, Q l
  | 0 => hq
  | k + 1 => by
    intro l hl
    have ih := cutTo_mem n data ps Q h0 hq hr k
    rcases List.mem_or_eq_of_mem_set hl with hl | rfl
    · exact ih l hl
    · unfold cutOne
      split
      · rw [List.getD_eq_getElem?_getD]
        cases hg : (cutTo n data ps k)[k]? with
        | none => exact h0
        | some l => exact ih l (List.mem_of_getElem? hg)
      · split
        · rename_i h2
          rw [List.getD_eq_getElem?_getD] at h2 ⊢
          cases hg : data[k]? with
          | none => rw [hg] at h2; simp at h2
          | some y => exact hr y (List.mem_of_getElem? hg)
        · exact h0

theorem stroke_ok (h : c.ok) : (stroke c).ok := ⟨h.right, h.blocks, h.pages, h.full, h.small, h.next⟩
theorem down_ok (h : c.ok) : (downP c).ok := ⟨h.right, h.blocks, h.pages, h.full, h.small, h.next⟩
theorem up_ok (h : c.ok) : (upP c).ok := ⟨h.right, h.blocks, h.pages, h.full, h.small, h.next⟩
theorem put_ok (h : c.ok) {k : Nat} {l : List Nat} (hk : k < c.B) (hn : (c.blk k).next < c.P) (hl : l.length = c.full) (hs : ∀ y ∈ l, y < 256) : (putP c k l).ok := by
  have hx := h.mem hk
  have hm : ∀ q ∈ (c.blk k).ps.set (c.blk k).next l, q = l ∨ q ∈ (c.blk k).ps := fun q hq => (List.mem_or_eq_of_mem_set hq).symm
  refine h.set ((List.length_set ..).trans (h.pages _ hx)) ?_ ?_ hn
  · intro q hq; rcases hm q hq with rfl | hq
    · exact .inr hl
    · exact h.full _ hx q hq
  · intro q hq; rcases hm q hq with rfl | hq
    · exact hs
    · exact h.small _ hx q hq
theorem mark_ok (h : c.ok) {k : Nat} (hk : k < c.B) : (markB c k).ok := by
  have hx := h.mem hk
  exact h.set (x := { c.blk k with bad := true }) (h.pages (c.blk k) hx) (h.full (c.blk k) hx) (h.small (c.blk k) hx) (h.next (c.blk k) hx)
theorem break_ok (h : c.ok) {k : Nat} (hk : k < c.B) {data : List Nat} (hd : ∀ y ∈ data, y < 256) : (breakOff c k data).ok := by
  have hx := h.mem hk
  refine h.set ((cutTo_length ..).trans (h.pages _ hx)) ?_ ?_ (h.next (c.blk k) hx)
  · exact cutTo_mem _ _ _ (fun l => l = [] ∨ l.length = c.full) (.inl rfl) (h.full _ hx) (fun y _ => .inr (by simp)) _
  · refine cutTo_mem _ _ _ (fun l => ∀ y ∈ l, y < 256) (by simp) (h.small _ hx) (fun y hy z hz => ?_) _
    rw [List.mem_replicate] at hz
    exact hz.2 ▸ hd y hy
theorem fresh_ok (h : c.ok) {k : Nat} (w : Int) : (setBlk c k ⟨List.replicate c.P [], 0, false, false, w⟩).ok := by
  refine h.set (by simp) ?_ ?_ (Nat.zero_le _)
  · intro l hl; exact .inl (List.mem_replicate.1 hl).2
  · intro l hl; rw [(List.mem_replicate.1 hl).2]; simp

/-- Faults whose bytes are bytes. -/
def small (fs : List Flt) : Prop := ∀ f ∈ fs, ∀ y ∈ f.data, y < 256
theorem fault_small : ∀ {fs : List Flt}, small fs → ∀ a, ∀ y ∈ (faultOf fs a).data, y < 256
  | [], _, a => by simp [faultOf, default]
  | f :: l, h, a => by
    unfold faultOf
    split
    · exact h f (by simp)
    · exact fault_small (fun g hg => h g (by simp [hg])) a
/-- What may be given to an act. -/
def Act.fine : Act → Prop
  | .program _ _ b => ∀ y ∈ b, y < 256
  | .script l => small l
  | _ => True
theorem act_ok (h : c.ok) (hf : small c.fs) (a : Act) (ha : a.fine) : (act c a).ok ∧ small (act c a).fs := by
  cases a with
  | program k p b =>
    unfold act program
    dsimp only
    split
    · rename_i he
      obtain ⟨_, h0, h1, h2, h3⟩ := asked_zero he
      have hk : k.toNat < c.B := by omega
      split
      · rename_i hl
        split
        · exact ⟨h, hf⟩
        · split
          · exact ⟨h, hf⟩
          · rename_i hb
            simp only [Bool.or_eq_true, decide_eq_true_eq, not_or, Decidable.not_not] at hb
            have hn : (c.blk k.toNat).next < c.P := by omega
            have hs := fault_small hf c.since
            split
            · exact ⟨down_ok (stroke_ok h), hf⟩
            · split
              · exact ⟨down_ok (put_ok (stroke_ok h) hk hn (torn_length _ _) (torn_small hs)), hf⟩
              · split
                · exact ⟨put_ok (stroke_ok h) hk hn (torn_length _ _) (torn_small hs), hf⟩
                · exact ⟨put_ok (stroke_ok h) hk hn hl ha, hf⟩
      · exact ⟨h, hf⟩
    · exact ⟨h, hf⟩
  | erase k =>
    unfold act erase
    dsimp only
    split
    · rename_i he
      obtain ⟨_, h0, h1, h2, h3⟩ := asked_zero he
      have hk : k.toNat < c.B := by omega
      have hs := fault_small hf c.since
      split
      · exact ⟨h, hf⟩
      · split
        · exact ⟨down_ok (stroke_ok h), hf⟩
        · split
          · exact ⟨down_ok (break_ok (stroke_ok h) hk hs), hf⟩
          · split
            · exact ⟨break_ok (stroke_ok h) hk hs, hf⟩
            · exact ⟨fresh_ok (stroke_ok h) _, hf⟩
    · exact ⟨h, hf⟩
  | mark k =>
    unfold act mark
    dsimp only
    split
    · rename_i he
      obtain ⟨_, h0, h1, h2, h3⟩ := asked_zero he
      exact ⟨mark_ok h (by omega), hf⟩
    · exact ⟨h, hf⟩
  | read k p =>
    unfold act readP
    dsimp only
    split
    · exact ⟨⟨h.right, h.blocks, h.pages, h.full, h.small, h.next⟩, hf⟩
    · exact ⟨h, hf⟩
  | lose => exact ⟨down_ok h, hf⟩
  | start => exact ⟨up_ok h, hf⟩
  | script l =>
    show (script c l).2.ok ∧ small (script c l).2.fs
    unfold script
    split
    · exact ⟨⟨h.right, h.blocks, h.pages, h.full, h.small, h.next⟩, ha⟩
    · exact ⟨h, hf⟩
  | none => exact ⟨h, hf⟩

/-! What stays. -/
theorem page_set {k k' p : Nat} {x : Blo} (hk : k < c.bs.length) : ((setBlk c k x).blk k').page p = if k = k' then x.page p else (c.blk k').page p := by
  show ((c.bs.set k x).getD k' default).page p = _
  rw [getD_set _ _ _ _ _ hk]
  split <;> rfl
theorem put_page (h : c.ok) {k k' p : Nat} {l : List Nat} (hk : k < c.B) (hn : (c.blk k).next < c.P) : ((putP c k l).blk k').page p = if k = k' ∧ (c.blk k).next = p then l else (c.blk k').page p := by
  unfold putP
  dsimp only
  rw [page_set (by rw [h.blocks]; exact hk)]
  by_cases e : k = k'
  · subst e
    rw [if_pos rfl]
    show ((c.blk k).ps.set (c.blk k).next l).getD p [] = _
    rw [getD_set _ _ _ _ _ (by rw [h.pages _ (h.mem hk)]; exact hn)]
    simp
  · rw [if_neg e, if_neg (fun h => e h.1)]
/-- Blocks beside the one that is asked for stay. -/
theorem blk_set {k k' : Nat} {x : Blo} (hk : k < c.bs.length) : (setBlk c k x).blk k' = if k = k' then x else c.blk k' := getD_set _ _ _ _ _ hk

theorem order_set (h : c.order) {k : Nat} {x : Blo} (hx : x.broken = false → ∀ i, x.next ≤ i → x.page i = []) : (setBlk c k x).order := by
  intro y hy hb i hi
  rcases List.mem_or_eq_of_mem_set hy with hy | rfl
  · exact h y hy hb i hi
  · exact hx hb i hi
theorem order_put (h : c.ok) (ho : c.order) {k : Nat} {l : List Nat} (hk : k < c.B) (hn : (c.blk k).next < c.P) : (putP c k l).order := by
  refine order_set ho ?_
  intro hb i hi
  show ((c.blk k).ps.set (c.blk k).next l).getD i [] = []
  rw [getD_set _ _ _ _ _ (by rw [h.pages _ (h.mem hk)]; exact hn), if_neg (by dsimp only at hi; omega)]
  exact ho _ (h.mem hk) hb i (by dsimp only at hi; omega)
theorem order_mark (h : c.ok) (ho : c.order) {k : Nat} (hk : k < c.B) : (markB c k).order := order_set ho (fun hb i hi => ho _ (h.mem hk) hb i hi)
theorem order_fresh (ho : c.order) {k : Nat} (w : Int) : (setBlk c k ⟨List.replicate c.P [], 0, false, false, w⟩).order := by
  refine order_set ho ?_
  intro _ i _
  show (List.replicate c.P []).getD i [] = []
  rw [List.getD_eq_getElem?_getD, List.getElem?_replicate]
  split <;> rfl
theorem order_act (h : c.ok) (ho : c.order) (a : Act) : (act c a).order := by
  cases a with
  | program k p b =>
    unfold act program
    dsimp only
    split
    · rename_i he
      obtain ⟨_, h0, h1, h2, h3⟩ := asked_zero he
      have hk : k.toNat < c.B := by omega
      split
      · rename_i hl
        split
        · exact ho
        · split
          · exact ho
          · rename_i hb
            simp only [Bool.or_eq_true, decide_eq_true_eq, not_or, Decidable.not_not] at hb
            have hn : (c.blk k.toNat).next < c.P := by omega
            split
            · exact ho
            · split
              · exact order_put (stroke_ok h) ho hk hn
              · split
                · exact order_put (stroke_ok h) ho hk hn
                · exact order_put (stroke_ok h) ho hk hn
      · exact ho
    · exact ho
  | erase k =>
    unfold act erase
    dsimp only
    split
    · rename_i he
      split
      · exact ho
      · split
        · exact ho
        · split
          · exact order_set (c := stroke c) ho (fun hb => by cases hb)
          · split
            · exact order_set (c := stroke c) ho (fun hb => by cases hb)
            · exact order_fresh (c := stroke c) ho _
    · exact ho
  | mark k =>
    unfold act mark
    dsimp only
    split
    · rename_i he
      obtain ⟨_, h0, h1, h2, h3⟩ := asked_zero he
      exact order_mark h ho (by omega)
    · exact ho
  | read k p =>
    unfold act readP
    dsimp only
    split
    · exact ho
    · exact ho
  | lose => exact ho
  | start => exact ho
  | script l =>
    show (script c l).2.order
    unfold script
    split
    · exact ho
    · exact ho
  | none => exact ho

/-- A page that is programmed has its bytes, unless its block is erased. -/
theorem keeps (h : c.ok) (ho : c.order) (a : Act) {k p : Nat} (hp : (c.blk k).page p ≠ []) (ha : a ≠ .erase k) : ((act c a).blk k).page p = (c.blk k).page p := by
  have put : ∀ (k' : Nat) (l : List Nat), k' < c.B → (c.blk k').next < c.P → (c.blk k').broken = false → ((putP (stroke c) k' l).blk k).page p = (c.blk k).page p := by
    intro k' l hk hn hb
    rw [put_page (stroke_ok h) hk hn]
    split
    · rename_i e
      obtain ⟨rfl, e⟩ := e
      exact absurd (ho _ (h.mem hk) hb p (by have : (c.blk k').next = p := e; omega)) hp
    · rfl
  cases a with
  | program k' p' b =>
    unfold act program
    dsimp only
    split
    · rename_i he
      obtain ⟨_, h0, h1, h2, h3⟩ := asked_zero he
      have hk : k'.toNat < c.B := by omega
      split
      · rename_i hl
        split
        · rfl
        · split
          · rfl
          · rename_i hb
            simp only [Bool.or_eq_true, decide_eq_true_eq, not_or, Decidable.not_not, Bool.not_eq_true] at hb
            have hn : (c.blk k'.toNat).next < c.P := by omega
            split
            · rfl
            · split
              · exact put _ _ hk hn hb.1
              · split
                · exact put _ _ hk hn hb.1
                · exact put _ _ hk hn hb.1
      · rfl
    · rfl
  | erase k' =>
    unfold act erase
    dsimp only
    split
    · rename_i he
      obtain ⟨_, h0, h1, h2, h3⟩ := asked_zero he
      have hk : k'.toNat < c.bs.length := by rw [h.blocks]; omega
      have hne : k'.toNat ≠ k := fun e => ha (by congr 1; omega)
      have other : ∀ x : Blo, ((setBlk (stroke c) k'.toNat x).blk k).page p = (c.blk k).page p := fun x => by
        rw [page_set (c := stroke c) hk, if_neg hne]
        rfl
      split
      · rfl
      · split
        · rfl
        · split
          · exact other _
          · split
            · exact other _
            · exact other _
    · rfl
  | mark k' =>
    unfold act mark
    dsimp only
    split
    · rename_i he
      obtain ⟨_, h0, h1, h2, h3⟩ := asked_zero he
      have hk : k'.toNat < c.bs.length := by rw [h.blocks]; omega
      unfold markB
      rw [page_set hk]
      split
      · rename_i e; subst e; rfl
      · rfl
    · rfl
  | read k' p' =>
    unfold act readP
    dsimp only
    split
    · rfl
    · rfl
  | lose => rfl
  | start => rfl
  | script l =>
    show ((script c l).2.blk k).page p = _
    unfold script
    split
    · rfl
    · rfl
  | none => rfl
/-- What is refused changes nothing. -/
theorem program_idle (k p : Int) (b : List Nat) (h0 : (program c k p b).1 ≠ 0) (h1 : (program c k p b).1 ≠ 11) (h2 : (program c k p b).1 = 4 → c.down = true) : (program c k p b).2 = c := by
  revert h0 h1 h2
  unfold program
  dsimp only
  split
  · rename_i he
    have hd := (asked_zero he).1
    split
    · split
      · intros; rfl
      · split
        · intros; rfl
        · split
          · intro _ _ h; rw [hd] at h; cases h rfl
          · split
            · intro _ _ h; rw [hd] at h; cases h rfl
            · split
              · intro _ h; exact absurd rfl h
              · intro h; exact absurd rfl h
    · intros; rfl
  · intros; rfl
theorem erase_idle (k : Int) (h0 : (erase c k).1 ≠ 0) (h1 : (erase c k).1 ≠ 11) (h2 : (erase c k).1 = 4 → c.down = true) : (erase c k).2 = c := by
  revert h0 h1 h2
  unfold erase
  dsimp only
  split
  · rename_i he
    have hd := (asked_zero he).1
    split
    · intros; rfl
    · split
      · intro _ _ h; rw [hd] at h; cases h rfl
      · split
        · intro _ _ h; rw [hd] at h; cases h rfl
        · split
          · intro _ h; exact absurd rfl h
          · intro h; exact absurd rfl h
  · intros; rfl
theorem mark_idle (k : Int) (h0 : (mark c k).1 ≠ 0) : (mark c k).2 = c := by
  revert h0
  unfold mark
  dsimp only
  split
  · intro h; exact absurd rfl h
  · intros; rfl
theorem script_idle (l : List Flt) (h0 : (script c l).1 ≠ 0) : (script c l).2 = c := by
  revert h0
  unfold script
  split
  · intro h; exact absurd rfl h
  · intros; rfl

/-! A chip that was made anew. -/
theorem getD_replicate {α : Type} {n i : Nat} {x d : α} (h : i < n) : (List.replicate n x).getD i d = x := by
  rw [List.getD_eq_getElem?_getD, List.getElem?_replicate, if_pos h]
  rfl
theorem blank_ok {b p s : Nat} (h : rightB b p s = true) : (blank b p s).ok := by
  refine ⟨h, List.length_replicate .., ?_, ?_, ?_, ?_⟩
  all_goals intro x hx; obtain ⟨_, rfl⟩ := List.mem_replicate.1 hx
  · exact List.length_replicate ..
  · intro l hl; exact .inl (List.mem_replicate.1 hl).2
  · intro l hl; rw [(List.mem_replicate.1 hl).2]; simp
  · exact Nat.zero_le _
theorem blank_order (b p s : Nat) : (blank b p s).order := by
  intro x hx _ i _
  obtain ⟨_, rfl⟩ := List.mem_replicate.1 hx
  show (List.replicate p []).getD i [] = []
  rw [List.getD_eq_getElem?_getD, List.getElem?_replicate]
  split <;> rfl
theorem badTo_ok : ∀ {bad : List Int} {c d : Chp}, c.ok → c.order → badTo c bad = some d → d.ok ∧ d.order ∧ d.fs = c.fs ∧ d.B = c.B ∧ d.P = c.P ∧ d.S = c.S
  | [], c, d, h, ho, e => by injection e with e; subst e; exact ⟨h, ho, rfl, rfl, rfl, rfl⟩
  | k :: l, c, d, h, ho, e => by
    unfold badTo at e
    split at e
    · rename_i hk
      exact badTo_ok (bad := l) (c := markB c k.toNat) (mark_ok h (by omega)) (order_mark h ho (by omega)) e
    · cases e
theorem new_ok {b p s : Int} {bad : List Int} {d : Chp} (e : new b p s bad = some d) : d.ok ∧ d.order ∧ d.fs = [] ∧ (d.B : Int) = b ∧ (d.P : Int) = p ∧ (d.S : Int) = s := by
  unfold new at e
  split at e
  · rename_i hr
    have hr' := hr
    simp only [rightB, Bool.and_eq_true, decide_eq_true_eq, Bool.or_eq_true, beq_iff_eq] at hr'
    have hb : ((b.toNat : Int) = b) := by omega
    have hp : ((p.toNat : Int) = p) := by omega
    have hs : ((s.toNat : Int) = s) := by omega
    obtain ⟨h1, h2, h3, h4, h5, h6⟩ := badTo_ok (blank_ok (by rw [hb, hp, hs]; exact hr)) (blank_order _ _ _) e
    exact ⟨h1, h2, h3, by rw [h4]; exact hb, by rw [h5]; exact hp, by rw [h6]; exact hs⟩
  · cases e
end

end Go.Proofs.YtnfhlocflpdlcaaGreat.NP

