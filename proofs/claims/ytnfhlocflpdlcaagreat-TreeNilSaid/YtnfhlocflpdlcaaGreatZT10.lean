/-
  Lemmas for a law's proof, put together from several texts: each part says what it shows, and its conditions.
-/
import Derived.Test.YtnfhlocflpdlcaaGreatZT04
import Derived.Maps.RangeRun
/-
  Maps with whole numbers as keys: in plain words (rows that rise by their keys), and in memory: looked up, written, struck, counted, told one by one in whatever order. Conditions: a map told by MpAt.
-/
namespace Go.Proofs.YtnfhlocflpdlcaaGreat
open Go.RowKit Go.MapKept
open Go.ChangeMaps (setBlock heap_setBlock_same heap_setBlock_other)

/-! In plain words. -/
abbrev Mp (α : Type) := List (Int × α)
namespace MP
variable {α β : Type}
def get : Mp α → Int → Option α
  | [], _ => none
  | x :: m, k => if x.1 = k then some x.2 else get m k
def put : Mp α → Int → α → Mp α
  | [], k, v => [(k, v)]
  | x :: m, k, v => if k < x.1 then (k, v) :: x :: m else if k = x.1 then (k, v) :: m else x :: put m k v
def del : Mp α → Int → Mp α
  | [], _ => []
  | x :: m, k => if x.1 = k then m else x :: del m k
def has (m : Mp α) (k : Int) : Bool := (get m k).isSome
def Ok (m : Mp α) : Prop := m.Pairwise (fun x y => x.1 < y.1)
theorem ok_nil : Ok ([] : Mp α) := List.Pairwise.nil
theorem get_none {m : Mp α} {k : Int} : get m k = none ↔ ∀ x ∈ m, x.1 ≠ k := by
  induction m with
  | nil => simp [get]
  | cons x m ih =>
    unfold get
    split
    · rename_i h; simp [h]
    · rename_i h; rw [ih]; simp [h]
theorem get_mem {m : Mp α} {k : Int} {v : α} (h : get m k = some v) : (k, v) ∈ m := by
  induction m with
  | nil => simp [get] at h
  | cons x m ih =>
    unfold get at h
    split at h
    · rename_i e; cases h; subst e; simp
    · exact List.mem_cons_of_mem _ (ih h)
theorem mem_get {m : Mp α} (ok : Ok m) {x : Int × α} (h : x ∈ m) : get m x.1 = some x.2 := by
  induction m with
  | nil => simp at h
  | cons y m ih =>
    obtain ⟨h1, h2⟩ := List.pairwise_cons.1 ok
    unfold get
    rcases List.mem_cons.1 h with rfl | h
    · simp
    · rw [if_neg (by have := h1 x h; omega)]; exact ih h2 h
theorem mem_put {m : Mp α} {k : Int} {v : α} {y : Int × α} (h : y ∈ put m k v) : y = (k, v) ∨ y ∈ m := by
  induction m with
  | nil => simpa [put] using h
  | cons x m ih =>
    unfold put at h
    split at h
    · simpa using h
    · split at h
      · rcases List.mem_cons.1 h with h | h
        · exact .inl h
        · exact .inr (List.mem_cons_of_mem _ h)
      · rcases List.mem_cons.1 h with h | h
        · exact .inr (by rw [h]; simp)
        · rcases ih h with h | h
          · exact .inl h
          · exact .inr (List.mem_cons_of_mem _ h)
theorem put_ok {m : Mp α} (ok : Ok m) (k : Int) (v : α) : Ok (put m k v) := by
  induction m with
  | nil => exact List.pairwise_singleton _ _
  | cons x m ih =>
    obtain ⟨h1, h2⟩ := List.pairwise_cons.1 ok
    unfold put
    split
    · rename_i h
      exact List.pairwise_cons.2 ⟨fun y hy => by
        rcases List.mem_cons.1 hy with rfl | hy
        · exact h
        · have := h1 y hy; dsimp only; omega, ok⟩
    · split
      · rename_i h
        exact List.pairwise_cons.2 ⟨fun y hy => by have := h1 y hy; dsimp only; omega, h2⟩
      · exact List.pairwise_cons.2 ⟨fun y hy => by
          rcases mem_put hy with rfl | hy
          · dsimp only; omega
          · exact h1 y hy, ih h2⟩
theorem del_sub (m : Mp α) (k : Int) : (del m k).Sublist m := by
  induction m with
  | nil => exact List.Sublist.refl _
  | cons x m ih =>
    unfold del
    split
    · exact List.sublist_cons_self _ _
    · exact ih.cons_cons x
theorem del_ok {m : Mp α} (ok : Ok m) (k : Int) : Ok (del m k) := ok.sublist (del_sub m k)
theorem del_none {m : Mp α} {k : Int} (h : get m k = none) : del m k = m := by
  induction m with
  | nil => rfl
  | cons x m ih =>
    unfold get at h
    unfold del
    split at h
    · cases h
    · rename_i e; rw [if_neg e, ih h]
theorem perm_del {m : Mp α} {k : Int} {v : α} (h : get m k = some v) : m.Perm ((k, v) :: del m k) := by
  induction m with
  | nil => simp [get] at h
  | cons x m ih =>
    unfold get at h
    unfold del
    split at h
    · rename_i e; cases h; subst e; rw [if_pos rfl]
    · rename_i e
      rw [if_neg e]
      exact ((ih h).cons x).trans (List.Perm.swap _ _ _)
theorem perm_put {m : Mp α} (ok : Ok m) (k : Int) (v : α) : (put m k v).Perm ((k, v) :: del m k) := by
  induction m with
  | nil => exact List.Perm.refl _
  | cons x m ih =>
    obtain ⟨h1, h2⟩ := List.pairwise_cons.1 ok
    unfold put del
    split
    · rename_i h
      rw [if_neg (by omega), del_none (get_none.2 (fun y hy => by have := h1 y hy; omega))]
    · split
      · rename_i h; rw [if_pos h.symm]
      · rename_i h _
        rw [if_neg (by omega)]
        exact ((ih h2).cons x).trans (List.Perm.swap _ _ _)
theorem get_put (m : Mp α) (k : Int) (v : α) (j : Int) : get (put m k v) j = if k = j then some v else get m j := by
  induction m with
  | nil => simp [put, get]
  | cons x m ih =>
    unfold put
    split
    · simp [get]
    · split
      · rename_i h; subst h; simp only [get]; split <;> rfl
      · rename_i h1 h2
        simp only [get, ih]
        split
        · rename_i h; rw [if_neg (by omega)]
        · rfl
theorem get_del {m : Mp α} (ok : Ok m) (k j : Int) : get (del m k) j = if k = j then none else get m j := by
  induction m with
  | nil => simp [del, get]
  | cons x m ih =>
    obtain ⟨h1, h2⟩ := List.pairwise_cons.1 ok
    unfold del
    split
    · rename_i h
      by_cases e : k = j
      · rw [if_pos e]; exact get_none.2 (fun y hy => by have := h1 y hy; omega)
      · rw [if_neg e]; simp only [get]; rw [if_neg (by omega)]
    · rename_i h
      simp only [get, ih h2]
      split
      · rename_i e; rw [if_neg (by omega)]
      · rfl
/-- Two that answer alike are one. -/
theorem ext {m n : Mp α} (hm : Ok m) (hn : Ok n) (h : ∀ k, get m k = get n k) : m = n := by
  have hp : ∀ x, x ∈ m ↔ x ∈ n := fun x => ⟨fun hx => get_mem (by rw [← h, mem_get hm hx]), fun hx => get_mem (by rw [h, mem_get hn hx])⟩
  refine List.Perm.eq_of_pairwise (le := fun (x y : Int × α) => x.1 < y.1) (fun x y _ _ h1 h2 => by omega) hm hn ?_
  exact (List.perm_ext_iff_of_nodup (hm.imp (fun {x y} h e => by rw [e] at h; exact Int.lt_irrefl _ h)) (hn.imp (fun {x y} h e => by rw [e] at h; exact Int.lt_irrefl _ h))).2 hp
theorem get_len {m : Mp α} {k : Int} {v : α} (h : get m k = some v) : 0 < m.length := by cases m with | nil => simp [get] at h | cons x m => simp
theorem del_len {m : Mp α} {k : Int} {v : α} (h : get m k = some v) : (del m k).length + 1 = m.length := by simpa using (perm_del h).length_eq.symm
theorem put_len {m : Mp α} (ok : Ok m) (k : Int) (v : α) : (put m k v).length ≤ m.length + 1 := by
  have h := (perm_put ok k v).length_eq
  have h2 := (del_sub m k).length_le
  simp only [List.length_cons] at h
  omega
end MP

/-! In memory. -/
/-- The entries of a map, as they stand. -/
def entr (es : Array MapEntry) : List (Value × Value) := es.toList.map fun e => (e.key, e.val)
section
variable {α : Type}
def encs (K : IntKind) (enc : α → Value) (m : Mp α) : List (Value × Value) := m.map fun x => (.int K x.1, enc x.2)
/-- Block b is a map that holds just these. -/
def MpAt (w : World) (b : Nat) (K : IntKind) (enc : α → Value) (m : Mp α) : Prop :=
  ∃ es clock, w.heap[b]? = some (.map es clock) ∧ (entr es).Perm (encs K enc m) ∧ MP.Ok m ∧ (es.toList.map (·.born)).Nodup ∧ ∀ e ∈ es.toList, e.born < clock
/-- Block r tells the entries of the map in block b, of which these are still to come; none was laid since. -/
def MpIt (w : World) (r b : Nat) (K : IntKind) (enc : α → Value) (left : Mp α) : Prop :=
  ∃ es clock since seen c0, w.heap[b]? = some (.map es clock) ∧ w.heap[r]? = some (.mapIter (some b) since seen c0) ∧ (∀ e ∈ es.toList, e.born < since) ∧ since ≤ c0 ∧ since ≤ clock ∧ (es.toList.map (·.born)).Nodup ∧
    (entr (leftOf es seen)).Perm (encs K enc left) ∧ MP.Ok left
variable {w w' : World} {b r : Nat} {K : IntKind} {enc : α → Value} {m left : Mp α} {P : Program} {t k e : TypeId}
theorem MpAt.ok (h : MpAt w b K enc m) : MP.Ok m := by obtain ⟨_, _, _, _, h, _⟩ := h; exact h
theorem MpAt.lt (h : MpAt w b K enc m) : b < w.heap.size := by
  obtain ⟨_, _, h, _⟩ := h
  exact (Array.getElem?_eq_some_iff.1 h).1
theorem MpAt.ne_blk (h : MpAt w b K enc m) {g : Nat} {t : TypeId} {cs : Array Value} (hg : Blk w g t cs) : b ≠ g := by
  intro e
  obtain ⟨_, _, h, _⟩ := h
  unfold Blk at hg
  rw [e, hg] at h
  cases h
theorem MpAt.of_heap (h : MpAt w b K enc m) (q : w'.heap[b]? = w.heap[b]?) : MpAt w' b K enc m := by
  obtain ⟨es, c, h1, h2⟩ := h
  exact ⟨es, c, q.trans h1, h2⟩
theorem MpAt.chg {F : Nat → Prop} (h : MpAt w b K enc m) (q : Chg F w w') (hn : ¬ F b) : MpAt w' b K enc m := h.of_heap (q.block b h.lt hn)
theorem MpAt.old (h : MpAt w b K enc m) (q : Below w.heap.size w w') : MpAt w' b K enc m := h.of_heap (q.block b h.lt)
theorem MpAt.alloc (h : MpAt w b K enc m) (o : Obj) : MpAt (w.alloc o) b K enc m := h.old ((Below.refl _ _).alloc (Nat.le_refl _) o)
theorem MpAt.made (w : World) (K : IntKind) (enc : α → Value) : MpAt (w.alloc (.map #[] 0)) w.heap.size K enc [] :=
  ⟨#[], 0, (heap_alloc w _).1, List.Perm.refl _, MP.ok_nil, by simp, by simp⟩
theorem keys_of {es : Array MapEntry} (h : (entr es).Perm (encs K enc m)) : ∀ x ∈ es.toList, ∃ y ∈ m, x.key = .int K y.1 ∧ x.val = enc y.2 := by
  intro x hx
  have : (x.key, x.val) ∈ encs K enc m := h.subset (List.mem_map.2 ⟨x, hx, rfl⟩)
  obtain ⟨y, hy, e⟩ := List.mem_map.1 this
  injection e with e1 e2
  exact ⟨y, hy, e1.symm, e2.symm⟩
theorem isKey_of {es : Array MapEntry} (h : (entr es).Perm (encs K enc m)) : ∀ x ∈ es.toList, IsKey (.int K) x.key := by
  intro x hx
  obtain ⟨y, _, e, _⟩ := keys_of h x hx
  rw [e]
  simp [IsKey]
/-- What is found of a key. -/
theorem find_of {es : Array MapEntry} (h : (entr es).Perm (encs K enc m)) (ok : MP.Ok m) (j : Int) :
    (MP.get m j = none ∧ Instr.findNow (.int K) (.int K j) es.toList 0 = some none) ∨ ∃ i x v, MP.get m j = some v ∧ Instr.findNow (.int K) (.int K j) es.toList 0 = some (some (i, enc v)) ∧ es.toList[i]? = some x ∧ x.key = .int K j ∧ x.val = enc v := by
  rcases findNow_spec (d := .int K) (k := .int K j) (by simp [IsKey]) es.toList 0 (isKey_of h) with ⟨h1, h2⟩ | ⟨i, x, h1, h2, h3⟩
  · refine .inl ⟨MP.get_none.2 fun y hy e => ?_, h1⟩
    have : ((.int K y.1 : Value), enc y.2) ∈ entr es := h.symm.subset (List.mem_map.2 ⟨y, hy, rfl⟩)
    obtain ⟨x, hx, e2⟩ := List.mem_map.1 this
    injection e2 with e2
    exact h2 x hx (by rw [e2, e])
  · obtain ⟨y, hy, e1, e2⟩ := keys_of h x (List.mem_of_getElem? h2)
    have e3 : y.1 = j := by rw [e1] at h3; injection h3
    have hg := MP.mem_get ok hy
    rw [e3] at hg
    rw [Nat.zero_add, e2] at h1
    exact .inr ⟨i, x, y.2, hg, h1, h2, h3, e2⟩
theorem entr_get {es : Array MapEntry} {i : Nat} {x : MapEntry} (h : es.toList[i]? = some x) : (entr es)[i]? = some (x.key, x.val) := by simp [entr, h]
theorem perm_erase {β : Type} {l : List β} {i : Nat} {x : β} (h : l[i]? = some x) : l.Perm (x :: l.eraseIdx i) := by
  induction l generalizing i with
  | nil => simp at h
  | cons y l ih =>
    cases i with
    | zero => simp at h; subst h; simp
    | succ i => simp at h; exact ((ih h).cons y).trans (List.Perm.swap _ _ _)
theorem perm_set {β : Type} {l : List β} {i : Nat} {x y : β} (h : l[i]? = some x) : (l.set i y).Perm (y :: l.eraseIdx i) := by
  induction l generalizing i with
  | nil => simp at h
  | cons z l ih =>
    cases i with
    | zero => simp
    | succ i => simp at h; exact ((ih h).cons z).trans (List.Perm.swap _ _ _)
/-- 'v, ok := m[k]'. -/
theorem MpAt.lookup_ok (h : MpAt w b K enc m) (ht : P.underlying t = some (.map k e)) (hk : P.underlying k = some (.int K)) {z : Value} (hz : (zeroValue e).run P w = .ok z w) (j : Int) :
    (Instr.lookup t (.map (some b)) (.int K j) true).run P w = .ok (.tuple #[((MP.get m j).map enc).getD z, .bool (MP.has m j)]) w := by
  obtain ⟨es, clock, hb, hp, ok, _⟩ := h
  have hc := run_checkKey (P := P) (w := w) (k := .int K j) hk (by simp [IsKey]) es.isEmpty 9999
  rcases find_of hp ok j with ⟨h1, h2⟩ | ⟨i, x, v, h1, h2, _⟩
  · simp [Instr.lookup, run_underlying ht, MapKept.run_getObj_map hb, hc, run_findKey hk h2, hz, h1, MP.has, Result.andThen]
  · simp [Instr.lookup, run_underlying ht, MapKept.run_getObj_map hb, hc, run_findKey hk h2, h1, MP.has, Result.andThen]
/-- 'm[k]'. -/
theorem MpAt.lookup (h : MpAt w b K enc m) (ht : P.underlying t = some (.map k e)) (hk : P.underlying k = some (.int K)) {z : Value} (hz : (zeroValue e).run P w = .ok z w) (j : Int) :
    (Instr.lookup t (.map (some b)) (.int K j) false).run P w = .ok (((MP.get m j).map enc).getD z) w := by
  obtain ⟨es, clock, hb, hp, ok, _⟩ := h
  have hc := run_checkKey (P := P) (w := w) (k := .int K j) hk (by simp [IsKey]) es.isEmpty 9999
  rcases find_of hp ok j with ⟨h1, h2⟩ | ⟨i, x, v, h1, h2, _⟩
  · simp [Instr.lookup, run_underlying ht, MapKept.run_getObj_map hb, hc, run_findKey hk h2, hz, h1, Result.andThen]
  · simp [Instr.lookup, run_underlying ht, MapKept.run_getObj_map hb, hc, run_findKey hk h2, h1, Result.andThen]
/-- 'len(m)'. -/
theorem MpAt.len (h : MpAt w b K enc m) (ht : P.underlying t = some (.map k e)) (ty : TypeId) : (Builtin.len_ #[t] ty #[.map (some b)]).run P w = .ok (goInt m.length) w := by
  obtain ⟨es, clock, hb, hp, _⟩ := h
  have hl := hp.length_eq
  simp only [entr, encs, List.length_map, Array.length_toList] at hl
  simp [Builtin.len_, run_underlying ht, MapKept.run_getObj_map hb, Result.andThen, hl]
theorem setBlock_grown {o o' : Obj} (hb : w.heap[b]? = some o) : w.grownBy (setBlock w b o') (some b) :=
  ⟨rfl, rfl, rfl, by simp [setBlock], fun i _ hi => (heap_set hb).2 i (fun e => hi (by rw [e]))⟩
/-- 'm[k] = v'. -/
theorem MpAt.update (h : MpAt w b K enc m) (ht : P.underlying t = some (.map k e)) (hk : P.underlying k = some (.int K)) (j : Int) (v : α) :
    ∃ w', (Instr.mapUpdate t (.map (some b)) (.int K j) (enc v)).run P w = .ok () w' ∧ MpAt w' b K enc (MP.put m j v) ∧ w.grownBy w' (some b) := by
  obtain ⟨es, clock, hb, hp, ok, hn, hs⟩ := h
  have hc := run_checkKey (P := P) (w := w) (k := .int K j) hk (by simp [IsKey]) false 9999
  rcases find_of hp ok j with ⟨h1, h2⟩ | ⟨i, x, u, h1, h2, h3, h4, h5⟩
  · refine ⟨setBlock w b (.map (es.push { key := .int K j, val := enc v, born := clock }) (clock + 1)), ?_, ⟨_, _, (heap_set hb).1, ?_, MP.put_ok ok _ _, ?_, ?_⟩, setBlock_grown hb⟩
    · simp [Instr.mapUpdate, run_underlying ht, MapKept.run_getObj_map hb, hc, run_findKey hk h2, run_setObj_map _ hb, Result.andThen, setBlock]
    · refine List.Perm.trans ?_ ((MP.perm_put ok j v).map _).symm
      rw [MP.del_none h1]
      simp only [entr, Array.toList_push, List.map_append, List.map_cons, List.map_nil]
      exact List.perm_append_comm.trans (hp.cons _)
    · simp only [Array.toList_push, List.map_append, List.map_cons, List.map_nil]
      refine List.nodup_append.2 ⟨hn, by simp, fun a ha c hc' => ?_⟩
      obtain ⟨y, hy, rfl⟩ := List.mem_map.1 ha
      have := hs y hy
      simp at hc'
      omega
    · intro y hy
      simp only [Array.toList_push, List.mem_append, List.mem_singleton] at hy
      rcases hy with hy | rfl
      · have := hs y hy; omega
      · simp
  · have hi : i < es.size := by have := (List.getElem?_eq_some_iff.1 h3).1; simpa using this
    have hx : es[i]? = some x := by simpa using h3
    have hkey : (((es[i]?).map (·.key)).getD (.int K j)) = .int K j := by rw [hx]; simp [h4]
    have hmod : ∀ f : MapEntry → MapEntry, (es.modify i f).toList = es.toList.set i (f x) := by
      intro f
      apply List.ext_getElem?
      intro n
      rw [List.getElem?_set, Array.getElem?_toList, Array.getElem?_modify]
      split
      · rename_i e; subst e; rw [hx]; simp [hi]
      · simp
    refine ⟨setBlock w b (.map (es.modify i fun e => { e with key := .int K j, val := enc v }) clock), ?_, ⟨_, _, (heap_set hb).1, ?_, MP.put_ok ok _ _, ?_, ?_⟩, setBlock_grown hb⟩
    · simp [Instr.mapUpdate, run_underlying ht, MapKept.run_getObj_map hb, hc, run_findKey hk h2, run_setObj_map _ hb, Result.andThen, setBlock, Instr.keyThatStays, hx, h4, Instr.sameBits]
    · refine List.Perm.trans ?_ ((MP.perm_put ok j v).map _).symm
      have e1 : entr (es.modify i fun e => { e with key := .int K j, val := enc v }) = (entr es).set i (.int K j, enc v) := by rw [entr, hmod, List.map_set]; rfl
      rw [e1]
      have g1 := entr_get h3
      refine (perm_set g1).trans ?_
      rw [List.map_cons]
      refine List.Perm.cons _ ?_
      have p1 := (perm_erase g1).symm.trans (hp.trans ((MP.perm_del h1).map _))
      rw [h4, h5, List.map_cons] at p1
      exact p1.cons_inv
    · rw [hmod, List.map_set]
      have : es.toList.map (·.born) = (es.toList.map (·.born)).set i x.born := by
        apply List.ext_getElem?
        intro n
        rw [List.getElem?_set]
        split
        · rename_i e; subst e; simp [hi, (Array.getElem?_eq_some_iff.1 hx).2]
        · rfl
      show (List.set (es.toList.map (·.born)) i x.born).Nodup
      rw [← this]
      exact hn
    · intro y hy
      rw [hmod] at hy
      rcases List.mem_or_eq_of_mem_set hy with hy | rfl
      · exact hs y hy
      · exact hs x (List.mem_of_getElem? h3)
theorem erase_list {es : Array MapEntry} {i : Nat} (hi : i < es.size) : (es.eraseIdxIfInBounds i).toList = es.toList.eraseIdx i := by
  unfold Array.eraseIdxIfInBounds
  rw [dif_pos hi]
  simp
/-- 'delete(m, k)'. -/
theorem MpAt.delete (h : MpAt w b K enc m) (ht : P.underlying t = some (.map k e)) (hk : P.underlying k = some (.int K)) (j : Int) :
    ∃ w', (∀ ty, (Builtin.delete_ #[t, k] ty #[.map (some b), .int K j]).run P w = .ok (.tuple #[]) w') ∧ MpAt w' b K enc (MP.del m j) ∧ w.grownBy w' (some b) := by
  obtain ⟨es, clock, hb, hp, ok, hn, hs⟩ := h
  have hc := run_checkKey (P := P) (w := w) (k := .int K j) hk (by simp [IsKey]) es.isEmpty 9999
  rcases find_of hp ok j with ⟨h1, h2⟩ | ⟨i, x, u, h1, h2, h3, h4, h5⟩
  · refine ⟨setBlock w b (.map es clock), ?_, ⟨_, _, (heap_set hb).1, ?_, MP.del_ok ok _, hn, hs⟩, setBlock_grown hb⟩
    · intro ty; simp [Builtin.delete_, run_underlying ht, MapKept.run_getObj_map hb, hc, run_findKey hk h2, run_setObj_map _ hb, Result.andThen, setBlock]
    · rw [MP.del_none h1]; exact hp
  · have hi : i < es.size := by have := (List.getElem?_eq_some_iff.1 h3).1; simpa using this
    have hsub : (es.eraseIdxIfInBounds i).toList.Sublist es.toList := by rw [erase_list hi]; exact List.eraseIdx_sublist _ _
    refine ⟨setBlock w b (.map (es.eraseIdxIfInBounds i) clock), ?_, ⟨_, _, (heap_set hb).1, ?_, MP.del_ok ok _, (hsub.map _).nodup hn, fun y hy => hs y (hsub.subset hy)⟩, setBlock_grown hb⟩
    · intro ty; simp [Builtin.delete_, run_underlying ht, MapKept.run_getObj_map hb, hc, run_findKey hk h2, run_setObj_map _ hb, Result.andThen, setBlock]
    · have e1 : entr (es.eraseIdxIfInBounds i) = (entr es).eraseIdx i := by rw [entr, erase_list hi, entr, Go.ChangeMaps.map_eraseIdx]
      rw [e1]
      have p1 := (perm_erase (entr_get h3)).symm.trans (hp.trans ((MP.perm_del h1).map _))
      rw [h4, h5, List.map_cons] at p1
      exact p1.cons_inv

/-! One by one. -/
/-- 'range m'. -/
theorem MpAt.range (h : MpAt w b K enc m) (ht : P.underlying t = some (.map k e)) :
    ∃ w', (Instr.range t (.map (some b))).run P w = .ok (.pointer (some ⟨w.heap.size, 0, none⟩)) w' ∧ MpIt w' w.heap.size b K enc m ∧ Below w.heap.size w w' ∧ w'.heap.size = w.heap.size + 1 := by
  obtain ⟨es, clock, hb, hp, ok, hn, hs⟩ := h
  have hlt := (Array.getElem?_eq_some_iff.1 hb).1
  refine ⟨_, run_range_map w t k e b es clock ht hb, ⟨es, clock, clock, #[], clock, ((heap_alloc w _).2 b hlt).trans hb, (heap_alloc w _).1, hs, Nat.le_refl _, Nat.le_refl _, hn, ?_, ok⟩, (Below.refl _ _).alloc (Nat.le_refl _) _, by simp⟩
  have e1 : leftOf es #[] = es := by
    unfold leftOf
    exact Array.filter_eq_self.2 (fun x _ => by simp)
  rw [e1]; exact hp
theorem MpIt.ne (h : MpIt w r b K enc left) : r ≠ b := by
  obtain ⟨es, clock, since, seen, c0, hb, hr, _⟩ := h
  intro e
  rw [e, hb] at hr
  cases hr
theorem MpIt.lt (h : MpIt w r b K enc left) : r < w.heap.size ∧ b < w.heap.size := by
  obtain ⟨es, clock, since, seen, c0, hb, hr, _⟩ := h
  exact ⟨(Array.getElem?_eq_some_iff.1 hr).1, (Array.getElem?_eq_some_iff.1 hb).1⟩
theorem MpIt.of_heap (h : MpIt w r b K enc left) (q : w'.heap[b]? = w.heap[b]?) (q2 : w'.heap[r]? = w.heap[r]?) : MpIt w' r b K enc left := by
  obtain ⟨es, clock, since, seen, c0, hb, hr, h⟩ := h
  exact ⟨es, clock, since, seen, c0, q.trans hb, q2.trans hr, h⟩
theorem MpIt.chg {F : Nat → Prop} (h : MpIt w r b K enc left) (q : Chg F w w') (hb : ¬ F b) (hr : ¬ F r) : MpIt w' r b K enc left := h.of_heap (q.block b h.lt.2 hb) (q.block r h.lt.1 hr)
theorem MpIt.old (h : MpIt w r b K enc left) (q : Below w.heap.size w w') : MpIt w' r b K enc left := h.of_heap (q.block b h.lt.2) (q.block r h.lt.1)
theorem left_sub (es : Array MapEntry) (seen : Array Nat) : ∀ x ∈ (leftOf es seen).toList, x ∈ es.toList := by
  intro x hx
  unfold leftOf at hx
  simp at hx ⊢
  exact hx.1
theorem left_push {es : Array MapEntry} {seen : Array Nat} {x : MapEntry} (hn : (es.toList.map (·.born)).Nodup) (hx : x ∈ (leftOf es seen).toList) : (leftOf es seen).toList.Perm (x :: (leftOf es (seen.push x.born)).toList) := by
  have e1 : (leftOf es (seen.push x.born)).toList = (leftOf es seen).toList.filter (fun y => !(y.born == x.born)) := by
    unfold leftOf
    simp only [Array.toList_filter, List.filter_filter]
    refine List.filter_congr fun y _ => ?_
    simp only [Array.contains_push, Bool.not_or]
    rw [Bool.and_comm]
  rw [e1]
  have hnl : ((leftOf es seen).toList.map (·.born)).Nodup := by
    unfold leftOf
    rw [Array.toList_filter]
    exact (List.filter_sublist.map _).nodup hn
  generalize (leftOf es seen).toList = l at hx hnl
  clear e1 hn
  induction l with
  | nil => simp at hx
  | cons y l ih =>
    rw [List.map_cons, List.nodup_cons] at hnl
    by_cases e : y.born = x.born
    · have hxy : x = y := by
        rcases List.mem_cons.1 hx with h | h
        · exact h
        · exact absurd (List.mem_map.2 ⟨x, h, e.symm⟩) hnl.1
      subst hxy
      rw [List.filter_cons_of_neg (by simp), List.filter_eq_self.2 (fun z hz => by
        have : z.born ≠ x.born := fun e2 => hnl.1 (List.mem_map.2 ⟨z, hz, e2⟩)
        simp [this])]
    · rw [List.filter_cons_of_pos (by simp [e])]
      have hx' : x ∈ l := by
        rcases List.mem_cons.1 hx with h | h
        · exact absurd (by rw [h]) e
        · exact h
      exact ((ih hx' hnl.2).cons y).trans (List.Perm.swap _ _ _)
/-- The step. -/
theorem MpIt.next (h : MpIt w r b K enc left) :
    (left = [] ∧ ∀ ty, (Instr.next (.pointer (some ⟨r, 0, none⟩)) false ty).run P w = .ok (.tuple #[.bool false]) w) ∨
    ∃ x w', x ∈ left ∧ (∀ ty, (Instr.next (.pointer (some ⟨r, 0, none⟩)) false ty).run P w = .ok (.tuple #[.bool true, .int K x.1, enc x.2]) w') ∧ MpIt w' r b K enc (MP.del left x.1) ∧ Chg (fun n => n = r) w w' ∧ w'.heap.size = w.heap.size ∧
      (Instr.entry (.pointer (some ⟨r, 0, none⟩))).run P w' = .ok (.tuple #[.int K x.1, enc x.2]) w' := by
  have hne := h.ne
  obtain ⟨es, clock, since, seen, c0, hb, hr, hold, hsc, hsk, hn, hp, ok⟩ := h
  rcases run_next_at (P := P) w 0 r b since c0 seen es clock hr hb hold hsc with ⟨h0, hrun⟩ | ⟨x, hx, w1, hal, hrun⟩
  · refine .inl ⟨?_, fun _ => hrun⟩
    have := hp.length_eq
    simp only [entr, encs, List.length_map, Array.length_toList] at this
    exact List.eq_nil_of_length_eq_zero (by omega)
  · have hem : (x.key, x.val) ∈ encs K enc left := hp.subset (List.mem_map.2 ⟨x, hx, rfl⟩)
    obtain ⟨y, hy, e⟩ := List.mem_map.1 hem
    injection e with e1 e2
    have hr1 : w1.heap[r]? = some (.mapIter (some b) since seen c0) := by rcases hal with rfl | rfl <;> exact hr
    have hb1 : w1.heap[b]? = some (.map es clock) := by rcases hal with rfl | rfl <;> exact hb
    have hset := heap_set (o' := .mapIter (some b) since (seen.push x.born) clock) hr1
    have hb' : (setBlock w1 r (.mapIter (some b) since (seen.push x.born) clock)).heap[b]? = some (.map es clock) := (hset.2 b (fun e => hne e.symm)).trans hb1
    have hg := MP.mem_get ok hy
    refine .inr ⟨y, _, hy, fun _ => by rw [e1, e2]; exact hrun, ⟨es, clock, since, seen.push x.born, clock, hb', hset.1, hold, hsk, hsk, hn, ?_, MP.del_ok ok _⟩, ?_, ?_, ?_⟩
    · have p1 := (((left_push hn hx).map (fun z : MapEntry => (z.key, z.val))).symm.trans hp).trans ((MP.perm_del hg).map _)
      rw [List.map_cons, List.map_cons, ← e1, ← e2] at p1
      exact p1.cons_inv
    · have hc : Chg (fun n => n = r) w w1 := by rcases hal with rfl | rfl; exact Chg.refl _ _; exact (Chg.refl _ _).drew
      exact hc.grown (setBlock_grown hr1) (fun k e => by injection e with e; exact .inl e.symm)
    · rcases hal with rfl | rfl <;> simp [setBlock]
    · rw [e1, e2]
      exact run_entry_at _ r b since seen es clock x hset.1 hb' (left_sub es seen x hx) hn
theorem filter_erase {β : Type} {p : β → Bool} {l : List β} {i : Nat} {x : β} (h3 : l[i]? = some x) (hx : ¬ x ∈ l.filter p) : (l.eraseIdx i).filter p = l.filter p := by
  induction l generalizing i with
  | nil => simp
  | cons y l ih =>
    cases i with
    | zero =>
      simp at h3
      subst h3
      rw [List.eraseIdx_cons_zero]
      rw [List.filter_cons] at hx ⊢
      split
      · rename_i h; rw [if_pos h] at hx; simp at hx
      · rfl
    | succ i =>
      simp at h3
      rw [List.eraseIdx_cons_succ, List.filter_cons, List.filter_cons]
      rw [List.filter_cons] at hx
      split at hx
      · rw [ih h3 (fun h => hx (List.mem_cons_of_mem _ h))]
      · rw [ih h3 hx]
/-- What is struck or kept in the map itself, when its key has come up. -/
theorem MpIt.delete (h : MpIt w r b K enc left) (hm : MpAt w b K enc m) (ht : P.underlying t = some (.map k e)) (hk : P.underlying k = some (.int K)) (j : Int) (hj : MP.get left j = none) :
    ∃ w', (∀ ty, (Builtin.delete_ #[t, k] ty #[.map (some b), .int K j]).run P w = .ok (.tuple #[]) w') ∧ MpAt w' b K enc (MP.del m j) ∧ MpIt w' r b K enc left ∧ w.grownBy w' (some b) := by
  have hne := h.ne
  obtain ⟨es, clock, since, seen, c0, hb, hr, hold, hsc, hsk, hn, hp, ok⟩ := h
  obtain ⟨es', clock', hb', hp', ok', hn', hs'⟩ := hm
  rw [hb] at hb'
  injection hb' with hb'
  injection hb' with e1 e2
  subst e1 e2
  have hc := run_checkKey (P := P) (w := w) (k := .int K j) hk (by simp [IsKey]) es.isEmpty 9999
  rcases find_of hp' ok' j with ⟨h1, h2⟩ | ⟨i, x, u, h1, h2, h3, h4, h5⟩
  · refine ⟨setBlock w b (.map es clock), ?_, ⟨_, _, (heap_set hb).1, ?_, MP.del_ok ok' _, hn, hs'⟩, ⟨es, clock, since, seen, c0, (heap_set hb).1, ((heap_set hb).2 r hne).trans hr, hold, hsc, hsk, hn, hp, ok⟩, setBlock_grown hb⟩
    · intro ty; simp [Builtin.delete_, run_underlying ht, MapKept.run_getObj_map hb, hc, run_findKey hk h2, run_setObj_map _ hb, Result.andThen, setBlock]
    · rw [MP.del_none h1]; exact hp'
  · have hi : i < es.size := by have := (List.getElem?_eq_some_iff.1 h3).1; simpa using this
    have hsub : (es.eraseIdxIfInBounds i).toList.Sublist es.toList := by rw [erase_list hi]; exact List.eraseIdx_sublist _ _
    refine ⟨setBlock w b (.map (es.eraseIdxIfInBounds i) clock), ?_, ⟨_, _, (heap_set hb).1, ?_, MP.del_ok ok' _, (hsub.map _).nodup hn, fun y hy => hs' y (hsub.subset hy)⟩,
      ⟨_, clock, since, seen, c0, (heap_set hb).1, ((heap_set hb).2 r hne).trans hr, fun y hy => hold y (hsub.subset hy), hsc, hsk, (hsub.map _).nodup hn, ?_, ok⟩, setBlock_grown hb⟩
    · intro ty; simp [Builtin.delete_, run_underlying ht, MapKept.run_getObj_map hb, hc, run_findKey hk h2, run_setObj_map _ hb, Result.andThen, setBlock]
    · have e1 : entr (es.eraseIdxIfInBounds i) = (entr es).eraseIdx i := by rw [entr, erase_list hi, entr, Go.ChangeMaps.map_eraseIdx]
      rw [e1]
      have p1 := (perm_erase (entr_get h3)).symm.trans (hp'.trans ((MP.perm_del h1).map _))
      rw [h4, h5, List.map_cons] at p1
      exact p1.cons_inv
    · have hx : ¬ x ∈ (leftOf es seen).toList := fun hx => by
        obtain ⟨y, hy, e⟩ := List.mem_map.1 (hp.subset (List.mem_map.2 ⟨x, hx, rfl⟩))
        injection e with e1 e2
        rw [h4] at e1
        injection e1 with _ e1
        exact MP.get_none.1 hj y hy e1
      have hL : (leftOf (es.eraseIdxIfInBounds i) seen).toList = (leftOf es seen).toList := by
        unfold leftOf at hx ⊢
        rw [Array.toList_filter, Array.toList_filter, erase_list hi]
        rw [Array.toList_filter] at hx
        exact filter_erase h3 hx
      unfold entr at hp ⊢
      rw [hL]
      exact hp
end

end Go.Proofs.YtnfhlocflpdlcaaGreat

