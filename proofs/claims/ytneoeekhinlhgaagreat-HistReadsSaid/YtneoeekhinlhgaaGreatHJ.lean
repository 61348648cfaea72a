/-
  hist.Read. Conditions: fewer than 900000 bytes.
-/
import Derived.Test.YtneoeekhinlhgaaGreatHI
import Derived.Recover
import Derived.Defers
import Derived.Deep.DeepCutAuto
namespace Go.Proofs.YtneoeekhinlhgaaGreat
open Go.RowKit

theorem RD.new {w : World} {a : Option Addr} {c : Nat} {l : List Nat} (hr : BRow w a l) (hc : l.length ≤ c) (hm : c ≤ maxLen) (ho : ∀ ad, a = some ad → ad.block < w.heap.size) : RD (w.alloc (.cells #[.slice a l.length c] 65)) w.heap.size l :=
  ⟨a, c, Blk.new _ _ _, hr.below ((Below.refl _ _).alloc (Nat.le_refl _) _), hc, hm, ho⟩
theorem read_result {w' : World} {g h : Nat} {v e : Value} (hg : Blk w' g 29 #[v]) (hh : Blk w' h 26 #[e]) (tmps : Array Value) (h2 : tmps[2]? = some (.pointer (some ⟨g, 0, none⟩))) (h3 : tmps[3]? = some (.pointer (some ⟨h, 0, none⟩))) :
    (results Tryz.f15 tmps).run Tryz.prog w' = .ok (.tuple #[v, e]) w' := by
  have g0 : w'.cell? ⟨g, 0, none⟩ = some v := hg.cell 0
  have g1 : w'.cell? ⟨h, 0, none⟩ = some e := hh.cell 0
  simp only [results, Tryz.results15]
  simp [go_sem, h2, h3, g0, g1]

theorem assert_yes (w : World) : (Instr.typeAssert (.iface 68 (.agg #[])) 20 68 true).run Tryz.prog w = .ok (.tuple #[.agg #[], .bool true]) w := by kernel_rfl
theorem assert_no (w : World) : (Instr.typeAssert .nilIface 20 68 true).run Tryz.prog w = .ok (.tuple #[.agg #[], .bool false]) w := by kernel_rfl

theorem catch_short (p q : Addr) (x y : Value) (older : List PanicEntry) (w : World) (hc : w.cell? p = some x) (hz : w.frozen? p = false) (hc' : w.cell? q = some y) (hz' : w.frozen? q = false) (hpl : p.block < w.heap.size) (hql : q.block < w.heap.size) (hpq : p ≠ q) :
    CallsD Tryz.prog 31 #[.pointer (some p), .pointer (some q)] (.panicking ({ v := .iface 68 (.agg #[]), recovered := false } :: older)) w fun e u' w' =>
      e = .returned (.tuple #[]) ∧ u' = .panicking ({ v := .iface 68 (.agg #[]), recovered := true } :: older) ∧ w' = ((w.alloc (.cells #[] 68)).setCell p (.slice none 0 0)).setCell q (vi 50) := by
  refine callsD_of_wpS Tryz.func31 rfl fun c₀ cs hu => ?_
  apply wpS_seq
  apply wpS_region
  simp [wpOpsS, go_sem, recoverD, hu, Tryz.ntmps31, Exit.thenS, assert_yes]
  have hb := (Below.refl w.heap.size w).alloc (Nat.le_refl _) (.cells #[] 68)
  have a1 : (w.alloc (.cells #[] 68)).cell? p = some x := (hb.cell hpl).trans hc
  have a2 : (w.alloc (.cells #[] 68)).frozen? p = false := (hb.frozen hpl).trans hz
  have a3 : (w.alloc (.cells #[] 68)).cell? q = some y := (hb.cell hql).trans hc'
  have a4 : (w.alloc (.cells #[] 68)).frozen? q = false := (hb.frozen hql).trans hz'
  apply wpS_seq
  apply wpS_region
  simp [wpOpsS, go_sem, Exit.thenS]
  refine wpS_cond (t := true) (by simp [Act.eval, Array.replicate]) ?_
  simp only [if_true]
  apply wpS_region
  generalize w.alloc (.cells #[] 68) = w1 at *
  have a5 : (w1.setCell p (.slice none 0 0)).cell? q = some y := (World.cell?_setCell_other _ _ _ _ hpq).trans a3
  simp [wpOpsS, go_sem, a1, a2, a4, a5, bodyPostS, results, Tryz.results31]

theorem catch_none (p q : Addr) (w : World) :
    CallsD Tryz.prog 31 #[.pointer (some p), .pointer (some q)] .returning w fun e u' w' => e = .returned (.tuple #[]) ∧ u' = .returning ∧ w' = w.alloc (.cells #[] 68) := by
  refine callsD_of_wpS Tryz.func31 rfl fun c₀ cs hu => ?_
  apply wpS_seq
  apply wpS_region
  simp [wpOpsS, go_sem, recoverD, hu, Tryz.ntmps31, Exit.thenS, assert_no]
  apply wpS_seq
  apply wpS_region
  simp [wpOpsS, go_sem, Exit.thenS]
  refine wpS_cond (t := false) (by simp [Act.eval, Array.replicate]) ?_
  simp only [Bool.false_eq_true, if_false]
  refine wpS_of_wp (wp_skip ?_)
  cases c₀
  simp_all [bodyPostS, results, Tryz.results31]

/-- The state while operations are read: the list's variable, the error's, what is left. -/
structure ReadSt (w : World) (g : Nat) (v ev : Value) (r : List Nat) (w' : World) : Prop where
  rd : RD w' g r
  kL : Blk w' w.heap.size 29 #[v]
  kE : Blk w' (w.heap.size + 1) 26 #[ev]
  below : Below w.heap.size w w'
  hg : w.heap.size + 2 < g
theorem ReadSt.call {w w1 w2 : World} {g : Nat} {v ev : Value} {r r' : List Nat} (h : ReadSt w g v ev r w1) (hr : RD w2 g r') (q : w1.grownBy w2 (some g)) : ReadSt w g v ev r' w2 :=
  ⟨hr, h.kL.grown q (by have := h.hg; intro e; injection e with e; omega), h.kE.grown q (by have := h.hg; intro e; injection e with e; omega),
    h.below.grown q h.below.size (fun k hk => by have := h.hg; injection hk with hk; omega), h.hg⟩
theorem ReadSt.old {w w1 w2 : World} {g : Nat} {v ev : Value} {r : List Nat} (h : ReadSt w g v ev r w1) (hb : Below w1.heap.size w1 w2) : ReadSt w g v ev r w2 :=
  ⟨h.rd.old hb, h.kL.old hb, h.kE.old hb, h.below.trans (hb.mono h.below.size), h.hg⟩

/-- What stands ahead of the operations. -/
def headOk (l : List Nat) : Bool := (l.take 4 == [72, 73, 83, 84]) && decide (HP.num ((l.drop 4).take 4) ≤ 4096)
/-- What holds at the head of the loop. -/
structure RL (w : World) (g n : Nat) (l b8 : List Nat) (k : Nat) (gb : Bool) (es : List OpE) (v : Value) (r : List Nat) (wr : World) : Prop where
  st : ReadSt w g v (vi 0) r wr
  own : OOwn wr (g + 1) v es
  base : g + 1 ≤ wr.heap.size
  rows : ∀ e ∈ es, TRow wr e.s e.o.bytes
  say : if gb then HP.decAll k b8 = some (opsOf es, r) else HP.readL l = ([], 50)
  few : gb = true → n ≤ 4096 ∧ headOk l = true
/-- The answer's cells. -/
def ReadPost (l : List Nat) (w : World) (e : Ending) (w' : World) : Prop :=
  ∃ es s c, e = .returned (.tuple #[.slice s es.length c, vi (HP.readL l).2]) ∧ ORow w' s es ∧ opsOf es = (HP.readL l).1 ∧ Below w.heap.size w w'
theorem ReadPost.no {l : List Nat} {w w' : World} {n : Int} (hr : HP.readL l = ([], n)) (hb : Below w.heap.size w w') : ReadPost l w (.returned (.tuple #[.slice none 0 0, vi n])) w' := by
  refine ⟨[], none, 0, ?_, ⟨.inl rfl, by simp, by simp, by simp⟩, by rw [hr]; rfl, hb⟩
  rw [hr]
  rfl

abbrev doorOf (w : World) : List Deferred := [{ target := .fn (.func 31) #[.pointer (some ⟨w.heap.size, 0, none⟩), .pointer (some ⟨w.heap.size + 1, 0, none⟩)], args := #[] }]
theorem door_ret {w wr : World} {v ev : Value} {tmps : Array Value} {R : Ending → World → Prop} (kL : Blk wr w.heap.size 29 #[v]) (kE : Blk wr (w.heap.size + 1) 26 #[ev])
    (h2 : tmps[2]? = some (.pointer (some ⟨w.heap.size, 0, none⟩))) (h3 : tmps[3]? = some (.pointer (some ⟨w.heap.size + 1, 0, none⟩))) (hp : ∀ w', Below wr.heap.size wr w' → R (.returned (.tuple #[v, ev])) w') :
    Leaves Tryz.prog Tryz.f15 tmps R (doorOf w) .returning wr := by
  refine leaves_cons (f := 31) (args := #[.pointer (some ⟨w.heap.size, 0, none⟩), .pointer (some ⟨w.heap.size + 1, 0, none⟩)]) (by simp) (by simp [go_sem]) ?_
  refine (catch_none _ _ _).mono ?_
  rintro e u' w'' ⟨rfl, rfl, rfl⟩
  exact ⟨_, read_result (kL.alloc _) (kE.alloc _) _ h2 h3, hp _ ((Below.refl _ _).alloc (Nat.le_refl _) _)⟩
theorem door_panic {w wr : World} {l : List Nat} {v ev : Value} {tmps : Array Value} (kL : Blk wr w.heap.size 29 #[v]) (kE : Blk wr (w.heap.size + 1) 26 #[ev])
    (h2 : tmps[2]? = some (.pointer (some ⟨w.heap.size, 0, none⟩))) (h3 : tmps[3]? = some (.pointer (some ⟨w.heap.size + 1, 0, none⟩))) (hr : HP.readL l = ([], 50)) (hb : Below w.heap.size w wr) :
    Leaves Tryz.prog Tryz.f15 tmps (ReadPost l w) (doorOf w) (.panicking [{ v := .iface 68 (.agg #[]), recovered := false }]) wr := by
  refine leaves_cons (f := 31) (args := #[.pointer (some ⟨w.heap.size, 0, none⟩), .pointer (some ⟨w.heap.size + 1, 0, none⟩)]) (by simp) (by simp [go_sem]) ?_
  refine (catch_short _ _ v ev [] _ (kL.cell 0) (kL.frozen 0) (kE.cell 0) (kE.frozen 0) kL.lt kE.lt (by simp)).mono ?_
  rintro e u' w'' ⟨rfl, rfl, rfl⟩
  have hz := hb.size
  refine ⟨_, read_result (((kL.alloc (.cells #[] 68)).set_ 0 (.slice none 0 0)).far (p := ⟨w.heap.size + 1, 0, none⟩) (by dsimp only; omega) (vi 50))
    (((kE.alloc (.cells #[] 68)).far (p := ⟨w.heap.size, 0, none⟩) (by dsimp only; omega) (.slice none 0 0)).set_ 0 (vi 50)) _ h2 h3, ReadPost.no hr (((hb.alloc hz _).setCell (Nat.le_refl _) _).setCell (by dsimp only; omega) _)⟩

set_option maxRecDepth 100000 in
set_option maxHeartbeats 4000000 in
theorem Read_short (a : Option Addr) (l : List Nat) (c : Nat) (w : World) (hl : l.length < 12) :
    Calls Tryz.prog 15 #[.slice a l.length c] w (ReadPost l w) := by
  have hr := Lib.hid (show HP.readL l = ([], 21) by rw [HP.readL, if_neg (by omega), if_pos hl])
  go_enter_defers Tryz.func15, Tryz.ntmps15
  go_wp2_with fail
  exact ⟨_, read_result ((Blk.new w _ _).alloc _) (by rw [← size_alloc w (.cells #[.slice none 0 0] 29)]; exact Blk.new _ _ _) _ rfl rfl, ReadPost.no hr.out (((Below.refl _ _).alloc (Nat.le_refl _) _).alloc (by simp) _)⟩

theorem CSum_n (a : Option Addr) (l : List Nat) {n : Nat} (hn : l.length = n) (c : Nat) (w : World) (h : BRow w a l) (hl : n ≤ 9000000) :
    Calls Tryz.prog 25 #[.slice a n c] w fun e w' => e = .returned (vw (HP.sum l)) ∧ w' = w := by
  subst hn
  exact CSum_any a l c w h hl
theorem takeN_whole {n : Nat} {s : List Nat} (h : s.length = n) : HP.takeN n s = some (s, []) := by
  rw [HP.takeN, if_pos (by omega), List.take_of_length_le (by omega), List.drop_eq_nil_of_le (by omega)]
theorem takeN_at {n : Nat} {s : List Nat} (h : n ≤ s.length) : HP.takeN n s = some (s.take n, s.drop n) := by
  rw [HP.takeN, if_pos h]

theorem readL_of {l : List Nat} (h12 : 12 ≤ l.length) (hl : l.length ≤ 900000) :
    HP.readL l = if HP.num (l.drop (l.length - 4)) ≠ HP.sum (l.take (l.length - 4)) then (([] : List HP.HOp), (21 : Int)) else
      if headOk l then
        match HP.decAll (HP.num ((l.drop 4).take 4)) ((l.take (l.length - 4)).drop 8) with
        | some (l, []) => (l, 0)
        | _ => ([], 50)
      else ([], 50) := by
  rw [HP.readL, if_neg (by omega), if_neg (by omega)]
  rfl

theorem bs_head {x : List Nat} (h : ∀ y ∈ x, y < 256) : ((bs x).toList == [72, 73, 83, 84]) = (x == [72, 73, 83, 84]) := by
  rw [ByteArray.toList_eq, Bool.eq_iff_iff]
  simp only [beq_iff_eq]
  constructor
  · intro e
    have e2 := sb_bs x h
    rw [sb, e] at e2
    exact e2.symm
  · rintro rfl
    rfl
theorem decAll_snoc : ∀ (k : Nat) (l : List Nat), HP.decAll (k + 1) l = match HP.decAll k l with
    | none => none
    | some (os, r) => match HP.dec r with
      | none => none
      | some (o, r') => if HP.rightB o then some (os ++ [o], r') else none
  | 0, l => by
    simp only [HP.decAll]
    cases HP.dec l with
    | none => rfl
    | some x => rfl
  | k + 1, l => by
    rw [HP.decAll]
    conv => rhs; rw [HP.decAll]
    cases hd : HP.dec l with
    | none => rfl
    | some x =>
      obtain ⟨o, r⟩ := x
      dsimp only
      by_cases hr : HP.rightB o = true
      · rw [if_pos hr, if_pos hr, decAll_snoc k r]
        cases HP.decAll k r with
        | none => rfl
        | some y =>
          obtain ⟨os, r2⟩ := y
          dsimp only [Option.map_some]
          cases HP.dec r2 with
          | none => rfl
          | some z =>
            obtain ⟨o2, r3⟩ := z
            dsimp only
            by_cases hr2 : HP.rightB o2 = true
            · rw [if_pos hr2, if_pos hr2]; rfl
            · rw [if_neg hr2, if_neg hr2]; rfl
      · rw [if_neg hr, if_neg hr]
theorem decAll_none {k n : Nat} {l : List Nat} (h : HP.decAll k l = none) (hk : k ≤ n) : HP.decAll n l = none := by
  obtain ⟨d, rfl⟩ : ∃ d, n = k + d := ⟨n - k, by omega⟩
  clear hk
  induction d with
  | zero => exact h
  | succ d ih => rw [← Nat.add_assoc, decAll_snoc, ih]

theorem slice_form {w : World} {base : Nat} {v : Value} {es : List OpE} (h : OOwn w base v es) : ∃ a c, v = .slice a es.length c := by
  rcases h.2 with ⟨rfl, h0⟩ | ⟨g, cap, cur, rfl, _⟩
  · exact ⟨none, 0, by rw [h0]⟩
  · exact ⟨_, _, rfl⟩
/-- What holds behind a round that took an operation. -/
theorem RL.next {w wr w9 w10 : World} {g n k c : Nat} {l b8 r r' : List Nat} {es : List OpE} {v : Value} {o : HP.HOp} {s : Option Addr} (hL : RL w g n l b8 k true es v r wr)
    (hd : HP.dec r = some (o, r')) (htr : TRow w9 s o.bytes) (hrd : RD w9 g r') (hg9 : wr.grownBy w9 (some g)) (hb10 : Below w9.heap.size w9 w10) (hk : k < n)
    (hno : HP.decAll (k + 1) b8 = none → HP.readL l = ([], 50)) :
    Blk w10 w.heap.size 29 #[v] ∧
    ∃ v' w11, AppRun 29 29 29 v (.slice (some ⟨w10.heap.size, 0, none⟩) 1 1) (w10.alloc (.cells (OpE.cs ⟨o, s, c⟩) 53)) v' w11 ∧ (∃ av cv, v' = .slice av (es.length + 1) cv) ∧
      Blk w11 w.heap.size 29 #[v] ∧ RL w g n l b8 (k + 1) (HP.rightB o) (es ++ [⟨o, s, c⟩]) v' r' (w11.setCell ⟨w.heap.size, 0, none⟩ v') := by
  have hgg := hL.st.hg
  have s9 := hL.st.call hrd hg9
  have s10 := s9.old hb10
  have hsay := hL.say
  rw [if_pos rfl] at hsay
  have hlen : es.length ≤ 4096 := by
    have hb := hL.st.rd.small
    have h2 : (opsOf es).length = k := by
      have : ∀ (k : Nat) (b : List Nat) (os : List HP.HOp) (r : List Nat), HP.decAll k b = some (os, r) → os.length = k := by
        intro k
        induction k with
        | zero => intro b os r h; simp only [HP.decAll, Option.some.injEq, Prod.mk.injEq] at h; rw [← h.1]; rfl
        | succ k ih =>
          intro b os r h
          rw [HP.decAll] at h
          split at h
          · cases h
          · split at h
            · rw [Option.map_eq_some_iff] at h
              obtain ⟨⟨os', r2⟩, h1, h2⟩ := h
              simp only [Prod.mk.injEq] at h2
              obtain ⟨rfl, rfl⟩ := h2
              simp [ih _ _ _ h1]
            · cases h
      exact this _ _ _ _ hsay
    have h3 := (hL.few rfl).1
    simp [opsOf] at h2
    omega
  have own9 : OOwn w9 (g + 1) v es := World.ownsRow.kept hL.own hg9 (by
    cases hv : v.ownBlock with
    | none => exact .inl rfl
    | some x => exact .inr (fun e => by injection e with e; have := (hL.own.lt x hv).1; omega))
  have own10 := own9.old hb10
  have hz10 : g + 1 ≤ w10.heap.size := s10.rd.lt
  obtain ⟨v', w11, hrun, hown, hbel, hgrow⟩ := append_op own10 ⟨o, s, c⟩ (H := w10.heap.size) rfl (by omega) hz10
  have hrow : ∀ x, v.ownBlock = some x → g + 1 ≤ x := fun x hx => (own10.lt x hx).1
  have al := (Below.refl w10.heap.size w10).alloc (Nat.le_refl _) (.cells (OpE.cs ⟨o, s, c⟩) 53)
  have own10a := own10.old al
  have kL11 : Blk w11 w.heap.size 29 #[v] := (s10.kL.old al).grown hgrow (fun e => by have := hrow _ e.symm; omega)
  have kE11 : Blk w11 (w.heap.size + 1) 26 #[vi 0] := (s10.kE.old al).grown hgrow (fun e => by have := hrow _ e.symm; omega)
  have rd11 : RD w11 g r' := (s10.rd.old al).grown hgrow (fun x hx => by have := hrow _ hx; omega)
  have hsf := slice_form hown
  have hnb : ∀ j i : Nat, #[v][j]? ≠ some (vb i) := by
    obtain ⟨a0, c0, hv0⟩ := slice_form hL.own
    intro j i
    rw [hv0]
    match j with
    | 0 => simp
    | j + 1 => simp
  refine ⟨s10.kL, v', w11, ⟨hrun⟩, ?_, kL11, ?_⟩
  · obtain ⟨av, cv, hv⟩ := hsf
    exact ⟨av, cv, by rw [hv]; simp⟩
  have h11 : Below w.heap.size w w11 := (s10.below.trans (al.mono s10.below.size)).grown hgrow (by have := s10.below.size; simp; omega) (fun x hx => by have := hrow _ hx; omega)
  refine ⟨⟨rd11.set_far kL11 (by omega) hnb, kL11.set_ 0 v', kE11.far (p := ⟨w.heap.size, 0, none⟩) (by dsimp only; omega) v', h11.setCell (Nat.le_refl _) v', hgg⟩, ?_, ?_, ?_, ?_, fun _ => hL.few rfl⟩
  · exact ownsRow_setCell_below hown (by dsimp only; omega) v'
  · have := rd11.lt
    simp [World.setCell]
    omega
  · intro e he
    have ht10 : TRow w10 e.s e.o.bytes := by
      rcases List.mem_append.1 he with he | he
      · obtain ⟨ar, cr, hbr, _⟩ := hL.st.rd
        exact ((hL.rows e he).other hg9 hbr (by decide)).old hb10
      · simp only [List.mem_cons, List.not_mem_nil, or_false] at he
        subst he
        exact htr.old hb10
    have ht11 := (ht10.old al).grown hgrow (fun b cur hb => own_blk_ne own10a hb (by decide))
    exact ht11.set_ kL11 (by decide)
  · have hsn := decAll_snoc k b8
    rw [hsay, ] at hsn
    dsimp only at hsn
    rw [hd] at hsn
    dsimp only at hsn
    by_cases hr : HP.rightB o = true
    · rw [if_pos hr] at hsn ⊢
      rw [hsn]
      simp [opsOf]
    · rw [if_neg hr] at hsn ⊢
      exact hno hsn

/-- The operations that were read, as a row. -/
theorem orow_of {w : World} {base c n : Nat} {a : Option Addr} {es : List OpE} {b8 r : List Nat} (hown : OOwn w base (.slice a es.length c) es) (hrows : ∀ e ∈ es, TRow w e.s e.o.bytes) (hs : ∀ x ∈ b8, x < 256) (hl : b8.length ≤ 900000) (hd : HP.decAll n b8 = some (opsOf es, r)) : ORow w a es := by
  obtain ⟨h1, _, _, h4⟩ := HP.decAll_some hs hd
  have hf : ∀ e ∈ es, e.o.fits := fun e he => h4 _ (List.mem_map_of_mem he)
  have hln : ∀ e ∈ es, e.lens := by
    intro e he
    have hle : (HP.enc e.o).length ≤ ((opsOf es).flatMap HP.enc).length := by
      have : ∀ (os : List HP.HOp), e.o ∈ os → (HP.enc e.o).length ≤ (os.flatMap HP.enc).length := by
        intro os
        induction os with
        | nil => intro h; cases h
        | cons x os ih =>
          intro h
          rw [List.flatMap_cons, List.length_append]
          rcases List.mem_cons.1 h with h | h
          · rw [h]; omega
          · have := ih h; omega
      exact this _ (List.mem_map_of_mem he)
    have h5 := congrArg List.length h1
    rw [List.length_append] at h5
    have h6 := HP.enc_length e.o
    exact ⟨by omega, by omega, by omega⟩
  obtain ⟨a', c', hv, hrow⟩ := hown.row (fun e he => (hrows e he).row) hf hln
  injection hv with h7 _ _
  subst h7
  exact hrow

set_option maxRecDepth 100000 in
set_option maxHeartbeats 4000000 in
theorem Read_any (a : Option Addr) (l : List Nat) (c : Nat) (w : World) (h : BRow w a l) (h12 : 12 ≤ l.length) (hl : l.length ≤ 900000) (hc : l.length ≤ c) (hm : c ≤ maxLen) :
    Calls Tryz.prog 15 #[.slice a l.length c] w (ReadPost l w) := by
  have HR := Lib.hid h
  have hne : ¬ c = l.length - 4 := by omega
  have hm' : c ≤ 9223372036854775807 := by unfold maxLen at hm; omega
  clear h hm
  have hb2 := ((Below.refl w.heap.size w).alloc (Nat.le_refl _) (.cells #[.slice none 0 0] 29)).alloc (by simp) (.cells #[vi 0] 26)
  have ha : ∀ ad, a = some ad → l ≠ [] → ad.block < w.heap.size := by
    intro ad e hne
    subst e
    rcases HR.out.at_ with h0 | ⟨b, o, e, h1⟩
    · exact absurd h0 hne
    · injection e with e
      subst e
      exact cell_lt (h1 0 (by omega))
  have hl0 : l ≠ [] := by intro e; rw [e] at h12; simp at h12
  have hs4 : (l.drop (l.length - 4)).length = 4 := by rw [List.length_drop]; omega
  have hbl : (l.take (l.length - 4)).length = l.length - 4 := by rw [List.length_take]; omega
  have HRL := Lib.hid (readL_of h12 hl)
  have hsl := HP.sum_lt (l.take (l.length - 4))
  generalize hbd : l.take (l.length - 4) = bd at *
  generalize hsd : l.drop (l.length - 4) = s at *
  have hz2 : ((w.alloc (.cells #[.slice none 0 0] 29)).alloc (.cells #[vi 0] 26)).heap.size = w.heap.size + 1 + 1 := by rw [size_alloc, size_alloc]
  have hrs : BRow ((w.alloc (.cells #[.slice none 0 0] 29)).alloc (.cells #[vi 0] 26)) (Option.map (fun x => x.add (l.length - 4)) a) s := by
    rw [← hsd]
    exact (HR.out.dropped _).below hb2
  have r3 := RD.new hrs (c := c - (l.length - 4)) (by omega) (by unfold maxLen; omega) (fun ad hd => by
    cases a with
    | none => cases hd
    | some a0 =>
      injection hd with hd
      subst hd
      have := ha a0 rfl hl0
      rw [block_add, hz2]
      omega)
  rw [hz2, hs4] at r3
  have RS := Lib.hid r3
  have HS4 := Lib.hid hs4
  have HBL := Lib.hid hbl
  have HBD := Lib.hid hbd
  have HSD := Lib.hid hsd
  have HA := Lib.hid (fun ad e => ha ad e hl0)
  have B2 := Lib.hid hb2
  clear r3 hrs hz2 hs4 hbl hbd hsd ha hl0 hb2
  go_enter_defers Tryz.func15, Tryz.ntmps15
  go_wp2_with fail
  rw [show l.length - (l.length - 4) = 4 by omega]
  refine (num_to (n := 4) rfl RS.out (takeN_whole HS4.out) (by omega)).mono ?_
  rintro e w4 ⟨rfl, -, hg4⟩
  have kL : Blk w4 w.heap.size 29 #[.slice none 0 0] := (((Blk.new w _ _).alloc _).alloc _).grown hg4 (by intro e; injection e with e; omega)
  have kE0 : Blk ((w.alloc (.cells #[.slice none 0 0] 29)).alloc (.cells #[vi 0] 26)) (w.heap.size + 1) 26 #[vi 0] := by rw [← size_alloc w (.cells #[.slice none 0 0] 29)]; exact Blk.new _ _ _
  have kE : Blk w4 (w.heap.size + 1) 26 #[vi 0] := (kE0.alloc _).grown hg4 (by intro e; injection e with e; omega)
  have b4 : Below w.heap.size w w4 := (B2.out.alloc (by simp; omega) _).grown hg4 (by simp; omega) (fun k hk => by injection hk with hk; omega)
  have KL := Lib.hid kL
  have KE := Lib.hid kE
  have B4 := Lib.hid b4
  have hg5 := Lib.hid (show w.heap.size + 2 < w4.heap.size by have := hg4.size; simp at this; omega)
  clear kL kE0 kE b4 hg4
  have hr4 : BRow w4 a bd := by rw [← HBD.out]; exact (HR.out.take _).below B4.out
  have HR4 := Lib.hid hr4
  clear hr4
  go_wp2_with fail
  refine (CSum_n a bd HBL.out c _ HR4.out (by omega)).mono ?_
  rintro e w5 ⟨rfl, rfl⟩
  have cL : w5.cell? ⟨w.heap.size, 0, none⟩ = some (.slice none 0 0) := KL.out.cell 0
  have cE : w5.cell? ⟨w.heap.size + 1, 0, none⟩ = some (vi 0) := KE.out.cell 0
  have fL := KL.out.frozen 0
  have fE := KE.out.frozen 0
  by_cases hsum : HP.num s = HP.sum bd
  · have hcmp : ((HP.num s : Int) != (HP.sum bd : Int)) = false := by simp [hsum]
    have HSUM := Lib.hid hsum
    clear hsum
    have hmf : ∀ (fn : Fn) (first cap : Array Value) (w : World), (Instr.makeFunc fn first cap).run Tryz.prog w = .ok (.func fn first cap) w := fun _ _ _ _ => rfl
    go_wp2_with fail
    have s6 : ReadSt w w5.heap.size (.slice none 0 0) (vi 0) bd (w5.alloc (.cells #[.slice a (l.length - 4) c] 65)) := by
      have hb := (Below.refl w5.heap.size w5).alloc (Nat.le_refl _) (.cells #[.slice a (l.length - 4) c] 65)
      have r6 := RD.new (c := c) HR4.out (by have := HBL.out; omega) (by unfold maxLen; omega) (fun ad e => Nat.lt_of_lt_of_le (HA.out ad e) B4.out.size)
      rw [HBL.out] at r6
      exact ⟨r6, KL.out.old hb, KE.out.old hb, B4.out.trans (hb.mono B4.out.size), hg5.out⟩
    have S6 := Lib.hid s6
    have hb8 : 8 ≤ bd.length := by have := HBL.out; omega
    have hx4 : bd.take 4 = l.take 4 := by rw [← HBD.out, List.take_take, Nat.min_eq_left (by omega)]
    have hxl : (bd.take 4).length = 4 := by rw [List.length_take]; omega
    have HX4 := Lib.hid hx4
    clear s6 hx4
    refine (take_to (n := 4) S6.out.rd (takeN_at (by omega))).mono ?_
    rintro e w7 ⟨a7, rfl, hr7, hrd7, hg7⟩
    have S7 := Lib.hid (S6.out.call hrd7 hg7)
    have htx := run_text hr7 4
    rw [hxl] at htx
    have hsm7 := hr7.small
    clear hrd7 hg7 hr7 S6
    generalize hxx : bd.take 4 = x at htx hsm7 hxl ⊢
    have HXX := Lib.hid hxx
    clear hxx
    have hgx := bs_head hsm7
    go_wp2_with fail
    refine (num_to (n := 4) rfl S7.out.rd (takeN_at (by rw [List.length_drop]; omega)) (by omega)).mono ?_
    rintro e w8 ⟨rfl, hrd8, hg8⟩
    have S8 := Lib.hid (S7.out.call hrd8 hg8)
    have hnum : HP.num ((bd.drop 4).take 4) < 4294967296 := num_bound S7.out.rd (takeN_at (n := 4) (by rw [List.length_drop]; omega))
    have hbd4 : (bd.drop 4).take 4 = (l.drop 4).take 4 := by
      rw [← HBD.out, List.drop_take, List.take_take, Nat.min_eq_left (by omega)]
    have hbd8 : (bd.drop 4).drop 4 = bd.drop 8 := by rw [List.drop_drop]
    rw [hbd8] at hrd8 S8
    rw [hbd4] at hnum ⊢
    have HH := Lib.hid (show headOk l = ((x == [72, 73, 83, 84]) && decide (HP.num ((l.drop 4).take 4) ≤ 4096)) by rw [headOk, ← HX4.out, HXX.out])
    clear hrd8 hg8 hbd4 hbd8 htx hmf
    generalize HP.num ((l.drop 4).take 4) = n at *
    clear hgx hsm7 hxl
    generalize hgb : (x == [72, 73, 83, 84]) = gb at *
    have HGB := Lib.hid hgb
    clear hgb
    go_upto_region 13 with fail
    go_cut [7] from 45 to 49 (fun v w' => v = .bool (headOk l) ∧ w' = w8)
    case first =>
      cases gb
      · go_wp2_with fail
        go_meet
        exact ⟨by rw [HH.out]; rfl, rfl⟩
      · by_cases hn : n ≤ 4096
        · go_wp2_with fail
          go_meet
          exact ⟨by rw [HH.out]; simp [hn]; omega, rfl⟩
        · go_wp2_with fail
          go_meet
          exact ⟨by rw [HH.out]; simp [hn]; omega, rfl⟩
    case rest =>
    obtain ⟨rfl, rfl⟩ := hcut
    have HK := Lib.hid (show headOk l = true → n ≤ 4096 by intro e; rw [HH.out] at e; simp at e; exact e.2)
    have hr1 := HRL.out
    rw [if_neg (by simpa using HSUM.out)] at hr1
    have HR1 := Lib.hid hr1
    have r0 : RL w w5.heap.size n l (bd.drop 8) 0 (headOk l) [] (.slice none 0 0) (bd.drop 8) wc := by
      refine ⟨S8.out, OOwn.nil _ _, S8.out.rd.lt, by simp, ?_, fun e => ⟨HK.out e, e⟩⟩
      cases hh : headOk l
      · rw [hh] at hr1
        simpa using hr1
      · simp [HP.decAll]
    have L0 := Lib.hid r0
    clear r0 hr1 HRL HSUM hsl hcmp HH HGB HX4 HXX RS HS4 S7 S8 HSD HR4 cL cE fL fE KL KE B4 B2
    generalize hgh : headOk l = gb at *
    have HGH := Lib.hid hgh
    clear hgh
    generalize hg5v : w5.heap.size = g at *
    clear hg5v
    go_wp2_with fail
    go_loopw [7, 9] (fun gd kv wr => ∃ (k : Nat) (b : Bool) (es : List OpE) (v : Value) (r : List Nat), kv = vq k ∧ gd = .bool b ∧ k ≤ n ∧ Hid (RL w g n l (bd.drop 8) k b es v r wr)) (fun _ kv _ => n - (intOf kv).toNat)
    case atStart => exact ⟨0, gb, [], _, _, rfl, rfl, Nat.zero_le _, L0⟩
    case round =>
      obtain ⟨k, b, es, v, r, rfl, rfl, hk, hL⟩ := hrel
      have sL := hL.out.st
      obtain ⟨av0, cv0, hv0⟩ := slice_form hL.out.own
      subst hv0
      have cL : wr.cell? ⟨w.heap.size, 0, none⟩ = some (.slice av0 es.length cv0) := sL.kL.cell 0
      have cE : wr.cell? ⟨w.heap.size + 1, 0, none⟩ = some (vi 0) := sL.kE.cell 0
      have fL := sL.kL.frozen 0
      have fE := sL.kE.frozen 0
      have SL := Lib.hid sL
      clear sL
      cases b
      · have hr := hL.out.say
        simp only [Bool.false_eq_true, if_false] at hr
        have HRR := Lib.hid hr
        clear hr
        go_wp2_with fail
        refine door_ret ((SL.out.kL.set_ 0 (.slice none 0 0)).far (p := ⟨w.heap.size + 1, 0, none⟩) (by dsimp only; omega) (vi 50)) ((SL.out.kE.far (p := ⟨w.heap.size, 0, none⟩) (by dsimp only; omega) (.slice none 0 0)).set_ 0 (vi 50)) rfl rfl fun w' hb => ?_
        exact ReadPost.no HRR.out (((SL.out.below.setCell (Nat.le_refl _) _).setCell (by dsimp only; omega) _).trans (hb.mono (by have := SL.out.below.size; simp [World.setCell]; exact this)))
      · by_cases hlt : k < n
        · go_wp2_with fail
          refine (op_any g r _ SL.out.rd).mono ?_
          rintro e w9 hp
          have hsay := hL.out.say
          rw [if_pos rfl] at hsay
          have hnone : ∀ j, HP.decAll j (bd.drop 8) = none → j ≤ n → HP.readL l = ([], 50) := by
            intro j hj hjn
            rw [HR1.out, decAll_none hj hjn]
            split <;> rfl
          have HN := Lib.hid hnone
          have HSAY := Lib.hid hsay
          clear hnone hsay
          unfold OpPost at hp
          cases hd : HP.dec r with
          | none =>
            rw [hd] at hp
            obtain ⟨rfl, hg9⟩ := hp
            have hgg := SL.out.hg
            refine door_panic (SL.out.kL.grown hg9 (by intro e; injection e with e; omega)) (SL.out.kE.grown hg9 (by intro e; injection e with e; omega)) rfl rfl (HN.out (k + 1) ?_ (by omega)) (SL.out.below.grown hg9 SL.out.below.size (fun x hx => by injection hx with hx; omega))
            rw [decAll_snoc, HSAY.out]
            dsimp only
            rw [hd]
          | some x =>
            obtain ⟨o, r'⟩ := x
            rw [hd] at hp
            obtain ⟨s', c', rfl, htr, hrd, hg9⟩ := hp
            have HD := Lib.hid hd
            have HT := Lib.hid htr
            have HRD := Lib.hid hrd
            have HG9 := Lib.hid hg9
            clear hd htr hrd hg9 SL cL cE fL fE HSAY
            go_wp2_with fail
            refine (right_any ⟨o, s', c'⟩ _).mono ?_
            rintro e w10 ⟨rfl, hb10⟩
            have hb10' := ((Below.refl w9.heap.size w9).alloc (Nat.le_refl _) _).trans (hb10.mono (by simp))
            have kb := (Blk.new w9 53 (OpE.cs ⟨o, s', c'⟩)).old hb10
            obtain ⟨kL, v', w11, hrun, ⟨av, cv, rfl⟩, kL11, hL'⟩ := RL.next (c := c') hL.out HD.out HT.out HRD.out HG9.out hb10' hlt (fun h => HN.out _ h (by omega))
            have HRUN := Lib.hid hrun
            have HL' := Lib.hid hL'
            have cL : w10.cell? ⟨w.heap.size, 0, none⟩ = some (.slice av0 es.length cv0) := kL.cell 0
            have cL11 : w11.cell? ⟨w.heap.size, 0, none⟩ = some (.slice av0 es.length cv0) := kL11.cell 0
            have fL11 := kL11.frozen 0
            have b0 : w10.cell? ⟨w9.heap.size, 0, none⟩ = some (vi o.kind) := kb.cell 0
            have b1 : w10.cell? ⟨w9.heap.size, 1, none⟩ = some (.string (bs o.path)) := kb.cell 1
            have b2 : w10.cell? ⟨w9.heap.size, 2, none⟩ = some (.string (bs o.dest)) := kb.cell 2
            have b3 : w10.cell? ⟨w9.heap.size, 3, none⟩ = some (vi o.handle) := kb.cell 3
            have b4 : w10.cell? ⟨w9.heap.size, 4, none⟩ = some (vi o.n) := kb.cell 4
            have b5 : w10.cell? ⟨w9.heap.size, 5, none⟩ = some (vi o.off) := kb.cell 5
            have b6 : w10.cell? ⟨w9.heap.size, 6, none⟩ = some (.slice s' o.bytes.length c') := kb.cell 6
            clear hrun hL' kL kL11 kb hb10 hb10'
            go_wp2_with (at_builtin; refine wpList_append_run rfl (.tmp 62) (.tmp 64) rfl rfl rfl HRUN.out.run ?_)
            go_roundw
            case rel => exact ⟨k + 1, HP.rightB o, es ++ [⟨o, s', c'⟩], _, r', by go_num, rfl, by omega, HL'⟩
            case measure => simp [intOf]; omega
        · obtain rfl : k = n := by omega
          obtain ⟨ar, cr, hbr, -, -, -, -⟩ := SL.out.rd
          have cR : wr.cell? ⟨g, 0, none⟩ = some (.slice ar r.length cr) := hbr.cell 0
          clear hbr
          have hsay := hL.out.say
          rw [if_pos rfl] at hsay
          have HSAY := Lib.hid hsay
          clear hsay
          by_cases hr0 : r.length = 0
          · have h0 : r = [] := List.eq_nil_of_length_eq_zero hr0
            subst h0
            clear hr0
            go_wp2_with fail
            have kL' := (SL.out.kL.set_ 0 (.slice av0 es.length cv0)).far (p := ⟨w.heap.size + 1, 0, none⟩) (by dsimp only; omega) (vi 0)
            have kE' := (SL.out.kE.far (p := ⟨w.heap.size, 0, none⟩) (by dsimp only; omega) (.slice av0 es.length cv0)).set_ 0 (vi 0)
            refine door_ret kL' kE' rfl rfl fun w' hb => ?_
            have hgg := SL.out.hg
            have own2 : OOwn ((wr.setCell ⟨w.heap.size, 0, none⟩ (.slice av0 es.length cv0)).setCell ⟨w.heap.size + 1, 0, none⟩ (vi 0)) (g + 1) (.slice av0 es.length cv0) es :=
              ownsRow_setCell_below (ownsRow_setCell_below hL.out.own (by dsimp only; omega) _) (by dsimp only; omega) _
            have rows2 : ∀ e ∈ es, TRow ((wr.setCell ⟨w.heap.size, 0, none⟩ (.slice av0 es.length cv0)).setCell ⟨w.heap.size + 1, 0, none⟩ (vi 0)) e.s e.o.bytes := fun e he =>
              ((hL.out.rows e he).set_ SL.out.kL (by decide)).set_ (SL.out.kE.far (p := ⟨w.heap.size, 0, none⟩) (by dsimp only; omega) _) (by decide)
            have hsm : ∀ x ∈ bd.drop 8, x < 256 := fun x hx => HR.out.small x (by rw [← HBD.out] at hx; exact List.mem_of_mem_take (List.mem_of_mem_drop hx))
            have hbl8 : (bd.drop 8).length ≤ 900000 := by rw [List.length_drop]; have := HBL.out; omega
            have hrow := orow_of own2 rows2 hsm hbl8 HSAY.out
            have hrl : HP.readL l = (opsOf es, 0) := by
              have h1 := HR1.out
              rw [HSAY.out] at h1
              cases gb
              · have h2 := (hL.out.few rfl).2
                rw [HGH.out] at h2
                cases h2
              · simpa using h1
            refine ⟨es, av0, cv0, by rw [hrl], hrow.below hb, by rw [hrl], ?_⟩
            exact ((SL.out.below.setCell (Nat.le_refl _) _).setCell (by dsimp only; omega) _).trans (hb.mono (by have := SL.out.below.size; simp [World.setCell]; exact this))
          · have hr0' : 0 < r.length := by omega
            go_wp2_with fail
            have hrl : HP.readL l = ([], 50) := by
              have h1 := HR1.out
              rw [HSAY.out] at h1
              rw [h1]
              cases gb
              · rfl
              · rcases r with _ | ⟨x, r⟩
                · simp at hr0'
                · rfl
            refine door_ret ((SL.out.kL.set_ 0 (.slice none 0 0)).far (p := ⟨w.heap.size + 1, 0, none⟩) (by dsimp only; omega) (vi 50)) ((SL.out.kE.far (p := ⟨w.heap.size, 0, none⟩) (by dsimp only; omega) (.slice none 0 0)).set_ 0 (vi 50)) rfl rfl fun w' hb => ?_
            exact ReadPost.no hrl (((SL.out.below.setCell (Nat.le_refl _) _).setCell (by dsimp only; omega) _).trans (hb.mono (by have := SL.out.below.size; simp [World.setCell]; exact this)))
  · have hcmp : ((HP.num s : Int) != (HP.sum bd : Int)) = true := by simp; omega
    have HSUM := Lib.hid hsum
    clear hsum
    go_wp2_with fail
    have hr0 := HRL.out
    rw [if_pos HSUM.out] at hr0
    refine ⟨_, read_result (KL.out.set_ 0 (.slice none 0 0) |>.far (p := ⟨w.heap.size + 1, 0, none⟩) (by dsimp only; omega) (vi 21)) ((KE.out.far (p := ⟨w.heap.size, 0, none⟩) (by dsimp only; omega) (.slice none 0 0)).set_ 0 (vi 21)) _ rfl rfl, ReadPost.no hr0 ((B4.out.setCell (Nat.le_refl _) _).setCell (by dsimp only; omega) _)⟩

end Go.Proofs.YtneoeekhinlhgaaGreat
