/-
  Lemmas for a law's proof, put together from several texts: each part says what it shows, and its conditions.
-/
import Derived.Test.YtpggkehfbhffbaaZC12
import Derived.Deep.RegionHeld3
import Derived.StillTailTactics
/-
  Are two rows of pages the same? Conditions: rows that are told by PRow.
-/
namespace Go.Proofs.Ytpggkehfbhffbaa
open Go.RowKit

/-- Pages that a slice reads as. -/
structure PRow (w : World) (a : Option Addr) (ps : List PgM) : Prop where
  at_ : ps = [] ∨ ∃ b o, a = some ⟨b, o, none⟩ ∧ ∀ i, i < ps.length → w.cell? ⟨b, o + i, none⟩ = some (ps.getD i default).v
  rows : ∀ p ∈ ps, BRow w p.a p.l
  len : ps.length ≤ 140737488355328
theorem PRow.lookup {w : World} {a : Option Addr} {ps : List PgM} (h : PRow w a ps) {i : Nat} (hi : i < ps.length) : ∃ b o, a = some ⟨b, o, none⟩ ∧ w.cell? ⟨b, o + i, none⟩ = some (ps.getD i default).v ∧ BRow w (ps.getD i default).a (ps.getD i default).l := by
  rcases h.at_ with rfl | ⟨b, o, rfl, h1⟩
  · simp at hi
  · exact ⟨b, o, rfl, h1 i hi, h.rows _ (getD_mem hi)⟩
theorem bs_inj {l m : List Nat} (hl : ∀ x ∈ l, x < 256) (hm : ∀ x ∈ m, x < 256) (h : bs l = bs m) : l = m := by
  rw [← sb_bs l hl, ← sb_bs m hm, h]
theorem bs_toList (l : List Nat) : (bs l).toList = l.map UInt8.ofNat := by
  rw [ByteArray.toList_eq]
  rfl
theorem map_take_l {ps : List PgM} {i : Nat} (h : i < ps.length) : (ps.take (i + 1)).map (·.l) = (ps.take i).map (·.l) ++ [(ps.getD i default).l] := by
  rw [List.take_succ_eq_append_getElem h, List.map_append, List.getD_eq_getElem?_getD, List.getElem?_eq_getElem h]
  rfl
theorem map_getD_l {ps qs : List PgM} {i : Nat} (h : i < ps.length) (h2 : i < qs.length) (e : ps.map (·.l) = qs.map (·.l)) : (ps.getD i default).l = (qs.getD i default).l := by
  have := congrArg (fun l => l[i]?) e
  simp only [List.getElem?_map, List.getElem?_eq_getElem h, List.getElem?_eq_getElem h2, Option.map_some] at this
  rw [List.getD_eq_getElem?_getD, List.getD_eq_getElem?_getD, List.getElem?_eq_getElem h, List.getElem?_eq_getElem h2]
  exact Option.some.inj this

set_option maxRecDepth 100000 in
set_option maxHeartbeats 4000000 in
theorem rSame_any {w : World} {a a' : Option Addr} {ps qs : List PgM} (c c' : Nat) (hp : PRow w a ps) (hq : PRow w a' qs) :
    Calls Try.prog 27 #[.slice a ps.length c, .slice a' qs.length c'] w fun e w' => e = .returned (.bool (decide (ps.map (·.l) = qs.map (·.l)))) ∧ Below w.heap.size w w' := by
  have HP := Lib.hid hp
  have HQ := Lib.hid hq
  have hl1 := hp.len
  have hl2 := hq.len
  clear hp hq
  by_cases hlen : ps.length = qs.length
  · have HL := Lib.hid hlen
    have hne : ((ps.length : Int) != (qs.length : Int)) = false := by simp [hlen]
    clear hlen
    go_enter Try.func27, Try.ntmps27
    go_wp2_with fail
    clear hne
    go_loopw [5] (fun v wr => ∃ i : Nat, i ≤ ps.length ∧ v = vi i ∧ Hid (Below w.heap.size w wr) ∧ Hid ((ps.take i).map (·.l) = (qs.take i).map (·.l))) (fun v _ => ps.length - (intOf v).toNat)
    case atStart => exact ⟨0, Nat.zero_le _, rfl, Lib.hid (Below.refl _ _), Lib.hid rfl⟩
    case round =>
      obtain ⟨i, hi, rfl, hb, he⟩ := hrel
      by_cases hlt : i < ps.length
      · have hlt2 : i < qs.length := by have := HL.out; omega
        obtain ⟨b, o, rfl, d1, r1⟩ := HP.out.lookup hlt
        obtain ⟨b', o', rfl, d2, r2⟩ := HQ.out.lookup hlt2
        have HT1 := Lib.hid (map_take_l hlt)
        have HT2 := Lib.hid (map_take_l hlt2)
        have HG := Lib.hid (fun e => map_getD_l hlt hlt2 e)
        generalize ps.getD i default = x at *
        generalize qs.getD i default = y at *
        obtain ⟨xa, xl, xc⟩ := x
        obtain ⟨ya, yl, yc⟩ := y
        dsimp only at *
        have HS1 := Lib.hid r1.small
        have HS2 := Lib.hid r2.small
        have HD : Hid (wr.drew.cell? ⟨b, o + i, none⟩ = some (.slice xa xl.length xc) ∧ wr.drew.cell? ⟨b', o' + i, none⟩ = some (.slice ya yl.length yc) ∧
          (convert 32 9 (.slice xa xl.length xc)).run Try.prog wr.drew = .ok (.string (bs xl)) wr.drew ∧ (convert 32 9 (.slice ya yl.length yc)).run Try.prog wr.drew = .ok (.string (bs yl)) wr.drew) := Lib.hid
          ⟨cell_below d1 hb.out.drew, cell_below d2 hb.out.drew, run_text ((r1.below hb.out).below (Below.refl _ _).drew) _, run_text ((r2.below hb.out).below (Below.refl _ _).drew) _⟩
        clear d1 d2 r1 r2
        go_upto_region 6 with fail
        go_region_held3 (fun w' => w'.cell? ⟨b, o + i, none⟩ = some (.slice xa xl.length xc) ∧ w'.cell? ⟨b', o' + i, none⟩ = some (.slice ya yl.length yc) ∧
          (convert 32 9 (.slice xa xl.length xc)).run Try.prog w' = .ok (.string (bs xl)) w' ∧ (convert 32 9 (.slice ya yl.length yc)).run Try.prog w' = .ok (.string (bs yl)) w')
          (exact HD.out)
          (fail)
        all_goals
          by_cases hxy : xl = yl
          · subst hxy
            have HE : Hid ((ps.take (i + 1)).map (·.l) = (qs.take (i + 1)).map (·.l)) := Lib.hid (by rw [HT1.out, HT2.out, he.out])
            have hee : (!((bs xl).toList == (bs xl).toList)) = false := by simp
            go_wp2_with fail
            any_goals (exfalso; rename_i hbad; rw [hee] at hbad; cases hbad; done)
            go_roundw
            case rel => exact ⟨i + 1, by omega, by go_num, Lib.hid hb.out.drew, HE⟩
            case measure => simp [intOf]; omega
          · have hee : (!((bs xl).toList == (bs yl).toList)) = true := by
              rw [bs_toList, bs_toList]
              simp only [Bool.not_eq_true', beq_eq_false_iff_ne, ne_eq]
              intro e
              refine hxy ?_
              have h2 : bs xl = bs yl := by
                unfold bs
                rw [e]
              exact bs_inj HS1.out HS2.out h2
            have HF := Lib.hid (show decide (ps.map (·.l) = qs.map (·.l)) = false from decide_eq_false (fun e => hxy (HG.out e)))
            go_wp2_with fail
            any_goals (exfalso; rename_i hbad; rw [hee] at hbad; cases hbad; done)
            go_ret
            exact ⟨by rw [HF.out]; rfl, hb.out.drew⟩
      · obtain rfl : i = ps.length := by omega
        have HF := Lib.hid (show decide (ps.map (·.l) = qs.map (·.l)) = true from decide_eq_true (by
          have h1 := he.out
          rw [List.take_length, HL.out, List.take_length] at h1
          exact h1))
        go_wp2_with fail
        go_ret
        exact ⟨by rw [HF.out]; rfl, hb.out⟩
  · have HF := Lib.hid (show decide (ps.map (·.l) = qs.map (·.l)) = false from decide_eq_false (fun e => hlen (by simpa using congrArg List.length e)))
    have hne : ((ps.length : Int) != (qs.length : Int)) = true := by simp; omega
    go_enter Try.func27, Try.ntmps27
    go_wp2_with fail
    go_ret
    exact ⟨by rw [HF.out]; rfl, Below.refl _ _⟩

end Go.Proofs.Ytpggkehfbhffbaa

/-
  Are two rows of bytes the same? Conditions: rows of bytes.
-/
namespace Go.Proofs.Ytpggkehfbhffbaa
open Go.RowKit

theorem bs_eq {l m : List Nat} (hl : ∀ x ∈ l, x < 256) (hm : ∀ x ∈ m, x < 256) : ((bs l).toList == (bs m).toList) = decide (l = m) := by
  by_cases h : l = m
  · subst h; simp
  · rw [decide_eq_false h, bs_toList, bs_toList]
    simp only [beq_eq_false_iff_ne, ne_eq]
    intro e
    refine h (bs_inj hl hm ?_)
    unfold bs
    rw [e]
theorem SameBytes_any {w : World} {a a' : Option Addr} {l m : List Nat} (c c' : Nat) (hp : BRow w a l) (hq : BRow w a' m) :
    Calls Try.prog 18 #[.slice a l.length c, .slice a' m.length c'] w fun e w' => e = .returned (.bool (decide (l = m))) ∧ w' = w := by
  have h1 := run_text hp c
  have h2 := run_text hq c'
  have HS := Lib.hid (bs_eq hp.small hq.small)
  clear hp hq
  go_enter Try.func18, Try.ntmps18
  go_wp2_with fail
  go_ret
  exact ⟨by rw [← HS.out]; rfl, rfl⟩

end Go.Proofs.Ytpggkehfbhffbaa

/-
  The document's chip made anew: five rows made in whatever order. Conditions: a geometry that is right.
-/
namespace Go.Proofs.Ytpggkehfbhffbaa
open Go.RowKit

section
variable {P : Program} {md : Region.Mode} {ops : Array Oper} {Q : Exit → Act → World → Prop} {S : World → Prop}
/-- A region in whatever order, by what holds of all that has come up. -/
theorem wpAnyH_inv {I : Array Bool → Act → World → Prop} (hS : ∀ listed a w, I listed a w → S w)
    (hstep : ∀ listed a w i, I listed a w → i ∈ Region.ready md ops listed → wpOp P ops Q i (fun a' w' => I (listed.setIfInBounds i true) a' w') a w)
    (hend : ∀ listed a w, I listed a w → Region.ready md ops listed = [] → Q .normal a w) :
    ∀ (fuel : Nat) (listed : Array Bool) (a : Act) (w : World), listed.toList.count false ≤ fuel → I listed a w → wpAnyH P md ops Q S fuel listed a w
  | 0, listed, a, w, hc, hi => by
    have hr : Region.ready md ops listed = [] := by
      apply List.eq_nil_iff_forall_not_mem.2
      intro i hm
      have h0 := (mem_ready.1 hm).1
      have hlt : i < listed.size := by
        rcases Nat.lt_or_ge i listed.size with h | h
        · exact h
        · simp [Array.getD, Nat.not_lt.2 h] at h0
      have hmem : false ∈ listed.toList := by
        have : listed[i] = false := by simpa [Array.getD, hlt] using h0
        rw [← this]
        simp
      have := List.count_pos_iff.2 hmem
      omega
    exact ⟨hr, hend _ _ _ hi hr⟩
  | fuel + 1, listed, a, w, hc, hi => by
    refine ⟨fun hr => hend _ _ _ hi hr, fun i hm => wpOp_mono (fun a' w' h' => ⟨hS _ _ _ h', wpAnyH_inv hS hstep hend fuel _ a' w' ?_ h'⟩) (hstep _ _ _ _ hi hm)⟩
    have h0 := (mem_ready.1 hm).1
    have hlt : i < listed.size := by
      rcases Nat.lt_or_ge i listed.size with h | h
      · exact h
      · simp [Array.getD, Nat.not_lt.2 h] at h0
    have he : listed[i] = false := by simpa [Array.getD, hlt] using h0
    have hp : 0 < listed.toList.count false := List.count_pos_iff.2 (by rw [← he]; simp)
    have : (listed.setIfInBounds i true).toList.count false = listed.toList.count false - 1 := by
      rw [Array.toList_setIfInBounds, List.count_set (by simpa using hlt)]
      simp [he]
    omega
end

section
variable {base : Nat} {w : World} {k : Nat} {R R' : RefM}
theorem make_rows (n : Nat) (hn : n ≤ 1000000) (w : World) : (Instr.makeSlice 51 (.int .i64 (n : Int)) (.int .i64 (n : Int))).run Try.prog w = .ok (.slice (some ⟨w.heap.size, 0, none⟩) n n) (w.alloc (.cells (madeCells #[.slice none 0 0] n) 32)) :=
  run_make_row' 51 32 (.slice none 0 0) 24 Try.underlying51 pages_info rfl .i64 .i64 n (by omega) (by omega) w
theorem make_ints (n : Nat) (hn : n ≤ 1000000) (w : World) : (Instr.makeSlice 24 (.int .i64 (n : Int)) (.int .i64 (n : Int))).run Try.prog w = .ok (.slice (some ⟨w.heap.size, 0, none⟩) n n) (w.alloc (.cells (madeCells #[vi 0] n) 3)) :=
  run_make_row' 24 3 (vi 0) 8 Try.underlying24 int_info rfl .i64 .i64 n (by omega) (by omega) w
theorem make_bools (n : Nat) (hn : n ≤ 1000000) (w : World) : (Instr.makeSlice 52 (.int .i64 (n : Int)) (.int .i64 (n : Int))).run Try.prog w = .ok (.slice (some ⟨w.heap.size, 0, none⟩) n n) (w.alloc (.cells (madeCells #[.bool false] n) 4)) :=
  run_make_row' 52 4 (.bool false) 1 Try.underlying52 bool_info rfl .i64 .i64 n (by omega) (by omega) w

abbrev sl (g n : Nat) : Value := .slice (some ⟨g, 0, none⟩) n n
/-- Memory of a chip made anew. -/
structure BlankMem (w : World) (b p s : Nat) (kk g1 g2 g3 g4 g5 : Nat) (w' : World) : Prop where
  chip : Blk w' kk 107 #[vi b, vi p, vi s, sl g1 (b * p), sl g2 b, sl g3 b, sl g4 b, sl g5 b, .slice none 0 0, vi 0, .bool false, vi 0, vi 0]
  b1 : Blk w' g1 32 (madeCells #[.slice none 0 0] (b * p))
  b2 : Blk w' g2 3 (madeCells #[vi 0] b)
  b3 : Blk w' g3 4 (madeCells #[.bool false] b)
  b4 : Blk w' g4 4 (madeCells #[.bool false] b)
  b5 : Blk w' g5 3 (madeCells #[vi 0] b)
  below : Below w.heap.size w w'
  new : w.heap.size ≤ kk ∧ w.heap.size ≤ g1 ∧ w.heap.size ≤ g2 ∧ w.heap.size ≤ g3 ∧ w.heap.size ≤ g4 ∧ w.heap.size ≤ g5
  ne : g3 ≠ g4 ∧ g2 ≠ g5
/-- A row that was made, or will be. -/
def Row (w : World) (t : TypeId) (cs : Array Value) (n : Nat) (m : Bool) (v : Value) (w' : World) : Prop := m = true → ∃ g, v = sl g n ∧ Blk w' g t cs ∧ w.heap.size ≤ g
theorem Row.alloc {t : TypeId} {cs : Array Value} {n : Nat} {m : Bool} {v : Value} {w' : World} (h : Row w t cs n m v w') (o : Obj) : Row w t cs n m v (w'.alloc o) := fun hm =>
  let ⟨g, h1, h2, h3⟩ := h hm
  ⟨g, h1, h2.alloc o, h3⟩
theorem Row.new {t : TypeId} {cs : Array Value} {n : Nat} {w' : World} (hb : Below w.heap.size w w') : Row w t cs n true (sl w'.heap.size n) (w'.alloc (.cells cs t)) := fun _ => ⟨_, rfl, Blk.new _ _ _, hb.size⟩
theorem Row.ne {t : TypeId} {cs : Array Value} {n : Nat} {m : Bool} {v : Value} {w' : World} (h : Row w t cs n m v w') (hm : m = true) : v ≠ sl w'.heap.size n := by
  obtain ⟨g, rfl, h2, _⟩ := h hm
  intro e
  injection e with e
  injection e with e
  injection e with e
  have := h2.lt
  omega
/-- The rows that were made so far. -/
structure BMk (w : World) (g b p s : Nat) (m1 m2 m3 m4 m5 : Bool) (v1 v2 v3 v4 v5 : Value) (w' : World) : Prop where
  geo : w'.cell? ⟨g, 0, none⟩ = some (vi b) ∧ w'.cell? ⟨g, 1, none⟩ = some (vi p) ∧ w'.cell? ⟨g, 2, none⟩ = some (vi s)
  below : Below w.heap.size w w'
  r1 : Row w 32 (madeCells #[.slice none 0 0] (b * p)) (b * p) m1 v1 w'
  r2 : Row w 3 (madeCells #[vi 0] b) b m2 v2 w'
  r3 : Row w 4 (madeCells #[.bool false] b) b m3 v3 w'
  r4 : Row w 4 (madeCells #[.bool false] b) b m4 v4 w'
  r5 : Row w 3 (madeCells #[vi 0] b) b m5 v5 w'
  d1 : m3 = true → m4 = true → v3 ≠ v4
  d2 : m2 = true → m5 = true → v2 ≠ v5
section
variable {g b p s : Nat} {m1 m2 m3 m4 m5 : Bool} {v1 v2 v3 v4 v5 : Value} {w' : World}
theorem cell_alloc' {a : Addr} {v : Value} (h : w.cell? a = some v) (o : Obj) : (w.alloc o).cell? a = some v := cell_below h ((Below.refl _ _).alloc (Nat.le_refl _) o)
theorem BMk.alloc (h : BMk w g b p s m1 m2 m3 m4 m5 v1 v2 v3 v4 v5 w') (o : Obj) : BMk w g b p s m1 m2 m3 m4 m5 v1 v2 v3 v4 v5 (w'.alloc o) :=
  ⟨⟨cell_alloc' h.geo.1 o, cell_alloc' h.geo.2.1 o, cell_alloc' h.geo.2.2 o⟩, h.below.alloc h.below.size o, h.r1.alloc o, h.r2.alloc o, h.r3.alloc o, h.r4.alloc o, h.r5.alloc o, h.d1, h.d2⟩
theorem BMk.mk1 (h : BMk w g b p s m1 m2 m3 m4 m5 v1 v2 v3 v4 v5 w') : BMk w g b p s true m2 m3 m4 m5 (sl w'.heap.size (b * p)) v2 v3 v4 v5 (w'.alloc (.cells (madeCells #[.slice none 0 0] (b * p)) 32)) :=
  { h.alloc _ with r1 := Row.new h.below }
theorem BMk.mk2 (h : BMk w g b p s m1 m2 m3 m4 m5 v1 v2 v3 v4 v5 w') : BMk w g b p s m1 true m3 m4 m5 v1 (sl w'.heap.size b) v3 v4 v5 (w'.alloc (.cells (madeCells #[vi 0] b) 3)) :=
  { h.alloc _ with r2 := Row.new h.below, d2 := fun _ hm => (h.r5.ne hm).symm }
theorem BMk.mk3 (h : BMk w g b p s m1 m2 m3 m4 m5 v1 v2 v3 v4 v5 w') : BMk w g b p s m1 m2 true m4 m5 v1 v2 (sl w'.heap.size b) v4 v5 (w'.alloc (.cells (madeCells #[.bool false] b) 4)) :=
  { h.alloc _ with r3 := Row.new h.below, d1 := fun _ hm => (h.r4.ne hm).symm }
theorem BMk.mk4 (h : BMk w g b p s m1 m2 m3 m4 m5 v1 v2 v3 v4 v5 w') : BMk w g b p s m1 m2 m3 true m5 v1 v2 v3 (sl w'.heap.size b) v5 (w'.alloc (.cells (madeCells #[.bool false] b) 4)) :=
  { h.alloc _ with r4 := Row.new h.below, d1 := fun hm _ => h.r3.ne hm }
theorem BMk.mk5 (h : BMk w g b p s m1 m2 m3 m4 m5 v1 v2 v3 v4 v5 w') : BMk w g b p s m1 m2 m3 m4 true v1 v2 v3 v4 (sl w'.heap.size b) (w'.alloc (.cells (madeCells #[vi 0] b) 3)) :=
  { h.alloc _ with r5 := Row.new h.below, d2 := fun hm _ => h.r2.ne hm }
end

/-- What holds of all that has come up. -/
structure BSt (w : World) (g b p s : Nat) (m1 m2 m3 m4 m5 m6 m7 m8 : Bool) (v1 v2 v3 v4 v5 v6 v7 v8 : Value) (w' : World) : Prop where
  rows : BMk w g b p s m1 m2 m3 m4 m5 v1 v2 v3 v4 v5 w'
  f6 : m6 = true → (m1 = true ∧ m2 = true ∧ m3 = true ∧ m4 = true ∧ m5 = true) ∧ v6 = .agg #[vi b, vi p, vi s, v1, v2, v3, v4, v5, .slice none 0 0, vi 0, .bool false, vi 0, vi 0]
  f7 : m7 = true → m6 = true ∧ ∃ kk, v7 = ptr kk ∧ Blk w' kk 107 #[vi b, vi p, vi s, v1, v2, v3, v4, v5, .slice none 0 0, vi 0, .bool false, vi 0, vi 0] ∧ w.heap.size ≤ kk
  f8 : m8 = true → m7 = true ∧ v8 = v7
def BInv (w : World) (g b p s : Nat) (listed : Array Bool) (a : Act) (w' : World) : Prop :=
  ∃ m1 m2 m3 m4 m5 m6 m7 m8 v1 v2 v3 v4 v5 v6 v7 v8, listed = #[true, true, true, true, true, true, m1, true, true, m2, true, true, m3, true, true, m4, true, true, m5, m6, m7, m8] ∧
    a = { tmps := #[.agg #[vi b, vi p, vi s], .pointer (some ⟨g, 0, none⟩), v8, .agg #[vi b, vi p, vi s], .pointer (some ⟨g, 0, none⟩), vi b, .pointer (some ⟨g, 1, none⟩), vi p, vi ((b : Int) * p), v1, .pointer (some ⟨g, 0, none⟩), vi b, v2, .pointer (some ⟨g, 0, none⟩), vi b, v3, .pointer (some ⟨g, 0, none⟩), vi b, v4, .pointer (some ⟨g, 0, none⟩), vi b, v5, v6, v7], defers := [] } ∧
    BSt w g b p s m1 m2 m3 m4 m5 m6 m7 m8 v1 v2 v3 v4 v5 v6 v7 v8 w'

section
variable {g b p s : Nat} {m1 m2 m3 m4 m5 m6 m7 m8 : Bool} {v1 v2 v3 v4 v5 v6 v7 v8 : Value} {w' w'' : World}
theorem BSt.row (h : BSt w g b p s m1 m2 m3 m4 m5 m6 m7 m8 v1 v2 v3 v4 v5 v6 v7 v8 w') (hno : ¬ (m1 = true ∧ m2 = true ∧ m3 = true ∧ m4 = true ∧ m5 = true)) {m1' m2' m3' m4' m5' : Bool} {v1' v2' v3' v4' v5' : Value}
    (hr : BMk w g b p s m1' m2' m3' m4' m5' v1' v2' v3' v4' v5' w'') : BSt w g b p s m1' m2' m3' m4' m5' m6 m7 m8 v1' v2' v3' v4' v5' v6 v7 v8 w'' :=
  have hm6 : m6 = true → False := fun hm => hno (h.f6 hm).1
  ⟨hr, fun hm => (hm6 hm).elim, fun hm => (hm6 (h.f7 hm).1).elim, fun hm => (hm6 (h.f7 (h.f8 hm).1).1).elim⟩
theorem BSt.six (h : BSt w g b p s m1 m2 m3 m4 m5 false m7 m8 v1 v2 v3 v4 v5 v6 v7 v8 w') (ha : m1 = true ∧ m2 = true ∧ m3 = true ∧ m4 = true ∧ m5 = true) :
    BSt w g b p s m1 m2 m3 m4 m5 true m7 m8 v1 v2 v3 v4 v5 (.agg #[vi b, vi p, vi s, v1, v2, v3, v4, v5, .slice none 0 0, vi 0, .bool false, vi 0, vi 0]) v7 v8 w' :=
  have hm7 : m7 = true → False := fun hm => by have := (h.f7 hm).1; cases this
  ⟨h.rows, fun _ => ⟨ha, rfl⟩, fun hm => (hm7 hm).elim, fun hm => (hm7 (h.f8 hm).1).elim⟩
theorem BSt.seven (h : BSt w g b p s m1 m2 m3 m4 m5 m6 false m8 v1 v2 v3 v4 v5 v6 v7 v8 w') (ha : m6 = true) :
    BSt w g b p s m1 m2 m3 m4 m5 m6 true m8 v1 v2 v3 v4 v5 v6 (ptr w'.heap.size) v8 (w'.alloc (.cells #[vi b, vi p, vi s, v1, v2, v3, v4, v5, .slice none 0 0, vi 0, .bool false, vi 0, vi 0] 107)) :=
  ⟨h.rows.alloc _, h.f6, fun _ => ⟨ha, _, rfl, Blk.new _ _ _, h.rows.below.size⟩, fun hm => by have := (h.f8 hm).1; cases this⟩
theorem BSt.eight (h : BSt w g b p s m1 m2 m3 m4 m5 m6 m7 m8 v1 v2 v3 v4 v5 v6 v7 v8 w') (ha : m7 = true) :
    BSt w g b p s m1 m2 m3 m4 m5 m6 m7 true v1 v2 v3 v4 v5 v6 v7 v7 w' := ⟨h.rows, h.f6, h.f7, fun _ => ⟨ha, rfl⟩⟩
end

set_option maxRecDepth 100000 in
set_option maxHeartbeats 4000000 in
theorem rblank_any (b p s : Nat) (hb : b ≤ 128) (hp : p ≤ 32) (w : World) : Calls Try.prog 64 #[.agg #[vi b, vi p, vi s]] w fun e w' => ∃ kk g1 g2 g3 g4 g5, e = .returned (ptr kk) ∧ BlankMem w b p s kk g1 g2 g3 g4 g5 w' := by
  have F0 := Blk.new w 23 #[vi b, vi p, vi s]
  have HB := Lib.hid ((Below.refl w.heap.size w).alloc (Nat.le_refl _) (.cells #[vi b, vi p, vi s] 23))
  have hm : b * p ≤ 4096 := Nat.le_trans (Nat.mul_le_mul hb hp) (by decide)
  have q1 : IntKind.i64.wrap ((b : Int) * (p : Int)) = ((b : Int) * (p : Int)) := IntWalk.i64_in _ (by omega)
  have m1 := make_rows (b * p) (by omega)
  have m2 := make_ints b (by omega)
  have m3 := make_bools b (by omega)
  rw [Int.natCast_mul] at m1
  go_enter Try.func64, Try.ntmps64
  go_upto_region 1 with fail
  generalize w.alloc (.cells #[vi b, vi p, vi s] 23) = w1 at *
  have S1 : w1.drew.cell? ⟨w.heap.size, 0, none⟩ = some (vi b) ∧ w1.drew.cell? ⟨w.heap.size, 1, none⟩ = some (vi p) ∧ w1.drew.cell? ⟨w.heap.size, 2, none⟩ = some (vi s) := ⟨F0.cell 0, F0.cell 1, F0.cell 2⟩
  generalize hg : w.heap.size = g at *
  have HG := Lib.hid hg
  clear F0 hg hm hb hp
  refine wp_region_held_drew (S := fun w' => w'.cell? ⟨g, 0, none⟩ = some (vi b) ∧ w'.cell? ⟨g, 1, none⟩ = some (vi p) ∧ w'.cell? ⟨g, 2, none⟩ = some (vi s)) (by kernel_rfl) S1 (fun hHeld => ?_)
  change wpAnyH _ _ _ _ _ 22 #[false, false, false, false, false, false, false, false, false, false, false, false, false, false, false, false, false, false, false, false, false, false] _ _
  refine wpAnyH_take (i := 0) (oi := ⟨some 3, _, _, _, _, _⟩) (v := ?_) rfl (by kernel_rfl) (by kernel_rfl) (by kernel_rfl) (fun _ _ _ h => h) (Or.inl ⟨by rfl, ?_⟩) (by assumption) ?_
  rotate_left
  · intro w hSw; (try dsimp only at hSw); go_simp; (try with_reducible rfl)
  simp only [Act.put, List.setIfInBounds_toArray, List.set_cons_zero, List.set_cons_succ]
  refine wpAnyH_take (i := 1) (oi := ⟨some 4, _, _, _, _, _⟩) (v := ?_) rfl (by kernel_rfl) (by kernel_rfl) (by kernel_rfl) (fun _ _ _ h => h) (Or.inl ⟨by rfl, ?_⟩) (by assumption) ?_
  rotate_left
  · intro w hSw; (try dsimp only at hSw); go_simp; (try with_reducible rfl)
  simp only [Act.put, List.setIfInBounds_toArray, List.set_cons_zero, List.set_cons_succ]
  refine wpAnyH_take (i := 3) (oi := ⟨some 6, _, _, _, _, _⟩) (v := ?_) rfl (by kernel_rfl) (by kernel_rfl) (by kernel_rfl) (fun _ _ _ h => h) (Or.inl ⟨by rfl, ?_⟩) (by assumption) ?_
  rotate_left
  · intro w hSw; (try dsimp only at hSw); go_simp; (try with_reducible rfl)
  simp only [Act.put, List.setIfInBounds_toArray, List.set_cons_zero, List.set_cons_succ]
  refine wpAnyH_take (i := 7) (oi := ⟨some 10, _, _, _, _, _⟩) (v := ?_) rfl (by kernel_rfl) (by kernel_rfl) (by kernel_rfl) (fun _ _ _ h => h) (Or.inl ⟨by rfl, ?_⟩) (by assumption) ?_
  rotate_left
  · intro w hSw; (try dsimp only at hSw); go_simp; (try with_reducible rfl)
  simp only [Act.put, List.setIfInBounds_toArray, List.set_cons_zero, List.set_cons_succ]
  refine wpAnyH_take (i := 10) (oi := ⟨some 13, _, _, _, _, _⟩) (v := ?_) rfl (by kernel_rfl) (by kernel_rfl) (by kernel_rfl) (fun _ _ _ h => h) (Or.inl ⟨by rfl, ?_⟩) (by assumption) ?_
  rotate_left
  · intro w hSw; (try dsimp only at hSw); go_simp; (try with_reducible rfl)
  simp only [Act.put, List.setIfInBounds_toArray, List.set_cons_zero, List.set_cons_succ]
  refine wpAnyH_take (i := 13) (oi := ⟨some 16, _, _, _, _, _⟩) (v := ?_) rfl (by kernel_rfl) (by kernel_rfl) (by kernel_rfl) (fun _ _ _ h => h) (Or.inl ⟨by rfl, ?_⟩) (by assumption) ?_
  rotate_left
  · intro w hSw; (try dsimp only at hSw); go_simp; (try with_reducible rfl)
  simp only [Act.put, List.setIfInBounds_toArray, List.set_cons_zero, List.set_cons_succ]
  refine wpAnyH_take (i := 16) (oi := ⟨some 19, _, _, _, _, _⟩) (v := ?_) rfl (by kernel_rfl) (by kernel_rfl) (by kernel_rfl) (fun _ _ _ h => h) (Or.inl ⟨by rfl, ?_⟩) (by assumption) ?_
  rotate_left
  · intro w hSw; (try dsimp only at hSw); go_simp; (try with_reducible rfl)
  simp only [Act.put, List.setIfInBounds_toArray, List.set_cons_zero, List.set_cons_succ]
  refine wpAnyH_take (i := 2) (oi := ⟨some 5, _, _, _, _, _⟩) (v := ?_) rfl (by kernel_rfl) (by kernel_rfl) (by kernel_rfl) (fun _ _ _ h => h) (Or.inl ⟨by rfl, ?_⟩) (by assumption) ?_
  rotate_left
  · intro w hSw; (try dsimp only at hSw); go_simp; (try with_reducible rfl)
  simp only [Act.put, List.setIfInBounds_toArray, List.set_cons_zero, List.set_cons_succ]
  refine wpAnyH_take (i := 4) (oi := ⟨some 7, _, _, _, _, _⟩) (v := ?_) rfl (by kernel_rfl) (by kernel_rfl) (by kernel_rfl) (fun _ _ _ h => h) (Or.inl ⟨by rfl, ?_⟩) (by assumption) ?_
  rotate_left
  · intro w hSw; (try dsimp only at hSw); go_simp; (try with_reducible rfl)
  simp only [Act.put, List.setIfInBounds_toArray, List.set_cons_zero, List.set_cons_succ]
  refine wpAnyH_take (i := 8) (oi := ⟨some 11, _, _, _, _, _⟩) (v := ?_) rfl (by kernel_rfl) (by kernel_rfl) (by kernel_rfl) (fun _ _ _ h => h) (Or.inl ⟨by rfl, ?_⟩) (by assumption) ?_
  rotate_left
  · intro w hSw; (try dsimp only at hSw); go_simp; (try with_reducible rfl)
  simp only [Act.put, List.setIfInBounds_toArray, List.set_cons_zero, List.set_cons_succ]
  refine wpAnyH_take (i := 11) (oi := ⟨some 14, _, _, _, _, _⟩) (v := ?_) rfl (by kernel_rfl) (by kernel_rfl) (by kernel_rfl) (fun _ _ _ h => h) (Or.inl ⟨by rfl, ?_⟩) (by assumption) ?_
  rotate_left
  · intro w hSw; (try dsimp only at hSw); go_simp; (try with_reducible rfl)
  simp only [Act.put, List.setIfInBounds_toArray, List.set_cons_zero, List.set_cons_succ]
  refine wpAnyH_take (i := 14) (oi := ⟨some 17, _, _, _, _, _⟩) (v := ?_) rfl (by kernel_rfl) (by kernel_rfl) (by kernel_rfl) (fun _ _ _ h => h) (Or.inl ⟨by rfl, ?_⟩) (by assumption) ?_
  rotate_left
  · intro w hSw; (try dsimp only at hSw); go_simp; (try with_reducible rfl)
  simp only [Act.put, List.setIfInBounds_toArray, List.set_cons_zero, List.set_cons_succ]
  refine wpAnyH_take (i := 17) (oi := ⟨some 20, _, _, _, _, _⟩) (v := ?_) rfl (by kernel_rfl) (by kernel_rfl) (by kernel_rfl) (fun _ _ _ h => h) (Or.inl ⟨by rfl, ?_⟩) (by assumption) ?_
  rotate_left
  · intro w hSw; (try dsimp only at hSw); go_simp; (try with_reducible rfl)
  simp only [Act.put, List.setIfInBounds_toArray, List.set_cons_zero, List.set_cons_succ]
  refine wpAnyH_take (i := 5) (oi := ⟨some 8, _, _, _, _, _⟩) (v := ?_) rfl (by kernel_rfl) (by kernel_rfl) (by kernel_rfl) (fun _ _ _ h => h) (Or.inl ⟨by rfl, ?_⟩) (by assumption) ?_
  rotate_left
  · intro w hSw; (try dsimp only at hSw); go_simp; (try with_reducible rfl)
  simp only [Act.put, List.setIfInBounds_toArray, List.set_cons_zero, List.set_cons_succ]
  change wpAnyH _ _ _ _ _ 8 #[true, true, true, true, true, true, false, true, true, false, true, true, false, true, true, false, true, true, false, false, false, false]
    { tmps := #[.agg #[vi b, vi p, vi s], .pointer (some ⟨g, 0, none⟩), .pointer none, .agg #[vi b, vi p, vi s], .pointer (some ⟨g, 0, none⟩), vi b, .pointer (some ⟨g, 1, none⟩), vi p, vi ((b : Int) * p), undef, .pointer (some ⟨g, 0, none⟩), vi b, undef, .pointer (some ⟨g, 0, none⟩), vi b, undef, .pointer (some ⟨g, 0, none⟩), vi b, undef, .pointer (some ⟨g, 0, none⟩), vi b, undef, undef, undef], defers := [] } w1.drew
  refine wpAnyH_inv (I := BInv w g b p s) ?_ ?_ ?_ _ _ _ _ (by decide) ?_
  · rintro listed a w' ⟨m1, m2, m3, m4, m5, m6, m7, m8, v1, v2, v3, v4, v5, v6, v7, v8, rfl, rfl, hI⟩
    exact hI.rows.geo
  · rintro listed a w' i ⟨m1', m2', m3', m4', m5', m6', m7', m8', v1, v2, v3, v4, v5, v6, v7, v8, rfl, rfl, hI⟩ hi
    obtain ⟨h0, o, ho, hall⟩ := mem_ready.1 hi
    clear hi S1 hHeld
    have HI := Lib.hid hI
    clear hI
    rcases i with _ | _ | _ | _ | _ | _ | _ | _ | _ | _ | _ | _ | _ | _ | _ | _ | _ | _ | _ | _ | _ | _ | i
    case succ.succ.succ.succ.succ.succ.succ.succ.succ.succ.succ.succ.succ.succ.succ.succ.succ.succ.succ.succ.succ.succ => simp at ho
    all_goals first | (exfalso; simp at h0; done) | skip
    all_goals (injection ho with ho; subst ho; simp [Region.binds] at hall)
    case' succ.succ.succ.succ.succ.succ.zero =>
      simp at h0; subst h0
      refine wpOp_step rfl (fun K hK => ?_)
      go_simp
      exact hK _ _ ⟨_, _, _, _, _, _, _, _, _, _, _, _, _, _, _, _, rfl, rfl, HI.out.row (by simp) HI.out.rows.mk1⟩
    case' succ.succ.succ.succ.succ.succ.succ.succ.succ.zero =>
      simp at h0; subst h0
      refine wpOp_step rfl (fun K hK => ?_)
      go_simp
      exact hK _ _ ⟨_, _, _, _, _, _, _, _, _, _, _, _, _, _, _, _, rfl, rfl, HI.out.row (by simp) HI.out.rows.mk2⟩
    case' succ.succ.succ.succ.succ.succ.succ.succ.succ.succ.succ.succ.zero =>
      simp at h0; subst h0
      refine wpOp_step rfl (fun K hK => ?_)
      go_simp
      exact hK _ _ ⟨_, _, _, _, _, _, _, _, _, _, _, _, _, _, _, _, rfl, rfl, HI.out.row (by simp) HI.out.rows.mk3⟩
    case' succ.succ.succ.succ.succ.succ.succ.succ.succ.succ.succ.succ.succ.succ.succ.zero =>
      simp at h0; subst h0
      refine wpOp_step rfl (fun K hK => ?_)
      go_simp
      exact hK _ _ ⟨_, _, _, _, _, _, _, _, _, _, _, _, _, _, _, _, rfl, rfl, HI.out.row (by simp) HI.out.rows.mk4⟩
    case' succ.succ.succ.succ.succ.succ.succ.succ.succ.succ.succ.succ.succ.succ.succ.succ.succ.succ.zero =>
      simp at h0; subst h0
      refine wpOp_step rfl (fun K hK => ?_)
      go_simp
      exact hK _ _ ⟨_, _, _, _, _, _, _, _, _, _, _, _, _, _, _, _, rfl, rfl, HI.out.row (by simp) HI.out.rows.mk5⟩
    case' succ.succ.succ.succ.succ.succ.succ.succ.succ.succ.succ.succ.succ.succ.succ.succ.succ.succ.succ.zero =>
      simp at h0; subst h0
      obtain ⟨h1, h2, h3, h4, h5⟩ := hall
      obtain ⟨g1, rfl, -, -⟩ := HI.out.rows.r1 h1
      obtain ⟨g2, rfl, -, -⟩ := HI.out.rows.r2 h2
      obtain ⟨g3, rfl, -, -⟩ := HI.out.rows.r3 h3
      obtain ⟨g4, rfl, -, -⟩ := HI.out.rows.r4 h4
      obtain ⟨g5, rfl, -, -⟩ := HI.out.rows.r5 h5
      refine wpOp_step rfl (fun K hK => ?_)
      go_simp
      exact hK _ _ ⟨_, _, _, _, _, _, _, _, _, _, _, _, _, _, _, _, rfl, rfl, HI.out.six ⟨h1, h2, h3, h4, h5⟩⟩
    case' succ.succ.succ.succ.succ.succ.succ.succ.succ.succ.succ.succ.succ.succ.succ.succ.succ.succ.succ.succ.zero =>
      simp at h0; subst h0
      obtain ⟨_, hv6⟩ := HI.out.f6 hall
      subst hv6
      refine wpOp_step rfl (fun K hK => ?_)
      go_simp
      exact hK _ _ ⟨_, _, _, _, _, _, _, _, _, _, _, _, _, _, _, _, rfl, rfl, HI.out.seven hall⟩
    case' succ.succ.succ.succ.succ.succ.succ.succ.succ.succ.succ.succ.succ.succ.succ.succ.succ.succ.succ.succ.succ.zero =>
      simp at h0; subst h0
      refine wpOp_step rfl (fun K hK => ?_)
      go_simp
      exact hK _ _ ⟨_, _, _, _, _, _, _, _, _, _, _, _, _, _, _, _, rfl, rfl, HI.out.eight hall.1⟩
  · rintro listed a w' ⟨m1, m2, m3, m4, m5, m6, m7, m8, v1, v2, v3, v4, v5, v6, v7, v8, rfl, rfl, hI⟩ hr
    have hno : ∀ i, i ∉ Region.ready Region.Mode.any _ _ := fun i hi => by rw [hr] at hi; cases hi
    have hno6 := hno 6
    have hno9 := hno 9
    have hno12 := hno 12
    have hno15 := hno 15
    have hno18 := hno 18
    have hno19 := hno 19
    have hno20 := hno 20
    have hno21 := hno 21
    clear hno hr
    simp [mem_ready, Region.binds] at hno6 hno9 hno12 hno15 hno18 hno19 hno20 hno21
    have h6 : m6 = true := by
      cases m6
      · have := hno19 rfl hno6 hno9 hno12 hno15; rw [hno18] at this; cases this
      · rfl
    have h7 : m7 = true := by
      cases m7
      · have := hno20 rfl; rw [h6] at this; cases this
      · rfl
    have h8 : m8 = true := by
      cases m8
      · have := hno21 rfl h7 hno6 hno9 hno12 hno15 hno18 h6; rw [h7] at this; cases this
      · rfl
    obtain ⟨g1, e1, t1, l1⟩ := hI.rows.r1 hno6
    obtain ⟨g2, e2, t2, l2⟩ := hI.rows.r2 hno9
    obtain ⟨g3, e3, t3, l3⟩ := hI.rows.r3 hno12
    obtain ⟨g4, e4, t4, l4⟩ := hI.rows.r4 hno15
    obtain ⟨g5, e5, t5, l5⟩ := hI.rows.r5 hno18
    obtain ⟨-, kk, e7, t7, l7⟩ := hI.f7 h7
    obtain ⟨-, e8⟩ := hI.f8 h8
    have d1 := hI.rows.d1 hno12 hno15
    have d2 := hI.rows.d2 hno9 hno18
    have hbl := hI.rows.below
    subst e8
    subst e7
    rw [e3, e4] at d1
    rw [e2, e5] at d2
    rw [e1, e2, e3, e4, e5] at t7
    have HM := Lib.hid (show BlankMem w b p s kk g1 g2 g3 g4 g5 w' from ⟨t7, t1, t2, t3, t4, t5, hbl, ⟨l7, l1, l2, l3, l4, l5⟩, fun e => d1 (by rw [e]), fun e => d2 (by rw [e])⟩)
    clear d1 d2 t1 t2 t3 t4 t5 t7 hbl hI hno6 hno9 hno12 hno15 hno18 hno19 hno20 hno21 h6 h7 h8 S1 hHeld
    subst e1 e2 e3 e4 e5
    go_wp2_with fail
    go_ret
    exact ⟨kk, g1, g2, g3, g4, g5, rfl, HM.out⟩
  · refine ⟨false, false, false, false, false, false, false, false, _, _, _, _, _, _, _, _, rfl, rfl, ⟨⟨S1, ?_, ?_, ?_, ?_, ?_, ?_, ?_, ?_⟩, ?_, ?_, ?_⟩⟩
    · rw [HG.out]; exact HB.out.drew
    all_goals (intro h; cases h)
end

end Go.Proofs.Ytpggkehfbhffbaa

/-
  The document's chip made anew, with blocks that are bad. No conditions of its own.
-/
namespace Go.Proofs.Ytpggkehfbhffbaa
open Go.RowKit

theorem Arr.of_made {w : World} {g n : Nat} {t : TypeId} {v : Value} (h : Blk w g t (madeCells #[v] n)) (hn : n ≤ 1000000) : Arr w t 1 g n n (List.replicate n v) := by
  refine ⟨by simp, .inr ⟨g, n, _, rfl, Nat.zero_le _, h, Nat.le_refl _, by unfold maxLen; omega, by simp [madeCells], ?_⟩⟩
  rw [toList_madeCells_one]
  exact List.take_of_length_le (by simp)
theorem getD_rep {α : Type} (n : Nat) (d : α) (i : Nat) : (List.replicate n d).getD i d = d := by
  rw [List.getD_eq_getElem?_getD, List.getElem?_replicate]
  split <;> rfl
/-- A document's chip that was made in this call. -/
structure RMadeAt (base : Nat) (w : World) (k : Nat) (R : RefM) (w' : World) : Prop where
  at_ : RefAt base w' k R
  below : Below w.heap.size w w'
  own : ∀ n, R.foot k n → w.heap.size ≤ n
theorem RMadeAt.goes {base : Nat} {w wr w' : World} {k : Nat} {R R' : RefM} (h : RMadeAt base w k R wr) (g : RGoes base wr k R w' R') : RMadeAt base w k R' w' :=
  ⟨g.at_, h.below.trans (g.chg.to_below (fun n _ hn => h.own n hn) h.below.size), fun n hn => by
    rcases g.foot n hn with h1 | h1
    · exact h.own n h1
    · exact Nat.le_trans h.below.size h1⟩
theorem RMadeAt.more {base : Nat} {w0 w wr : World} {k : Nat} {R : RefM} (h : RMadeAt base w k R wr) (q : Below w0.heap.size w0 w) : RMadeAt base w0 k R wr :=
  ⟨h.at_, q.trans (h.below.mono q.size), fun n hn => Nat.le_trans q.size (h.own n hn)⟩
def blankR (b p s g1 g2 g3 g4 g5 : Nat) : RefM :=
  ⟨b, p, s, g1, b * p, List.replicate (b * p) default, g2, b, List.replicate b 0, g3, b, List.replicate b false, g4, b, List.replicate b false, g5, b, List.replicate b 0, none, [], 0, 0, false, 0, 0⟩
theorem blankR_view (b p s g1 g2 g3 g4 g5 : Nat) : (blankR b p s g1 g2 g3 g4 g5).view = NP.blank b p s := by
  have h : ∀ i, (blankR b p s g1 g2 g3 g4 g5).blo i = NP.blankB p := fun i => by
    show NP.Blo.mk ((List.range p).map fun q => ((List.replicate (b * p) (default : PgM)).getD (i * p + q) default).l) ((List.replicate b 0).getD i 0) ((List.replicate b false).getD i false) ((List.replicate b false).getD i false) ((List.replicate b (0 : Int)).getD i 0) = _
    simp only [getD_rep]
    unfold NP.blankB
    congr 1
    rw [show (fun _ : Nat => (default : PgM).l) = fun _ => [] from rfl, List.map_const', List.length_range]
  unfold RefM.view NP.blank
  congr 1
  rw [show (blankR b p s g1 g2 g3 g4 g5).blo = fun _ => NP.blankB p from funext h, List.map_const', List.length_range]
  rfl
theorem BlankMem.made {base : Nat} {w w' : World} {b p s kk g1 g2 g3 g4 g5 : Nat} (h : BlankMem w b p s kk g1 g2 g3 g4 g5 w') (hb : b ≤ 128) (hp : p ≤ 32) (hbase : base ≤ w.heap.size) :
    RMadeAt base w kk (blankR b p s g1 g2 g3 g4 g5) w' := by
  have hm : b * p ≤ 4096 := Nat.le_trans (Nat.mul_le_mul hb hp) (by decide)
  obtain ⟨n0, n1, n2, n3, n4, n5⟩ := h.new
  have hlow : ∀ n, (blankR b p s g1 g2 g3 g4 g5).foot kk n → w.heap.size ≤ n := by
    rintro n (rfl | rfl | rfl | rfl | rfl | rfl)
    · exact n0
    · exact n1
    · exact n2
    · exact n3
    · exact n4
    · exact n5
  refine ⟨⟨?_, ?_, ?_, ?_, ?_, ?_, h.ne.1, h.ne.2, ?_, FRow.nil _ _ _, fun n hn => Nat.le_trans hbase (hlow n hn), ?_, ?_, ?_, ?_, ?_⟩, h.below, hlow⟩
  · have := h.chip
    simpa [RefM.cs, blankR] using this
  · have := Arr.of_made h.b1 (by omega)
    simp only [blankR, List.length_replicate, List.map_replicate]
    exact this
  · have := Arr.of_made h.b2 (by omega)
    simpa [blankR] using this
  · have := Arr.of_made h.b3 (by omega)
    simpa [blankR] using this
  · have := Arr.of_made h.b4 (by omega)
    simpa [blankR] using this
  · have := Arr.of_made h.b5 (by omega)
    simpa [blankR] using this
  · intro q hq
    rw [(List.mem_replicate.1 hq).2]
    exact PgM.ok.none _ _
  all_goals simp [blankR]

/-- What New answers. -/
def RNewPost (base : Nat) (w : World) (r : Option NP.Chp) (e : Ending) (w' : World) : Prop :=
  match r with
  | some V => ∃ k R, e = .returned (.tuple #[ptr k, vi 0]) ∧ RMadeAt base w k R w' ∧ R.view = V
  | none => e = .returned (.tuple #[.pointer none, vi 1]) ∧ Below w.heap.size w w'
theorem RNewPost.no {base : Nat} {w w' : World} {r : Option NP.Chp} (h : r = none) (hb : Below w.heap.size w w') : RNewPost base w r (.returned (.tuple #[.pointer none, vi 1])) w' := by
  rw [h]
  exact ⟨rfl, hb⟩
theorem RNewPost.yes {base : Nat} {w w' : World} {r : Option NP.Chp} {k : Nat} {R : RefM} (h : r = some R.view) (hm : RMadeAt base w k R w') : RNewPost base w r (.returned (.tuple #[ptr k, vi 0])) w' := by
  rw [h]
  exact ⟨k, R, rfl, hm, rfl⟩
def markR (R : RefM) (i : Nat) : RefM := { R with bd := R.bd.set i true }

set_option maxRecDepth 100000 in
set_option maxHeartbeats 4000000 in
theorem rNew_any (base : Nat) (b p s : Int) (a : Option Addr) (bad : List Int) (c : Nat) (w : World) (hr : IRow w a bad) (hl : bad.length ≤ 9223372036854775807) (hb : base ≤ w.heap.size) :
    Calls Try.prog 16 #[.agg #[vi b, vi p, vi s], .slice a bad.length c] w (RNewPost base w (NP.new b p s bad)) := by
  have HR := Lib.hid hr
  have g0 := Lib.hid (Blk.new w 23 #[vi b, vi p, vi s])
  have HB : Hid (Below w.heap.size w (w.alloc (.cells #[vi b, vi p, vi s] 23))) := Lib.hid ((Below.refl _ _).alloc (Nat.le_refl _) _)
  clear hr
  go_enter Try.func16, Try.ntmps16
  go_wp2_with fail
  generalize w.alloc (.cells #[vi b, vi p, vi s] 23) = w0 at *
  have c0 : w0.cell? ⟨w.heap.size, 0, none⟩ = some (vi b) := g0.out.cell 0
  have c1 : w0.cell? ⟨w.heap.size, 1, none⟩ = some (vi p) := g0.out.cell 1
  have c2 : w0.cell? ⟨w.heap.size, 2, none⟩ = some (vi s) := g0.out.cell 2
  refine (rRight_any b p s _).mono ?_
  rintro e w1 ⟨rfl, hb1⟩
  have g1 := Lib.hid (g0.out.old hb1)
  have HB1 := Lib.hid (HB.out.trans (hb1.mono HB.out.size))
  clear c0 c1 c2 hb1 g0 HB
  cases hrt : NP.rightB b p s
  · have HQ := Lib.hid (show NP.new b p s bad = none by rw [NP.new, if_neg (by rw [hrt]; simp)])
    clear hrt
    go_wp2_with fail
    go_ret2
    exact RNewPost.no HQ.out HB1.out
  · have HQ := Lib.hid (show NP.new b p s bad = NP.badTo (NP.blank b.toNat p.toNat s.toNat) bad by rw [NP.new, if_pos hrt])
    have hrt' := hrt
    simp only [NP.rightB, Bool.and_eq_true, decide_eq_true_eq, Bool.or_eq_true, beq_iff_eq] at hrt'
    obtain ⟨B, rfl⟩ : ∃ B : Nat, b = B := ⟨b.toNat, by omega⟩
    obtain ⟨P, rfl⟩ : ∃ P : Nat, p = P := ⟨p.toNat, by omega⟩
    obtain ⟨S, rfl⟩ : ∃ S : Nat, s = S := ⟨s.toNat, by omega⟩
    rw [Int.toNat_natCast, Int.toNat_natCast, Int.toNat_natCast] at HQ
    have HRT := Lib.hid hrt
    have hBB : B ≤ 128 := by omega
    have hPP : P ≤ 32 := by omega
    clear hrt hrt'
    have c0 : w1.cell? ⟨w.heap.size, 0, none⟩ = some (vi B) := g1.out.cell 0
    have c1 : w1.cell? ⟨w.heap.size, 1, none⟩ = some (vi P) := g1.out.cell 1
    have c2 : w1.cell? ⟨w.heap.size, 2, none⟩ = some (vi S) := g1.out.cell 2
    go_wp2_with fail
    refine (rblank_any B P S hBB hPP _).mono ?_
    rintro e w2 ⟨k, x1, x2, x3, x4, x5, rfl, hm⟩
    have HM := Lib.hid (hm.made (base := base) hBB hPP (Nat.le_trans hb HB1.out.size))
    have HLB : Hid ((blankR B P S x1 x2 x3 x4 x5).bd.length = B ∧ (blankR B P S x1 x2 x3 x4 x5).B = B) := Lib.hid ⟨List.length_replicate .., rfl⟩
    have HQ2 : Hid (NP.new B P S bad = NP.badTo (blankR B P S x1 x2 x3 x4 x5).view (bad.drop 0)) := Lib.hid (by rw [HQ.out, blankR_view, List.drop_zero])
    clear c0 c1 c2 hm HQ
    generalize blankR B P S x1 x2 x3 x4 x5 = R at *
    go_wp2_with fail
    go_loopw [7] (fun v wr => ∃ (i : Nat) (R : RefM), i ≤ bad.length ∧ v = vi i ∧ Hid (RMadeAt base w1 k R wr) ∧ Hid (R.bd.length = B ∧ R.B = B) ∧ Hid (NP.new B P S bad = NP.badTo R.view (bad.drop i))) (fun v _ => bad.length - (intOf v).toNat)
    case atStart => exact ⟨0, R, Nat.zero_le _, rfl, HM, HLB, HQ2⟩
    case round =>
      clear HM HLB HQ2 R
      obtain ⟨i, R, hi, rfl, HM, HLB, HQ⟩ := hrel
      by_cases hlt : i < bad.length
      · obtain ⟨ba, o, rfl, hx⟩ := (HR.out.below (HB1.out.trans (HM.out.below.mono HB1.out.size))).lookup hlt
        have hdr : bad.drop i = bad.getD i 0 :: bad.drop (i + 1) := by
          rw [List.drop_eq_getElem_cons hlt, List.getD_eq_getElem?_getD, List.getElem?_eq_getElem hlt]
          rfl
        have HDR := Lib.hid hdr
        clear hdr
        generalize bad.getD i 0 = x at *
        have hq0 : (0 : Int) ≤ (i : Int) := by omega
        have hq1 : (i : Int) < (bad.length : Int) := by omega
        have c0 : wr.cell? ⟨w.heap.size, 0, none⟩ = some (vi B) := (g1.out.below HM.out.below g1.out.lt).cell 0
        by_cases hx0 : 0 ≤ x
        · have hxd : decide (x < 0) = false := by simp; omega
          by_cases hx1 : x < B
          · have hxe : decide ((B : Int) ≤ x) = false := by simp; omega
            go_upto_region 7 with fail
            go_quiet (fail)
            have HM1 := Lib.hid (HM.out.goes (RGoes.of_old HM.out.at_ (below_drewN (Below.refl _ wr) nq)))
            obtain ⟨j, rfl⟩ : ∃ j : Nat, x = j := ⟨x.toNat, by omega⟩
            have hj : j < R.bd.length := by rw [HLB.out.1]; omega
            have hx2 : (wr.drewN nq).cell? ⟨ba, o + i, none⟩ = some (vi j) := cell_below hx (below_drewN (Below.refl _ wr) nq)
            clear hx c0
            generalize wr.drewN nq = wd at *
            have c6 : wd.cell? ⟨k, 6, none⟩ = some (.slice (some ⟨R.gd, 0, none⟩) R.bd.length R.cd) := HM1.out.at_.chip.cell 6
            have d6 : wd.cell? ⟨R.gd, j, none⟩ = some (.bool (R.bd.getD j false)) := HM1.out.at_.dcell hj
            have z6 : wd.frozen? ⟨R.gd, j, none⟩ = false := HM1.out.at_.bd.frozen j
            have HM2 : Hid (RMadeAt base w1 k (markR R j) ((wd.setCell ⟨R.gd, j, none⟩ (.bool true)).drew)) := Lib.hid (by
              have h1 := HM1.out.goes (HM1.out.at_.setD j true)
              exact h1.goes (RGoes.of_old h1.at_ (Below.refl _ _).drew))
            have HL2 : Hid ((markR R j).bd.length = B ∧ (markR R j).B = B) := Lib.hid ⟨by show (R.bd.set _ _).length = _; rw [List.length_set]; exact HLB.out.1, HLB.out.2⟩
            have HQ2 : Hid (NP.new B P S bad = NP.badTo (markR R j).view (bad.drop (i + 1))) := Lib.hid (by
              rw [HQ.out, HDR.out, NP.badTo, if_pos ⟨by omega, by show (j : Int) < (R.B : Int); rw [HLB.out.2]; omega⟩, Int.toNat_natCast]
              exact congrArg (fun c => NP.badTo c _) (rmark_view HM1.out.at_ (by rw [HLB.out.2]; omega)).symm)
            generalize R.bd.getD j false = bq at *
            go_upto_region 9 with fail
            go_still_tail 9, (by kernel_rfl)
            change wpList _ _ _ _ _ wd.drew
            go_wp2_with fail
            go_roundw
            case rel => exact ⟨i + 1, _, by omega, by go_num, HM2, HL2, HQ2⟩
            case measure => simp [intOf]; omega
          · have HF : Hid (NP.new B P S bad = none) := Lib.hid (by rw [HQ.out, HDR.out, NP.badTo, if_neg (by show ¬ (0 ≤ x ∧ x < (R.B : Int)); rw [HLB.out.2]; omega)])
            have hxe : decide ((B : Int) ≤ x) = true := by simp; omega
            go_upto_region 7 with fail
            go_quiet (fail)
            go_wp2_with fail
            go_ret2
            exact RNewPost.no HF.out (below_drewN (HB1.out.trans (HM.out.below.mono HB1.out.size)) _)
        · have HF : Hid (NP.new B P S bad = none) := Lib.hid (by rw [HQ.out, HDR.out, NP.badTo, if_neg (by omega)])
          have hxd : decide (x < 0) = true := by simp; omega
          go_upto_region 7 with fail
          go_quiet (fail)
          go_wp2_with fail
          go_ret2
          exact RNewPost.no HF.out (below_drewN (HB1.out.trans (HM.out.below.mono HB1.out.size)) _)
      · obtain rfl : i = bad.length := by omega
        have HF : Hid (NP.new B P S bad = some R.view) := Lib.hid (by rw [HQ.out, List.drop_length]; rfl)
        go_wp2_with fail
        go_ret2
        exact RNewPost.yes HF.out (HM.out.more HB1.out)

end Go.Proofs.Ytpggkehfbhffbaa

