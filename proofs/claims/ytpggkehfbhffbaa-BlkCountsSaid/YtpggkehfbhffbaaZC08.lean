/-
  Lemmas for a law's proof, put together from several texts: each part says what it shows, and its conditions.
-/
import Derived.Test.YtpggkehfbhffbaaZC07
import Derived.BigRegion
import Derived.Deep.RegionLaw
/-
  A chip is made: without bytes, with bad blocks. No conditions of its own.
-/
namespace Go.Proofs.Ytpggkehfbhffbaa
open Go.RowKit

abbrev zblk : Array Value := #[.slice none 0 0, vi 0, .bool false, .bool false, vi 0]
theorem blo_info : (Try.prog.info? 102).map (fun i => (i.zero, i.size, i.bytes)) = some (some (.agg zblk), 5, 48) := by kernel_rfl
theorem make_blos (n : Nat) (hn : n ≤ 1000) (w : World) : (Instr.makeSlice 97 (.int .i64 (n : Int)) (.int .i64 (n : Int))).run Try.prog w = .ok (.slice (some ⟨w.heap.size, 0, none⟩) n n) (w.alloc (.cells (madeCells zblk (n * 5)) 102)) := by
  obtain ⟨i0, hi, hz0, hz1, hz2⟩ := info_parts blo_info
  have := run_make (P := Try.prog) w 97 102 i0 (.agg zblk) Try.underlying97 hi hz0 .i64 .i64 n n (by omega) (Int.le_refl _) (by rw [hz2]; omega) (by omega)
  simp only [Int.toNat_natCast, hz1] at this
  exact this
theorem made_rows (z : Array Value) (n : Nat) (hz : z.size = 5) : (madeCells z (n * 5)).toList = (List.replicate n ()).flatMap fun _ => z.toList := by
  apply List.ext_getElem?
  intro j
  by_cases hj : j < n * 5
  · have h1 := flat_get (f := fun _ : Unit => z.toList) (m := 5) (by intro x; simpa using hz) () (List.replicate n ()) (j / 5) (j % 5) (by simp; omega) (by omega)
    rw [show j / 5 * 5 + j % 5 = j by omega] at h1
    rw [h1]
    simp [madeCells, hj, hz]
    rw [Array.getElem?_eq_getElem (by omega)]
    simp [hz, show j % 5 < 5 by omega]
  · have h1 : (madeCells z (n * 5)).toList.length ≤ j := by simp [madeCells]; omega
    have h2 : ((List.replicate n ()).flatMap fun _ => z.toList).length ≤ j := by rw [flat_length (m := 5) (by intro x; simpa using hz)]; simp; omega
    rw [List.getElem?_eq_none h1, List.getElem?_eq_none h2]

/-- Rows of blocks that hold nothing yet. -/
abbrev zrows (n : Nat) : List Value := (List.replicate n ()).flatMap fun _ => zblk.toList
theorem zrows_succ (n : Nat) : zrows (n + 1) = zblk.toList ++ zrows n := by unfold zrows; rw [List.replicate_succ, List.flatMap_cons]
/-- The state while blocks get their pages. -/
structure BlankSt (w : World) (k kb B P S i : Nat) (bs : List BloM) (wr : World) : Prop where
  chip : Blk wr k 99 #[vi B, vi P, vi S, .slice (some ⟨kb, 0, none⟩) B B, .slice none 0 0, vi 0, .bool false, vi 0, vi 0]
  geo : Blk wr w.heap.size 23 #[vi B, vi P, vi S]
  blocks : Arr wr 102 5 kb B B (bs.flatMap BloM.cells ++ zrows (B - i))
  len : bs.length = i
  form : ∀ x ∈ bs, x = ⟨x.g, P, List.replicate P ⟨none, [], 0⟩, 0, false, false, 0⟩
  pages : ∀ x ∈ bs, Arr wr 32 1 x.g x.ps.length x.c (x.ps.map (·.v))
  nodup : (bs.map (·.g)).Nodup
  low : w.heap.size ≤ k ∧ w.heap.size ≤ kb ∧ ∀ x ∈ bs, w.heap.size ≤ x.g
  below : Below w.heap.size w wr
theorem BlankSt.next {w wr : World} {k kb B P S i : Nat} {bs : List BloM} (h : BlankSt w k kb B P S i bs wr) (hi : i < B) (hP : P ≤ 32) :
    BlankSt w k kb B P S (i + 1) (bs ++ [⟨wr.heap.size, P, List.replicate P ⟨none, [], 0⟩, 0, false, false, 0⟩]) ((wr.setCell ⟨kb, i * 5, none⟩ (.slice (some ⟨wr.heap.size, 0, none⟩) P P)).alloc (.cells (madeCells #[.slice none 0 0] P) 32)) := by
  have hkb : k ≠ kb := fun e => by subst e; exact (h.blocks.ne_blk h.chip (by decide)) rfl
  have hgk : w.heap.size ≠ kb := (h.blocks.ne_blk h.geo (by decide)).symm
  have hx : ∀ x ∈ bs, x.g ≠ kb := fun x hx => (h.pages x hx).ne h.blocks (by decide)
  have hb : (bs.flatMap BloM.cells).length = i * 5 := by rw [flat_length BloM.cells_len, h.len]
  have n0 := Arr.lit (wr.setCell ⟨kb, i * 5, none⟩ (.slice (some ⟨wr.heap.size, 0, none⟩) P P)) 32 1 P (madeCells #[.slice none 0 0] P) (by unfold maxLen; omega) (by simp [madeCells])
  rw [toList_madeCells_one, size_set] at n0
  refine ⟨(h.chip.far (p := ⟨kb, i * 5, none⟩) hkb _).alloc _, (h.geo.far (p := ⟨kb, i * 5, none⟩) hgk _).alloc _, ?_, by simp [h.len], ?_, ?_, ?_, ⟨h.low.1, h.low.2.1, ?_⟩, (h.below.setCell h.low.2.1 _).alloc (by rw [size_set]; exact h.below.size) _⟩
  · have h1 := (h.blocks.set (i * 5) (.slice (some ⟨wr.heap.size, 0, none⟩) P P)).old ((Below.refl _ _).alloc (Nat.le_refl _) (.cells (madeCells #[.slice none 0 0] P) 32))
    rw [show B - i = (B - (i + 1)) + 1 by omega, zrows_succ, List.set_append_right _ _ (by omega), hb, Nat.sub_self] at h1
    rw [List.flatMap_append, List.append_assoc]
    have e : ([(⟨wr.heap.size, P, List.replicate P ⟨none, [], 0⟩, 0, false, false, 0⟩ : BloM)].flatMap BloM.cells) = [.slice (some ⟨wr.heap.size, 0, none⟩) P P, vi 0, .bool false, .bool false, vi 0] := by simp [BloM.cells]
    rw [e]
    exact h1
  · intro x hxm
    rcases List.mem_append.1 hxm with hxm | hxm
    · exact h.form x hxm
    · rw [List.mem_singleton] at hxm
      subst hxm
      rfl
  · intro x hxm
    rcases List.mem_append.1 hxm with hxm | hxm
    · exact ((h.pages x hxm).far (p := ⟨kb, i * 5, none⟩) (hx x hxm) _).old ((Below.refl _ _).alloc (Nat.le_refl _) _)
    · rw [List.mem_singleton] at hxm
      subst hxm
      dsimp only
      rw [List.length_replicate, List.map_replicate]
      exact n0
  · rw [List.map_append]
    refine List.nodup_append.2 ⟨h.nodup, by simp, ?_⟩
    intro a ha b hb' e
    simp only [List.map_cons, List.map_nil, List.mem_singleton] at hb'
    obtain ⟨x, hxm, rfl⟩ := List.mem_map.1 ha
    have := (h.pages x hxm).lt
    omega
  · intro x hxm
    rcases List.mem_append.1 hxm with hxm | hxm
    · exact h.low.2.2 x hxm
    · rw [List.mem_singleton] at hxm
      subst hxm
      exact h.below.size

/-- A chip that was made in this call. -/
structure MadeAt (base : Nat) (w : World) (k : Nat) (M : ChM) (w' : World) : Prop where
  at_ : ChipAt base w' k M
  below : Below w.heap.size w w'
  own : ∀ n, M.foot k n → w.heap.size ≤ n
theorem BlankSt.made {w wr : World} {k kb B P S base : Nat} {bs : List BloM} (h : BlankSt w k kb B P S B bs wr) (hb : base ≤ w.heap.size) :
    MadeAt base w k ⟨B, P, S, kb, B, bs, none, [], 0, 0, false, 0, 0⟩ wr ∧ (⟨B, P, S, kb, B, bs, none, [], 0, 0, false, 0, 0⟩ : ChM).view = NP.blank B P S := by
  have hlow : ∀ n, (⟨B, P, S, kb, B, bs, none, [], 0, 0, false, 0, 0⟩ : ChM).foot k n → w.heap.size ≤ n := by
    rintro n (rfl | rfl | hn)
    · exact h.low.1
    · exact h.low.2.1
    · obtain ⟨x, hx, rfl⟩ := List.mem_map.1 hn
      exact h.low.2.2 x hx
  refine ⟨⟨⟨?_, ?_, h.pages, h.nodup, ?_, FRow.nil _ _ _, fun n hn => Nat.le_trans hb (hlow n hn)⟩, h.below, hlow⟩, ?_⟩
  · have := h.chip
    simp only [ChM.cs, h.len]
    exact this
  · have := h.blocks
    rw [Nat.sub_self] at this
    dsimp only
    rw [h.len]
    simpa [zrows] using this
  · intro x hx p hp
    rw [h.form x hx] at hp
    rw [(List.mem_replicate.1 hp).2]
    exact PgM.ok.none _ _
  · simp only [ChM.view, NP.blank, List.map_nil, NP.Chp.mk.injEq, true_and, and_true]
    refine List.eq_replicate_iff.2 ⟨by rw [List.length_map, h.len], fun y hy => ?_⟩
    obtain ⟨x, hx, rfl⟩ := List.mem_map.1 hy
    rw [h.form x hx]
    simp [BloM.view, NP.blankB]

set_option maxRecDepth 100000 in
set_option maxHeartbeats 4000000 in
theorem blank_any (base B P S : Nat) (w : World) (hB : B ≤ 128) (hP : P ≤ 32) (hb : base ≤ w.heap.size) : Calls Try.prog 78 #[.agg #[vi B, vi P, vi S]] w fun e w' => ∃ k M, e = .returned (ptr k) ∧ MadeAt base w k M w' ∧ M.view = NP.blank B P S := by
  have hmk := make_blos B (by omega)
  have hB' := Lib.hid hB
  have g0 : Blk (w.alloc (.cells #[vi B, vi P, vi S] 23)) w.heap.size 23 #[vi B, vi P, vi S] := Blk.new _ _ _
  have HB : Hid (Below w.heap.size w (w.alloc (.cells #[vi B, vi P, vi S] 23))) := Lib.hid ((Below.refl _ _).alloc (Nat.le_refl _) _)
  have hz1 : Hid ((w.alloc (.cells #[vi B, vi P, vi S] 23)).heap.size = w.heap.size + 1) := Lib.hid (size_alloc _ _)
  go_enter Try.func78, Try.ntmps78
  go_wp2_with fail
  generalize w.alloc (.cells #[vi B, vi P, vi S] 23) = w1 at *
  have c0 : w1.cell? ⟨w.heap.size, 0, none⟩ = some (vi B) := g0.cell 0
  have c1 : w1.cell? ⟨w.heap.size, 1, none⟩ = some (vi P) := g0.cell 1
  have c2 : w1.cell? ⟨w.heap.size, 2, none⟩ = some (vi S) := g0.cell 2
  have hlt : w.heap.size < w1.heap.size := by have := hz1.out; omega
  have hn1 : ¬ w1.heap.size = w.heap.size := by omega
  have hn2 : ¬ w.heap.size = w1.heap.size := by omega
  go_region
  have ST : Hid (BlankSt w (w1.heap.size + 1) w1.heap.size B P S 0 [] (((w1.alloc (.cells (madeCells zblk (B * 5)) 102)).alloc (.cells #[vi B, vi P, vi S, .slice (some ⟨w1.heap.size, 0, none⟩) B B, .slice none 0 0, vi 0, .bool false, vi 0, vi 0] 99)).drew)) := Lib.hid (by
    refine ⟨?_, ((g0.alloc _).alloc _), ?_, rfl, by simp, by simp, by simp, ⟨by omega, by omega, by simp⟩, ((HB.out.alloc (Nat.le_of_lt hlt) _).alloc (by rw [size_alloc]; omega) _).drew⟩
    · have := Blk.new (w1.alloc (.cells (madeCells zblk (B * 5)) 102)) 99 #[vi B, vi P, vi S, .slice (some ⟨w1.heap.size, 0, none⟩) B B, .slice none 0 0, vi 0, .bool false, vi 0, vi 0]
      rw [size_alloc] at this
      exact this.drew
    · have := (Arr.lit w1 102 5 B (madeCells zblk (B * 5)) (by unfold maxLen; omega) (by simp [madeCells])).old ((Below.refl _ _).alloc (Nat.le_refl _) (.cells #[vi B, vi P, vi S, .slice (some ⟨w1.heap.size, 0, none⟩) B B, .slice none 0 0, vi 0, .bool false, vi 0, vi 0] 99)).drew
      rw [made_rows _ _ rfl] at this
      rw [List.flatMap_nil, List.nil_append, Nat.sub_zero]
      exact this)
  clear hmk g0 c0 c1 c2 hn1 hn2 hz1 HB
  generalize ((w1.alloc (.cells (madeCells zblk (B * 5)) 102)).alloc (.cells #[vi B, vi P, vi S, .slice (some ⟨w1.heap.size, 0, none⟩) B B, .slice none 0 0, vi 0, .bool false, vi 0, vi 0] 99)).drew = w3 at *
  generalize w1.heap.size + 1 = k at *
  generalize w1.heap.size = kb at *
  have c3 : w3.cell? ⟨k, 3, none⟩ = some (.slice (some ⟨kb, 0, none⟩) B B) := ST.out.chip.cell 3
  go_wp2_with fail
  clear c3
  go_loopw [16] (fun v wr => ∃ (i : Nat) (bs : List BloM), i ≤ B ∧ v = vi i ∧ Hid (BlankSt w k kb B P S i bs wr)) (fun v _ => B - (intOf v).toNat)
  case atStart => exact ⟨0, [], Nat.zero_le _, rfl, ST⟩
  case round =>
    obtain ⟨i, bs, hi, rfl, st⟩ := hrel
    by_cases hlt2 : i < B
    · have c3 : wr.cell? ⟨k, 3, none⟩ = some (.slice (some ⟨kb, 0, none⟩) B B) := st.out.chip.cell 3
      have c1 : wr.cell? ⟨w.heap.size, 1, none⟩ = some (vi P) := st.out.geo.cell 1
      have hb5 : (bs.flatMap BloM.cells).length = i * 5 := by rw [flat_length BloM.cells_len, st.out.len]
      have c0 : wr.cell? ⟨kb, i * 5, none⟩ = some (.slice none 0 0) := by
        rw [st.out.blocks.cell (by omega), List.getElem?_append_right (by omega), hb5, Nat.sub_self, show B - i = (B - (i + 1)) + 1 by omega, zrows_succ]
        rfl
      have z0 := st.out.blocks.frozen (i * 5)
      have hkl : kb < wr.heap.size := st.out.blocks.lt
      have hkl1 : ¬ wr.heap.size = kb := by omega
      have hkl2 : ¬ kb = wr.heap.size := by omega
      have hgl : w.heap.size < wr.heap.size := st.out.geo.lt
      have hcl : k < wr.heap.size := st.out.chip.lt
      have hmk := make_pages P (by omega)
      have q0 : (0 : Int) ≤ (i : Int) := by omega
      have q1 : (i : Int) < (B : Int) := by omega
      have ST2 := Lib.hid (st.out.next hlt2 hP)
      clear hb5 hlt
      go_upto_region 5 with fail
      go_region
      have ST3 : Hid (BlankSt w k kb B P S (i + 1) _ _) := Lib.hid ⟨ST2.out.chip.drew, ST2.out.geo.drew, ST2.out.blocks.old (Below.refl _ _).drew, ST2.out.len, ST2.out.form, fun x hx => (ST2.out.pages x hx).old (Below.refl _ _).drew, ST2.out.nodup, ST2.out.low, ST2.out.below.drew⟩
      go_wp2_with fail
      go_roundw
      case rel => exact ⟨i + 1, _, by omega, by go_num, ST3⟩
      case measure => simp [intOf]; omega
    · obtain rfl : i = B := by omega
      have hM := st.out.made hb
      have HM := Lib.hid hM
      clear hM
      go_wp2_with fail
      go_ret
      exact ⟨_, _, rfl, HM.out.1, HM.out.2⟩

theorem MadeAt.goes {base : Nat} {w wr w' : World} {k : Nat} {M M' : ChM} (h : MadeAt base w k M wr) (g : Goes base wr k M w' M') : MadeAt base w k M' w' :=
  ⟨g.at_, h.below.trans (g.chg.to_below (fun n _ hn => h.own n hn) h.below.size), fun n hn => by
    rcases g.foot n hn with h1 | h1
    · exact h.own n h1
    · exact Nat.le_trans h.below.size h1⟩
theorem MadeAt.more {base : Nat} {w0 w wr : World} {k : Nat} {M : ChM} (h : MadeAt base w k M wr) (q : Below w0.heap.size w0 w) : MadeAt base w0 k M wr :=
  ⟨h.at_, q.trans (h.below.mono q.size), fun n hn => Nat.le_trans q.size (h.own n hn)⟩
/-- What New answers. -/
def NewPost (base : Nat) (w : World) (r : Option NP.Chp) (e : Ending) (w' : World) : Prop :=
  match r with
  | some V => ∃ k M, e = .returned (.tuple #[ptr k, vi 0]) ∧ MadeAt base w k M w' ∧ M.view = V
  | none => e = .returned (.tuple #[.pointer none, vi 1]) ∧ Below w.heap.size w w'
theorem NewPost.no {base : Nat} {w w' : World} {r : Option NP.Chp} (h : r = none) (hb : Below w.heap.size w w') : NewPost base w r (.returned (.tuple #[.pointer none, vi 1])) w' := by
  rw [h]
  exact ⟨rfl, hb⟩
theorem NewPost.yes {base : Nat} {w w' : World} {r : Option NP.Chp} {k : Nat} {M : ChM} (h : r = some M.view) (hm : MadeAt base w k M w') : NewPost base w r (.returned (.tuple #[ptr k, vi 0])) w' := by
  rw [h]
  exact ⟨k, M, rfl, hm, rfl⟩

set_option maxRecDepth 100000 in
set_option maxHeartbeats 4000000 in
theorem New_any (base : Nat) (b p s : Int) (a : Option Addr) (bad : List Int) (c : Nat) (w : World) (hr : IRow w a bad) (hl : bad.length ≤ 9223372036854775807) (hb : base ≤ w.heap.size) :
    Calls Try.prog 56 #[.agg #[vi b, vi p, vi s], .slice a bad.length c] w (NewPost base w (NP.new b p s bad)) := by
  have HR := Lib.hid hr
  have g0 := Lib.hid (Blk.new w 23 #[vi b, vi p, vi s])
  have HB : Hid (Below w.heap.size w (w.alloc (.cells #[vi b, vi p, vi s] 23))) := Lib.hid ((Below.refl _ _).alloc (Nat.le_refl _) _)
  clear hr
  go_enter Try.func56, Try.ntmps56
  go_wp2_with fail
  generalize w.alloc (.cells #[vi b, vi p, vi s] 23) = w0 at *
  have c0 : w0.cell? ⟨w.heap.size, 0, none⟩ = some (vi b) := g0.out.cell 0
  have c1 : w0.cell? ⟨w.heap.size, 1, none⟩ = some (vi p) := g0.out.cell 1
  have c2 : w0.cell? ⟨w.heap.size, 2, none⟩ = some (vi s) := g0.out.cell 2
  refine (Right_any b p s _).mono ?_
  rintro e w1 ⟨rfl, hb1⟩
  have g1 := Lib.hid (g0.out.old hb1)
  have HB1 := Lib.hid (HB.out.trans (hb1.mono HB.out.size))
  clear c0 c1 c2 hb1 g0 HB
  cases hrt : NP.rightB b p s
  · have HQ := Lib.hid (show NP.new b p s bad = none by rw [NP.new, if_neg (by rw [hrt]; simp)])
    clear hrt
    go_wp2_with fail
    go_ret2
    exact NewPost.no HQ.out HB1.out
  · have HQ := Lib.hid (show NP.new b p s bad = NP.badTo (NP.blank b.toNat p.toNat s.toNat) bad by rw [NP.new, if_pos hrt])
    have hrt' := hrt
    simp only [NP.rightB, Bool.and_eq_true, decide_eq_true_eq, Bool.or_eq_true, beq_iff_eq] at hrt'
    obtain ⟨B, rfl⟩ : ∃ B : Nat, b = B := ⟨b.toNat, by omega⟩
    obtain ⟨P, rfl⟩ : ∃ P : Nat, p = P := ⟨p.toNat, by omega⟩
    obtain ⟨S, rfl⟩ : ∃ S : Nat, s = S := ⟨s.toNat, by omega⟩
    rw [Int.toNat_natCast, Int.toNat_natCast, Int.toNat_natCast] at HQ
    have HRT := Lib.hid hrt
    have hBB : B ≤ 128 := by omega
    have hPP : P ≤ 32 := by omega
    clear hrt hrt'
    have c0 : w1.cell? ⟨w.heap.size, 0, none⟩ = some (vi B) := g1.out.cell 0
    have c1 : w1.cell? ⟨w.heap.size, 1, none⟩ = some (vi P) := g1.out.cell 1
    have c2 : w1.cell? ⟨w.heap.size, 2, none⟩ = some (vi S) := g1.out.cell 2
    go_wp2_with fail
    refine (blank_any base B P S _ hBB hPP (Nat.le_trans hb HB1.out.size)).mono ?_
    rintro e w2 ⟨k, M, rfl, hm, hv⟩
    have HM := Lib.hid hm
    have HV := Lib.hid hv
    have HLB : Hid (M.bs.length = B ∧ M.B = B) := Lib.hid (by
      have h1 : M.view.bs.length = B := by rw [hv]; exact List.length_replicate ..
      have h2 : M.view.B = B := by rw [hv]; rfl
      exact ⟨by simpa [ChM.view] using h1, h2⟩)
    have HQ2 : Hid (NP.new B P S bad = NP.badTo M.view (bad.drop 0)) := Lib.hid (by rw [HQ.out, hv, List.drop_zero])
    clear c0 c1 c2 hm hv HQ HV
    go_wp2_with fail
    go_loopw [16] (fun v wr => ∃ (i : Nat) (M : ChM), i ≤ bad.length ∧ v = vi i ∧ Hid (MadeAt base w1 k M wr) ∧ Hid (M.bs.length = B ∧ M.B = B) ∧ Hid (NP.new B P S bad = NP.badTo M.view (bad.drop i))) (fun v _ => bad.length - (intOf v).toNat)
    case atStart => exact ⟨0, M, Nat.zero_le _, rfl, HM, HLB, HQ2⟩
    case round =>
      clear HM HLB HQ2 M
      obtain ⟨i, M, hi, rfl, HM, HLB, HQ⟩ := hrel
      by_cases hlt : i < bad.length
      · obtain ⟨ba, o, rfl, hx⟩ := (HR.out.below (HB1.out.trans (HM.out.below.mono HB1.out.size))).lookup hlt
        have hdr : bad.drop i = bad.getD i 0 :: bad.drop (i + 1) := by
          rw [List.drop_eq_getElem_cons hlt, List.getD_eq_getElem?_getD, List.getElem?_eq_getElem hlt]
          rfl
        have HDR := Lib.hid hdr
        clear hdr
        generalize bad.getD i 0 = x at *
        have c0 : wr.cell? ⟨w.heap.size, 0, none⟩ = some (vi B) := (g1.out.below HM.out.below g1.out.lt).cell 0
        by_cases hx0 : 0 ≤ x
        · by_cases hx1 : x < B
          · obtain ⟨j, rfl⟩ : ∃ j : Nat, x = j := ⟨x.toNat, by omega⟩
            have hj : j < M.bs.length := by rw [HLB.out.1]; omega
            have c3 : wr.cell? ⟨k, 3, none⟩ = some (.slice (some ⟨M.kb, 0, none⟩) M.bs.length M.kc) := HM.out.at_.chip.cell 3
            have d3 : wr.cell? ⟨M.kb, j * 5 + 3, none⟩ = some (.bool (M.bs.getD j default).bad) := HM.out.at_.bcell hj (j := 3) (by decide)
            have z3 := HM.out.at_.blocks.frozen (j * 5 + 3)
            have HM2 : Hid (MadeAt base w1 k (markM M j) (wr.setCell ⟨M.kb, j * 5 + 3, none⟩ (.bool true))) := Lib.hid (HM.out.goes (HM.out.at_.bfield hj (j := 3) (by decide) (.bool true) { M.bs.getD j default with bad := true } rfl rfl rfl rfl))
            have HL2 : Hid ((markM M j).bs.length = B ∧ (markM M j).B = B) := Lib.hid ⟨by show (M.bs.set _ _).length = _; rw [List.length_set]; exact HLB.out.1, HLB.out.2⟩
            have HQ2 : Hid (NP.new B P S bad = NP.badTo (markM M j).view (bad.drop (i + 1))) := Lib.hid (by
              rw [HQ.out, HDR.out, NP.badTo, if_pos ⟨by omega, by show (j : Int) < (M.B : Int); rw [HLB.out.2]; omega⟩, Int.toNat_natCast, markM_view hj])
            generalize (M.bs.getD j default).bad = bd at *
            go_wp2_with fail
            go_roundw
            case rel => exact ⟨i + 1, _, by omega, by go_num, HM2, HL2, HQ2⟩
            case measure => simp [intOf]; omega
          · have HF : Hid (NP.new B P S bad = none) := Lib.hid (by rw [HQ.out, HDR.out, NP.badTo, if_neg (by show ¬ (0 ≤ x ∧ x < (M.B : Int)); rw [HLB.out.2]; omega)])
            go_wp2_with fail
            go_ret2
            exact NewPost.no HF.out (HB1.out.trans (HM.out.below.mono HB1.out.size))
        · have HF : Hid (NP.new B P S bad = none) := Lib.hid (by rw [HQ.out, HDR.out, NP.badTo, if_neg (by omega)])
          go_wp2_with fail
          go_ret2
          exact NewPost.no HF.out (HB1.out.trans (HM.out.below.mono HB1.out.size))
      · obtain rfl : i = bad.length := by omega
        have HF : Hid (NP.new B P S bad = some M.view) := Lib.hid (by rw [HQ.out, List.drop_length]; rfl)
        go_wp2_with fail
        go_ret2
        exact NewPost.yes HF.out (HM.out.more HB1.out)

end Go.Proofs.Ytpggkehfbhffbaa

/-
  Faults are set. Conditions: a chip that is told by ChipAt; faults of fewer than 900000 bytes.
-/
namespace Go.Proofs.Ytpggkehfbhffbaa
open Go.RowKit

theorem step_app {w w' : World} {ops : Array Oper} {o : Oper} {a : Act} {K : Act → World → Prop} {Q : Exit → Act → World → Prop} {E : Prop} (s x : Operand) {t u : TypeId} {v src v' : Value}
    (hrun : AppRun t u o.type v src w v' w') (hgd : o.guard = none) (ho : o.op = .call { callee := .builtin .append, args := #[s, x], argTypes := #[t, u] }) (hs : a.eval s = v) (hx : a.eval x = src) (h : K (a.put o.dst v') w') : if Region.wanted o (yielded ops a.tmps) = true then Oper.wp Try.prog o a w K Q else E :=
  step_append_run hgd s x ho hs hx hrun.run h

def fltCells (fs : List FltM) : List Value := fs.flatMap fun f => f.cs.toList
theorem flt_len (f : FltM) : f.cs.toList.length = 3 := rfl
theorem flt_info : (Try.prog.info? 96).map (fun i => (i.zero, i.size, i.bytes)) = some (some (.agg flt0), 3, 40) := by kernel_rfl
/-- A row of faults of the call's own. -/
def FOwn (w : World) (b0 : Nat) (v : Value) (fs : List FltM) : Prop := w.ownsRow b0 96 3 v fs.length (fltCells fs)
theorem FOwn.nil (w : World) (b0 : Nat) : FOwn w b0 (.slice none 0 0) [] := World.ownsRow_nil _ _ _ _
theorem FOwn.grown {w w' : World} {b0 : Nat} {v : Value} {fs : List FltM} (h : FOwn w b0 v fs) {row : Option Nat} (q : w.grownBy w' row) (hne : v.ownBlock = none ∨ v.ownBlock ≠ row) : FOwn w' b0 v fs := World.ownsRow.kept h q hne
theorem FOwn.old {w w' : World} {b0 : Nat} {v : Value} {fs : List FltM} (h : FOwn w b0 v fs) (hb : Below w.heap.size w w') : FOwn w' b0 v fs :=
  h.grown (row := none) ⟨hb.os, hb.tape, hb.output, hb.size, fun k hk _ => hb.block k hk⟩ (by cases hv : v.ownBlock <;> simp)
theorem FOwn.form {w : World} {b0 : Nat} {v : Value} {fs : List FltM} (h : FOwn w b0 v fs) : ∃ a c, v = .slice a fs.length c := by
  rcases h.2 with ⟨rfl, h0⟩ | ⟨g, cap, cur, rfl, _⟩
  · exact ⟨none, 0, by rw [h0]⟩
  · exact ⟨_, _, rfl⟩
theorem append_flt {w : World} {b0 : Nat} {v : Value} {fs : List FltM} (hown : FOwn w b0 v fs) (f : FltM) (hn : fs.length + 1 ≤ 1000000) (hb : b0 ≤ w.heap.size) :
    ∃ v' w', AppRun 41 41 41 v (.slice (some ⟨w.heap.size, 0, none⟩) 1 1) (w.alloc (.cells f.cs 96)) v' w' ∧ FOwn w' b0 v' (fs ++ [f]) ∧ (w.alloc (.cells f.cs 96)).grownBy w' v.ownBlock := by
  obtain ⟨i0, hi, hz0, hz1, hz2⟩ := info_parts flt_info
  have hown' := hown.old ((Below.refl _ w).alloc (Nat.le_refl _) (.cells f.cs 96))
  obtain ⟨v', w', h1, h2, h3, _⟩ := run_append_own_at (P := Try.prog) (w.alloc (.cells f.cs 96)) b0 41 41 96 i0 _ 3 40 Try.underlying41 hi hz0 hz1 hz2 rfl (by omega) v fs.length (fltCells fs) hown'
    ⟨w.heap.size, 0, none⟩ 1 1 (fltCells [f]) rfl (fun j u hu => by
      rw [add_plain, Nat.zero_add, (Blk.new w 96 f.cs).cell]
      simpa [fltCells] using hu) (by intro u hu; simp [fltCells] at hu; rcases hu with rfl | rfl | rfl <;> rfl)
      (by unfold maxLen; omega) (by omega) (by simp; omega)
  refine ⟨v', w', ⟨h1⟩, ?_, h3⟩
  unfold FOwn
  rw [List.length_append, fltCells, List.flatMap_append]
  exact h2
theorem set_grown (w : World) (g j : Nat) (u : Value) : w.grownBy (w.setCell ⟨g, j, none⟩ u) (some g) := ⟨rfl, rfl, rfl, by simp [World.setCell], fun k _ hne => Below.heap_setCell w _ u k (fun e => hne (by rw [e]))⟩
/-- A row of bytes stays where a row of faults grows. -/
theorem SRow.grown {base : Nat} {w w' : World} {a : Option Addr} {l : List Nat} {row : Option Nat} (h : SRow base w a l) (q : w.grownBy w' row) (hrow : ∀ b, row = some b → base ≤ b ∧ ∃ cur, Blk w b 96 cur) : SRow base w' a l := by
  rcases h.safe with rfl | ⟨b, o, rfl, hs⟩
  · exact SRow.nil _ _ _
  · have hne : some b ≠ row := by
      intro e
      obtain ⟨h1, cur, h2⟩ := hrow b e.symm
      rcases hs with hs | ⟨cur', hs⟩
      · omega
      · unfold Blk at h2 hs
        rw [h2] at hs
        injection hs with hs
        injection hs with _ hs
        exact absurd hs (by decide)
    refine ⟨h.row.grown q hne, .inr ⟨b, o, rfl, ?_⟩⟩
    rcases hs with hs | ⟨cur', hs⟩
    · exact .inl hs
    · exact .inr ⟨cur', hs.grown q hne⟩
theorem FOwn.row {w : World} {b0 : Nat} {v : Value} {fs : List FltM} (h : FOwn w b0 v fs) : ∀ b, v.ownBlock = some b → b0 ≤ b ∧ ∃ cur, Blk w b 96 cur := by
  intro b hb
  rcases h.2 with ⟨rfl, _⟩ | ⟨g, cap, cur, rfl, hg, hh, _⟩
  · simp [Value.ownBlock] at hb
  · simp [Value.ownBlock] at hb
    subst hb
    exact ⟨hg, cur, hh⟩
theorem FOwn.frow {base : Nat} {w : World} {b0 : Nat} {v : Value} {fs : List FltM} (h : FOwn w b0 v fs) (hd : ∀ f ∈ fs, SRow base w f.a f.l ∧ f.l.length ≤ f.c ∧ f.c ≤ maxLen) (hl : fs.length ≤ maxLen) : ∃ a c, v = .slice a fs.length c ∧ FRow base w a fs := by
  rcases h.2 with ⟨rfl, h0⟩ | ⟨g, cap, cur, rfl, hg, hh, _⟩
  · have : fs = [] := List.eq_nil_of_length_eq_zero h0
    subst this
    exact ⟨none, 0, rfl, FRow.nil _ _ _⟩
  · refine ⟨_, cap, rfl, .inr ⟨g, 0, rfl, .inr ⟨cur, hh⟩, fun i hi j u hu => ?_⟩, hd, hl⟩
    have hj : j < 3 := by
      have := (Array.getElem?_eq_some_iff.1 hu).1
      simpa using this
    rw [Nat.zero_add, World.ownsRow.cellAt h (i * 3 + j) (by omega), fltCells, flat_get (f := fun f : FltM => f.cs.toList) flt_len default _ _ _ hi hj]
    simpa using hu

section
variable {base : Nat} {w wr : World} {k : Nat} {M : ChM} {n : Nat} {v : Value} {gs fs : List FltM}
/-- The state while faults are laid. -/
structure ScrSt (base : Nat) (w : World) (k : Nat) (M : ChM) (fs : List FltM) (n : Nat) (v : Value) (gs : List FltM) (wr : World) : Prop where
  chg : Chg (fun m => m = k) w wr
  chip : Blk wr k 99 #[vi M.B, vi M.P, vi M.S, .slice (some ⟨M.kb, 0, none⟩) M.bs.length M.kc, v, vi 0, .bool M.down, vi M.strokes, vi M.reads]
  own : FOwn wr w.heap.size v gs
  data : ∀ f ∈ gs, SRow base wr f.a f.l ∧ f.l.length ≤ f.c ∧ f.c ≤ maxLen
  say : gs.map (·.view) = (fs.take n).map (·.view)
  len : gs.length = n
theorem ScrSt.old {w2 : World} (h : ScrSt base w k M fs n v gs wr) (q : Below wr.heap.size wr w2) : ScrSt base w k M fs n v gs w2 :=
  ⟨h.chg.below q, h.chip.old q, h.own.old q, fun f hf => ⟨(h.data f hf).1.old q, (h.data f hf).2⟩, h.say, h.len⟩
/-- A variable of this loop's is laid. -/
theorem ScrSt.var {g j : Nat} {cs : Array Value} (h : ScrSt base w k M fs n v gs wr) (hb : base ≤ w.heap.size) (hg : Blk wr g 96 cs) (hw : w.heap.size ≤ g) (ho : v.ownBlock ≠ some g) (hk : g ≠ k) (u : Value) : ScrSt base w k M fs n v gs (wr.setCell ⟨g, j, none⟩ u) :=
  ⟨h.chg.setCell (.inr hw) u, h.chip.far (p := ⟨g, j, none⟩) hk.symm u, h.own.grown (row := some g) ⟨rfl, rfl, rfl, by simp [World.setCell], fun m _ hne => Below.heap_setCell wr _ u m (fun e => hne (by rw [e]))⟩ (.inr ho),
    fun f hf => ⟨(h.data f hf).1.grown (row := some g) ⟨rfl, rfl, rfl, by simp [World.setCell], fun m _ hne => Below.heap_setCell wr _ u m (fun e => hne (by rw [e]))⟩ (fun b e => by injection e with e; subst e; exact ⟨Nat.le_trans hb hw, cs, hg⟩), (h.data f hf).2⟩, h.say, h.len⟩
theorem ScrSt.next {w5 : World} {v' : Value} {g : FltM} (h : ScrSt base w k M fs n v gs wr) (hm : Mine base w k) (hb : base ≤ w.heap.size) (hn : n < fs.length) (hv : g.view = (fs.getD n default).view)
    (hg : SRow base wr g.a g.l ∧ g.l.length ≤ g.c ∧ g.c ≤ maxLen) (ho : FOwn w5 w.heap.size v' (gs ++ [g])) (hgr : (wr.alloc (.cells g.cs 96)).grownBy w5 v.ownBlock) :
    ScrSt base w k M fs (n + 1) v' (gs ++ [g]) (w5.setCell ⟨k, 4, none⟩ v') := by
  have hoa := h.own.old ((Below.refl _ wr).alloc (Nat.le_refl _) (.cells g.cs 96))
  have hrow : ∀ b, v.ownBlock = some b → base ≤ b ∧ ∃ cur, Blk (wr.alloc (.cells g.cs 96)) b 96 cur := fun b e => ⟨Nat.le_trans hb (hoa.row b e).1, (hoa.row b e).2⟩
  have hc5 : Blk w5 k 99 _ := (h.chip.alloc (.cells g.cs 96)).grown hgr (own_blk_ne hoa (h.chip.alloc _) (by decide))
  have hk5 : some k ≠ v'.ownBlock := own_blk_ne ho hc5 (by decide)
  have hm5 : ∀ m, m = k → Mine base w5 m := fun m e => by subst e; exact ⟨hm.1, _, _, by decide, hc5⟩
  have hq5 : Chg (fun m => m = k) w5 (w5.setCell ⟨k, 4, none⟩ v') := Chg.set (F := fun m => m = k) w5 (p := ⟨k, 4, none⟩) rfl v'
  have row5 : ∀ {a : Option Addr} {l : List Nat}, SRow base wr a l → SRow base (w5.setCell ⟨k, 4, none⟩ v') a l := fun hr =>
    ((hr.old ((Below.refl _ wr).alloc (Nat.le_refl _) (.cells g.cs 96))).grown hgr hrow).chg hq5 hm5
  refine ⟨((h.chg.alloc _).grown hgr fun b e => .inr (hoa.row b e).1).setCell (.inl rfl) _, hc5.set_ 4 v', ho.grown (row := some k) ⟨rfl, rfl, rfl, by simp [World.setCell], fun m _ hne => Below.heap_setCell w5 _ _ m (fun e => hne (by rw [e]))⟩ (.inr (fun e => hk5 e.symm)), ?_, ?_, by simp [h.len]⟩
  · intro f hf
    rcases List.mem_append.1 hf with hf | hf
    · exact ⟨row5 (h.data f hf).1, (h.data f hf).2⟩
    · rw [List.mem_singleton] at hf
      subst hf
      exact ⟨row5 hg.1, hg.2⟩
  · rw [List.map_append, h.say, List.take_succ_eq_append_getElem hn, List.map_append]
    simp only [List.map_cons, List.map_nil]
    rw [hv, List.getD_eq_getElem?_getD, List.getElem?_eq_getElem hn]
    rfl
/-- Fields of the chip are laid, its faults too: told from the world at first. -/
theorem ChipAt.fields' {w' : World} {M' : ChM} (h : ChipAt base w k M) (q : Chg (fun n => n = k) w w') (hb : Blk w' k 99 M'.cs) (h1 : M'.kb = M.kb) (h2 : M'.kc = M.kc) (h3 : M'.bs = M.bs) (hf : FRow base w' M'.fa M'.fs) : Goes base w k M w' M' := by
  have hF : ∀ n, n = k → Mine base w n := fun n e => h.mine n (.inl e)
  refine ⟨⟨hb, ?_, ?_, ?_, ?_, hf, ?_⟩, q.mono (fun n _ e => .inl e), ?_⟩
  · rw [h1, h2, h3]; exact h.blocks.chg q h.kb_ne
  · rw [h3]; exact fun x hx => (h.pages x hx).chg q (h.g_ne hx).1
  · rw [h3]; exact h.nodup
  · rw [h3]; exact fun x hx p hp => (h.rows x hx p hp).chg q hF
  · intro n hn; exact h.low n (by unfold ChM.foot at hn ⊢; rw [h1, h3] at hn; exact hn)
  · intro n hn; exact .inl (by unfold ChM.foot at hn ⊢; rw [h1, h3] at hn; exact hn)
theorem ScrSt.done (h : ChipAt base w k M) (s : ScrSt base w k M fs fs.length v gs wr) : ∃ M', Goes base w k M wr M' ∧ M'.view = { M.view with fs := fs.map (·.view), since := 0 } := by
  have hl : gs.length ≤ maxLen := by
    rcases s.own.2 with ⟨_, h0⟩ | ⟨_, _, _, _, _, _, h1, h2, _⟩
    · omega
    · omega
  obtain ⟨a, c, rfl, hf⟩ := s.own.frow s.data hl
  refine ⟨{ M with fa := a, fs := gs, fc := c, since := 0 }, h.fields' s.chg s.chip rfl rfl rfl hf, ?_⟩
  have := s.say
  rw [List.take_length] at this
  simp only [ChM.view, this]

theorem all_take {l : List FltM} {n : Nat} (h : n < l.length) (h1 : (l.take n).all (fun f => decide (0 ≤ f.at_)) = true) (h2 : 0 ≤ (l.getD n default).at_) : (l.take (n + 1)).all (fun f => decide (0 ≤ f.at_)) = true := by
  rw [List.take_succ_eq_append_getElem h, List.all_append, h1]
  rw [List.getD_eq_getElem?_getD, List.getElem?_eq_getElem h] at h2
  simpa using h2

set_option maxRecDepth 100000 in
set_option maxHeartbeats 4000000 in
theorem Script_any (h : ChipAt base w k M) (hbase : base ≤ w.heap.size) (a : Option Addr) (fs : List FltM) (c : Nat) (hr : FRow base w a fs) (hl : ∀ f ∈ fs, f.l.length ≤ 900000) (hn : fs.length ≤ 900000) :
    Calls Try.prog 24 #[ptr k, .slice a fs.length c] w (ActPost base w k M (NP.script M.view (fs.map (·.view)))) := by
  have HC := Lib.hid h
  have HR := Lib.hid hr
  have HL := Lib.hid hl
  have HM := Lib.hid (h.mine k (.inl rfl))
  have hkl := h.chip.lt
  clear h hr hl
  go_enter Try.func24, Try.ntmps24
  go_wp2_with fail
  go_loopw [13] (fun i wr => ∃ n : Nat, n ≤ fs.length ∧ i = vi n ∧ Hid ((fs.take n).all (fun f => decide (0 ≤ f.at_)) = true) ∧ Hid (Below w.heap.size w wr)) (fun i _ => fs.length - (intOf i).toNat)
  case atStart => exact ⟨0, Nat.zero_le _, rfl, Lib.hid rfl, Lib.hid (Below.refl _ _)⟩
  case round =>
    obtain ⟨n, hn1, rfl, hall, hb⟩ := hrel
    by_cases hlt : n < fs.length
    · obtain ⟨b, o, rfl, hcell, -⟩ := (HR.out.old hb.out).lookup hlt
      have HAT := Lib.hid (fun hz => all_take hlt hall.out hz)
      have HNO : Hid ((fs.getD n default).at_ < 0 → NP.script M.view (fs.map (·.view)) = (1, M.view)) := Lib.hid (fun hz => by
        rw [NP.script, if_neg]
        intro hA
        have := List.all_eq_true.1 hA (fs.getD n default).view (List.mem_map_of_mem (getD_mem hlt))
        have h2 : (0 : Int) ≤ (fs.getD n default).at_ := by simpa [FltM.view] using this
        omega)
      generalize fs.getD n default = f at *
      obtain ⟨fat, fk, fa, fl, fc⟩ := f
      have g0 : wr.cell? ⟨b, o + n * 3, none⟩ = some (vi fat) := hcell 0 _ rfl
      have g1 : wr.cell? ⟨b, o + n * 3 + 1, none⟩ = some (vi fk) := hcell 1 _ rfl
      have g2 : wr.cell? ⟨b, o + n * 3 + 2, none⟩ = some (.slice fa fl.length fc) := hcell 2 _ rfl
      have HB1 : Hid (Below w.heap.size w (wr.alloc (.cells #[vi fat, vi fk, .slice fa fl.length fc] 96))) := Lib.hid (hb.out.alloc hb.out.size _)
      clear hcell hall hb
      dsimp only at HAT HNO
      by_cases hz : fat < 0
      · have HF := Lib.hid (HNO.out hz)
        go_wp2_with fail
        go_ret
        exact ActPost.mk HF.out (Goes.of_old HC.out HB1.out) rfl
      · have HA := Lib.hid (HAT.out (by omega))
        go_wp2_with fail
        go_roundw
        case rel => exact ⟨n + 1, by omega, by go_num, HA, HB1⟩
        case measure => simp [intOf]; omega
    · obtain rfl : n = fs.length := by omega
      have HQ : Hid (NP.script M.view (fs.map (·.view)) = (0, { M.view with fs := fs.map (·.view), since := 0 })) := Lib.hid (by
        have := hall.out
        rw [List.take_length] at this
        rw [NP.script, if_pos]
        rw [List.all_map]
        exact this)
      have c4 : wr.cell? ⟨k, 4, none⟩ = some (.slice M.fa M.fs.length M.fc) := (HC.out.chip.below hb.out hkl).cell 4
      have c5 : wr.cell? ⟨k, 5, none⟩ = some (vi M.since) := (HC.out.chip.below hb.out hkl).cell 5
      have z4 := (HC.out.chip.below hb.out hkl).frozen 4
      have z5 := (HC.out.chip.below hb.out hkl).frozen 5
      have ST : Hid (ScrSt base w k M fs 0 (.slice none 0 0) [] ((wr.setCell ⟨k, 4, none⟩ (.slice none 0 0)).setCell ⟨k, 5, none⟩ (vi 0))) := Lib.hid
        ⟨((Chg.of_below (F := fun m => m = k) hb.out).setCell (p := ⟨k, 4, none⟩) (.inl rfl) _).setCell (p := ⟨k, 5, none⟩) (.inl rfl) _, ((HC.out.chip.below hb.out hkl).set_ 4 _).set_ 5 _, FOwn.nil _ _, by simp, rfl, rfl⟩
      clear hall hb hn1 hlt
      go_upto_region 10 with fail
      generalize (wr.setCell ⟨k, 4, none⟩ (.slice none 0 0)).setCell ⟨k, 5, none⟩ (vi 0) = w2 at *
      clear c4 c5 z4 z5
      go_wp2_with fail
      go_loopw [29] (fun i wr => ∃ (n : Nat) (v : Value) (gs : List FltM), n ≤ fs.length ∧ i = vi n ∧ Hid (ScrSt base w k M fs n v gs wr)) (fun i _ => fs.length - (intOf i).toNat)
      case atStart => exact ⟨0, _, [], Nat.zero_le _, rfl, ST⟩
      case round =>
        clear ST
        obtain ⟨n, v, gs, hn1, rfl, st⟩ := hrel
        by_cases hlt : n < fs.length
        · obtain ⟨b, o, rfl, hcell, hsr, hlc, hcm⟩ := (HR.out.chg st.out.chg (fun m e => by subst e; exact HM.out)).lookup hlt
          have hfl := HL.out _ (getD_mem (d := default) hlt)
          have HGD := Lib.hid (show fs.getD n default = fs.getD n default from rfl)
          generalize hff : fs.getD n default = f at hcell hsr hlc hcm hfl
          have HFF := Lib.hid hff
          clear hff HGD
          obtain ⟨fat, fk, fa, fl, fc⟩ := f
          have g0 : wr.cell? ⟨b, o + n * 3, none⟩ = some (vi fat) := hcell 0 _ rfl
          have g1 : wr.cell? ⟨b, o + n * 3 + 1, none⟩ = some (vi fk) := hcell 1 _ rfl
          have g2 : wr.cell? ⟨b, o + n * 3 + 2, none⟩ = some (.slice fa fl.length fc) := hcell 2 _ rfl
          dsimp only at hsr hfl
          have HSR := Lib.hid (hsr.old ((Below.refl _ _).alloc (Nat.le_refl _) (.cells #[vi fat, vi fk, .slice fa fl.length fc] 96))).row
          have hkw : k < wr.heap.size := st.out.chip.lt
          have hwr : w.heap.size ≤ wr.heap.size := st.out.chg.size
          have HFB := Lib.hid (Blk.new wr 96 #[vi fat, vi fk, .slice fa fl.length fc])
          have S1 := Lib.hid (st.out.old ((Below.refl _ _).alloc (Nat.le_refl _) (.cells #[vi fat, vi fk, .slice fa fl.length fc] 96)))
          have HOB : Hid (v.ownBlock ≠ some wr.heap.size) := Lib.hid (fun e => by
            obtain ⟨_, cur, hbk⟩ := st.out.own.row _ e
            have := hbk.lt
            omega)
          clear hcell hsr hlc hcm st
          go_wp2_with fail
          refine (Clone_any fa fl fc _ HSR.out hfl).mono ?_
          rintro e w3 ⟨v3, rfl, ho3, hb3⟩
          obtain ⟨a3, c3, rfl, hs3, hl3, hc3, -⟩ := ho3.srow (base := base) HSR.out.small
          have S3 := Lib.hid (S1.out.old hb3)
          have F3 := Lib.hid (HFB.out.old hb3)
          have HS3 := Lib.hid hs3
          clear g0 g1 g2 ho3 hs3 hb3 S1 HFB HSR
          generalize wr.heap.size = hf at *
          have k0 : w3.cell? ⟨hf, 0, none⟩ = some (vi fat) := F3.out.cell 0
          have k1 : w3.cell? ⟨hf, 1, none⟩ = some (vi fk) := F3.out.cell 1
          have k2 : w3.cell? ⟨hf, 2, none⟩ = some (.slice fa fl.length fc) := F3.out.cell 2
          have z2 := F3.out.frozen 2
          have S4 := Lib.hid (S3.out.var (j := 2) hbase F3.out hwr HOB.out (by omega) (.slice a3 fl.length c3))
          have HS4 := Lib.hid (HS3.out.grown (row := some hf) (set_grown w3 hf 2 (.slice a3 fl.length c3)) (fun b e => by injection e with e; subst e; exact ⟨Nat.le_trans hbase hwr, _, F3.out⟩))
          have F4 := Lib.hid (F3.out.set_ 2 (.slice a3 fl.length c3))
          go_upto_region 14 with fail
          clear k0 k1 k2 z2 F3 S3 HS3
          generalize w3.setCell ⟨hf, 2, none⟩ (.slice a3 fl.length c3) = w4 at *
          have k0 : w4.cell? ⟨hf, 0, none⟩ = some (vi fat) := F4.out.cell 0
          have k1 : w4.cell? ⟨hf, 1, none⟩ = some (vi fk) := F4.out.cell 1
          have k2 : w4.cell? ⟨hf, 2, none⟩ = some (.slice a3 fl.length c3) := F4.out.cell 2
          have hfl4 : hf < w4.heap.size := F4.out.lt
          have hkl4 : k < w4.heap.size := S4.out.chip.lt
          obtain ⟨v5, w5, hrun, ho5, hg5⟩ := append_flt (S4.out.old (Below.refl _ _).drew).own ⟨fat, fk, a3, fl, c3⟩ (by rw [S4.out.len]; omega) (Nat.le_trans (by omega) S4.out.chg.size)
          have RA : AppRun 41 41 41 v (.slice (some ⟨w4.heap.size, 0, none⟩) 1 1) (w4.alloc (.cells #[vi fat, vi fk, .slice a3 fl.length c3] 96)).drew v5 w5 := hrun
          have S5 := Lib.hid ((S4.out.old (Below.refl _ _).drew).next HM.out hbase hlt (g := ⟨fat, fk, a3, fl, c3⟩) (by rw [HFF.out]; rfl) ⟨HS4.out.old (Below.refl _ _).drew, hl3, hc3⟩ ho5 hg5)
          obtain ⟨av, cv, hv⟩ := S4.out.own.form
          have c4 : w4.cell? ⟨k, 4, none⟩ = some v := S4.out.chip.cell 4
          have hc5 : Blk w5 k 99 _ := ((S4.out.chip.drew).alloc (.cells #[vi fat, vi fk, .slice a3 fl.length c3] 96)).grown hg5 (own_blk_ne ((S4.out.old (Below.refl _ _).drew).own.old ((Below.refl _ _).alloc (Nat.le_refl _) (.cells #[vi fat, vi fk, .slice a3 fl.length c3] 96))) ((S4.out.chip.drew).alloc _) (by decide))
          have d4 : w5.cell? ⟨k, 4, none⟩ = some v := hc5.cell 4
          have y4 := hc5.frozen 4
          obtain ⟨av5, cv5, hv5⟩ := ho5.form
          subst hv hv5
          clear hrun ho5 hg5 hc5 F4
          go_region_law (refine step_app (.tmp 41) (.tmp 43) RA (by rfl) (by rfl) (by go_simp) (by go_simp) ?_)
          all_goals
            go_wp2_with fail
            go_roundw
            case rel => exact ⟨n + 1, _, gs ++ [⟨fat, fk, a3, fl, c3⟩], by omega, by go_num, Lib.hid (by have := S5.out; rw [List.length_append] at this; exact this)⟩
            case measure => simp [intOf]; omega
        · obtain rfl : n = fs.length := by omega
          obtain ⟨M', hg, hv⟩ := st.out.done HC.out
          have HG := Lib.hid hg
          have HV := Lib.hid hv
          clear hg hv
          go_wp2_with fail
          go_ret
          exact ActPost.mk HQ.out HG.out HV.out
end

end Go.Proofs.Ytpggkehfbhffbaa

