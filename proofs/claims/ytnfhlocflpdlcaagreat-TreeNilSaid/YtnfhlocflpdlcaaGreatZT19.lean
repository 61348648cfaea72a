/-
  Lemmas for a law's proof, put together from several texts: each part says what it shows, and its conditions.
-/
import Derived.Test.YtnfhlocflpdlcaaGreatZT18
import Derived.BigRegion
import Derived.Test.YtnfhlocflpdlcaaGreatZT14
/-
  A chip is made: without bytes, with bad blocks. No conditions of its own.
-/
namespace Go.Proofs.YtnfhlocflpdlcaaGreat
open Go.RowKit

abbrev zblk : Array Value := #[.slice none 0 0, vi 0, .bool false, .bool false, vi 0]
theorem blo_info : (Tryz.prog.info? 176).map (fun i => (i.zero, i.size, i.bytes)) = some (some (.agg zblk), 5, 48) := by kernel_rfl
theorem make_blos (n : Nat) (hn : n ≤ 1000) (w : World) : (Instr.makeSlice 177 (.int .i64 (n : Int)) (.int .i64 (n : Int))).run Tryz.prog w = .ok (.slice (some ⟨w.heap.size, 0, none⟩) n n) (w.alloc (.cells (madeCells zblk (n * 5)) 176)) := by
  obtain ⟨i0, hi, hz0, hz1, hz2⟩ := info_parts blo_info
  have := run_make (P := Tryz.prog) w 177 176 i0 (.agg zblk) Tryz.underlying177 hi hz0 .i64 .i64 n n (by omega) (Int.le_refl _) (by rw [hz2]; omega) (by omega)
  simp only [Int.toNat_natCast, hz1] at this
  exact this
theorem made_rows (z : Array Value) (n : Nat) (hz : z.size = 5) : (madeCells z (n * 5)).toList = (List.replicate n ()).flatMap fun _ => z.toList := by
  apply List.ext_getElem?
  intro j
  by_cases hj : j < n * 5
  · have h1 := flat_get (f := fun _ : Unit => z.toList) (m := 5) (by intro x; simpa using hz) () (List.replicate n ()) (j / 5) (j % 5) (by simp; omega) (by omega)
    rw [show j / 5 * 5 + j % 5 = j by omega] at h1
    rw [h1]
    simp [madeCells, hj, hz]
    rw [Array.getElem?_eq_getElem (by omega)]
    simp [hz, show j % 5 < 5 by omega]
  · have h1 : (madeCells z (n * 5)).toList.length ≤ j := by simp [madeCells]; omega
    have h2 : ((List.replicate n ()).flatMap fun _ => z.toList).length ≤ j := by rw [flat_length (m := 5) (by intro x; simpa using hz)]; simp; omega
    rw [List.getElem?_eq_none h1, List.getElem?_eq_none h2]

/-- Rows of blocks that hold nothing yet. -/
abbrev zrows (n : Nat) : List Value := (List.replicate n ()).flatMap fun _ => zblk.toList
theorem zrows_succ (n : Nat) : zrows (n + 1) = zblk.toList ++ zrows n := by unfold zrows; rw [List.replicate_succ, List.flatMap_cons]
/-- The state while blocks get their pages. -/
structure BlankSt (w : World) (k kb B P S i : Nat) (bs : List BloM) (wr : World) : Prop where
  chip : Blk wr k 180 #[vi B, vi P, vi S, .slice (some ⟨kb, 0, none⟩) B B, .slice none 0 0, vi 0, .bool false, vi 0, vi 0]
  geo : Blk wr w.heap.size 122 #[vi B, vi P, vi S]
  blocks : Arr wr 176 5 kb B B (bs.flatMap BloM.cells ++ zrows (B - i))
  len : bs.length = i
  form : ∀ x ∈ bs, x = ⟨x.g, P, List.replicate P ⟨none, [], 0⟩, 0, false, false, 0⟩
  pages : ∀ x ∈ bs, Arr wr 56 1 x.g x.ps.length x.c (x.ps.map (·.v))
  nodup : (bs.map (·.g)).Nodup
  low : w.heap.size ≤ k ∧ w.heap.size ≤ kb ∧ ∀ x ∈ bs, w.heap.size ≤ x.g
  below : Below w.heap.size w wr
theorem BlankSt.next {w wr : World} {k kb B P S i : Nat} {bs : List BloM} (h : BlankSt w k kb B P S i bs wr) (hi : i < B) (hP : P ≤ 32) :
    BlankSt w k kb B P S (i + 1) (bs ++ [⟨wr.heap.size, P, List.replicate P ⟨none, [], 0⟩, 0, false, false, 0⟩]) ((wr.setCell ⟨kb, i * 5, none⟩ (.slice (some ⟨wr.heap.size, 0, none⟩) P P)).alloc (.cells (madeCells #[.slice none 0 0] P) 56)) := by
  have hkb : k ≠ kb := fun e => by subst e; exact (h.blocks.ne_blk h.chip (by decide)) rfl
  have hgk : w.heap.size ≠ kb := (h.blocks.ne_blk h.geo (by decide)).symm
  have hx : ∀ x ∈ bs, x.g ≠ kb := fun x hx => (h.pages x hx).ne h.blocks (by decide)
  have hb : (bs.flatMap BloM.cells).length = i * 5 := by rw [flat_length BloM.cells_len, h.len]
  have n0 := Arr.lit (wr.setCell ⟨kb, i * 5, none⟩ (.slice (some ⟨wr.heap.size, 0, none⟩) P P)) 56 1 P (madeCells #[.slice none 0 0] P) (by unfold maxLen; omega) (by simp [madeCells])
  rw [toList_madeCells_one, size_set] at n0
  refine ⟨(h.chip.far (p := ⟨kb, i * 5, none⟩) hkb _).alloc _, (h.geo.far (p := ⟨kb, i * 5, none⟩) hgk _).alloc _, ?_, by simp [h.len], ?_, ?_, ?_, ⟨h.low.1, h.low.2.1, ?_⟩, (h.below.setCell h.low.2.1 _).alloc (by rw [size_set]; exact h.below.size) _⟩
  · have h1 := (h.blocks.set (i * 5) (.slice (some ⟨wr.heap.size, 0, none⟩) P P)).old ((Below.refl _ _).alloc (Nat.le_refl _) (.cells (madeCells #[.slice none 0 0] P) 56))
    rw [show B - i = (B - (i + 1)) + 1 by omega, zrows_succ, List.set_append_right _ _ (by omega), hb, Nat.sub_self] at h1
    rw [List.flatMap_append, List.append_assoc]
    have e : ([(⟨wr.heap.size, P, List.replicate P ⟨none, [], 0⟩, 0, false, false, 0⟩ : BloM)].flatMap BloM.cells) = [.slice (some ⟨wr.heap.size, 0, none⟩) P P, vi 0, .bool false, .bool false, vi 0] := by simp [BloM.cells]
    rw [e]
    exact h1
  · intro x hxm
    rcases List.mem_append.1 hxm with hxm | hxm
    · exact h.form x hxm
    · rw [List.mem_singleton] at hxm
      subst hxm
      rfl
  · intro x hxm
    rcases List.mem_append.1 hxm with hxm | hxm
    · exact ((h.pages x hxm).far (p := ⟨kb, i * 5, none⟩) (hx x hxm) _).old ((Below.refl _ _).alloc (Nat.le_refl _) _)
    · rw [List.mem_singleton] at hxm
      subst hxm
      dsimp only
      rw [List.length_replicate, List.map_replicate]
      exact n0
  · rw [List.map_append]
    refine List.nodup_append.2 ⟨h.nodup, by simp, ?_⟩
    intro a ha b hb' e
    simp only [List.map_cons, List.map_nil, List.mem_singleton] at hb'
    obtain ⟨x, hxm, rfl⟩ := List.mem_map.1 ha
    have := (h.pages x hxm).lt
    omega
  · intro x hxm
    rcases List.mem_append.1 hxm with hxm | hxm
    · exact h.low.2.2 x hxm
    · rw [List.mem_singleton] at hxm
      subst hxm
      exact h.below.size

/-- A chip that was made in this call. -/
structure MadeAt (base : Nat) (w : World) (k : Nat) (M : ChM) (w' : World) : Prop where
  at_ : ChipAt base w' k M
  below : Below w.heap.size w w'
  own : ∀ n, M.foot k n → w.heap.size ≤ n
theorem BlankSt.made {w wr : World} {k kb B P S base : Nat} {bs : List BloM} (h : BlankSt w k kb B P S B bs wr) (hb : base ≤ w.heap.size) :
    MadeAt base w k ⟨B, P, S, kb, B, bs, none, [], 0, 0, false, 0, 0⟩ wr ∧ (⟨B, P, S, kb, B, bs, none, [], 0, 0, false, 0, 0⟩ : ChM).view = NP.blank B P S := by
  have hlow : ∀ n, (⟨B, P, S, kb, B, bs, none, [], 0, 0, false, 0, 0⟩ : ChM).foot k n → w.heap.size ≤ n := by
    rintro n (rfl | rfl | hn)
    · exact h.low.1
    · exact h.low.2.1
    · obtain ⟨x, hx, rfl⟩ := List.mem_map.1 hn
      exact h.low.2.2 x hx
  refine ⟨⟨⟨?_, ?_, h.pages, h.nodup, ?_, FRow.nil _ _ _, fun n hn => Nat.le_trans hb (hlow n hn)⟩, h.below, hlow⟩, ?_⟩
  · have := h.chip
    simp only [ChM.cs, h.len]
    exact this
  · have := h.blocks
    rw [Nat.sub_self] at this
    dsimp only
    rw [h.len]
    simpa [zrows] using this
  · intro x hx p hp
    rw [h.form x hx] at hp
    rw [(List.mem_replicate.1 hp).2]
    exact PgM.ok.none _ _
  · simp only [ChM.view, NP.blank, List.map_nil, NP.Chp.mk.injEq, true_and, and_true]
    refine List.eq_replicate_iff.2 ⟨by rw [List.length_map, h.len], fun y hy => ?_⟩
    obtain ⟨x, hx, rfl⟩ := List.mem_map.1 hy
    rw [h.form x hx]
    simp [BloM.view, NP.blankB]

set_option maxRecDepth 100000 in
set_option maxHeartbeats 4000000 in
theorem blank_any (base B P S : Nat) (w : World) (hB : B ≤ 128) (hP : P ≤ 32) (hb : base ≤ w.heap.size) : Calls Tryz.prog 108 #[.agg #[vi B, vi P, vi S]] w fun e w' => ∃ k M, e = .returned (ptr k) ∧ MadeAt base w k M w' ∧ M.view = NP.blank B P S := by
  have hmk := make_blos B (by omega)
  have hB' := Lib.hid hB
  have g0 : Blk (w.alloc (.cells #[vi B, vi P, vi S] 122)) w.heap.size 122 #[vi B, vi P, vi S] := Blk.new _ _ _
  have HB : Hid (Below w.heap.size w (w.alloc (.cells #[vi B, vi P, vi S] 122))) := Lib.hid ((Below.refl _ _).alloc (Nat.le_refl _) _)
  have hz1 : Hid ((w.alloc (.cells #[vi B, vi P, vi S] 122)).heap.size = w.heap.size + 1) := Lib.hid (size_alloc _ _)
  go_enter Tryz.func108, Tryz.ntmps108
  go_wp2_with fail
  generalize w.alloc (.cells #[vi B, vi P, vi S] 122) = w1 at *
  have c0 : w1.cell? ⟨w.heap.size, 0, none⟩ = some (vi B) := g0.cell 0
  have c1 : w1.cell? ⟨w.heap.size, 1, none⟩ = some (vi P) := g0.cell 1
  have c2 : w1.cell? ⟨w.heap.size, 2, none⟩ = some (vi S) := g0.cell 2
  have hlt : w.heap.size < w1.heap.size := by have := hz1.out; omega
  have hn1 : ¬ w1.heap.size = w.heap.size := by omega
  have hn2 : ¬ w.heap.size = w1.heap.size := by omega
  go_region
  have ST : Hid (BlankSt w (w1.heap.size + 1) w1.heap.size B P S 0 [] (((w1.alloc (.cells (madeCells zblk (B * 5)) 176)).alloc (.cells #[vi B, vi P, vi S, .slice (some ⟨w1.heap.size, 0, none⟩) B B, .slice none 0 0, vi 0, .bool false, vi 0, vi 0] 180)).drew)) := Lib.hid (by
    refine ⟨?_, ((g0.alloc _).alloc _), ?_, rfl, by simp, by simp, by simp, ⟨by omega, by omega, by simp⟩, ((HB.out.alloc (Nat.le_of_lt hlt) _).alloc (by rw [size_alloc]; omega) _).drew⟩
    · have := Blk.new (w1.alloc (.cells (madeCells zblk (B * 5)) 176)) 180 #[vi B, vi P, vi S, .slice (some ⟨w1.heap.size, 0, none⟩) B B, .slice none 0 0, vi 0, .bool false, vi 0, vi 0]
      rw [size_alloc] at this
      exact this.drew
    · have := (Arr.lit w1 176 5 B (madeCells zblk (B * 5)) (by unfold maxLen; omega) (by simp [madeCells])).old ((Below.refl _ _).alloc (Nat.le_refl _) (.cells #[vi B, vi P, vi S, .slice (some ⟨w1.heap.size, 0, none⟩) B B, .slice none 0 0, vi 0, .bool false, vi 0, vi 0] 180)).drew
      rw [made_rows _ _ rfl] at this
      rw [List.flatMap_nil, List.nil_append, Nat.sub_zero]
      exact this)
  clear hmk g0 c0 c1 c2 hn1 hn2 hz1 HB
  generalize ((w1.alloc (.cells (madeCells zblk (B * 5)) 176)).alloc (.cells #[vi B, vi P, vi S, .slice (some ⟨w1.heap.size, 0, none⟩) B B, .slice none 0 0, vi 0, .bool false, vi 0, vi 0] 180)).drew = w3 at *
  generalize w1.heap.size + 1 = k at *
  generalize w1.heap.size = kb at *
  have c3 : w3.cell? ⟨k, 3, none⟩ = some (.slice (some ⟨kb, 0, none⟩) B B) := ST.out.chip.cell 3
  go_wp2_with fail
  clear c3
  go_loopw [16] (fun v wr => ∃ (i : Nat) (bs : List BloM), i ≤ B ∧ v = vi i ∧ Hid (BlankSt w k kb B P S i bs wr)) (fun v _ => B - (intOf v).toNat)
  case atStart => exact ⟨0, [], Nat.zero_le _, rfl, ST⟩
  case round =>
    obtain ⟨i, bs, hi, rfl, st⟩ := hrel
    by_cases hlt2 : i < B
    · have c3 : wr.cell? ⟨k, 3, none⟩ = some (.slice (some ⟨kb, 0, none⟩) B B) := st.out.chip.cell 3
      have c1 : wr.cell? ⟨w.heap.size, 1, none⟩ = some (vi P) := st.out.geo.cell 1
      have hb5 : (bs.flatMap BloM.cells).length = i * 5 := by rw [flat_length BloM.cells_len, st.out.len]
      have c0 : wr.cell? ⟨kb, i * 5, none⟩ = some (.slice none 0 0) := by
        rw [st.out.blocks.cell (by omega), List.getElem?_append_right (by omega), hb5, Nat.sub_self, show B - i = (B - (i + 1)) + 1 by omega, zrows_succ]
        rfl
      have z0 := st.out.blocks.frozen (i * 5)
      have hkl : kb < wr.heap.size := st.out.blocks.lt
      have hkl1 : ¬ wr.heap.size = kb := by omega
      have hkl2 : ¬ kb = wr.heap.size := by omega
      have hgl : w.heap.size < wr.heap.size := st.out.geo.lt
      have hcl : k < wr.heap.size := st.out.chip.lt
      have hmk := make_pages P (by omega)
      have q0 : (0 : Int) ≤ (i : Int) := by omega
      have q1 : (i : Int) < (B : Int) := by omega
      have ST2 := Lib.hid (st.out.next hlt2 hP)
      clear hb5 hlt
      go_upto_region 5 with fail
      go_region
      have ST3 : Hid (BlankSt w k kb B P S (i + 1) _ _) := Lib.hid ⟨ST2.out.chip.drew, ST2.out.geo.drew, ST2.out.blocks.old (Below.refl _ _).drew, ST2.out.len, ST2.out.form, fun x hx => (ST2.out.pages x hx).old (Below.refl _ _).drew, ST2.out.nodup, ST2.out.low, ST2.out.below.drew⟩
      go_wp2_with fail
      go_roundw
      case rel => exact ⟨i + 1, _, by omega, by go_num, ST3⟩
      case measure => simp [intOf]; omega
    · obtain rfl : i = B := by omega
      have hM := st.out.made hb
      have HM := Lib.hid hM
      clear hM
      go_wp2_with fail
      go_ret
      exact ⟨_, _, rfl, HM.out.1, HM.out.2⟩

theorem MadeAt.goes {base : Nat} {w wr w' : World} {k : Nat} {M M' : ChM} (h : MadeAt base w k M wr) (g : Goes base wr k M w' M') : MadeAt base w k M' w' :=
  ⟨g.at_, h.below.trans (g.chg.to_below (fun n _ hn => h.own n hn) h.below.size), fun n hn => by
    rcases g.foot n hn with h1 | h1
    · exact h.own n h1
    · exact Nat.le_trans h.below.size h1⟩
theorem MadeAt.more {base : Nat} {w0 w wr : World} {k : Nat} {M : ChM} (h : MadeAt base w k M wr) (q : Below w0.heap.size w0 w) : MadeAt base w0 k M wr :=
  ⟨h.at_, q.trans (h.below.mono q.size), fun n hn => Nat.le_trans q.size (h.own n hn)⟩
/-- What New answers. -/
def NewPost (base : Nat) (w : World) (r : Option NP.Chp) (e : Ending) (w' : World) : Prop :=
  match r with
  | some V => ∃ k M, e = .returned (.tuple #[ptr k, vi 0]) ∧ MadeAt base w k M w' ∧ M.view = V
  | none => e = .returned (.tuple #[.pointer none, vi 1]) ∧ Below w.heap.size w w'
theorem NewPost.no {base : Nat} {w w' : World} {r : Option NP.Chp} (h : r = none) (hb : Below w.heap.size w w') : NewPost base w r (.returned (.tuple #[.pointer none, vi 1])) w' := by
  rw [h]
  exact ⟨rfl, hb⟩
theorem NewPost.yes {base : Nat} {w w' : World} {r : Option NP.Chp} {k : Nat} {M : ChM} (h : r = some M.view) (hm : MadeAt base w k M w') : NewPost base w r (.returned (.tuple #[ptr k, vi 0])) w' := by
  rw [h]
  exact ⟨k, M, rfl, hm, rfl⟩

set_option maxRecDepth 100000 in
set_option maxHeartbeats 4000000 in
theorem New_any (base : Nat) (b p s : Int) (a : Option Addr) (bad : List Int) (c : Nat) (w : World) (hr : IRow w a bad) (hl : bad.length ≤ 9223372036854775807) (hb : base ≤ w.heap.size) :
    Calls Tryz.prog 65 #[.agg #[vi b, vi p, vi s], .slice a bad.length c] w (NewPost base w (NP.new b p s bad)) := by
  have HR := Lib.hid hr
  have g0 := Lib.hid (Blk.new w 122 #[vi b, vi p, vi s])
  have HB : Hid (Below w.heap.size w (w.alloc (.cells #[vi b, vi p, vi s] 122))) := Lib.hid ((Below.refl _ _).alloc (Nat.le_refl _) _)
  clear hr
  go_enter Tryz.func65, Tryz.ntmps65
  go_wp2_with fail
  generalize w.alloc (.cells #[vi b, vi p, vi s] 122) = w0 at *
  have c0 : w0.cell? ⟨w.heap.size, 0, none⟩ = some (vi b) := g0.out.cell 0
  have c1 : w0.cell? ⟨w.heap.size, 1, none⟩ = some (vi p) := g0.out.cell 1
  have c2 : w0.cell? ⟨w.heap.size, 2, none⟩ = some (vi s) := g0.out.cell 2
  refine (Right_any b p s _).mono ?_
  rintro e w1 ⟨rfl, hb1⟩
  have g1 := Lib.hid (g0.out.old hb1)
  have HB1 := Lib.hid (HB.out.trans (hb1.mono HB.out.size))
  clear c0 c1 c2 hb1 g0 HB
  cases hrt : NP.rightB b p s
  · have HQ := Lib.hid (show NP.new b p s bad = none by rw [NP.new, if_neg (by rw [hrt]; simp)])
    clear hrt
    go_wp2_with fail
    go_ret2
    exact NewPost.no HQ.out HB1.out
  · have HQ := Lib.hid (show NP.new b p s bad = NP.badTo (NP.blank b.toNat p.toNat s.toNat) bad by rw [NP.new, if_pos hrt])
    have hrt' := hrt
    simp only [NP.rightB, Bool.and_eq_true, decide_eq_true_eq, Bool.or_eq_true, beq_iff_eq] at hrt'
    obtain ⟨B, rfl⟩ : ∃ B : Nat, b = B := ⟨b.toNat, by omega⟩
    obtain ⟨P, rfl⟩ : ∃ P : Nat, p = P := ⟨p.toNat, by omega⟩
    obtain ⟨S, rfl⟩ : ∃ S : Nat, s = S := ⟨s.toNat, by omega⟩
    rw [Int.toNat_natCast, Int.toNat_natCast, Int.toNat_natCast] at HQ
    have HRT := Lib.hid hrt
    have hBB : B ≤ 128 := by omega
    have hPP : P ≤ 32 := by omega
    clear hrt hrt'
    have c0 : w1.cell? ⟨w.heap.size, 0, none⟩ = some (vi B) := g1.out.cell 0
    have c1 : w1.cell? ⟨w.heap.size, 1, none⟩ = some (vi P) := g1.out.cell 1
    have c2 : w1.cell? ⟨w.heap.size, 2, none⟩ = some (vi S) := g1.out.cell 2
    go_wp2_with fail
    refine (blank_any base B P S _ hBB hPP (Nat.le_trans hb HB1.out.size)).mono ?_
    rintro e w2 ⟨k, M, rfl, hm, hv⟩
    have HM := Lib.hid hm
    have HV := Lib.hid hv
    have HLB : Hid (M.bs.length = B ∧ M.B = B) := Lib.hid (by
      have h1 : M.view.bs.length = B := by rw [hv]; exact List.length_replicate ..
      have h2 : M.view.B = B := by rw [hv]; rfl
      exact ⟨by simpa [ChM.view] using h1, h2⟩)
    have HQ2 : Hid (NP.new B P S bad = NP.badTo M.view (bad.drop 0)) := Lib.hid (by rw [HQ.out, hv, List.drop_zero])
    clear c0 c1 c2 hm hv HQ HV
    go_wp2_with fail
    go_loopw [16] (fun v wr => ∃ (i : Nat) (M : ChM), i ≤ bad.length ∧ v = vi i ∧ Hid (MadeAt base w1 k M wr) ∧ Hid (M.bs.length = B ∧ M.B = B) ∧ Hid (NP.new B P S bad = NP.badTo M.view (bad.drop i))) (fun v _ => bad.length - (intOf v).toNat)
    case atStart => exact ⟨0, M, Nat.zero_le _, rfl, HM, HLB, HQ2⟩
    case round =>
      clear HM HLB HQ2 M
      obtain ⟨i, M, hi, rfl, HM, HLB, HQ⟩ := hrel
      by_cases hlt : i < bad.length
      · obtain ⟨ba, o, rfl, hx⟩ := (HR.out.below (HB1.out.trans (HM.out.below.mono HB1.out.size))).lookup hlt
        have hdr : bad.drop i = bad.getD i 0 :: bad.drop (i + 1) := by
          rw [List.drop_eq_getElem_cons hlt, List.getD_eq_getElem?_getD, List.getElem?_eq_getElem hlt]
          rfl
        have HDR := Lib.hid hdr
        clear hdr
        generalize bad.getD i 0 = x at *
        have c0 : wr.cell? ⟨w.heap.size, 0, none⟩ = some (vi B) := (g1.out.below HM.out.below g1.out.lt).cell 0
        by_cases hx0 : 0 ≤ x
        · by_cases hx1 : x < B
          · obtain ⟨j, rfl⟩ : ∃ j : Nat, x = j := ⟨x.toNat, by omega⟩
            have hj : j < M.bs.length := by rw [HLB.out.1]; omega
            have c3 : wr.cell? ⟨k, 3, none⟩ = some (.slice (some ⟨M.kb, 0, none⟩) M.bs.length M.kc) := HM.out.at_.chip.cell 3
            have d3 : wr.cell? ⟨M.kb, j * 5 + 3, none⟩ = some (.bool (M.bs.getD j default).bad) := HM.out.at_.bcell hj (j := 3) (by decide)
            have z3 := HM.out.at_.blocks.frozen (j * 5 + 3)
            have HM2 : Hid (MadeAt base w1 k (markM M j) (wr.setCell ⟨M.kb, j * 5 + 3, none⟩ (.bool true))) := Lib.hid (HM.out.goes (HM.out.at_.bfield hj (j := 3) (by decide) (.bool true) { M.bs.getD j default with bad := true } rfl rfl rfl rfl))
            have HL2 : Hid ((markM M j).bs.length = B ∧ (markM M j).B = B) := Lib.hid ⟨by show (M.bs.set _ _).length = _; rw [List.length_set]; exact HLB.out.1, HLB.out.2⟩
            have HQ2 : Hid (NP.new B P S bad = NP.badTo (markM M j).view (bad.drop (i + 1))) := Lib.hid (by
              rw [HQ.out, HDR.out, NP.badTo, if_pos ⟨by omega, by show (j : Int) < (M.B : Int); rw [HLB.out.2]; omega⟩, Int.toNat_natCast, markM_view hj])
            generalize (M.bs.getD j default).bad = bd at *
            go_wp2_with fail
            go_roundw
            case rel => exact ⟨i + 1, _, by omega, by go_num, HM2, HL2, HQ2⟩
            case measure => simp [intOf]; omega
          · have HF : Hid (NP.new B P S bad = none) := Lib.hid (by rw [HQ.out, HDR.out, NP.badTo, if_neg (by show ¬ (0 ≤ x ∧ x < (M.B : Int)); rw [HLB.out.2]; omega)])
            go_wp2_with fail
            go_ret2
            exact NewPost.no HF.out (HB1.out.trans (HM.out.below.mono HB1.out.size))
        · have HF : Hid (NP.new B P S bad = none) := Lib.hid (by rw [HQ.out, HDR.out, NP.badTo, if_neg (by omega)])
          go_wp2_with fail
          go_ret2
          exact NewPost.no HF.out (HB1.out.trans (HM.out.below.mono HB1.out.size))
      · obtain rfl : i = bad.length := by omega
        have HF : Hid (NP.new B P S bad = some M.view) := Lib.hid (by rw [HQ.out, List.drop_length]; rfl)
        go_wp2_with fail
        go_ret2
        exact NewPost.yes HF.out (HM.out.more HB1.out)

end Go.Proofs.YtnfhlocflpdlcaaGreat

/-
  A chip's erase counts, in memory and in plain words. Conditions: a chip of its blocks.
-/
namespace Go.Proofs.YtnfhlocflpdlcaaGreat
open Go.RowKit

theorem wear_view (M : ChM) (j : Int) (hB : M.bs.length = M.B) : wearM M j = NP.wearAt M.view j := by
  have hB' : (M.view.B : Int) = M.bs.length := by rw [hB]; rfl
  unfold wearM NP.wearAt
  rw [hB']
  by_cases h : 0 ≤ j ∧ j < M.bs.length
  · rw [if_pos h, if_pos h, view_blk (by omega)]
    rfl
  · rw [if_neg h, if_neg h]

end Go.Proofs.YtnfhlocflpdlcaaGreat

/-
  A manager of a chip's blocks: a page dropped, a block asked whether it is idle, a block gone. Conditions: a manager and its chip told by Held.
-/
namespace Go.Proofs.YtnfhlocflpdlcaaGreat.mgr
open Go.RowKit

section
variable {base : Nat} {w w' : World} {m : Nat} {G : MgM} {M : ChM}
theorem there_yes {g : Mg} {k : Int} (h : g.there k = true) : ∃ i : Nat, k = i ∧ i < g.l.length ∧ (g.blk i).s ≠ 4 := by
  unfold Mg.there at h
  simp only [Bool.and_eq_true, decide_eq_true_eq, bne_iff_ne, ne_eq] at h
  exact ⟨k.toNat, by omega, by omega, h.2⟩
def HPost (base : Nat) (w : World) (m : Nat) (G : MgM) (M : ChM) (r : Int × NP.Chp × Mg) (e : Ending) (w' : World) : Prop :=
  ∃ M', e = .returned (vi r.1) ∧ HGoes base w m G M w' r.2.2 M' ∧ M'.view = r.2.1
theorem HPost.mk {r : Int × NP.Chp × Mg} {n : Int} {V : NP.Chp} {g' : Mg} (hr : r = (n, V, g')) {M' : ChM} (hg : HGoes base w m G M w' g' M') (hv : M'.view = V) : HPost base w m G M r (.returned (vi n)) w' :=
  ⟨M', by rw [hr], by rw [hr]; exact hg, by rw [hr]; exact hv⟩
set_option maxRecDepth 100000 in
set_option maxHeartbeats 2000000 in
theorem Drop_any (h : Held base w m G M) (hok : G.view.ok M.view) (hP32 : M.P ≤ 32) (k : Int) : Calls Tryz.prog 163 #[ptr m, vi k] w fun e w' => e = .returned (vi (G.view.drop k).1) ∧ HGoes base w m G M w' (G.view.drop k).2 M := by
  have HT := Lib.hid (there_any h k)
  cases ht : G.view.there k
  · have HQ : Hid (G.view.drop k = (1, G.view)) := Lib.hid (by unfold Mg.drop; rw [if_pos (.inl ht)])
    have H := Lib.hid h
    rw [ht] at HT
    clear ht h hok
    go_enter Tryz.func163, Tryz.ntmps163
    go_wp2_with fail
    refine HT.out.mono ?_
    rintro e w' ⟨rfl, rfl⟩
    go_wp2_with fail
    go_ret
    exact ⟨ret_int (by rw [HQ.out]), by rw [HQ.out]; exact HGoes.refl H.out⟩
  · obtain ⟨i, rfl, hi, hs4⟩ := there_yes ht
    obtain ⟨c0, c1, c2, c3, c4, c5⟩ := h.cells
    obtain ⟨d0, d1, d2, d3⟩ := h.bcells hi
    have hi0 : (0 : Int) ≤ (i : Int) := by omega
    have hi1 : (i : Int) < (G.l.length : Int) := by
      have : i < G.l.length := hi
      omega
    have hr := hok.rng _ (blk_mem hi)
    have hP : M.view.P = M.P := rfl
    have HDEF : Hid (G.view.drop i = if G.view.there i = false ∨ (G.l.getD i default).l = 0 then (1, G.view) else (0, G.view.put i { G.l.getD i default with l := (G.l.getD i default).l - 1, s := if (G.l.getD i default).s = 2 ∧ (G.l.getD i default).l - 1 = 0 then 3 else (G.l.getD i default).s })) := Lib.hid (by
      unfold Mg.drop; simp only [Int.toNat_natCast])
    rw [ht] at HT HDEF
    have H := Lib.hid h
    have HI := Lib.hid hi
    by_cases hl : (G.l.getD i default).l = 0
    · have HQ : Hid (G.view.drop i = (1, G.view)) := Lib.hid (by rw [HDEF.out, if_pos (.inr hl)])
      rw [hl] at d1
      clear ht h hok hr hl d0 d2 d3 hs4 c0 c2 c3 c4 c5 hi HDEF
      go_enter Tryz.func163, Tryz.ntmps163
      go_wp2_with fail
      refine HT.out.mono ?_
      rintro e w' ⟨rfl, rfl⟩
      go_wp2_with fail
      go_ret
      exact ⟨ret_int (by rw [HQ.out]), by rw [HQ.out]; exact HGoes.refl H.out⟩
    · have HQ : Hid (G.view.drop i = (0, G.view.put i { G.l.getD i default with l := (G.l.getD i default).l - 1, s := if (G.l.getD i default).s = 2 ∧ (G.l.getD i default).l - 1 = 0 then 3 else (G.l.getD i default).s })) := Lib.hid (by
        rw [HDEF.out, if_neg (by simpa using hl)])
      have hb := hP32
      have hlb : 0 ≤ (G.l.getD i default).l ∧ (G.l.getD i default).l ≤ 32 := ⟨hr.2.2.1, by have h1 : (G.l.getD i default).l ≤ M.view.P := hr.2.2.2.1; omega⟩
      have h1 := h.cell hi (j := 1) (by decide) (vi ((G.l.getD i default).l - 1)) { G.l.getD i default with l := (G.l.getD i default).l - 1 } rfl
      have h2 := h1.trans (h1.at_.cell (i := i) (j := 0) (by simpa [Mg.put] using hi) (by decide) (vi 3) { G.l.getD i default with l := (G.l.getD i default).l - 1, s := 3 } (by dsimp only [MgM.lay, Mg.put, MgM.view]; rw [blk_set _ _ _ _ hi, if_pos rfl]; rfl))
      simp only [Mg.put, List.set_set, Nat.add_zero] at h1 h2
      have H1 := Lib.hid h1
      have H2 := Lib.hid h2
      have z0 := h.mgr.row.frozen (i * 4)
      have z1 := h.mgr.row.frozen (i * 4 + 1)
      clear h1 h2 HDEF ht h hok hr hs4 c0 c2 c3 c4 c5 hi d2 d3 hb HI
      generalize hxl : (G.l.getD i default).l = xl at *
      generalize hxs : (G.l.getD i default).s = xs at *
      have q1 : IntKind.i64.wrap (xl - 1) = xl - 1 := IntWalk.i64_in _ (by omega)
      have hl' : (xl == 0) = false := beq_eq_false_iff_ne.2 hl
      have hne : ¬ m = G.gl := H.out.ne
      clear hxl hxs
      by_cases h2s : xs = 2
      · have hs' : (xs == 2) = true := beq_iff_eq.2 h2s
        by_cases h1l : xl - 1 = 0
        · have hl'' : (xl - 1 == 0) = true := beq_iff_eq.2 h1l
          rw [if_pos ⟨h2s, h1l⟩] at HQ
          clear h2s h1l hl
          go_enter Tryz.func163, Tryz.ntmps163
          go_wp2_with fail
          refine HT.out.mono ?_
          rintro e w' ⟨rfl, rfl⟩
          go_wp2_with fail
          go_ret
          exact ⟨ret_int (by rw [HQ.out]), by rw [HQ.out]; exact H2.out⟩
        · have hl'' : (xl - 1 == 0) = false := beq_eq_false_iff_ne.2 h1l
          rw [if_neg (by simp [h1l])] at HQ
          clear h2s h1l hl
          go_enter Tryz.func163, Tryz.ntmps163
          go_wp2_with fail
          refine HT.out.mono ?_
          rintro e w' ⟨rfl, rfl⟩
          go_wp2_with fail
          go_ret
          exact ⟨ret_int (by rw [HQ.out]), by rw [HQ.out]; exact H1.out⟩
      · have hs' : (xs == 2) = false := beq_eq_false_iff_ne.2 h2s
        rw [if_neg (by simp [h2s])] at HQ
        clear h2s hl
        go_enter Tryz.func163, Tryz.ntmps163
        go_wp2_with fail
        refine HT.out.mono ?_
        rintro e w' ⟨rfl, rfl⟩
        go_wp2_with fail
        go_ret
        exact ⟨ret_int (by rw [HQ.out]), by rw [HQ.out]; exact H1.out⟩
def idleV (M : ChM) (g : Mg) (k : Int) : Int := g.idle M.view k
set_option maxRecDepth 100000 in
set_option maxHeartbeats 1000000 in
theorem idle_any (h : Held base w m G M) (k : Int) : Calls Tryz.prog 261 #[ptr m, vi k] w fun e w' => e = .returned (vi (G.view.idle M.view k)) ∧ w' = w := by
  have HT := Lib.hid (there_any h k)
  have HR := Lib.hid (ready_any h)
  have HDEF : Hid (G.view.idle M.view k = if M.down then 4 else if G.view.there k = false ∨ 0 < (G.l.getD k.toNat default).l then 1 else 0) := Lib.hid rfl
  cases hd : M.down
  · rw [hd] at HR HDEF
    rw [if_neg (by decide)] at HDEF HR
    cases ht : G.view.there k
    · rw [ht] at HT
      rw [if_pos (.inl ht)] at HDEF
      clear h ht hd
      go_enter Tryz.func261, Tryz.ntmps261
      go_wp2_with fail
      refine HR.out.mono ?_
      rintro e w' ⟨rfl, rfl⟩
      go_wp2_with fail
      refine HT.out.mono ?_
      rintro e w' ⟨rfl, rfl⟩
      go_wp2_with fail
      go_ret
      exact ⟨ret_int HDEF.out.symm, rfl⟩
    · obtain ⟨i, rfl, hi, hs4⟩ := there_yes ht
      obtain ⟨c0, c1, c2, c3, c4, c5⟩ := h.cells
      obtain ⟨d0, d1, d2, d3⟩ := h.bcells hi
      have hi0 : (0 : Int) ≤ (i : Int) := by omega
      have hi1 : (i : Int) < (G.l.length : Int) := by
        have : i < G.l.length := hi
        omega
      rw [ht] at HT HDEF
      rw [Int.toNat_natCast] at HDEF
      clear h ht hd c0 c2 c3 c4 c5 hs4 hi d0 d2 d3
      generalize (G.l.getD i default).l = xl at *
      by_cases hl : 0 < xl
      · rw [if_pos (.inr hl)] at HDEF
        go_enter Tryz.func261, Tryz.ntmps261
        go_wp2_with fail
        refine HR.out.mono ?_
        rintro e w' ⟨rfl, rfl⟩
        go_wp2_with fail
        refine HT.out.mono ?_
        rintro e w' ⟨rfl, rfl⟩
        go_wp2_with fail
        go_ret
        exact ⟨ret_int HDEF.out.symm, rfl⟩
      · rw [if_neg (by simp [hl])] at HDEF
        go_enter Tryz.func261, Tryz.ntmps261
        go_wp2_with fail
        refine HR.out.mono ?_
        rintro e w' ⟨rfl, rfl⟩
        go_wp2_with fail
        refine HT.out.mono ?_
        rintro e w' ⟨rfl, rfl⟩
        go_wp2_with fail
        go_ret
        exact ⟨ret_int HDEF.out.symm, rfl⟩
  · rw [hd] at HR HDEF
    rw [if_pos rfl] at HDEF HR
    clear h hd HT
    go_enter Tryz.func261, Tryz.ntmps261
    go_wp2_with fail
    refine HR.out.mono ?_
    rintro e w' ⟨rfl, rfl⟩
    go_wp2_with fail
    go_ret
    exact ⟨ret_int HDEF.out.symm, rfl⟩
end

end Go.Proofs.YtnfhlocflpdlcaaGreat.mgr

