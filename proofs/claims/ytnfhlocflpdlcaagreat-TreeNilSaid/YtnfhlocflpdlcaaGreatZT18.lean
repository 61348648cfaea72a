/-
  Lemmas for a law's proof, put together from several texts: each part says what it shows, and its conditions.
-/
import Derived.Test.YtnfhlocflpdlcaaGreatZT17
import Derived.BigRegion
import Derived.Deep.QuietTactic
/-
  A block is erased: as the plain words say. Conditions: a chip that is told by ChipAt, and right.
-/
namespace Go.Proofs.YtnfhlocflpdlcaaGreat
open Go.RowKit

section
variable {base : Nat} {w wr : World} {k : Nat} {M : ChM}

theorem Arr.bset {bs : List BloM} {g n c : Nat} (h : Arr w 176 5 g n c (bs.flatMap BloM.cells)) {i j : Nat} (hi : i < bs.length) (hj : j < 5) (v : Value) (y : BloM) (hy : y.cells = (bs.getD i default).cells.set j v) :
    Arr (w.setCell ⟨g, i * 5 + j, none⟩ v) 176 5 g n c ((bs.set i y).flatMap BloM.cells) := by
  rw [← flat_set BloM.cells_len default bs i j y v hi hj hy]
  exact h.set _ v
theorem nodup_set {l : List Nat} (h : l.Nodup) (i G : Nat) (hG : ∀ x ∈ l, x ≠ G) : (l.set i G).Nodup := by
  have hp := List.pairwise_iff_getElem.1 h
  refine List.pairwise_iff_getElem.2 fun a b ha hb hab => ?_
  have ha' : a < l.length := by simpa using ha
  have hb' : b < l.length := by simpa using hb
  rw [List.getElem_set, List.getElem_set]
  split
  · split
    · omega
    · exact fun e => hG _ (List.getElem_mem hb') e.symm
  · split
    · exact hG _ (List.getElem_mem ha')
    · exact hp a b ha' hb' hab
/-- A block is laid anew, with pages of its own. -/
theorem ChipAt.fresh (h : ChipAt base w k M) {i : Nat} (hi : i < M.bs.length) (P : Nat) (hP : P ≤ 32) (wr : Int) :
    Goes base w k M ((((((w.setCell ⟨M.kb, i * 5, none⟩ (.slice (some ⟨w.heap.size, 0, none⟩) P P)).setCell ⟨M.kb, i * 5 + 1, none⟩ (vi 0)).setCell ⟨M.kb, i * 5 + 2, none⟩ (.bool false)).setCell ⟨M.kb, i * 5 + 3, none⟩ (.bool false)).setCell ⟨M.kb, i * 5 + 4, none⟩ (vi wr)).alloc (.cells (madeCells #[.slice none 0 0] P) 56))
      { M with bs := M.bs.set i ⟨w.heap.size, P, List.replicate P ⟨none, [], 0⟩, 0, false, false, wr⟩ } := by
  have hl := fun (y : BloM) => show i < (M.bs.set i y).length by simpa using hi
  have hg := fun (y : BloM) => show (M.bs.set i y).getD i default = y by rw [NP.getD_set _ _ _ _ _ hi, if_pos rfl]
  have a0 := h.blocks.bset hi (j := 0) (by decide) (.slice (some ⟨w.heap.size, 0, none⟩) P P) { M.bs.getD i default with g := w.heap.size, c := P, ps := List.replicate P ⟨none, [], 0⟩ } (by simp)
  have a1 := a0.bset (hl _) (j := 1) (by decide) (vi 0) { M.bs.getD i default with g := w.heap.size, c := P, ps := List.replicate P ⟨none, [], 0⟩, next := 0 } (by rw [hg]; simp)
  rw [List.set_set] at a1
  have a2 := a1.bset (hl _) (j := 2) (by decide) (.bool false) { M.bs.getD i default with g := w.heap.size, c := P, ps := List.replicate P ⟨none, [], 0⟩, next := 0, broken := false } (by rw [hg]; simp)
  rw [List.set_set] at a2
  have a3 := a2.bset (hl _) (j := 3) (by decide) (.bool false) { M.bs.getD i default with g := w.heap.size, c := P, ps := List.replicate P ⟨none, [], 0⟩, next := 0, broken := false, bad := false } (by rw [hg]; simp)
  rw [List.set_set] at a3
  have a4 := a3.bset (hl _) (j := 4) (by decide) (vi wr) ⟨w.heap.size, P, List.replicate P ⟨none, [], 0⟩, 0, false, false, wr⟩ (by rw [hg]; simp)
  rw [List.set_set] at a4
  have a5 := a4.old ((Below.refl _ _).alloc (Nat.le_refl _) (.cells (madeCells #[.slice none 0 0] P) 56))
  have hkl : M.kb < w.heap.size := h.blocks.lt
  have hq : Chg (fun n => n = M.kb) w ((((((w.setCell ⟨M.kb, i * 5, none⟩ (.slice (some ⟨w.heap.size, 0, none⟩) P P)).setCell ⟨M.kb, i * 5 + 1, none⟩ (vi 0)).setCell ⟨M.kb, i * 5 + 2, none⟩ (.bool false)).setCell ⟨M.kb, i * 5 + 3, none⟩ (.bool false)).setCell ⟨M.kb, i * 5 + 4, none⟩ (vi wr)).alloc (.cells (madeCells #[.slice none 0 0] P) 56)) :=
    ((((((Chg.refl (fun n => n = M.kb) w).setCell (p := ⟨M.kb, i * 5, none⟩) (.inl rfl) _).setCell (p := ⟨M.kb, i * 5 + 1, none⟩) (.inl rfl) _).setCell (p := ⟨M.kb, i * 5 + 2, none⟩) (.inl rfl) _).setCell (p := ⟨M.kb, i * 5 + 3, none⟩) (.inl rfl) _).setCell (p := ⟨M.kb, i * 5 + 4, none⟩) (.inl rfl) _).alloc _
  have hF : ∀ n, n = M.kb → Mine base w n := fun n e => h.mine n (.inr (.inl e))
  have n0 : Arr ((((((w.setCell ⟨M.kb, i * 5, none⟩ (.slice (some ⟨w.heap.size, 0, none⟩) P P)).setCell ⟨M.kb, i * 5 + 1, none⟩ (vi 0)).setCell ⟨M.kb, i * 5 + 2, none⟩ (.bool false)).setCell ⟨M.kb, i * 5 + 3, none⟩ (.bool false)).setCell ⟨M.kb, i * 5 + 4, none⟩ (vi wr)).alloc (.cells (madeCells #[.slice none 0 0] P) 56)) 56 1 w.heap.size P P ((List.replicate P (⟨none, [], 0⟩ : PgM)).map (·.v)) := by
    have := Arr.lit (((((w.setCell ⟨M.kb, i * 5, none⟩ (.slice (some ⟨w.heap.size, 0, none⟩) P P)).setCell ⟨M.kb, i * 5 + 1, none⟩ (vi 0)).setCell ⟨M.kb, i * 5 + 2, none⟩ (.bool false)).setCell ⟨M.kb, i * 5 + 3, none⟩ (.bool false)).setCell ⟨M.kb, i * 5 + 4, none⟩ (vi wr)) 56 1 P (madeCells #[.slice none 0 0] P) (by unfold maxLen; omega) (by simp [madeCells])
    rw [toList_madeCells_one] at this
    simp only [size_set] at this
    rw [List.map_replicate]
    exact this
  generalize ((((((w.setCell ⟨M.kb, i * 5, none⟩ (.slice (some ⟨w.heap.size, 0, none⟩) P P)).setCell ⟨M.kb, i * 5 + 1, none⟩ (vi 0)).setCell ⟨M.kb, i * 5 + 2, none⟩ (.bool false)).setCell ⟨M.kb, i * 5 + 3, none⟩ (.bool false)).setCell ⟨M.kb, i * 5 + 4, none⟩ (vi wr)).alloc (.cells (madeCells #[.slice none 0 0] P) 56)) = w' at *
  clear a0 a1 a2 a3 a4
  have hmg : (M.bs.set i (⟨w.heap.size, P, List.replicate P ⟨none, [], 0⟩, 0, false, false, wr⟩ : BloM)).map (·.g) = (M.bs.map (·.g)).set i w.heap.size := List.map_set ..
  have hbase : base ≤ w.heap.size := Nat.le_of_lt (Nat.lt_of_le_of_lt (h.low k (.inl rfl)) h.chip.lt)
  have hfoot : ∀ n, ChM.foot { M with bs := M.bs.set i ⟨w.heap.size, P, List.replicate P ⟨none, [], 0⟩, 0, false, false, wr⟩ } k n → M.foot k n ∨ w.heap.size = n := by
    intro n hn
    rcases hn with rfl | rfl | hn
    · exact .inl (.inl rfl)
    · exact .inl (.inr (.inl rfl))
    · dsimp only at hn
      rw [hmg] at hn
      rcases List.mem_or_eq_of_mem_set hn with hn | rfl
      · exact .inl (.inr (.inr hn))
      · exact .inr rfl
  refine ⟨⟨?_, ?_, ?_, ?_, ?_, h.faults.chg hq hF, ?_⟩, hq.mono (fun n _ e => .inr (.inl e)), ?_⟩
  · have := h.chip.chg hq h.kb_ne.symm
    simpa [ChM.cs] using this
  · dsimp only
    rw [List.length_set]
    exact a5
  · intro x hx
    rcases mem_set_cases hx with rfl | ⟨n, hne, hn, rfl⟩
    · dsimp only
      rw [List.length_replicate]
      exact n0
    · exact (h.pages _ (getD_mem hn)).chg hq (h.g_ne (getD_mem hn)).2
  · dsimp only
    rw [hmg]
    refine nodup_set h.nodup i _ fun x hx e => ?_
    obtain ⟨y, hy, rfl⟩ := List.mem_map.1 hx
    have := (h.pages y hy).lt
    omega
  · intro x hx p hp
    rcases mem_set_cases hx with rfl | ⟨n, hne, hn, rfl⟩
    · rw [(List.mem_replicate.1 hp).2]
      exact PgM.ok.none _ _
    · exact (h.rows _ (getD_mem hn) p hp).chg hq hF
  · intro n hn
    rcases hfoot n hn with h1 | rfl
    · exact h.low n h1
    · exact hbase
  · intro n hn
    rcases hfoot n hn with h1 | rfl
    · exact .inl h1
    · exact .inr (Nat.le_refl _)

theorem pages_info : (Tryz.prog.info? 56).map (fun i => (i.zero, i.size, i.bytes)) = some (some (.slice none 0 0), 1, 24) := by kernel_rfl
theorem make_pages (n : Nat) (hn : n ≤ 1000000) (w : World) : (Instr.makeSlice 42 (.int .i64 (n : Int)) (.int .i64 (n : Int))).run Tryz.prog w = .ok (.slice (some ⟨w.heap.size, 0, none⟩) n n) (w.alloc (.cells (madeCells #[.slice none 0 0] n) 56)) :=
  run_make_row' 42 56 (.slice none 0 0) 24 Tryz.underlying42 pages_info rfl .i64 .i64 n (by omega) (by omega) w
set_option maxRecDepth 100000 in
set_option maxHeartbeats 4000000 in
theorem Erase_any (h : ChipAt base w k M) (hok : M.view.ok) (j : Int) : Calls Tryz.prog 114 #[ptr k, vi j] w (ActPost base w k M (NP.erase M.view j)) := by
  have hB := ok_len hok
  have HC := Lib.hid h
  have HOK := Lib.hid hok
  have HBB := Lib.hid hB
  obtain ⟨c0, c1, c2, c3, c4, c5, c6, c7, c8⟩ := h.cells
  clear c0 c1 c2 c4 c5 c6 c7 c8
  by_cases he : NP.asked M.view j 0 = 0
  · obtain ⟨hd, hj0, hj1, hp0, hp1⟩ := NP.asked_zero he
    change j < M.B at hj1
    obtain ⟨i, rfl⟩ : ∃ i : Nat, j = i := ⟨j.toNat, by omega⟩
    have hi : i < M.bs.length := by omega
    have hPP := (ok_S hok).2.1
    have HQ : Hid (NP.erase M.view i = if (M.bs.getD i default).bad then (13, M.view)
        else if (faultM M.fs M.since).kind = 1 then (4, NP.downP (NP.stroke M.view))
        else if (faultM M.fs M.since).kind = 2 then (4, NP.downP (NP.breakOff (NP.stroke M.view) i (faultM M.fs M.since).l))
        else if (faultM M.fs M.since).kind = 3 then (11, NP.breakOff (NP.stroke M.view) i (faultM M.fs M.since).l)
        else (0, NP.setBlk (NP.stroke M.view) i ⟨List.replicate M.P [], 0, false, false, NP.w64 ((M.bs.getD i default).wear + 1)⟩)) := Lib.hid (by
      unfold NP.erase
      dsimp only
      rw [if_pos he, Int.toNat_natCast, view_blk hi]
      have : NP.faultOf M.view.fs M.view.since = (faultM M.fs M.since).view := (faultM_view M.fs M.since).symm
      rw [this]
      rfl)
    have HE := Lib.hid he
    have d3 : w.cell? ⟨M.kb, i * 5 + 3, none⟩ = some (.bool (M.bs.getD i default).bad) := h.bcell hi (j := 3) (by decide)
    clear hd he hok h hp0 hp1
    cases hbad : (M.bs.getD i default).bad
    · rw [hbad] at HQ
      rw [if_neg (by simp)] at HQ
      rw [hbad] at d3
      clear hbad
      go_enter Tryz.func114, Tryz.ntmps114
      go_wp2_with fail
      refine (asked_any HC.out HBB.out _ _).mono ?_
      rintro e w' ⟨rfl, rfl⟩
      rw [HE.out]
      go_wp2_with fail
      refine (fault_any HC.out).mono ?_
      rintro e w2 ⟨rfl, hg2⟩
      have HG := Lib.hid hg2
      have hdat : SRow base w2 (faultM M.fs M.since).a (faultM M.fs M.since).l ∧ (faultM M.fs M.since).l.length ≤ (faultM M.fs M.since).c ∧ (faultM M.fs M.since).c ≤ maxLen := by
        rcases faultM_mem M.fs M.since with e | e
        · rw [e]; exact ⟨SRow.nil _ _ _, Nat.le_refl _, Nat.zero_le _⟩
        · exact hg2.at_.faults.data _ e
      have HFR := Lib.hid hdat.1
      have HFL := Lib.hid hdat.2
      clear hg2 d3 c3 hdat
      generalize faultM M.fs M.since = f at *
      obtain ⟨fat, fk, fa, fl, fc⟩ := f
      dsimp only at *
      have HA : Hid (Goes base w' k M (w2.alloc (.cells #[vi fat, vi fk, .slice fa fl.length fc] 229)) (strokeM M)) := Lib.hid (HG.out.old ((Below.refl _ _).alloc (Nat.le_refl _) _))
      have HF2 : Hid (SRow base (w2.alloc (.cells #[vi fat, vi fk, .slice fa fl.length fc] 229)) fa fl) := Lib.hid (HFR.out.old ((Below.refl _ _).alloc (Nat.le_refl _) _))
      have F9 := Blk.new w2 229 #[vi fat, vi fk, .slice fa fl.length fc]
      go_upto_region 8 with fail
      generalize w2.alloc (.cells #[vi fat, vi fk, .slice fa fl.length fc] 229) = w3 at *
      have k1 : w3.cell? ⟨w2.heap.size, 1, none⟩ = some (vi fk) := F9.cell 1
      have k2 : w3.cell? ⟨w2.heap.size, 2, none⟩ = some (.slice fa fl.length fc) := F9.cell 2
      clear F9 HFR HG
      generalize w2.heap.size = h2 at *
      have c6 : w3.cell? ⟨k, 6, none⟩ = some (.bool M.down) := HA.out.at_.chip.cell 6
      have z6 := HA.out.at_.chip.frozen 6
      have HI := Lib.hid hi
      have HSOK : Hid ((strokeM M).view.ok) := Lib.hid (NP.stroke_ok HOK.out)
      by_cases h1 : fk = 1
      · subst h1
        have hQ := HQ.out
        rw [if_pos rfl] at hQ
        have HQ1 := Lib.hid hQ
        clear hQ
        go_wp2_with fail
        go_ret
        exact ActPost.mk HQ1.out (HA.out.trans (HA.out.at_.field (M' := downM (strokeM M) true) 6 (.bool true) rfl rfl rfl rfl HA.out.at_.faults)) rfl
      by_cases h2' : fk = 2
      · subst h2'
        have hQ := HQ.out
        rw [if_neg (by decide), if_pos rfl] at hQ
        have HQ1 := Lib.hid hQ
        clear hQ h1 c6 z6
        go_wp2_with fail
        refine (breakOff_any HA.out.at_ HSOK.out i HI.out fa fl fc HF2.out HFL.out.1 HFL.out.2).mono ?_
        rintro e w5 ⟨rfl, M5, hg5, hv5⟩
        have HA5 := Lib.hid (HA.out.trans hg5)
        have HV5 := Lib.hid hv5
        clear hg5 hv5
        have c6 : w5.cell? ⟨k, 6, none⟩ = some (.bool M5.down) := HA5.out.at_.chip.cell 6
        have z6 := HA5.out.at_.chip.frozen 6
        go_wp2_with fail
        go_ret
        exact ActPost.mk HQ1.out (HA5.out.trans (HA5.out.at_.field (M' := downM M5 true) 6 (.bool true) rfl rfl rfl rfl HA5.out.at_.faults)) (by
          show NP.downP M5.view = _
          rw [HV5.out]
          rfl)
      by_cases h3 : fk = 3
      · subst h3
        have hQ := HQ.out
        rw [if_neg (by decide), if_neg (by decide), if_pos rfl] at hQ
        have HQ1 := Lib.hid hQ
        clear hQ h1 h2' c6 z6
        go_wp2_with fail
        refine (breakOff_any HA.out.at_ HSOK.out i HI.out fa fl fc HF2.out HFL.out.1 HFL.out.2).mono ?_
        rintro e w5 ⟨rfl, M5, hg5, hv5⟩
        have HA5 := Lib.hid (HA.out.trans hg5)
        have HV5 := Lib.hid hv5
        clear hg5 hv5
        go_wp2_with fail
        go_ret
        exact ActPost.mk HQ1.out HA5.out HV5.out
      · have hQ := HQ.out
        rw [if_neg h1, if_neg h2', if_neg h3] at hQ
        have HQ1 := Lib.hid hQ
        clear hQ
        go_upto_region 19 with fail
        have hmk := make_pages M.P (by omega)
        have c1 : w3.cell? ⟨k, 1, none⟩ = some (vi M.P) := HA.out.at_.chip.cell 1
        have d0 : w3.cell? ⟨M.kb, i * 5, none⟩ = some (.slice (some ⟨(M.bs.getD i default).g, 0, none⟩) (M.bs.getD i default).ps.length (M.bs.getD i default).c) := HA.out.at_.bcell (i := i) (j := 0) hi (by decide)
        have d1 : w3.cell? ⟨M.kb, i * 5 + 1, none⟩ = some (vi (M.bs.getD i default).next) := HA.out.at_.bcell (i := i) (j := 1) hi (by decide)
        have d2 : w3.cell? ⟨M.kb, i * 5 + 2, none⟩ = some (.bool (M.bs.getD i default).broken) := HA.out.at_.bcell (i := i) (j := 2) hi (by decide)
        have d3 : w3.cell? ⟨M.kb, i * 5 + 3, none⟩ = some (.bool (M.bs.getD i default).bad) := HA.out.at_.bcell (i := i) (j := 3) hi (by decide)
        have d4 : w3.cell? ⟨M.kb, i * 5 + 4, none⟩ = some (vi (M.bs.getD i default).wear) := HA.out.at_.bcell (i := i) (j := 4) hi (by decide)
        have z0 : w3.frozen? ⟨M.kb, i * 5, none⟩ = false := HA.out.at_.blocks.frozen _
        have z1 : w3.frozen? ⟨M.kb, i * 5 + 1, none⟩ = false := HA.out.at_.blocks.frozen _
        have z2 : w3.frozen? ⟨M.kb, i * 5 + 2, none⟩ = false := HA.out.at_.blocks.frozen _
        have z3 : w3.frozen? ⟨M.kb, i * 5 + 3, none⟩ = false := HA.out.at_.blocks.frozen _
        have z4 : w3.frozen? ⟨M.kb, i * 5 + 4, none⟩ = false := HA.out.at_.blocks.frozen _
        have hkl : k < w3.heap.size := HA.out.at_.chip.lt
        have hkb : M.kb < w3.heap.size := HA.out.at_.blocks.lt
        have hkb1 : ¬ w3.heap.size = M.kb := by omega
        have hkb2 : ¬ M.kb = w3.heap.size := by omega
        have HP := Lib.hid hPP
        generalize M.bs.getD i default = x at *
        go_region
        go_wp2_with fail
        go_ret
        have hF := (HA.out.at_.fresh (i := i) HI.out M.P HP.out (wrap64 (x.wear + 1)))
        refine ActPost.mk HQ1.out ((HA.out.trans hF).old (Below.refl _ _).drew) ?_
        unfold NP.setBlk strokeM
        simp [ChM.view, BloM.view, List.map_set, NP.stroke, w64_eq]
    · rw [hbad] at HQ
      rw [if_pos rfl] at HQ
      rw [hbad] at d3
      clear hbad
      go_enter Tryz.func114, Tryz.ntmps114
      go_wp2_with fail
      refine (asked_any HC.out HBB.out _ _).mono ?_
      rintro e w' ⟨rfl, rfl⟩
      rw [HE.out]
      go_wp2_with fail
      go_ret
      exact ActPost.mk HQ.out (Goes.refl HC.out) rfl
  · have HQ : Hid (NP.erase M.view j = (NP.asked M.view j 0, M.view)) := Lib.hid (by unfold NP.erase; dsimp only; rw [if_neg he])
    clear hok h hB
    go_enter Tryz.func114, Tryz.ntmps114
    go_wp2_with fail
    refine (asked_any HC.out HBB.out _ _).mono ?_
    rintro e w' ⟨rfl, rfl⟩
    generalize NP.asked M.view j 0 = n at *
    have hn : ((n : Int) != 0) = true := by simp [he]
    go_wp2_with fail
    go_ret
    exact ActPost.mk HQ.out (Goes.refl HC.out) rfl
end

end Go.Proofs.YtnfhlocflpdlcaaGreat

/-
  A chip is made: is a geometry right, a chip without bytes, a chip with bad blocks. No conditions of its own.
-/
namespace Go.Proofs.YtnfhlocflpdlcaaGreat
open Go.RowKit

/-- Numbers that a slice reads as. -/
def IRow (w : World) (a : Option Addr) (l : List Int) : Prop := l = [] ∨ ∃ b o, a = some ⟨b, o, none⟩ ∧ ∀ i, i < l.length → w.cell? ⟨b, o + i, none⟩ = some (vi (l.getD i 0))
theorem IRow.lookup {w : World} {a : Option Addr} {l : List Int} (h : IRow w a l) {i : Nat} (hi : i < l.length) : ∃ b o, a = some ⟨b, o, none⟩ ∧ w.cell? ⟨b, o + i, none⟩ = some (vi (l.getD i 0)) := by
  rcases h with rfl | ⟨b, o, rfl, h⟩
  · simp at hi
  · exact ⟨b, o, rfl, h i hi⟩
theorem IRow.below {w w' : World} {a : Option Addr} {l : List Int} (h : IRow w a l) (q : Below w.heap.size w w') : IRow w' a l := by
  rcases h with h | ⟨b, o, rfl, h⟩
  · exact .inl h
  · exact .inr ⟨b, o, rfl, fun i hi => cell_below (h i hi) q⟩
/-- The first place of a number. -/
def idx (x : Int) : List Int → Nat → Int
  | [], _ => -1
  | y :: l, k => if x = y then (k : Int) else idx x l (k + 1)
theorem idx_drop {x : Int} {l : List Int} {k : Nat} (h : k < l.length) : idx x (l.drop k) k = if x = l.getD k 0 then (k : Int) else idx x (l.drop (k + 1)) (k + 1) := by
  rw [List.drop_eq_getElem_cons h, idx, List.getD_eq_getElem?_getD, List.getElem?_eq_getElem h]
  rfl
set_option maxHeartbeats 1000000 in
theorem Index_any (a : Option Addr) (l : List Int) (c : Nat) (x : Int) (w : World) (h : IRow w a l) (hl : l.length ≤ 1000000) : Calls Tryz.prog 182 #[.slice a l.length c, vi x] w fun e w' => e = .returned (vi (idx x l 0)) ∧ w' = w := by
  have H := Lib.hid h
  clear h
  go_enter Tryz.func182, Tryz.ntmps182
  go_wp2_with fail
  go_loop [8] (fun i => ∃ k : Nat, k ≤ l.length ∧ i = vi k ∧ Hid (idx x l 0 = idx x (l.drop k) k)) (fun i => l.length - (intOf i).toNat)
  case atStart => exact ⟨0, Nat.zero_le _, rfl, Lib.hid (by rw [List.drop_zero])⟩
  case round =>
    obtain ⟨k, hk, rfl, hd⟩ := hrel
    by_cases hlt : k < l.length
    · obtain ⟨b, o, rfl, hc⟩ := H.out.lookup hlt
      have hdr := idx_drop (x := x) hlt
      by_cases hx : x = l.getD k 0
      · rw [if_pos hx] at hdr
        have HF := Lib.hid (hd.out.trans hdr)
        rw [← hx] at hc
        clear hdr hx
        go_wp2_with fail
        go_ret
        exact ⟨ret_int HF.out.symm, rfl⟩
      · rw [if_neg hx] at hdr
        have HF := Lib.hid (hd.out.trans hdr)
        generalize l.getD k 0 = y at *
        have hxy : ((x : Int) == y) = false := by simp [hx]
        clear hdr
        go_wp2_with fail
        go_round
        case rel => exact ⟨k + 1, by omega, by go_num, HF⟩
        case measure => simp [intOf]; omega
    · obtain rfl : k = l.length := by omega
      have HF : Hid (idx x l 0 = -1) := Lib.hid (by rw [hd.out, List.drop_length]; rfl)
      go_wp2_with fail
      go_ret
      exact ⟨ret_int HF.out.symm, rfl⟩
theorem Contains_any (a : Option Addr) (l : List Int) (c : Nat) (x : Int) (w : World) (h : IRow w a l) (hl : l.length ≤ 1000000) : Calls Tryz.prog 150 #[.slice a l.length c, vi x] w fun e w' => e = .returned (.bool (decide (0 ≤ idx x l 0))) ∧ w' = w := by
  have H := Lib.hid h
  clear h
  go_enter Tryz.func150, Tryz.ntmps150
  go_wp2_with fail
  refine (Index_any a l c x w H.out hl).mono ?_
  rintro e w' ⟨rfl, rfl⟩
  generalize hn : idx x l 0 = n
  have HN := Lib.hid hn
  clear hn
  go_wp2_with fail
  go_ret
  exact ⟨ret_bool (by rw [HN.out]), rfl⟩

theorem sizes_idx (s : Int) : decide (0 ≤ idx s [64, 128, 256, 512] 0) = (s == 64 || s == 128 || s == 256 || s == 512) := by
  unfold idx idx idx idx idx
  by_cases h1 : s = 64
  · simp [h1]
  by_cases h2 : s = 128
  · simp [h2]
  by_cases h3 : s = 256
  · simp [h3]
  by_cases h4 : s = 512
  · simp [h4]
  simp [h1, h2, h3, h4]
set_option maxRecDepth 100000 in
set_option maxHeartbeats 4000000 in
theorem Right_any (b p s : Int) (w : World) : Calls Tryz.prog 107 #[.agg #[vi b, vi p, vi s]] w fun e w' => e = .returned (.bool (NP.rightB b p s)) ∧ Below w.heap.size w w' := by
  have h1 : Blk ((w.alloc (.cells #[vi b, vi p, vi s] 122)).alloc (.cells #[vi 64, vi 128, vi 256, vi 512] 224)) w.heap.size 122 #[vi b, vi p, vi s] := (Blk.new _ _ _).alloc _
  have h2 : Blk ((w.alloc (.cells #[vi b, vi p, vi s] 122)).alloc (.cells #[vi 64, vi 128, vi 256, vi 512] 224)) (w.heap.size + 1) 224 #[vi 64, vi 128, vi 256, vi 512] := by
    rw [← size_alloc w (.cells #[vi b, vi p, vi s] 122)]
    exact Blk.new _ _ _
  have HB : Hid (Below w.heap.size w ((w.alloc (.cells #[vi b, vi p, vi s] 122)).alloc (.cells #[vi 64, vi 128, vi 256, vi 512] 224))) := Lib.hid (((Below.refl _ _).alloc (Nat.le_refl _) _).alloc (by simp) _)
  go_enter Tryz.func107, Tryz.ntmps107
  go_wp2_with fail
  generalize (w.alloc (.cells #[vi b, vi p, vi s] 122)).alloc (.cells #[vi 64, vi 128, vi 256, vi 512] 224) = w2 at *
  have c0 : w2.cell? ⟨w.heap.size, 0, none⟩ = some (vi b) := h1.cell 0
  have c1 : w2.cell? ⟨w.heap.size, 1, none⟩ = some (vi p) := h1.cell 1
  have c2 : w2.cell? ⟨w.heap.size, 2, none⟩ = some (vi s) := h1.cell 2
  have hR : IRow w2 (some ⟨w.heap.size + 1, 0, none⟩) [64, 128, 256, 512] := .inr ⟨_, 0, rfl, fun i hi => by
    rw [h2.cell]
    match i, hi with
    | 0, _ => rfl
    | 1, _ => rfl
    | 2, _ => rfl
    | 3, _ => rfl⟩
  have HC : Hid (∀ n, Calls Tryz.prog 150 #[.slice (some ⟨w.heap.size + 1, 0, none⟩) 4 4, vi s] (w2.drewN n) fun e w' => e = .returned (.bool (s == 64 || s == 128 || s == 256 || s == 512)) ∧ w' = w2.drewN n) := Lib.hid fun n => by
    have := Contains_any (some ⟨w.heap.size + 1, 0, none⟩) [64, 128, 256, 512] 4 s (w2.drewN n) (hR.below (below_drewN (Below.refl _ _) n)) (by decide)
    rw [sizes_idx] at this
    exact this
  clear h1 h2 hR
  by_cases hb1 : 8 ≤ b
  · by_cases hb2 : b ≤ 128
    · by_cases hp1 : 4 ≤ p
      · by_cases hp2 : p ≤ 32
        · have HQ := Lib.hid (show NP.rightB b p s = (s == 64 || s == 128 || s == 256 || s == 512) by simp [NP.rightB, hb1, hb2, hp1, hp2])
          generalize (s == 64 || s == 128 || s == 256 || s == 512) = q at *
          go_quiet ((go_at_call 150; exact Calls.quiet_of_same (HC.out _)))
          go_wp2_with fail
          go_ret
          exact ⟨ret_bool (by rw [HQ.out]), below_drewN HB.out _⟩
        · have HQ := Lib.hid (show NP.rightB b p s = false by simp [NP.rightB, hp2])
          have hd : decide (p ≤ 32) = false := by simp [hp2]
          go_quiet (fail)
          go_wp2_with fail
          go_ret
          exact ⟨ret_bool (by rw [HQ.out]), below_drewN HB.out _⟩
      · have HQ := Lib.hid (show NP.rightB b p s = false by simp [NP.rightB, hp1])
        have hd : decide (4 ≤ p) = false := by simp [hp1]
        go_quiet (fail)
        go_wp2_with fail
        go_ret
        exact ⟨ret_bool (by rw [HQ.out]), below_drewN HB.out _⟩
    · have HQ := Lib.hid (show NP.rightB b p s = false by simp [NP.rightB, hb2])
      have hd : decide (b ≤ 128) = false := by simp [hb2]
      go_quiet (fail)
      go_wp2_with fail
      go_ret
      exact ⟨ret_bool (by rw [HQ.out]), below_drewN HB.out _⟩
  · have HQ := Lib.hid (show NP.rightB b p s = false by simp [NP.rightB, hb1])
    have hd : decide (8 ≤ b) = false := by simp [hb1]
    go_quiet (fail)
    go_wp2_with fail
    go_ret
    exact ⟨ret_bool (by rw [HQ.out]), below_drewN HB.out _⟩

end Go.Proofs.YtnfhlocflpdlcaaGreat

