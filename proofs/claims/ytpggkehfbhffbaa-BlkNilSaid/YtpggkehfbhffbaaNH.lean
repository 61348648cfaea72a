/-
  A block is erased: as the plain words say. Conditions: a chip that is told by ChipAt, and right.
-/
import Derived.Test.YtpggkehfbhffbaaNG
import Derived.BigRegion
namespace Go.Proofs.Ytpggkehfbhffbaa
open Go.RowKit

section
variable {base : Nat} {w wr : World} {k : Nat} {M : ChM}

theorem Arr.bset {bs : List BloM} {g n c : Nat} (h : Arr w 102 5 g n c (bs.flatMap BloM.cells)) {i j : Nat} (hi : i < bs.length) (hj : j < 5) (v : Value) (y : BloM) (hy : y.cells = (bs.getD i default).cells.set j v) :
    Arr (w.setCell ⟨g, i * 5 + j, none⟩ v) 102 5 g n c ((bs.set i y).flatMap BloM.cells) := by
  rw [← flat_set BloM.cells_len default bs i j y v hi hj hy]
  exact h.set _ v
theorem nodup_set {l : List Nat} (h : l.Nodup) (i G : Nat) (hG : ∀ x ∈ l, x ≠ G) : (l.set i G).Nodup := by
  have hp := List.pairwise_iff_getElem.1 h
  refine List.pairwise_iff_getElem.2 fun a b ha hb hab => ?_
  have ha' : a < l.length := by simpa using ha
  have hb' : b < l.length := by simpa using hb
  rw [List.getElem_set, List.getElem_set]
  split
  · split
    · omega
    · exact fun e => hG _ (List.getElem_mem hb') e.symm
  · split
    · exact hG _ (List.getElem_mem ha')
    · exact hp a b ha' hb' hab
/-- A block is laid anew, with pages of its own. -/
theorem ChipAt.fresh (h : ChipAt base w k M) {i : Nat} (hi : i < M.bs.length) (P : Nat) (hP : P ≤ 32) (wr : Int) :
    Goes base w k M ((((((w.setCell ⟨M.kb, i * 5, none⟩ (.slice (some ⟨w.heap.size, 0, none⟩) P P)).setCell ⟨M.kb, i * 5 + 1, none⟩ (vi 0)).setCell ⟨M.kb, i * 5 + 2, none⟩ (.bool false)).setCell ⟨M.kb, i * 5 + 3, none⟩ (.bool false)).setCell ⟨M.kb, i * 5 + 4, none⟩ (vi wr)).alloc (.cells (madeCells #[.slice none 0 0] P) 32))
      { M with bs := M.bs.set i ⟨w.heap.size, P, List.replicate P ⟨none, [], 0⟩, 0, false, false, wr⟩ } := by
  have hl := fun (y : BloM) => show i < (M.bs.set i y).length by simpa using hi
  have hg := fun (y : BloM) => show (M.bs.set i y).getD i default = y by rw [NP.getD_set _ _ _ _ _ hi, if_pos rfl]
  have a0 := h.blocks.bset hi (j := 0) (by decide) (.slice (some ⟨w.heap.size, 0, none⟩) P P) { M.bs.getD i default with g := w.heap.size, c := P, ps := List.replicate P ⟨none, [], 0⟩ } (by simp)
  have a1 := a0.bset (hl _) (j := 1) (by decide) (vi 0) { M.bs.getD i default with g := w.heap.size, c := P, ps := List.replicate P ⟨none, [], 0⟩, next := 0 } (by rw [hg]; simp)
  rw [List.set_set] at a1
  have a2 := a1.bset (hl _) (j := 2) (by decide) (.bool false) { M.bs.getD i default with g := w.heap.size, c := P, ps := List.replicate P ⟨none, [], 0⟩, next := 0, broken := false } (by rw [hg]; simp)
  rw [List.set_set] at a2
  have a3 := a2.bset (hl _) (j := 3) (by decide) (.bool false) { M.bs.getD i default with g := w.heap.size, c := P, ps := List.replicate P ⟨none, [], 0⟩, next := 0, broken := false, bad := false } (by rw [hg]; simp)
  rw [List.set_set] at a3
  have a4 := a3.bset (hl _) (j := 4) (by decide) (vi wr) ⟨w.heap.size, P, List.replicate P ⟨none, [], 0⟩, 0, false, false, wr⟩ (by rw [hg]; simp)
  rw [List.set_set] at a4
  have a5 := a4.old ((Below.refl _ _).alloc (Nat.le_refl _) (.cells (madeCells #[.slice none 0 0] P) 32))
  have hkl : M.kb < w.heap.size := h.blocks.lt
  have hq : Chg (fun n => n = M.kb) w ((((((w.setCell ⟨M.kb, i * 5, none⟩ (.slice (some ⟨w.heap.size, 0, none⟩) P P)).setCell ⟨M.kb, i * 5 + 1, none⟩ (vi 0)).setCell ⟨M.kb, i * 5 + 2, none⟩ (.bool false)).setCell ⟨M.kb, i * 5 + 3, none⟩ (.bool false)).setCell ⟨M.kb, i * 5 + 4, none⟩ (vi wr)).alloc (.cells (madeCells #[.slice none 0 0] P) 32)) :=
    ((((((Chg.refl (fun n => n = M.kb) w).setCell (p := ⟨M.kb, i * 5, none⟩) (.inl rfl) _).setCell (p := ⟨M.kb, i * 5 + 1, none⟩) (.inl rfl) _).setCell (p := ⟨M.kb, i * 5 + 2, none⟩) (.inl rfl) _).setCell (p := ⟨M.kb, i * 5 + 3, none⟩) (.inl rfl) _).setCell (p := ⟨M.kb, i * 5 + 4, none⟩) (.inl rfl) _).alloc _
  have hF : ∀ n, n = M.kb → Mine base w n := fun n e => h.mine n (.inr (.inl e))
  have n0 : Arr ((((((w.setCell ⟨M.kb, i * 5, none⟩ (.slice (some ⟨w.heap.size, 0, none⟩) P P)).setCell ⟨M.kb, i * 5 + 1, none⟩ (vi 0)).setCell ⟨M.kb, i * 5 + 2, none⟩ (.bool false)).setCell ⟨M.kb, i * 5 + 3, none⟩ (.bool false)).setCell ⟨M.kb, i * 5 + 4, none⟩ (vi wr)).alloc (.cells (madeCells #[.slice none 0 0] P) 32)) 32 1 w.heap.size P P ((List.replicate P (⟨none, [], 0⟩ : PgM)).map (·.v)) := by
    have := Arr.lit (((((w.setCell ⟨M.kb, i * 5, none⟩ (.slice (some ⟨w.heap.size, 0, none⟩) P P)).setCell ⟨M.kb, i * 5 + 1, none⟩ (vi 0)).setCell ⟨M.kb, i * 5 + 2, none⟩ (.bool false)).setCell ⟨M.kb, i * 5 + 3, none⟩ (.bool false)).setCell ⟨M.kb, i * 5 + 4, none⟩ (vi wr)) 32 1 P (madeCells #[.slice none 0 0] P) (by unfold maxLen; omega) (by simp [madeCells])
    rw [toList_madeCells_one] at this
    simp only [size_set] at this
    rw [List.map_replicate]
    exact this
  generalize ((((((w.setCell ⟨M.kb, i * 5, none⟩ (.slice (some ⟨w.heap.size, 0, none⟩) P P)).setCell ⟨M.kb, i * 5 + 1, none⟩ (vi 0)).setCell ⟨M.kb, i * 5 + 2, none⟩ (.bool false)).setCell ⟨M.kb, i * 5 + 3, none⟩ (.bool false)).setCell ⟨M.kb, i * 5 + 4, none⟩ (vi wr)).alloc (.cells (madeCells #[.slice none 0 0] P) 32)) = w' at *
  clear a0 a1 a2 a3 a4
  have hmg : (M.bs.set i (⟨w.heap.size, P, List.replicate P ⟨none, [], 0⟩, 0, false, false, wr⟩ : BloM)).map (·.g) = (M.bs.map (·.g)).set i w.heap.size := List.map_set ..
  have hbase : base ≤ w.heap.size := Nat.le_of_lt (Nat.lt_of_le_of_lt (h.low k (.inl rfl)) h.chip.lt)
  have hfoot : ∀ n, ChM.foot { M with bs := M.bs.set i ⟨w.heap.size, P, List.replicate P ⟨none, [], 0⟩, 0, false, false, wr⟩ } k n → M.foot k n ∨ w.heap.size = n := by
    intro n hn
    rcases hn with rfl | rfl | hn
    · exact .inl (.inl rfl)
    · exact .inl (.inr (.inl rfl))
    · dsimp only at hn
      rw [hmg] at hn
      rcases List.mem_or_eq_of_mem_set hn with hn | rfl
      · exact .inl (.inr (.inr hn))
      · exact .inr rfl
  refine ⟨⟨?_, ?_, ?_, ?_, ?_, h.faults.chg hq hF, ?_⟩, hq.mono (fun n _ e => .inr (.inl e)), ?_⟩
  · have := h.chip.chg hq h.kb_ne.symm
    simpa [ChM.cs] using this
  · dsimp only
    rw [List.length_set]
    exact a5
  · intro x hx
    rcases mem_set_cases hx with rfl | ⟨n, hne, hn, rfl⟩
    · dsimp only
      rw [List.length_replicate]
      exact n0
    · exact (h.pages _ (getD_mem hn)).chg hq (h.g_ne (getD_mem hn)).2
  · dsimp only
    rw [hmg]
    refine nodup_set h.nodup i _ fun x hx e => ?_
    obtain ⟨y, hy, rfl⟩ := List.mem_map.1 hx
    have := (h.pages y hy).lt
    omega
  · intro x hx p hp
    rcases mem_set_cases hx with rfl | ⟨n, hne, hn, rfl⟩
    · rw [(List.mem_replicate.1 hp).2]
      exact PgM.ok.none _ _
    · exact (h.rows _ (getD_mem hn) p hp).chg hq hF
  · intro n hn
    rcases hfoot n hn with h1 | rfl
    · exact h.low n h1
    · exact hbase
  · intro n hn
    rcases hfoot n hn with h1 | rfl
    · exact .inl h1
    · exact .inr (Nat.le_refl _)

theorem pages_info : (Try.prog.info? 32).map (fun i => (i.zero, i.size, i.bytes)) = some (some (.slice none 0 0), 1, 24) := by kernel_rfl
theorem make_pages (n : Nat) (hn : n ≤ 1000000) (w : World) : (Instr.makeSlice 51 (.int .i64 (n : Int)) (.int .i64 (n : Int))).run Try.prog w = .ok (.slice (some ⟨w.heap.size, 0, none⟩) n n) (w.alloc (.cells (madeCells #[.slice none 0 0] n) 32)) :=
  run_make_row' 51 32 (.slice none 0 0) 24 Try.underlying51 pages_info rfl .i64 .i64 n (by omega) (by omega) w
set_option maxRecDepth 100000 in
set_option maxHeartbeats 4000000 in
theorem Erase_any (h : ChipAt base w k M) (hok : M.view.ok) (j : Int) : Calls Try.prog 22 #[ptr k, vi j] w (ActPost base w k M (NP.erase M.view j)) := by
  have hB := ok_len hok
  have HC := Lib.hid h
  have HOK := Lib.hid hok
  have HBB := Lib.hid hB
  obtain ⟨c0, c1, c2, c3, c4, c5, c6, c7, c8⟩ := h.cells
  clear c0 c1 c2 c4 c5 c6 c7 c8
  by_cases he : NP.asked M.view j 0 = 0
  · obtain ⟨hd, hj0, hj1, hp0, hp1⟩ := NP.asked_zero he
    change j < M.B at hj1
    obtain ⟨i, rfl⟩ : ∃ i : Nat, j = i := ⟨j.toNat, by omega⟩
    have hi : i < M.bs.length := by omega
    have hPP := (ok_S hok).2.1
    have HQ : Hid (NP.erase M.view i = if (M.bs.getD i default).bad then (13, M.view)
        else if (faultM M.fs M.since).kind = 1 then (4, NP.downP (NP.stroke M.view))
        else if (faultM M.fs M.since).kind = 2 then (4, NP.downP (NP.breakOff (NP.stroke M.view) i (faultM M.fs M.since).l))
        else if (faultM M.fs M.since).kind = 3 then (11, NP.breakOff (NP.stroke M.view) i (faultM M.fs M.since).l)
        else (0, NP.setBlk (NP.stroke M.view) i ⟨List.replicate M.P [], 0, false, false, NP.w64 ((M.bs.getD i default).wear + 1)⟩)) := Lib.hid (by
      unfold NP.erase
      dsimp only
      rw [if_pos he, Int.toNat_natCast, view_blk hi]
      have : NP.faultOf M.view.fs M.view.since = (faultM M.fs M.since).view := (faultM_view M.fs M.since).symm
      rw [this]
      rfl)
    have HE := Lib.hid he
    have d3 : w.cell? ⟨M.kb, i * 5 + 3, none⟩ = some (.bool (M.bs.getD i default).bad) := h.bcell hi (j := 3) (by decide)
    clear hd he hok h hp0 hp1
    cases hbad : (M.bs.getD i default).bad
    · rw [hbad] at HQ
      rw [if_neg (by simp)] at HQ
      rw [hbad] at d3
      clear hbad
      go_enter Try.func22, Try.ntmps22
      go_wp2_with fail
      refine (asked_any HC.out HBB.out _ _).mono ?_
      rintro e w' ⟨rfl, rfl⟩
      rw [HE.out]
      go_wp2_with fail
      refine (fault_any HC.out).mono ?_
      rintro e w2 ⟨rfl, hg2⟩
      have HG := Lib.hid hg2
      have hdat : SRow base w2 (faultM M.fs M.since).a (faultM M.fs M.since).l ∧ (faultM M.fs M.since).l.length ≤ (faultM M.fs M.since).c ∧ (faultM M.fs M.since).c ≤ maxLen := by
        rcases faultM_mem M.fs M.since with e | e
        · rw [e]; exact ⟨SRow.nil _ _ _, Nat.le_refl _, Nat.zero_le _⟩
        · exact hg2.at_.faults.data _ e
      have HFR := Lib.hid hdat.1
      have HFL := Lib.hid hdat.2
      clear hg2 d3 c3 hdat
      generalize faultM M.fs M.since = f at *
      obtain ⟨fat, fk, fa, fl, fc⟩ := f
      dsimp only at *
      have HA : Hid (Goes base w' k M (w2.alloc (.cells #[vi fat, vi fk, .slice fa fl.length fc] 96)) (strokeM M)) := Lib.hid (HG.out.old ((Below.refl _ _).alloc (Nat.le_refl _) _))
      have HF2 : Hid (SRow base (w2.alloc (.cells #[vi fat, vi fk, .slice fa fl.length fc] 96)) fa fl) := Lib.hid (HFR.out.old ((Below.refl _ _).alloc (Nat.le_refl _) _))
      have F9 := Blk.new w2 96 #[vi fat, vi fk, .slice fa fl.length fc]
      go_upto_region 8 with fail
      generalize w2.alloc (.cells #[vi fat, vi fk, .slice fa fl.length fc] 96) = w3 at *
      have k1 : w3.cell? ⟨w2.heap.size, 1, none⟩ = some (vi fk) := F9.cell 1
      have k2 : w3.cell? ⟨w2.heap.size, 2, none⟩ = some (.slice fa fl.length fc) := F9.cell 2
      clear F9 HFR HG
      generalize w2.heap.size = h2 at *
      have c6 : w3.cell? ⟨k, 6, none⟩ = some (.bool M.down) := HA.out.at_.chip.cell 6
      have z6 := HA.out.at_.chip.frozen 6
      have HI := Lib.hid hi
      have HSOK : Hid ((strokeM M).view.ok) := Lib.hid (NP.stroke_ok HOK.out)
      by_cases h1 : fk = 1
      · subst h1
        have hQ := HQ.out
        rw [if_pos rfl] at hQ
        have HQ1 := Lib.hid hQ
        clear hQ
        go_wp2_with fail
        go_ret
        exact ActPost.mk HQ1.out (HA.out.trans (HA.out.at_.field (M' := downM (strokeM M) true) 6 (.bool true) rfl rfl rfl rfl HA.out.at_.faults)) rfl
      by_cases h2' : fk = 2
      · subst h2'
        have hQ := HQ.out
        rw [if_neg (by decide), if_pos rfl] at hQ
        have HQ1 := Lib.hid hQ
        clear hQ h1 c6 z6
        go_wp2_with fail
        refine (breakOff_any HA.out.at_ HSOK.out i HI.out fa fl fc HF2.out HFL.out.1 HFL.out.2).mono ?_
        rintro e w5 ⟨rfl, M5, hg5, hv5⟩
        have HA5 := Lib.hid (HA.out.trans hg5)
        have HV5 := Lib.hid hv5
        clear hg5 hv5
        have c6 : w5.cell? ⟨k, 6, none⟩ = some (.bool M5.down) := HA5.out.at_.chip.cell 6
        have z6 := HA5.out.at_.chip.frozen 6
        go_wp2_with fail
        go_ret
        exact ActPost.mk HQ1.out (HA5.out.trans (HA5.out.at_.field (M' := downM M5 true) 6 (.bool true) rfl rfl rfl rfl HA5.out.at_.faults)) (by
          show NP.downP M5.view = _
          rw [HV5.out]
          rfl)
      by_cases h3 : fk = 3
      · subst h3
        have hQ := HQ.out
        rw [if_neg (by decide), if_neg (by decide), if_pos rfl] at hQ
        have HQ1 := Lib.hid hQ
        clear hQ h1 h2' c6 z6
        go_wp2_with fail
        refine (breakOff_any HA.out.at_ HSOK.out i HI.out fa fl fc HF2.out HFL.out.1 HFL.out.2).mono ?_
        rintro e w5 ⟨rfl, M5, hg5, hv5⟩
        have HA5 := Lib.hid (HA.out.trans hg5)
        have HV5 := Lib.hid hv5
        clear hg5 hv5
        go_wp2_with fail
        go_ret
        exact ActPost.mk HQ1.out HA5.out HV5.out
      · have hQ := HQ.out
        rw [if_neg h1, if_neg h2', if_neg h3] at hQ
        have HQ1 := Lib.hid hQ
        clear hQ
        go_upto_region 19 with fail
        have hmk := make_pages M.P (by omega)
        have c1 : w3.cell? ⟨k, 1, none⟩ = some (vi M.P) := HA.out.at_.chip.cell 1
        have d0 : w3.cell? ⟨M.kb, i * 5, none⟩ = some (.slice (some ⟨(M.bs.getD i default).g, 0, none⟩) (M.bs.getD i default).ps.length (M.bs.getD i default).c) := HA.out.at_.bcell (i := i) (j := 0) hi (by decide)
        have d1 : w3.cell? ⟨M.kb, i * 5 + 1, none⟩ = some (vi (M.bs.getD i default).next) := HA.out.at_.bcell (i := i) (j := 1) hi (by decide)
        have d2 : w3.cell? ⟨M.kb, i * 5 + 2, none⟩ = some (.bool (M.bs.getD i default).broken) := HA.out.at_.bcell (i := i) (j := 2) hi (by decide)
        have d3 : w3.cell? ⟨M.kb, i * 5 + 3, none⟩ = some (.bool (M.bs.getD i default).bad) := HA.out.at_.bcell (i := i) (j := 3) hi (by decide)
        have d4 : w3.cell? ⟨M.kb, i * 5 + 4, none⟩ = some (vi (M.bs.getD i default).wear) := HA.out.at_.bcell (i := i) (j := 4) hi (by decide)
        have z0 : w3.frozen? ⟨M.kb, i * 5, none⟩ = false := HA.out.at_.blocks.frozen _
        have z1 : w3.frozen? ⟨M.kb, i * 5 + 1, none⟩ = false := HA.out.at_.blocks.frozen _
        have z2 : w3.frozen? ⟨M.kb, i * 5 + 2, none⟩ = false := HA.out.at_.blocks.frozen _
        have z3 : w3.frozen? ⟨M.kb, i * 5 + 3, none⟩ = false := HA.out.at_.blocks.frozen _
        have z4 : w3.frozen? ⟨M.kb, i * 5 + 4, none⟩ = false := HA.out.at_.blocks.frozen _
        have hkl : k < w3.heap.size := HA.out.at_.chip.lt
        have hkb : M.kb < w3.heap.size := HA.out.at_.blocks.lt
        have hkb1 : ¬ w3.heap.size = M.kb := by omega
        have hkb2 : ¬ M.kb = w3.heap.size := by omega
        have HP := Lib.hid hPP
        generalize M.bs.getD i default = x at *
        go_region
        go_wp2_with fail
        go_ret
        have hF := (HA.out.at_.fresh (i := i) HI.out M.P HP.out (wrap64 (x.wear + 1)))
        refine ActPost.mk HQ1.out ((HA.out.trans hF).old (Below.refl _ _).drew) ?_
        unfold NP.setBlk strokeM
        simp [ChM.view, BloM.view, List.map_set, NP.stroke, w64_eq]
    · rw [hbad] at HQ
      rw [if_pos rfl] at HQ
      rw [hbad] at d3
      clear hbad
      go_enter Try.func22, Try.ntmps22
      go_wp2_with fail
      refine (asked_any HC.out HBB.out _ _).mono ?_
      rintro e w' ⟨rfl, rfl⟩
      rw [HE.out]
      go_wp2_with fail
      go_ret
      exact ActPost.mk HQ.out (Goes.refl HC.out) rfl
  · have HQ : Hid (NP.erase M.view j = (NP.asked M.view j 0, M.view)) := Lib.hid (by unfold NP.erase; dsimp only; rw [if_neg he])
    clear hok h hB
    go_enter Try.func22, Try.ntmps22
    go_wp2_with fail
    refine (asked_any HC.out HBB.out _ _).mono ?_
    rintro e w' ⟨rfl, rfl⟩
    generalize NP.asked M.view j 0 = n at *
    have hn : ((n : Int) != 0) = true := by simp [he]
    go_wp2_with fail
    go_ret
    exact ActPost.mk HQ.out (Goes.refl HC.out) rfl
end

end Go.Proofs.Ytpggkehfbhffbaa
