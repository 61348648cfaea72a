/-
  A stroke is counted, and the fault that belongs to it is told. Conditions: a chip that is told by ChipAt.
-/
import Derived.Test.YtpggkehfbhffbaaND
import Derived.Deep.DeepCutAuto
import Derived.Outline
namespace Go.Proofs.Ytpggkehfbhffbaa
open Go.RowKit

theorem w64_eq (x : Int) : NP.w64 x = wrap64 x := by unfold NP.w64 wrap64; rfl
def strokeM (M : ChM) : ChM := { M with since := NP.w64 (M.since + 1), strokes := NP.w64 (M.strokes + 1) }
theorem strokeM_view (M : ChM) : (strokeM M).view = NP.stroke M.view := rfl
/-- The first fault of a stroke. -/
def faultM : List FltM → Int → FltM
  | [], _ => default
  | f :: l, a => if f.at_ = a then f else faultM l a
theorem faultM_view : ∀ (l : List FltM) (a : Int), (faultM l a).view = NP.faultOf (l.map (·.view)) a
  | [], _ => rfl
  | f :: l, a => by
    unfold faultM
    rw [List.map_cons, NP.faultOf]
    show _ = if f.at_ = a then _ else _
    split
    · rfl
    · exact faultM_view l a
theorem faultM_drop {l : List FltM} {i : Nat} (a : Int) (h : i < l.length) : faultM (l.drop i) a = if (l.getD i default).at_ = a then l.getD i default else faultM (l.drop (i + 1)) a := by
  rw [List.drop_eq_getElem_cons h, faultM, List.getD_eq_getElem?_getD, List.getElem?_eq_getElem h]
  rfl
theorem faultM_mem : ∀ (l : List FltM) (a : Int), faultM l a = default ∨ faultM l a ∈ l
  | [], _ => .inl rfl
  | f :: l, a => by
    unfold faultM
    split
    · exact .inr (by simp)
    · rcases faultM_mem l a with h | h
      · exact .inl h
      · exact .inr (by simp [h])
theorem fault_result {w' : World} {g : Nat} {f : FltM} (hb : Blk w' g 96 f.cs) (tmps : Array Value) (h2 : tmps[2]? = some (.pointer (some ⟨g, 0, none⟩))) :
    (results Try.f73 tmps).run Try.prog w' = .ok (.agg f.cs) w' := by
  have g0 : w'.cell? ⟨g, 0, none⟩ = some (vi f.at_) := hb.cell 0
  have g1 : w'.cell? ⟨g, 1, none⟩ = some (vi f.kind) := hb.cell 1
  have g2 : w'.cell? ⟨g, 2, none⟩ = some (.slice f.a f.l.length f.c) := hb.cell 2
  simp only [results, Try.results73]
  simp [go_sem, h2, g0, g1, g2]

section
variable {base : Nat} {w : World} {k : Nat} {M : ChM}
abbrev flt0 : Array Value := #[vi 0, vi 0, .slice none 0 0]
theorem size_set (w : World) (p : Addr) (v : Value) : (w.setCell p v).heap.size = w.heap.size := by simp [World.setCell]
/-- The state: the chip is laid, two variables. -/
structure FltSt (w : World) (k : Nat) (M : ChM) (cs0 cs1 : Array Value) (wr : World) : Prop where
  chg : Chg (fun n => n = k) w wr
  chip : Blk wr k 99 (strokeM M).cs
  b0 : Blk wr w.heap.size 96 cs0
  b1 : Blk wr (w.heap.size + 1) 96 cs1
  hk : k < w.heap.size
variable {cs0 cs1 : Array Value} {wr : World}
theorem FltSt.alloc (h : FltSt w k M cs0 cs1 wr) (o : Obj) : FltSt w k M cs0 cs1 (wr.alloc o) := ⟨h.chg.alloc o, h.chip.alloc o, h.b0.alloc o, h.b1.alloc o, h.hk⟩
theorem FltSt.set0 (h : FltSt w k M cs0 cs1 wr) (j : Nat) (u : Value) : FltSt w k M (cs0.setIfInBounds j u) cs1 (wr.setCell ⟨w.heap.size, j, none⟩ u) :=
  ⟨h.chg.setCell (.inr (Nat.le_refl _)) u, h.chip.far (p := ⟨w.heap.size, j, none⟩) (by have := h.hk; dsimp only; omega) u, h.b0.set_ j u, h.b1.far (p := ⟨w.heap.size, j, none⟩) (by dsimp only; omega) u, h.hk⟩
theorem FltSt.set1 (h : FltSt w k M cs0 cs1 wr) (j : Nat) (u : Value) : FltSt w k M cs0 (cs1.setIfInBounds j u) (wr.setCell ⟨w.heap.size + 1, j, none⟩ u) :=
  ⟨h.chg.setCell (.inr (Nat.le_succ _)) u, h.chip.far (p := ⟨w.heap.size + 1, j, none⟩) (by have := h.hk; dsimp only; omega) u, h.b0.far (p := ⟨w.heap.size + 1, j, none⟩) (by dsimp only; omega) u, h.b1.set_ j u, h.hk⟩
set_option maxRecDepth 100000 in
set_option maxHeartbeats 2000000 in
theorem fault_any (h : ChipAt base w k M) : Calls Try.prog 73 #[ptr k] w fun e w' => e = .returned (.agg (faultM M.fs M.since).cs) ∧ Goes base w k M w' (strokeM M) := by
  obtain ⟨c0, c1, c2, c3, c4, c5, c6, c7, c8⟩ := h.cells
  have z5 := h.chip.frozen 5
  have z7 := h.chip.frozen 7
  have hk := h.chip.lt
  have HC := Lib.hid h
  have hfl : M.fs.length ≤ 9223372036854775807 := by have := h.faults.len; unfold maxLen at this; omega
  have hz : ((w.setCell ⟨k, 5, none⟩ (vi (wrap64 (M.since + 1)))).setCell ⟨k, 7, none⟩ (vi (wrap64 (M.strokes + 1)))).heap.size = w.heap.size := by rw [size_set, size_set]
  have st : FltSt w k M flt0 flt0 ((((w.setCell ⟨k, 5, none⟩ (vi (wrap64 (M.since + 1)))).setCell ⟨k, 7, none⟩ (vi (wrap64 (M.strokes + 1)))).alloc (.cells flt0 96)).alloc (.cells flt0 96)) :=
    ⟨((((Chg.refl (fun n => n = k) w).setCell (p := ⟨k, 5, none⟩) (.inl rfl) _).setCell (p := ⟨k, 7, none⟩) (.inl rfl) _).alloc _).alloc _, by
      have := (((h.chip.set_ 5 (vi (wrap64 (M.since + 1)))).set_ 7 (vi (wrap64 (M.strokes + 1)))).alloc (.cells flt0 96)).alloc (.cells flt0 96)
      rw [← w64_eq, ← w64_eq] at this
      rw [← w64_eq, ← w64_eq]
      exact this, by
      have := (Blk.new ((w.setCell ⟨k, 5, none⟩ (vi (wrap64 (M.since + 1)))).setCell ⟨k, 7, none⟩ (vi (wrap64 (M.strokes + 1)))) 96 flt0).alloc (.cells flt0 96)
      rw [hz] at this
      exact this, by
      have := Blk.new (((w.setCell ⟨k, 5, none⟩ (vi (wrap64 (M.since + 1)))).setCell ⟨k, 7, none⟩ (vi (wrap64 (M.strokes + 1)))).alloc (.cells flt0 96)) 96 flt0
      rw [size_alloc, hz] at this
      exact this, hk⟩
  have ST := Lib.hid st
  clear h st hz
  go_enter Try.func73, Try.ntmps73
  go_wp2_with fail
  go_step3
  go_wp2_with fail
  go_step3
  go_wp2_with fail
  clear c0 c1 c2 c3 c4 c5 c6 c7 c8 z5 z7
  have HD := Lib.hid (show faultM M.fs M.since = faultM (M.fs.drop 0) M.since by rw [List.drop_zero])
  go_loopw [31] (fun i wr => ∃ j : Nat, j ≤ M.fs.length ∧ i = vi j ∧ Hid (FltSt w k M flt0 flt0 wr) ∧ Hid (faultM M.fs M.since = faultM (M.fs.drop j) M.since)) (fun i _ => M.fs.length - (intOf i).toNat)
  case atStart => exact ⟨0, Nat.zero_le _, rfl, ST, HD⟩
  case round =>
    obtain ⟨j, hj, rfl, st, hd⟩ := hrel
    have d0 : wr.cell? ⟨w.heap.size + 1, 0, none⟩ = some (vi 0) := st.out.b1.cell 0
    have d1 : wr.cell? ⟨w.heap.size + 1, 1, none⟩ = some (vi 0) := st.out.b1.cell 1
    have d2 : wr.cell? ⟨w.heap.size + 1, 2, none⟩ = some (.slice none 0 0) := st.out.b1.cell 2
    have e0 : wr.cell? ⟨w.heap.size, 0, none⟩ = some (vi 0) := st.out.b0.cell 0
    have e1 : wr.cell? ⟨w.heap.size, 1, none⟩ = some (vi 0) := st.out.b0.cell 1
    have e2 : wr.cell? ⟨w.heap.size, 2, none⟩ = some (.slice none 0 0) := st.out.b0.cell 2
    have f0 := st.out.b0.frozen 0
    have f1 := st.out.b0.frozen 1
    have f2 := st.out.b0.frozen 2
    have h0 := st.out.b1.frozen 0
    have h1 := st.out.b1.frozen 1
    have h2 := st.out.b1.frozen 2
    by_cases hlt : j < M.fs.length
    · obtain ⟨b, o, hfa, hcell, -⟩ := (HC.out.faults.chg st.out.chg (fun n e => HC.out.mine n (.inl e))).lookup hlt
      have hdr := faultM_drop M.since hlt
      rw [hfa]
      generalize M.fs.getD j default = f at hcell hdr
      obtain ⟨fat, fk, fa, fl, fc⟩ := f
      have g0 : wr.cell? ⟨b, o + j * 3, none⟩ = some (vi fat) := hcell 0 _ rfl
      have g1 : wr.cell? ⟨b, o + j * 3 + 1, none⟩ = some (vi fk) := hcell 1 _ rfl
      have g2 : wr.cell? ⟨b, o + j * 3 + 2, none⟩ = some (.slice fa fl.length fc) := hcell 2 _ rfl
      have hlv := st.out.b1.lt
      have hn0 : ¬ wr.heap.size = w.heap.size := by omega
      have hn1 : ¬ wr.heap.size = w.heap.size + 1 := by omega
      have hn2 : ¬ w.heap.size = wr.heap.size := by omega
      have hn3 : ¬ w.heap.size + 1 = wr.heap.size := by omega
      clear hfa
      have S1 := Lib.hid (st.out.alloc (.cells #[vi fat, vi fk, .slice fa fl.length fc] 96))
      clear hcell
      dsimp only at hdr
      by_cases hat : fat = M.since
      · rw [if_pos hat] at hdr
        have HF := Lib.hid (hd.out.trans hdr)
        subst hat
        clear hdr d0 d1 d2 e0 e1 e2 f0 f1 f2 h0 h1 h2
        go_upto_region 9 with fail
        have F9 := Blk.new wr 96 #[vi M.since, vi fk, .slice fa fl.length fc]
        clear hn0 hn1 hn2 hn3 g0 g1 g2 st hd
        generalize wr.alloc (.cells #[vi M.since, vi fk, .slice fa fl.length fc] 96) = w9 at *
        have d0 : w9.cell? ⟨w.heap.size + 1, 0, none⟩ = some (vi 0) := S1.out.b1.cell 0
        have d1 : w9.cell? ⟨w.heap.size + 1, 1, none⟩ = some (vi 0) := S1.out.b1.cell 1
        have d2 : w9.cell? ⟨w.heap.size + 1, 2, none⟩ = some (.slice none 0 0) := S1.out.b1.cell 2
        have e0 : w9.cell? ⟨w.heap.size, 0, none⟩ = some (vi 0) := S1.out.b0.cell 0
        have e1 : w9.cell? ⟨w.heap.size, 1, none⟩ = some (vi 0) := S1.out.b0.cell 1
        have e2 : w9.cell? ⟨w.heap.size, 2, none⟩ = some (.slice none 0 0) := S1.out.b0.cell 2
        have f0 := S1.out.b0.frozen 0
        have f1 := S1.out.b0.frozen 1
        have f2 := S1.out.b0.frozen 2
        have h0 := S1.out.b1.frozen 0
        have h1 := S1.out.b1.frozen 1
        have h2 := S1.out.b1.frozen 2
        have k0 : w9.cell? ⟨wr.heap.size, 0, none⟩ = some (vi M.since) := F9.cell 0
        have k1 : w9.cell? ⟨wr.heap.size, 1, none⟩ = some (vi fk) := F9.cell 1
        have k2 : w9.cell? ⟨wr.heap.size, 2, none⟩ = some (.slice fa fl.length fc) := F9.cell 2
        clear F9
        generalize wr.heap.size = h6 at *
        go_wp2_with fail
        rw [Exit.noGoto_ret]
        have T := (((((S1.out.set1 0 (vi M.since)).set1 1 (vi fk)).set1 2 (.slice fa fl.length fc)).set0 0 (vi M.since)).set0 1 (vi fk)).set0 2 (.slice fa fl.length fc)
        refine bodyPost_ret (v := .agg #[vi M.since, vi fk, .slice fa fl.length fc]) (fault_result (f := ⟨M.since, fk, fa, fl, fc⟩) T.b0 _ rfl) rfl ⟨by rw [HF.out], HC.out.fields T.chg T.chip rfl rfl rfl ⟨rfl, rfl⟩⟩
      · rw [if_neg hat] at hdr
        have HF := Lib.hid (hd.out.trans hdr)
        clear hdr
        go_wp2_with fail
        go_roundw
        case rel => exact ⟨j + 1, by omega, by go_num, S1, HF⟩
        case measure => simp [intOf]; omega
    · obtain rfl : j = M.fs.length := by omega
      have HF : Hid (faultM M.fs M.since = default) := Lib.hid (by rw [hd.out, List.drop_length]; rfl)
      go_wp2_with fail
      rw [Exit.noGoto_ret]
      have T := ((st.out.set0 0 (vi 0)).set0 1 (vi 0)).set0 2 (.slice none 0 0)
      exact bodyPost_ret (v := .agg flt0) (fault_result (f := default) T.b0 _ rfl) rfl ⟨by rw [HF.out]; rfl, HC.out.fields T.chg T.chip rfl rfl rfl ⟨rfl, rfl⟩⟩
end

end Go.Proofs.Ytpggkehfbhffbaa
