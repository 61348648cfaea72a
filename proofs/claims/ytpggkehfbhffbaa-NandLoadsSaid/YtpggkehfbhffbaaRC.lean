/-
  The document's chip: a stroke, faults, a page read. Conditions: a chip that is told by RefAt.
-/
import Derived.Test.YtpggkehfbhffbaaRB
namespace Go.Proofs.Ytpggkehfbhffbaa
open Go.RowKit

section
variable {base : Nat} {w wr w' : World} {k : Nat} {R R' : RefM}
theorem RefAt.fieldsF (h : RefAt base w k R) (q : Chg (fun n => n = k) w w') (hb : Blk w' k 107 R'.cs)
    (he : R' = { R with fa := R'.fa, fs := R'.fs, fc := R'.fc, since := R'.since, down := R'.down, strokes := R'.strokes, reads := R'.reads }) (hf : FRow base w R'.fa R'.fs) : RGoes base w k R w' R' := by
  have hF : ∀ n, n = k → Mine base w n := fun n e => h.mine n (.inl e)
  obtain ⟨h1, h2, h3, h4, h5⟩ := h.k_ne
  rw [he] at hb ⊢
  exact ⟨⟨hb, h.ps.chg q h1, h.nx.chg q h2, h.br.chg q h3, h.bd.chg q h4, h.wr.chg q h5, h.ne1, h.ne2, fun p hp => (h.rows p hp).chg q hF, hf.chg q hF, h.low, h.lp, h.ln, h.lb, h.ld, h.lw⟩, q.mono (fun n _ e => .inl e), fun n hn => .inl hn⟩

def strokeR (R : RefM) : RefM := { R with since := NP.w64 (R.since + 1), strokes := NP.w64 (R.strokes + 1) }
theorem strokeR_view (R : RefM) : (strokeR R).view = NP.stroke R.view := rfl
theorem stroke_result {w' : World} {g : Nat} {f : FltM} (hb : Blk w' g 96 f.cs) (tmps : Array Value) (h2 : tmps[2]? = some (.pointer (some ⟨g, 0, none⟩))) :
    (results Try.f100 tmps).run Try.prog w' = .ok (.agg f.cs) w' := by
  have g0 : w'.cell? ⟨g, 0, none⟩ = some (vi f.at_) := hb.cell 0
  have g1 : w'.cell? ⟨g, 1, none⟩ = some (vi f.kind) := hb.cell 1
  have g2 : w'.cell? ⟨g, 2, none⟩ = some (.slice f.a f.l.length f.c) := hb.cell 2
  simp only [results, Try.results100]
  simp [go_sem, h2, g0, g1, g2]
/-- The state: the chip is laid, the result's variable. -/
structure StrSt (w : World) (k : Nat) (R : RefM) (cs0 : Array Value) (wr : World) : Prop where
  chg : Chg (fun n => n = k) w wr
  chip : Blk wr k 107 (strokeR R).cs
  b0 : Blk wr w.heap.size 96 cs0
  hk : k < w.heap.size
theorem StrSt.set0 {cs0 : Array Value} (h : StrSt w k R cs0 wr) (j : Nat) (u : Value) : StrSt w k R (cs0.setIfInBounds j u) (wr.setCell ⟨w.heap.size, j, none⟩ u) :=
  ⟨h.chg.setCell (.inr (Nat.le_refl _)) u, h.chip.far (p := ⟨w.heap.size, j, none⟩) (by have := h.hk; dsimp only; omega) u, h.b0.set_ j u, h.hk⟩
set_option maxRecDepth 100000 in
set_option maxHeartbeats 2000000 in
theorem stroke_any (h : RefAt base w k R) : Calls Try.prog 100 #[ptr k] w fun e w' => e = .returned (.agg (faultM R.fs R.since).cs) ∧ RGoes base w k R w' (strokeR R) := by
  have c8 : w.cell? ⟨k, 8, none⟩ = some (.slice R.fa R.fs.length R.fc) := h.chip.cell 8
  have c9 : w.cell? ⟨k, 9, none⟩ = some (vi R.since) := h.chip.cell 9
  have c11 : w.cell? ⟨k, 11, none⟩ = some (vi R.strokes) := h.chip.cell 11
  have z9 := h.chip.frozen 9
  have z11 := h.chip.frozen 11
  have hk := h.chip.lt
  have HC := Lib.hid h
  have hfl : R.fs.length ≤ 9223372036854775807 := by have := h.faults.len; unfold maxLen at this; omega
  have hz : ((w.setCell ⟨k, 9, none⟩ (vi (wrap64 (R.since + 1)))).setCell ⟨k, 11, none⟩ (vi (wrap64 (R.strokes + 1)))).heap.size = w.heap.size := by rw [size_set, size_set]
  have st : StrSt w k R flt0 (((w.setCell ⟨k, 9, none⟩ (vi (wrap64 (R.since + 1)))).setCell ⟨k, 11, none⟩ (vi (wrap64 (R.strokes + 1)))).alloc (.cells flt0 96)) :=
    ⟨(((Chg.refl (fun n => n = k) w).setCell (p := ⟨k, 9, none⟩) (.inl rfl) _).setCell (p := ⟨k, 11, none⟩) (.inl rfl) _).alloc _, by
      have := ((h.chip.set_ 9 (vi (wrap64 (R.since + 1)))).set_ 11 (vi (wrap64 (R.strokes + 1)))).alloc (.cells flt0 96)
      rw [← w64_eq, ← w64_eq] at this
      rw [← w64_eq, ← w64_eq]
      exact this, by
      have := Blk.new ((w.setCell ⟨k, 9, none⟩ (vi (wrap64 (R.since + 1)))).setCell ⟨k, 11, none⟩ (vi (wrap64 (R.strokes + 1)))) 96 flt0
      rw [hz] at this
      exact this, hk⟩
  have ST := Lib.hid st
  clear h st hz
  go_enter Try.func100, Try.ntmps100
  go_wp2_with fail
  clear c8 c9 c11 z9 z11
  have HD := Lib.hid (show faultM R.fs R.since = faultM (R.fs.drop 0) R.since by rw [List.drop_zero])
  go_loopw [4] (fun i wr => ∃ j : Nat, j ≤ R.fs.length ∧ i = vi j ∧ Hid (StrSt w k R flt0 wr) ∧ Hid (faultM R.fs R.since = faultM (R.fs.drop j) R.since)) (fun i _ => R.fs.length - (intOf i).toNat)
  case atStart => exact ⟨0, Nat.zero_le _, rfl, ST, HD⟩
  case round =>
    obtain ⟨j, hj, rfl, st, hd⟩ := hrel
    have c8 : wr.cell? ⟨k, 8, none⟩ = some (.slice R.fa R.fs.length R.fc) := st.out.chip.cell 8
    have e0 : wr.cell? ⟨w.heap.size, 0, none⟩ = some (vi 0) := st.out.b0.cell 0
    have e1 : wr.cell? ⟨w.heap.size, 1, none⟩ = some (vi 0) := st.out.b0.cell 1
    have e2 : wr.cell? ⟨w.heap.size, 2, none⟩ = some (.slice none 0 0) := st.out.b0.cell 2
    have f0 := st.out.b0.frozen 0
    have f1 := st.out.b0.frozen 1
    have f2 := st.out.b0.frozen 2
    by_cases hlt : j < R.fs.length
    · obtain ⟨b, o, hfa, hcell, -⟩ := (HC.out.faults.chg st.out.chg (fun n e => HC.out.mine n (.inl e))).lookup hlt
      have hdr := faultM_drop R.since hlt
      rw [hfa] at c8
      generalize R.fs.getD j default = f at hcell hdr
      obtain ⟨fat, fk, fa, fl, fc⟩ := f
      have g0 : wr.cell? ⟨b, o + j * 3, none⟩ = some (vi fat) := hcell 0 _ rfl
      have g1 : wr.cell? ⟨b, o + j * 3 + 1, none⟩ = some (vi fk) := hcell 1 _ rfl
      have g2 : wr.cell? ⟨b, o + j * 3 + 2, none⟩ = some (.slice fa fl.length fc) := hcell 2 _ rfl
      clear hfa hcell
      dsimp only at hdr
      by_cases hat : fat = R.since
      · rw [if_pos hat] at hdr
        have HF := Lib.hid (hd.out.trans hdr)
        subst hat
        clear hdr
        go_wp2_with fail
        have T := ((st.out.set0 0 (vi R.since)).set0 1 (vi fk)).set0 2 (.slice fa fl.length fc)
        refine bodyPost_ret (v := .agg #[vi R.since, vi fk, .slice fa fl.length fc]) (stroke_result (f := ⟨R.since, fk, fa, fl, fc⟩) T.b0 _ rfl) rfl ⟨by rw [HF.out], HC.out.fields T.chg T.chip rfl⟩
      · rw [if_neg hat] at hdr
        have HF := Lib.hid (hd.out.trans hdr)
        clear hdr
        go_wp2_with fail
        go_roundw
        case rel => exact ⟨j + 1, by omega, by go_num, st, HF⟩
        case measure => simp [intOf]; omega
    · obtain rfl : j = R.fs.length := by omega
      have HF : Hid (faultM R.fs R.since = default) := Lib.hid (by rw [hd.out, List.drop_length]; rfl)
      go_wp2_with fail
      have T := ((st.out.set0 0 (vi 0)).set0 1 (vi 0)).set0 2 (.slice none 0 0)
      exact bodyPost_ret (v := .agg flt0) (stroke_result (f := default) T.b0 _ rfl) rfl ⟨by rw [HF.out]; rfl, HC.out.fields T.chg T.chip rfl⟩

def scriptR (R : RefM) (a : Option Addr) (fs : List FltM) (c : Nat) : RefM := { R with fa := a, fs := fs, fc := c, since := 0 }
set_option maxRecDepth 100000 in
set_option maxHeartbeats 2000000 in
theorem rScript_any (h : RefAt base w k R) (a : Option Addr) (fs : List FltM) (c : Nat) (hf : FRow base w a fs) : Calls Try.prog 69 #[ptr k, .slice a fs.length c] w (RActPost base w k R (NP.script R.view (fs.map (·.view)))) := by
  have HC := Lib.hid h
  have HF := Lib.hid hf
  have hfl : fs.length ≤ 9223372036854775807 := by have := hf.len; unfold maxLen at this; omega
  have z8 := h.chip.frozen 8
  have z9 := h.chip.frozen 9
  have hk := h.chip.lt
  have c8 : w.cell? ⟨k, 8, none⟩ = some (.slice R.fa R.fs.length R.fc) := h.chip.cell 8
  have c9 : w.cell? ⟨k, 9, none⟩ = some (vi R.since) := h.chip.cell 9
  have HG : Hid (RGoes base w k R ((w.setCell ⟨k, 8, none⟩ (.slice a fs.length c)).setCell ⟨k, 9, none⟩ (vi 0)) (scriptR R a fs c)) := Lib.hid (h.fieldsF (R' := scriptR R a fs c) ((Chg.set (F := fun n => n = k) w (p := ⟨k, 8, none⟩) rfl _).setCell (p := ⟨k, 9, none⟩) (.inl rfl) _) ((h.chip.set_ 8 _).set_ 9 _) rfl hf)
  have HQ : Hid (NP.script R.view (fs.map (·.view)) = if fs.all (fun f => decide (0 ≤ f.at_)) then (0, (scriptR R a fs c).view) else (1, R.view)) := Lib.hid (by
    unfold NP.script
    rw [List.all_map]
    rfl)
  clear h hf
  go_enter Try.func69, Try.ntmps69
  go_wp2_with fail
  go_loopw [5] (fun v wr => ∃ i : Nat, i ≤ fs.length ∧ v = vi i ∧ wr = w ∧ Hid ((fs.take i).all (fun f => decide (0 ≤ f.at_)) = true)) (fun v _ => fs.length - (intOf v).toNat)
  case atStart => exact ⟨0, Nat.zero_le _, rfl, rfl, Lib.hid rfl⟩
  case round =>
    obtain ⟨i, hi, rfl, rfl, ha⟩ := hrel
    by_cases hlt : i < fs.length
    · obtain ⟨b, o, hfa, hcell, -⟩ := HF.out.lookup hlt
      have hsp : (fs.take (i + 1)).all (fun f => decide (0 ≤ f.at_)) = ((fs.take i).all (fun f => decide (0 ≤ f.at_)) && decide (0 ≤ (fs.getD i default).at_)) := by
        rw [List.take_succ_eq_append_getElem hlt, List.all_append, List.getD_eq_getElem?_getD, List.getElem?_eq_getElem hlt]
        simp
      have hm : fs.getD i default ∈ fs := getD_mem hlt
      generalize fs.getD i default = f at *
      have g0 : wr.cell? ⟨b, o + i * 3, none⟩ = some (vi f.at_) := hcell 0 _ rfl
      subst hfa
      by_cases h0 : 0 ≤ f.at_
      · have HN : Hid ((fs.take (i + 1)).all (fun f => decide (0 ≤ f.at_)) = true) := Lib.hid (by rw [hsp, ha.out]; simp [h0])
        clear hsp hm hcell
        go_wp2_with fail
        go_roundw
        case rel => exact ⟨i + 1, by omega, by go_num, trivial, HN⟩
        case measure => simp [intOf]; omega
      · have HQ1 : Hid (NP.script R.view (fs.map (·.view)) = (1, R.view)) := Lib.hid (by
          rw [HQ.out, if_neg]
          intro e
          rw [List.all_eq_true] at e
          exact h0 (by simpa using e f hm))
        clear hsp hm hcell
        go_wp2_with fail
        go_ret
        exact .mk HQ1.out (RGoes.refl HC.out) rfl
    · obtain rfl : i = fs.length := by omega
      have HQ1 : Hid (NP.script R.view (fs.map (·.view)) = (0, (scriptR R a fs c).view)) := Lib.hid (by
        have := ha.out
        rw [List.take_length] at this
        rw [HQ.out, if_pos this])
      go_wp2_with fail
      go_ret
      exact .mk HQ1.out HG.out rfl
end

end Go.Proofs.Ytpggkehfbhffbaa
