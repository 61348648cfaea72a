/-
  Lemmas for a law's proof, put together from several texts: each part says what it shows, and its conditions.
-/
import Derived.Test.YtpggkehfbhffbaaZC10
/-
  The document's chip: its places, a block marked, bytes as many as a page has, faults. Conditions: a chip that is told by RefAt.
-/
namespace Go.Proofs.Ytpggkehfbhffbaa
open Go.RowKit

section
variable {base : Nat} {w : World} {k : Nat} {R : RefM}
theorem place_any (h : RefAt base w k R) (j p : Int) : Calls Try.prog 99 #[ptr k, vi j, vi p] w fun e w' => e = .returned (vi (NP.asked R.view j p)) ∧ w' = w := by
  have c0 : w.cell? ⟨k, 0, none⟩ = some (vi R.B) := h.chip.cell 0
  have c1 : w.cell? ⟨k, 1, none⟩ = some (vi R.P) := h.chip.cell 1
  have c8 : w.cell? ⟨k, 10, none⟩ = some (.bool R.down) := h.chip.cell 10
  clear h
  have HA : Hid (NP.asked R.view j p = if R.down then 4 else if 0 ≤ j ∧ j < R.B ∧ 0 ≤ p ∧ p < R.P then 0 else 12) := Lib.hid rfl
  generalize R.down = down at *
  generalize R.B = B at *
  generalize R.P = P at *
  cases down
  · by_cases hj0 : 0 ≤ j
    · by_cases hj1 : j < B
      · by_cases hp0 : 0 ≤ p
        · by_cases hp1 : p < P
          · have H := Lib.hid (show NP.asked R.view j p = 0 by rw [HA.out]; simp [hj0, hj1, hp0, hp1])
            go_enter Try.func99, Try.ntmps99
            go_wp2_with fail
            go_ret
            exact ⟨ret_int H.out.symm, rfl⟩
          · have H := Lib.hid (show NP.asked R.view j p = 12 by rw [HA.out]; simp [hp1])
            go_enter Try.func99, Try.ntmps99
            go_wp2_with fail
            go_ret
            exact ⟨ret_int H.out.symm, rfl⟩
        · have H := Lib.hid (show NP.asked R.view j p = 12 by rw [HA.out]; simp [hp0])
          go_enter Try.func99, Try.ntmps99
          go_wp2_with fail
          go_ret
          exact ⟨ret_int H.out.symm, rfl⟩
      · have H := Lib.hid (show NP.asked R.view j p = 12 by rw [HA.out]; simp [hj1])
        go_enter Try.func99, Try.ntmps99
        go_wp2_with fail
        go_ret
        exact ⟨ret_int H.out.symm, rfl⟩
    · have H := Lib.hid (show NP.asked R.view j p = 12 by rw [HA.out]; simp [hj0])
      go_enter Try.func99, Try.ntmps99
      go_wp2_with fail
      go_ret
      exact ⟨ret_int H.out.symm, rfl⟩
  · have H := Lib.hid (show NP.asked R.view j p = 4 by rw [HA.out]; simp)
    go_enter Try.func99, Try.ntmps99
    go_wp2_with fail
    go_ret
    exact ⟨ret_int H.out.symm, rfl⟩

/-- What an act leaves. -/
def RActPost (base : Nat) (w : World) (k : Nat) (R : RefM) (r : Int × NP.Chp) (e : Ending) (w' : World) : Prop :=
  ∃ R', e = .returned (vi r.1) ∧ RGoes base w k R w' R' ∧ R'.view = r.2
theorem RActPost.mk {r : Int × NP.Chp} {n : Int} {V : NP.Chp} {w' : World} (hr : r = (n, V)) {R' : RefM} (hg : RGoes base w k R w' R') (hv : R'.view = V) : RActPost base w k R r (.returned (vi n)) w' :=
  ⟨R', by rw [hr], hg, by rw [hr]; exact hv⟩
theorem rmark_view (h : RefAt base w k R) {i : Nat} (hi : i < R.B) : RefM.view { R with bd := R.bd.set i true } = NP.markB R.view i := by
  unfold NP.markB NP.setBlk
  rw [R.blk hi]
  unfold RefM.view
  congr 1
  refine RefM.view_set R { R with bd := R.bd.set i true } _ (fun j hj => ?_) rfl
  unfold RefM.blo
  dsimp only
  rw [getD_set' _ _ _ _ _ (by rw [h.ld]; exact hi)]
  by_cases e : j = i
  · subst e; simp
  · simp [e]
theorem rMark_any (h : RefAt base w k R) (j : Int) : Calls Try.prog 67 #[ptr k, vi j] w (RActPost base w k R (NP.mark R.view j)) := by
  have HC := Lib.hid h
  by_cases he : NP.asked R.view j 0 = 0
  · obtain ⟨hd, hj0, hj1, hp0, hp1⟩ := NP.asked_zero he
    change j < R.B at hj1
    obtain ⟨i, rfl⟩ : ∃ i : Nat, j = i := ⟨j.toNat, by omega⟩
    have HE := Lib.hid he
    have HQ := Lib.hid (show NP.mark R.view i = (0, RefM.view { R with bd := R.bd.set i true }) by
      unfold NP.mark
      dsimp only
      rw [if_pos he, Int.toNat_natCast, rmark_view h (by omega)])
    have hib : i < R.bd.length := by rw [h.ld]; omega
    have c6 : w.cell? ⟨k, 6, none⟩ = some (.slice (some ⟨R.gd, 0, none⟩) R.bd.length R.cd) := h.chip.cell 6
    have d6 := h.dcell hib
    have z6 := h.bd.frozen i
    have HG := Lib.hid (h.setD i true)
    clear h hd he hp0 hp1 hj0 hj1
    generalize R.bd.getD i false = b at *
    go_enter Try.func67, Try.ntmps67
    go_wp2_with fail
    refine (place_any HC.out _ _).mono ?_
    rintro e w' ⟨rfl, rfl⟩
    rw [HE.out]
    go_wp2_with fail
    go_ret
    exact .mk HQ.out HG.out rfl
  · have HQ := Lib.hid (show NP.mark R.view j = (NP.asked R.view j 0, R.view) by unfold NP.mark; dsimp only; rw [if_neg he])
    clear h
    go_enter Try.func67, Try.ntmps67
    go_wp2_with fail
    refine (place_any HC.out _ _).mono ?_
    rintro e w' ⟨rfl, rfl⟩
    generalize NP.asked R.view j 0 = n at *
    have hn : ((n : Int) != 0) = true := by simp [he]
    go_wp2_with fail
    go_ret
    exact .mk HQ.out (RGoes.refl HC.out) rfl

theorem torn_getD (n : Nat) (l : List Nat) {i : Nat} (hi : i < n) : (NP.torn n l)[i]? = some (if i < l.length then l.getD i 0 else 255) := by
  unfold NP.torn
  by_cases h : i < l.length
  · rw [List.getElem?_append_left (by simp; omega), List.getElem?_take_of_lt hi, List.getElem?_eq_getElem h, if_pos h, List.getD_eq_getElem?_getD, List.getElem?_eq_getElem h]
    rfl
  · rw [List.getElem?_append_right (by simp; omega), if_neg h, List.getElem?_replicate, if_pos (by simp; omega)]
theorem take_torn (n : Nat) (l : List Nat) {i : Nat} (hi : i < n) : (NP.torn n l).take (i + 1) = (NP.torn n l).take i ++ [if i < l.length then l.getD i 0 else 255] := by
  rw [List.take_add_one, torn_getD n l hi]
  rfl
set_option maxRecDepth 100000 in
set_option maxHeartbeats 2000000 in
theorem rfull_any (h : RefAt base w k R) (hS : R.S ≤ 512) (a : Option Addr) (l : List Nat) (c : Nat) (hr : BRow w a l) (hl : l.length ≤ maxLen) :
    Calls Try.prog 101 #[ptr k, .slice a l.length c] w fun e w' => ∃ v', e = .returned v' ∧ Own w' w.heap.size v' (NP.torn (R.S + 32) l) ∧ Below w.heap.size w w' := by
  have c2 : w.cell? ⟨k, 2, none⟩ = some (vi R.S) := h.chip.cell 2
  have hk := h.chip.lt
  have HR := Lib.hid hr
  have hl2 : l.length ≤ 9223372036854775807 := by unfold maxLen at hl; omega
  clear h hr hl
  generalize R.S = S at *
  have HT : Hid ((NP.torn (S + 32) l).length = S + 32) := Lib.hid (NP.torn_length _ _)
  have HST : Hid (∀ i, i < S + 32 → (NP.torn (S + 32) l).take (i + 1) = (NP.torn (S + 32) l).take i ++ [if i < l.length then l.getD i 0 else 255]) := Lib.hid (fun i hi => take_torn _ _ hi)
  generalize NP.torn (S + 32) l = T at *
  go_enter Try.func101, Try.ntmps101
  go_wp2_with fail
  go_loopw [5, 6] (fun vq v wr => ∃ (i : Nat) (q : Value), q = vq ∧ i ≤ S + 32 ∧ v = vi i ∧ Hid (Own wr w.heap.size q (T.take i)) ∧ Hid (Below w.heap.size w wr)) (fun _ v _ => S + 32 - (intOf v).toNat)
  case atStart => exact ⟨0, _, rfl, Nat.zero_le _, rfl, Lib.hid (Own.nil _ _), Lib.hid (Below.refl _ _)⟩
  case round =>
    obtain ⟨i, q, rfl, hi, rfl, ho, hb⟩ := hrel
    have c2' : wr.cell? ⟨k, 2, none⟩ = some (vi S) := cell_below c2 hb.out
    have hwl : w.heap.size ≤ wr.heap.size := hb.out.size
    by_cases hlt : i < S + 32
    · have hTl : (T.take i).length = i := by rw [List.length_take, HT.out]; omega
      obtain ⟨qa, qc, hq⟩ := own_form ho.out
      rw [hTl] at hq
      subst hq
      by_cases hil : i < l.length
      · obtain ⟨b, o, hab, hcell⟩ := (HR.out.below hb.out).lookup hil
        subst hab
        have HS4 := HST.out i hlt
        rw [if_pos hil] at HS4
        have hx := HR.out.small _ (getD_mem (d := 0) hil)
        generalize l.getD i 0 = x at *
        obtain ⟨v4, w4, hrun4, ho4, hs4⟩ := append_new (w := wr) ho.out [x] (by simpa using hx) (n := 1) rfl rfl (cs := #[vb x]) rfl (by rw [hTl]; omega) hb.out.size
        rw [← HS4] at ho4
        have HO4 := Lib.hid ho4
        have HB4 := Lib.hid (hb.out.trans hs4.below)
        have RA : AppRun 32 32 32 (.slice qa i qc) (.slice (some ⟨wr.heap.size, 0, none⟩) 1 1) (wr.alloc (.cells #[vb x] 5)) v4 w4 := ⟨hrun4⟩
        obtain ⟨v4a, v4c, hv4⟩ := own_form ho4
        subst hv4
        clear hrun4 ho4 hs4 ho hb HS4
        go_wp2_with (at_builtin; refine wpList_append_run rfl (.tmp 21) (.tmp 26) rfl rfl rfl RA.run ?_)
        go_roundw
        case rel => exact ⟨i + 1, _, rfl, by omega, by go_num, Lib.hid (by have := HO4.out; rw [List.length_take] at this; exact this), HB4⟩
        case measure => simp [intOf]; omega
      · obtain ⟨v4, w4, hrun4, ho4, hs4⟩ := append_new (w := wr) ho.out [255] (by simp) (n := 1) rfl rfl (cs := #[vb 255]) rfl (by rw [hTl]; omega) hb.out.size
        have HS4 := HST.out i hlt
        rw [if_neg hil] at HS4
        rw [← HS4] at ho4
        have HO4 := Lib.hid ho4
        have HB4 := Lib.hid (hb.out.trans hs4.below)
        have RA : AppRun 32 32 32 (.slice qa i qc) (.slice (some ⟨wr.heap.size, 0, none⟩) 1 1) (wr.alloc (.cells #[vb 255] 5)) v4 w4 := ⟨hrun4⟩
        obtain ⟨v4a, v4c, hv4⟩ := own_form ho4
        subst hv4
        clear hrun4 ho4 hs4 ho hb HS4
        go_wp2_with (at_builtin; refine wpList_append_run rfl (.tmp 28) (.tmp 29) rfl rfl rfl RA.run ?_)
        go_roundw
        case rel => exact ⟨i + 1, _, rfl, by omega, by go_num, Lib.hid (by have := HO4.out; rw [List.length_take] at this; exact this), HB4⟩
        case measure => simp [intOf]; omega
    · obtain rfl : i = S + 32 := by omega
      have ho' := ho.out
      rw [List.take_of_length_le (by rw [HT.out]; exact Nat.le_refl _)] at ho'
      have HO' := Lib.hid ho'
      clear ho ho'
      go_wp2_with fail
      go_ret
      exact ⟨_, rfl, HO'.out, hb.out⟩
end

end Go.Proofs.Ytpggkehfbhffbaa

/-
  The document's chip: a stroke, faults, a page read. Conditions: a chip that is told by RefAt.
-/
namespace Go.Proofs.Ytpggkehfbhffbaa
open Go.RowKit

section
variable {base : Nat} {w wr w' : World} {k : Nat} {R R' : RefM}
theorem RefAt.fieldsF (h : RefAt base w k R) (q : Chg (fun n => n = k) w w') (hb : Blk w' k 107 R'.cs)
    (he : R' = { R with fa := R'.fa, fs := R'.fs, fc := R'.fc, since := R'.since, down := R'.down, strokes := R'.strokes, reads := R'.reads }) (hf : FRow base w R'.fa R'.fs) : RGoes base w k R w' R' := by
  have hF : ∀ n, n = k → Mine base w n := fun n e => h.mine n (.inl e)
  obtain ⟨h1, h2, h3, h4, h5⟩ := h.k_ne
  rw [he] at hb ⊢
  exact ⟨⟨hb, h.ps.chg q h1, h.nx.chg q h2, h.br.chg q h3, h.bd.chg q h4, h.wr.chg q h5, h.ne1, h.ne2, fun p hp => (h.rows p hp).chg q hF, hf.chg q hF, h.low, h.lp, h.ln, h.lb, h.ld, h.lw⟩, q.mono (fun n _ e => .inl e), fun n hn => .inl hn⟩

def strokeR (R : RefM) : RefM := { R with since := NP.w64 (R.since + 1), strokes := NP.w64 (R.strokes + 1) }
theorem strokeR_view (R : RefM) : (strokeR R).view = NP.stroke R.view := rfl
theorem stroke_result {w' : World} {g : Nat} {f : FltM} (hb : Blk w' g 96 f.cs) (tmps : Array Value) (h2 : tmps[2]? = some (.pointer (some ⟨g, 0, none⟩))) :
    (results Try.f100 tmps).run Try.prog w' = .ok (.agg f.cs) w' := by
  have g0 : w'.cell? ⟨g, 0, none⟩ = some (vi f.at_) := hb.cell 0
  have g1 : w'.cell? ⟨g, 1, none⟩ = some (vi f.kind) := hb.cell 1
  have g2 : w'.cell? ⟨g, 2, none⟩ = some (.slice f.a f.l.length f.c) := hb.cell 2
  simp only [results, Try.results100]
  simp [go_sem, h2, g0, g1, g2]
/-- The state: the chip is laid, the result's variable. -/
structure StrSt (w : World) (k : Nat) (R : RefM) (cs0 : Array Value) (wr : World) : Prop where
  chg : Chg (fun n => n = k) w wr
  chip : Blk wr k 107 (strokeR R).cs
  b0 : Blk wr w.heap.size 96 cs0
  hk : k < w.heap.size
theorem StrSt.set0 {cs0 : Array Value} (h : StrSt w k R cs0 wr) (j : Nat) (u : Value) : StrSt w k R (cs0.setIfInBounds j u) (wr.setCell ⟨w.heap.size, j, none⟩ u) :=
  ⟨h.chg.setCell (.inr (Nat.le_refl _)) u, h.chip.far (p := ⟨w.heap.size, j, none⟩) (by have := h.hk; dsimp only; omega) u, h.b0.set_ j u, h.hk⟩
set_option maxRecDepth 100000 in
set_option maxHeartbeats 2000000 in
theorem stroke_any (h : RefAt base w k R) : Calls Try.prog 100 #[ptr k] w fun e w' => e = .returned (.agg (faultM R.fs R.since).cs) ∧ RGoes base w k R w' (strokeR R) := by
  have c8 : w.cell? ⟨k, 8, none⟩ = some (.slice R.fa R.fs.length R.fc) := h.chip.cell 8
  have c9 : w.cell? ⟨k, 9, none⟩ = some (vi R.since) := h.chip.cell 9
  have c11 : w.cell? ⟨k, 11, none⟩ = some (vi R.strokes) := h.chip.cell 11
  have z9 := h.chip.frozen 9
  have z11 := h.chip.frozen 11
  have hk := h.chip.lt
  have HC := Lib.hid h
  have hfl : R.fs.length ≤ 9223372036854775807 := by have := h.faults.len; unfold maxLen at this; omega
  have hz : ((w.setCell ⟨k, 9, none⟩ (vi (wrap64 (R.since + 1)))).setCell ⟨k, 11, none⟩ (vi (wrap64 (R.strokes + 1)))).heap.size = w.heap.size := by rw [size_set, size_set]
  have st : StrSt w k R flt0 (((w.setCell ⟨k, 9, none⟩ (vi (wrap64 (R.since + 1)))).setCell ⟨k, 11, none⟩ (vi (wrap64 (R.strokes + 1)))).alloc (.cells flt0 96)) :=
    ⟨(((Chg.refl (fun n => n = k) w).setCell (p := ⟨k, 9, none⟩) (.inl rfl) _).setCell (p := ⟨k, 11, none⟩) (.inl rfl) _).alloc _, by
      have := ((h.chip.set_ 9 (vi (wrap64 (R.since + 1)))).set_ 11 (vi (wrap64 (R.strokes + 1)))).alloc (.cells flt0 96)
      rw [← w64_eq, ← w64_eq] at this
      rw [← w64_eq, ← w64_eq]
      exact this, by
      have := Blk.new ((w.setCell ⟨k, 9, none⟩ (vi (wrap64 (R.since + 1)))).setCell ⟨k, 11, none⟩ (vi (wrap64 (R.strokes + 1)))) 96 flt0
      rw [hz] at this
      exact this, hk⟩
  have ST := Lib.hid st
  clear h st hz
  go_enter Try.func100, Try.ntmps100
  go_wp2_with fail
  clear c8 c9 c11 z9 z11
  have HD := Lib.hid (show faultM R.fs R.since = faultM (R.fs.drop 0) R.since by rw [List.drop_zero])
  go_loopw [4] (fun i wr => ∃ j : Nat, j ≤ R.fs.length ∧ i = vi j ∧ Hid (StrSt w k R flt0 wr) ∧ Hid (faultM R.fs R.since = faultM (R.fs.drop j) R.since)) (fun i _ => R.fs.length - (intOf i).toNat)
  case atStart => exact ⟨0, Nat.zero_le _, rfl, ST, HD⟩
  case round =>
    obtain ⟨j, hj, rfl, st, hd⟩ := hrel
    have c8 : wr.cell? ⟨k, 8, none⟩ = some (.slice R.fa R.fs.length R.fc) := st.out.chip.cell 8
    have e0 : wr.cell? ⟨w.heap.size, 0, none⟩ = some (vi 0) := st.out.b0.cell 0
    have e1 : wr.cell? ⟨w.heap.size, 1, none⟩ = some (vi 0) := st.out.b0.cell 1
    have e2 : wr.cell? ⟨w.heap.size, 2, none⟩ = some (.slice none 0 0) := st.out.b0.cell 2
    have f0 := st.out.b0.frozen 0
    have f1 := st.out.b0.frozen 1
    have f2 := st.out.b0.frozen 2
    by_cases hlt : j < R.fs.length
    · obtain ⟨b, o, hfa, hcell, -⟩ := (HC.out.faults.chg st.out.chg (fun n e => HC.out.mine n (.inl e))).lookup hlt
      have hdr := faultM_drop R.since hlt
      rw [hfa] at c8
      generalize R.fs.getD j default = f at hcell hdr
      obtain ⟨fat, fk, fa, fl, fc⟩ := f
      have g0 : wr.cell? ⟨b, o + j * 3, none⟩ = some (vi fat) := hcell 0 _ rfl
      have g1 : wr.cell? ⟨b, o + j * 3 + 1, none⟩ = some (vi fk) := hcell 1 _ rfl
      have g2 : wr.cell? ⟨b, o + j * 3 + 2, none⟩ = some (.slice fa fl.length fc) := hcell 2 _ rfl
      clear hfa hcell
      dsimp only at hdr
      by_cases hat : fat = R.since
      · rw [if_pos hat] at hdr
        have HF := Lib.hid (hd.out.trans hdr)
        subst hat
        clear hdr
        go_wp2_with fail
        have T := ((st.out.set0 0 (vi R.since)).set0 1 (vi fk)).set0 2 (.slice fa fl.length fc)
        refine bodyPost_ret (v := .agg #[vi R.since, vi fk, .slice fa fl.length fc]) (stroke_result (f := ⟨R.since, fk, fa, fl, fc⟩) T.b0 _ rfl) rfl ⟨by rw [HF.out], HC.out.fields T.chg T.chip rfl⟩
      · rw [if_neg hat] at hdr
        have HF := Lib.hid (hd.out.trans hdr)
        clear hdr
        go_wp2_with fail
        go_roundw
        case rel => exact ⟨j + 1, by omega, by go_num, st, HF⟩
        case measure => simp [intOf]; omega
    · obtain rfl : j = R.fs.length := by omega
      have HF : Hid (faultM R.fs R.since = default) := Lib.hid (by rw [hd.out, List.drop_length]; rfl)
      go_wp2_with fail
      have T := ((st.out.set0 0 (vi 0)).set0 1 (vi 0)).set0 2 (.slice none 0 0)
      exact bodyPost_ret (v := .agg flt0) (stroke_result (f := default) T.b0 _ rfl) rfl ⟨by rw [HF.out]; rfl, HC.out.fields T.chg T.chip rfl⟩

def scriptR (R : RefM) (a : Option Addr) (fs : List FltM) (c : Nat) : RefM := { R with fa := a, fs := fs, fc := c, since := 0 }
set_option maxRecDepth 100000 in
set_option maxHeartbeats 2000000 in
theorem rScript_any (h : RefAt base w k R) (a : Option Addr) (fs : List FltM) (c : Nat) (hf : FRow base w a fs) : Calls Try.prog 69 #[ptr k, .slice a fs.length c] w (RActPost base w k R (NP.script R.view (fs.map (·.view)))) := by
  have HC := Lib.hid h
  have HF := Lib.hid hf
  have hfl : fs.length ≤ 9223372036854775807 := by have := hf.len; unfold maxLen at this; omega
  have z8 := h.chip.frozen 8
  have z9 := h.chip.frozen 9
  have hk := h.chip.lt
  have c8 : w.cell? ⟨k, 8, none⟩ = some (.slice R.fa R.fs.length R.fc) := h.chip.cell 8
  have c9 : w.cell? ⟨k, 9, none⟩ = some (vi R.since) := h.chip.cell 9
  have HG : Hid (RGoes base w k R ((w.setCell ⟨k, 8, none⟩ (.slice a fs.length c)).setCell ⟨k, 9, none⟩ (vi 0)) (scriptR R a fs c)) := Lib.hid (h.fieldsF (R' := scriptR R a fs c) ((Chg.set (F := fun n => n = k) w (p := ⟨k, 8, none⟩) rfl _).setCell (p := ⟨k, 9, none⟩) (.inl rfl) _) ((h.chip.set_ 8 _).set_ 9 _) rfl hf)
  have HQ : Hid (NP.script R.view (fs.map (·.view)) = if fs.all (fun f => decide (0 ≤ f.at_)) then (0, (scriptR R a fs c).view) else (1, R.view)) := Lib.hid (by
    unfold NP.script
    rw [List.all_map]
    rfl)
  clear h hf
  go_enter Try.func69, Try.ntmps69
  go_wp2_with fail
  go_loopw [5] (fun v wr => ∃ i : Nat, i ≤ fs.length ∧ v = vi i ∧ wr = w ∧ Hid ((fs.take i).all (fun f => decide (0 ≤ f.at_)) = true)) (fun v _ => fs.length - (intOf v).toNat)
  case atStart => exact ⟨0, Nat.zero_le _, rfl, rfl, Lib.hid rfl⟩
  case round =>
    obtain ⟨i, hi, rfl, rfl, ha⟩ := hrel
    by_cases hlt : i < fs.length
    · obtain ⟨b, o, hfa, hcell, -⟩ := HF.out.lookup hlt
      have hsp : (fs.take (i + 1)).all (fun f => decide (0 ≤ f.at_)) = ((fs.take i).all (fun f => decide (0 ≤ f.at_)) && decide (0 ≤ (fs.getD i default).at_)) := by
        rw [List.take_succ_eq_append_getElem hlt, List.all_append, List.getD_eq_getElem?_getD, List.getElem?_eq_getElem hlt]
        simp
      have hm : fs.getD i default ∈ fs := getD_mem hlt
      generalize fs.getD i default = f at *
      have g0 : wr.cell? ⟨b, o + i * 3, none⟩ = some (vi f.at_) := hcell 0 _ rfl
      subst hfa
      by_cases h0 : 0 ≤ f.at_
      · have HN : Hid ((fs.take (i + 1)).all (fun f => decide (0 ≤ f.at_)) = true) := Lib.hid (by rw [hsp, ha.out]; simp [h0])
        clear hsp hm hcell
        go_wp2_with fail
        go_roundw
        case rel => exact ⟨i + 1, by omega, by go_num, trivial, HN⟩
        case measure => simp [intOf]; omega
      · have HQ1 : Hid (NP.script R.view (fs.map (·.view)) = (1, R.view)) := Lib.hid (by
          rw [HQ.out, if_neg]
          intro e
          rw [List.all_eq_true] at e
          exact h0 (by simpa using e f hm))
        clear hsp hm hcell
        go_wp2_with fail
        go_ret
        exact .mk HQ1.out (RGoes.refl HC.out) rfl
    · obtain rfl : i = fs.length := by omega
      have HQ1 : Hid (NP.script R.view (fs.map (·.view)) = (0, (scriptR R a fs c).view)) := Lib.hid (by
        have := ha.out
        rw [List.take_length] at this
        rw [HQ.out, if_pos this])
      go_wp2_with fail
      go_ret
      exact .mk HQ1.out HG.out rfl
end

end Go.Proofs.Ytpggkehfbhffbaa

/-
  The document's chip: a page read. Conditions: a chip that is told by RefAt, and right.
-/
namespace Go.Proofs.Ytpggkehfbhffbaa
open Go.RowKit

section
variable {base : Nat} {w wr w' : World} {k : Nat} {R R' : RefM}
theorem rok_S (hok : R.view.ok) : R.S ≤ 512 ∧ R.P ≤ 32 ∧ R.B ≤ 128 := by
  have : NP.rightB R.B R.P R.S = true := hok.right
  simp only [NP.rightB, Bool.and_eq_true, decide_eq_true_eq, Bool.or_eq_true, beq_iff_eq] at this
  omega
theorem rok_mem (_hok : R.view.ok) {i : Nat} (hi : i < R.B) : R.blo i ∈ R.view.bs := List.mem_map_of_mem (List.mem_range.2 hi)
theorem rok_next (hok : R.view.ok) {i : Nat} (hi : i < R.B) : R.nx.getD i 0 ≤ R.P := hok.next _ (rok_mem hok hi)
theorem rok_full (hok : R.view.ok) {i p : Nat} (hi : i < R.B) (hp : p < R.P) : (R.ps.getD (i * R.P + p) default).l = [] ∨ (R.ps.getD (i * R.P + p) default).l.length = R.S + 32 :=
  hok.full _ (rok_mem hok hi) _ (List.mem_map_of_mem (f := fun p => (R.ps.getD (i * R.P + p) default).l) (List.mem_range.2 hp))
theorem at_small (hok : R.view.ok) {i p : Nat} (hi : i < R.B) (hp : p < R.P) : i * R.P ≤ 4096 ∧ i * R.P + p ≤ 4128 := by
  obtain ⟨_, h1, h2⟩ := rok_S hok
  have : i * R.P ≤ 128 * 32 := Nat.mul_le_mul (by omega) h1
  omega
theorem torn_read {n : Nat} {l : List Nat} (h : l = [] ∨ l.length = n) : NP.torn n l = if l = [] then List.replicate n 255 else l := by
  rcases h with rfl | h
  · simp [NP.torn]
  · split
    · rename_i e; subst e; simp [NP.torn]
    · exact NP.torn_whole h

/-- What Read leaves. -/
def RReadPost (base : Nat) (w : World) (k : Nat) (R : RefM) (r : (List Nat × Int) × NP.Chp) (e : Ending) (w' : World) : Prop :=
  ∃ v' R', e = .returned (.tuple #[v', vi r.1.2]) ∧ Own w' w.heap.size v' r.1.1 ∧ RGoes base w k R w' R' ∧ R'.view = r.2
def readR (R : RefM) : RefM := { R with reads := NP.w64 (R.reads + 1) }
set_option maxRecDepth 100000 in
set_option maxHeartbeats 2000000 in
theorem rRead_any (h : RefAt base w k R) (hok : R.view.ok) (j p : Int) : Calls Try.prog 68 #[ptr k, vi j, vi p] w (RReadPost base w k R (NP.readP R.view j p)) := by
  have HC := Lib.hid h
  by_cases he : NP.asked R.view j p = 0
  · obtain ⟨hd, hj0, hj1, hp0, hp1⟩ := NP.asked_zero he
    change j < R.B at hj1
    change p < R.P at hp1
    obtain ⟨i, rfl⟩ : ∃ i : Nat, j = i := ⟨j.toNat, by omega⟩
    obtain ⟨q, rfl⟩ : ∃ q : Nat, p = q := ⟨p.toNat, by omega⟩
    have hi : i < R.B := by omega
    have hq : q < R.P := by omega
    have HE := Lib.hid he
    have hS := (rok_S hok).1
    have hfl := rok_full hok hi hq
    obtain ⟨hs1, hs2⟩ := at_small hok hi hq
    have hat : i * R.P + q < R.ps.length := by rw [h.lp]; exact at_lt hi hq
    have HQ : Hid (NP.readP R.view i q = ((NP.torn (R.S + 32) (R.ps.getD (i * R.P + q) default).l, 0), (readR R).view)) := Lib.hid (by
      unfold NP.readP
      dsimp only
      rw [if_pos he, Int.toNat_natCast, Int.toNat_natCast, R.page hi hq, torn_read hfl]
      rfl)
    have G := h.field (R' := readR R) 12 (vi (wrap64 (R.reads + 1))) (by rw [← w64_eq]; rfl) rfl
    have HG := Lib.hid G
    have c12 : w.cell? ⟨k, 12, none⟩ = some (vi R.reads) := h.chip.cell 12
    have z12 := h.chip.frozen 12
    have hln : (R.ps.getD (i * R.P + q) default).l.length ≤ maxLen := by unfold maxLen; rcases hfl with e | e; rw [e]; simp; omega
    clear hd he G hok h hfl
    go_enter Try.func68, Try.ntmps68
    go_wp2_with fail
    refine (place_any HC.out _ _).mono ?_
    rintro e w' ⟨rfl, rfl⟩
    rw [HE.out]
    go_upto_region 5 with fail
    generalize w'.setCell ⟨k, 12, none⟩ (vi (wrap64 (R.reads + 1))) = w1 at *
    have c1 : w1.cell? ⟨k, 1, none⟩ = some (vi R.P) := HG.out.at_.chip.cell 1
    have c3 : w1.cell? ⟨k, 3, none⟩ = some (.slice (some ⟨R.gp, 0, none⟩) R.ps.length R.cp) := HG.out.at_.chip.cell 3
    have d1 : w1.cell? ⟨R.gp, i * R.P + q, none⟩ = some (R.ps.getD (i * R.P + q) default).v := HG.out.at_.pcell (i := i * R.P + q) hat
    have hpg : (R.ps.getD (i * R.P + q) default).ok base w1 := HG.out.at_.rows (R.ps.getD (i * R.P + q) default) (getD_mem hat)
    clear c12 z12
    generalize R.ps.getD (i * R.P + q) default = pg at *
    obtain ⟨pa, pl, pc⟩ := pg
    dsimp only at *
    have HFU : Hid (Calls Try.prog 101 #[ptr k, .slice pa pl.length pc] w1.drew fun e w' => ∃ v', e = .returned v' ∧ Own w' w1.heap.size v' (NP.torn (R.S + 32) pl) ∧ Below w1.heap.size w1 w') := Lib.hid
      ((rfull_any (HG.out.at_.old (Below.refl _ _).drew) hS pa pl pc (hpg.row.row.below (Below.refl _ _).drew) hln).mono (by
        rintro e w' ⟨v', rfl, ho, hb⟩
        exact ⟨v', rfl, ho, (Below.refl _ _).drew.trans hb⟩))
    have q1 : IntKind.i64.wrap ((i : Int) * (R.P : Int)) = (i : Int) * (R.P : Int) := IntWalk.i64_in _ (by omega)
    have q2 : IntKind.i64.wrap ((i : Int) * (R.P : Int) + (q : Int)) = (i : Int) * (R.P : Int) + (q : Int) := IntWalk.i64_in _ (by omega)
    have q3 : (0 : Int) ≤ (i : Int) * (R.P : Int) + (q : Int) := by omega
    have q4 : (i : Int) * (R.P : Int) + (q : Int) < (R.ps.length : Int) := by omega
    have q5 : ((i : Int) * (R.P : Int) + (q : Int)).toNat = i * R.P + q := by omega
    have HD : Hid (w1.drew.cell? ⟨k, 1, none⟩ = some (vi R.P) ∧ w1.drew.cell? ⟨k, 3, none⟩ = some (.slice (some ⟨R.gp, 0, none⟩) R.ps.length R.cp) ∧ w1.drew.cell? ⟨R.gp, i * R.P + q, none⟩ = some (.slice pa pl.length pc)) := Lib.hid ⟨c1, c3, d1⟩
    have C1 := Lib.hid c1
    have C3 := Lib.hid c3
    have D1 := Lib.hid d1
    clear c1 c3 d1 hpg hln
    go_region_held3 (fun w' => w'.cell? ⟨k, 1, none⟩ = some (vi R.P) ∧ w'.cell? ⟨k, 3, none⟩ = some (.slice (some ⟨R.gp, 0, none⟩) R.ps.length R.cp) ∧ w'.cell? ⟨R.gp, i * R.P + q, none⟩ = some (.slice pa pl.length pc))
      (first
        | exact HD.out
        | exact ⟨cell_below C1.out hb3, cell_below C3.out hb3, cell_below D1.out hb3⟩)
      (first | (go_at_call 101; refine (HFU.out).mono ?_; rintro e w3 ⟨v3, rfl, ho3, hb3⟩; have HO3 := Lib.hid ho3; clear ho3))
    all_goals
      have HG3 := Lib.hid (HG.out.old hb3)
      have HO4 := Lib.hid (HO3.out.more HG.out.size)
      go_wp2_with fail
      go_ret2
      exact ⟨v3, readR R, by rw [HQ.out]; rfl, by rw [HQ.out]; exact HO4.out, HG3.out, by rw [HQ.out]⟩
  · have HQ : Hid (NP.readP R.view j p = (([], NP.asked R.view j p), R.view)) := Lib.hid (by unfold NP.readP; dsimp only; rw [if_neg he])
    clear hok h
    go_enter Try.func68, Try.ntmps68
    go_wp2_with fail
    refine (place_any HC.out _ _).mono ?_
    rintro e w' ⟨rfl, rfl⟩
    generalize NP.asked R.view j p = n at *
    have hn : ((n : Int) != 0) = true := by simp [he]
    go_wp2_with fail
    go_ret2
    exact ⟨_, R, by rw [HQ.out]; rfl, by rw [HQ.out]; exact Own.nil _ _, RGoes.refl HC.out, by rw [HQ.out]⟩
end

end Go.Proofs.Ytpggkehfbhffbaa

