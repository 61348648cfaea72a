/-
  A manager of a chip's blocks: what is to be done next. Conditions: a manager and its chip told by Held.
-/
import Derived.Test.YtpggkehfbhffbaaKD
import Derived.Test.YtpggkehfbhffbaaKC
namespace Go.Proofs.Ytpggkehfbhffbaa.mgr
open Go.RowKit

def zeroTo (l : List gcs.Blk) : Nat → List gcs.Blk
  | 0 => l
  | n + 1 => (zeroTo l n).set n { (zeroTo l n).getD n default with r := 0 }
def nextL (G : MgM) (P : Nat) : Int × Int := gcs.NextL (if G.even then zeroTo G.l G.l.length else G.l) P (decide ((P : Int) ≤ roomL G P))
theorem zeroTo_length (l : List gcs.Blk) : ∀ n, (zeroTo l n).length = l.length
  | 0 => rfl
  | n + 1 => by unfold zeroTo; rw [List.length_set, zeroTo_length l n]
section
variable {base : Nat} {w : World} {m : Nat} {G : MgM} {M : ChM}
theorem gcells_one (l : List gcs.Blk) : ∀ u ∈ l.flatMap gcells, u.oneCell' = true := by
  intro u hu
  obtain ⟨x, _, hx⟩ := List.mem_flatMap.1 hu
  simp [gcells] at hx
  rcases hx with rfl | rfl | rfl | rfl <;> rfl
theorem arr_row {g c : Nat} {l : List gcs.Blk} (h : Arr w 121 4 g l.length c (l.flatMap gcells)) : gcs.Row w (.slice (some ⟨g, 0, none⟩) l.length c) l := by
  obtain ⟨cur, _, g1, g2, _⟩ := h.blk
  refine ⟨by unfold maxLen at g2; omega, _, _, rfl, .inr ⟨g, 0, rfl, fun i hi => ?_⟩⟩
  have hc : ∀ j, j < 4 → w.cell? ⟨g, i * 4 + j, none⟩ = (gcells (l.getD i default))[j]? := fun j hj => by
    rw [h.cell (by omega), flat_get gcells_len default _ _ _ hi hj]
  rw [Nat.zero_add]
  exact ⟨hc 0 (by decide), hc 1 (by decide), hc 2 (by decide), hc 3 (by decide)⟩
/-- The row while its wear is set to 0. -/
structure NxSt (w1 : World) (g c : Nat) (l : List gcs.Blk) (wr : World) : Prop where
  below : Below w1.heap.size w1 wr
  arr : Arr wr 121 4 g l.length c (l.flatMap gcells)
  low : w1.heap.size ≤ g
theorem NxSt.zero {w1 wr : World} {g c : Nat} {l : List gcs.Blk} (h : NxSt w1 g c l wr) {n : Nat} (hn : n < l.length) : NxSt w1 g c (l.set n { l.getD n default with r := 0 }) (wr.setCell ⟨g, n * 4 + 2, none⟩ (vi 0)) := by
  refine ⟨h.below.setCell (p := ⟨g, n * 4 + 2, none⟩) h.low _, ?_, h.low⟩
  rw [List.length_set, ← flat_set gcells_len default l n 2 { l.getD n default with r := 0 } (vi 0) hn (by decide) rfl]
  exact h.arr.set _ _
set_option maxRecDepth 100000 in
set_option maxHeartbeats 4000000 in
theorem Next_any (h : Held base w m G M) (hf : G.fit M.P) (hl0 : 0 < G.l.length) : Calls Try.prog 39 #[ptr m] w fun e w' => e = .returned (gcs.vact (nextL G M.P)) ∧ Below w.heap.size w w' := by
  have HDEF : Hid (nextL G M.P = gcs.NextL (if G.even then zeroTo G.l G.l.length else G.l) M.P (decide ((M.P : Int) ≤ roomL G M.P))) := Lib.hid rfl
  have H := Lib.hid h
  have HF := Lib.hid hf
  have HZL := Lib.hid (zeroTo_length G.l)
  have hlen : G.l.length ≤ 128 := hf.1
  have HL := Lib.hid hlen
  have B0 := Lib.hid (alloc_below w (.cells #[vi 0, vi 0] 74))
  have R0 := Lib.hid (Blk.new w 74 #[vi 0, vi 0])
  clear h hf
  go_enter Try.func39, Try.ntmps39
  go_upto_region 1 with fail
  generalize w.alloc (.cells #[vi 0, vi 0] 74) = w1 at *
  generalize hrb : w.heap.size = rb at *
  have HRB := Lib.hid hrb
  clear hrb
  have H1 : Hid (Held base w1 m G M) := Lib.hid (H.out.old (by rw [HRB.out]; exact B0.out))
  have c1 : w1.cell? ⟨m, 1, none⟩ = some (.slice (some ⟨G.gl, 0, none⟩) G.l.length G.cl) := H1.out.cells.2.1
  go_wp2_with fail
  have hown := H1.out.mgr.row
  refine (CloneR_any (some ⟨G.gl, 0, none⟩) G.l.length G.cl (G.l.flatMap gcells) _ (flat_length gcells_len G.l) (fun ad had j u hu => by
      injection had with had
      subst had
      rw [add_plain, Nat.zero_add, hown.cell (by rw [← flat_length gcells_len G.l]; exact (List.getElem?_eq_some_iff.1 hu).1)]
      exact hu) (gcells_one _) (by simp) (by omega)).mono ?_
  rintro e w2 ⟨v2, rfl, ho2, hb2⟩
  obtain ⟨g, c, rfl, harr, hg⟩ := Arr.of_own ho2 hl0
  have HEL : Hid ((if G.even then zeroTo G.l 0 else G.l) = G.l) := Lib.hid (by cases G.even <;> rfl)
  have ST : Hid (NxSt w1 g c (if G.even then zeroTo G.l 0 else G.l) w2) := Lib.hid (by rw [HEL.out]; exact ⟨hb2, harr, hg⟩)
  clear ho2 hb2 harr hg hown c1
  go_wp2_with fail
  go_loopw [15] (fun i wr => ∃ n : Nat, n ≤ G.l.length ∧ i = vi n ∧ Hid (NxSt w1 g c (if G.even then zeroTo G.l n else G.l) wr)) (fun i _ => G.l.length - (intOf i).toNat)
  case atStart => exact ⟨0, Nat.zero_le _, rfl, ST⟩
  case round =>
    clear ST
    obtain ⟨n, hn, rfl, st⟩ := hrel
    by_cases hlt : n < G.l.length
    · have c5 : wr.cell? ⟨m, 5, none⟩ = some (.bool G.even) := (H1.out.old st.out.below).cells.2.2.2.2.2
      have hn0 : (0 : Int) ≤ (n : Int) := by omega
      have hn1 : (n : Int) < (G.l.length : Int) := by omega
      generalize hev : G.even = ev at *
      cases ev
      · rw [if_neg (by simp)] at st
        go_wp2_with fail
        go_roundw
        case rel => exact ⟨n + 1, by omega, by go_num, by rw [if_neg (by simp)]; exact st⟩
        case measure => simp [intOf]; omega
      · rw [if_pos rfl] at st
        have hnz : n < (zeroTo G.l n).length := by rw [HZL.out]; exact hlt
        have d2 : wr.cell? ⟨g, n * 4 + 2, none⟩ = some (vi ((zeroTo G.l n).getD n default).r) := by
          rw [st.out.arr.cell (by omega), flat_get gcells_len default _ _ _ hnz (by decide)]
          rfl
        have z2 := st.out.arr.frozen (n * 4 + 2)
        have S1 : Hid (NxSt w1 g c (zeroTo G.l (n + 1)) (wr.setCell ⟨g, n * 4 + 2, none⟩ (vi 0))) := Lib.hid (st.out.zero hnz)
        generalize ((zeroTo G.l n).getD n default).r = rr at *
        clear st hnz
        go_wp2_with fail
        go_roundw
        case rel => exact ⟨n + 1, by omega, by go_num, S1⟩
        case measure => simp [intOf]; omega
    · obtain rfl : n = G.l.length := by omega
      have HLL : Hid ((if G.even then zeroTo G.l G.l.length else G.l).length = G.l.length) := Lib.hid (by split; exact HZL.out _; rfl)
      generalize (if G.even then zeroTo G.l G.l.length else G.l) = L at *
      have H2 := Lib.hid (H1.out.old st.out.below)
      have R2 := Lib.hid (R0.out.old st.out.below)
      have RW := Lib.hid (arr_row st.out.arr)
      rw [HLL.out] at RW
      have B2 : Hid (Below w.heap.size w wr) := Lib.hid (by rw [HRB.out]; exact B0.out.trans (st.out.below.mono (by rw [← HRB.out]; exact B0.out.size)))
      clear st hn hlt hlen
      go_wp2_with fail
      refine (pages_any H2.out.mgr H2.out.chip).mono ?_
      rintro e w4 ⟨rfl, hb4⟩
      have H4 := Lib.hid (H2.out.old hb4)
      have R4 := Lib.hid (R2.out.old hb4)
      have W4 := Lib.hid (RW.out.below hb4)
      have B4 := Lib.hid (B2.out.trans (hb4.mono B2.out.size))
      clear hb4
      go_wp2_with fail
      refine (Room_any H4.out.mgr H4.out.chip HF.out).mono ?_
      rintro e w5 ⟨rfl, hb5⟩
      have H5 := Lib.hid (H4.out.old hb5)
      have R5 := Lib.hid (R4.out.old hb5)
      have W5 := Lib.hid (W4.out.below hb5)
      have B5 := Lib.hid (B4.out.trans (hb5.mono B4.out.size))
      clear hb5
      generalize roomL G M.P = rm at *
      go_wp2_with fail
      refine (pages_any H5.out.mgr H5.out.chip).mono ?_
      rintro e w6 ⟨rfl, hb6⟩
      have R6 := Lib.hid (R5.out.old hb6)
      have W6 := Lib.hid (W5.out.below hb6)
      have B6 := Lib.hid (B5.out.trans (hb6.mono B5.out.size))
      clear hb6
      go_wp2_with fail
      have HN := Lib.hid (gcs.Next_any _ L M.P (decide ((M.P : Int) ≤ rm)) _ W6.out)
      refine HN.out.mono ?_
      rintro e w7 ⟨rfl, hb7⟩
      have R7 := Lib.hid (R6.out.old hb7)
      have B7 := Lib.hid (B6.out.trans (hb7.mono B6.out.size))
      clear hb7 HN
      generalize gcs.NextL L M.P (decide ((M.P : Int) ≤ rm)) = r at *
      have c0 : w7.cell? ⟨rb, 0, none⟩ = some (vi 0) := R7.out.cell 0
      have c1 : w7.cell? ⟨rb, 1, none⟩ = some (vi 0) := R7.out.cell 1
      have z0 := R7.out.frozen 0
      have z1 := R7.out.frozen 1
      go_wp2_with fail
      refine bodyPost_ret (v := gcs.vact r) (by simp [results, Try.results39, go_sem, c0, c1]) rfl ⟨by rw [HDEF.out], ?_⟩
      exact (B7.out.setCell (p := ⟨rb, 0, none⟩) (by rw [HRB.out]; exact Nat.le_refl _) _).setCell (p := ⟨rb, 1, none⟩) (by rw [HRB.out]; exact Nat.le_refl _) _
end

end Go.Proofs.Ytpggkehfbhffbaa.mgr
