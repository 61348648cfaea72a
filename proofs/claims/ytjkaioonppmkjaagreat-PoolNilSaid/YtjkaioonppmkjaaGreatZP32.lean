/-
  Lemmas for a law's proof, put together from several texts: each part says what it shows, and its conditions.
-/
import Derived.Test.YtjkaioonppmkjaaGreatZP31
/-
  Rows of pages that were seen on a chip: whether one counts, the last epoch. Conditions: a row that can be read.
-/
namespace Go.Proofs.YtjkaioonppmkjaaGreat.ft
open Go.RowKit Go.Proofs.YtjkaioonppmkjaaGreat.mgr

abbrev snC (s : FP.Sn) : Array Value := #[vi s.tag.kind, vw s.tag.page, vq s.tag.seq, vq s.tag.epoch, vi s.at_.block, vi s.at_.page]
abbrev snV (s : FP.Sn) : Value := .agg (snC s)
/-- A page that was seen, in memory. -/
structure SnAt (w : World) (b o : Nat) (s : FP.Sn) : Prop where
  c0 : w.cell? ⟨b, o, none⟩ = some (vi s.tag.kind)
  c1 : w.cell? ⟨b, o + 1, none⟩ = some (vw s.tag.page)
  c2 : w.cell? ⟨b, o + 2, none⟩ = some (vq s.tag.seq)
  c3 : w.cell? ⟨b, o + 3, none⟩ = some (vq s.tag.epoch)
  c4 : w.cell? ⟨b, o + 4, none⟩ = some (vi s.at_.block)
  c5 : w.cell? ⟨b, o + 5, none⟩ = some (vi s.at_.page)
theorem SnAt.old {w w' : World} {b o : Nat} {s : FP.Sn} (h : SnAt w b o s) (q : Below w.heap.size w w') : SnAt w' b o s :=
  ⟨cell_below h.c0 q, cell_below h.c1 q, cell_below h.c2 q, cell_below h.c3 q, cell_below h.c4 q, cell_below h.c5 q⟩
def SnRow (w : World) (a : Option Addr) (l : List FP.Sn) : Prop := l = [] ∨ ∃ b o, a = some ⟨b, o, none⟩ ∧ ∀ i, i < l.length → SnAt w b (o + i * 6) (l.getD i default)
theorem SnRow.old {w w' : World} {a : Option Addr} {l : List FP.Sn} (h : SnRow w a l) (q : Below w.heap.size w w') : SnRow w' a l := by
  rcases h with h | ⟨b, o, rfl, h⟩
  · exact .inl h
  · exact .inr ⟨b, o, rfl, fun i hi => (h i hi).old q⟩
theorem SnRow.lookup {w : World} {a : Option Addr} {l : List FP.Sn} (h : SnRow w a l) {i : Nat} (hi : i < l.length) : ∃ b o, a = some ⟨b, o, none⟩ ∧ SnAt w b (o + i * 6) (l.getD i default) := by
  rcases h with rfl | ⟨b, o, rfl, h⟩
  · simp at hi
  · exact ⟨b, o, rfl, h i hi⟩
theorem vq_max (n e : Nat) : Value.int .u64 (if n < e then (e : Int) else n) = vq (max n e) := by
  split
  · rw [Nat.max_eq_right (by omega)]
  · rw [Nat.max_eq_left (by omega)]
set_option maxRecDepth 100000 in
theorem counts_any (s : FP.Sn) (last : Nat) (w : World) : Calls Tryz.prog 114 #[snV s, vq last] w fun e w' => e = .returned (.bool (FP.counts last s)) ∧ Below w.heap.size w w' := by
  go_enter Tryz.func114, Tryz.ntmps114
  go_wp2_with fail
  all_goals
    go_ret
    exact ⟨ret_bool (by rw [Bool.eq_iff_iff]; simp [FP.counts] <;> omega), (Below.refl _ _).alloc (Nat.le_refl _) _⟩
set_option maxRecDepth 100000 in
set_option maxHeartbeats 1000000 in
theorem lastEpoch_any (a : Option Addr) (l : List FP.Sn) (c : Nat) (w : World) (hr : SnRow w a l) (hl : l.length ≤ 100000) : Calls Tryz.prog 57 #[.slice a l.length c] w fun e w' => e = .returned (vq (FP.lastEpoch l)) ∧ Below w.heap.size w w' := by
  have HR := Lib.hid hr
  clear hr
  go_enter Tryz.func57, Tryz.ntmps57
  go_wp2_with fail
  go_loopw [3, 8] (fun n i wr => ∃ k : Nat, k ≤ l.length ∧ i = vi k ∧ n = vq (FP.lastEpoch (l.take k)) ∧ Below w.heap.size w wr) (fun _ i _ => l.length - (intOf i).toNat)
  case atStart => exact ⟨0, Nat.zero_le _, rfl, rfl, Below.refl _ _⟩
  case round =>
    obtain ⟨k, hk, rfl, rfl, hb⟩ := hrel
    by_cases hlt : k < l.length
    · obtain ⟨b, o, rfl, hx⟩ := (HR.out.old hb).lookup hlt
      have HST : Hid (FP.lastEpoch (l.take (k + 1)) = FP.lastTo (FP.lastEpoch (l.take k)) (l.getD k default)) := Lib.hid (by
        unfold FP.lastEpoch
        rw [List.take_succ_eq_append_getElem hlt, List.foldl_append, List.getD_eq_getElem?_getD, List.getElem?_eq_getElem hlt]
        rfl)
      generalize l.getD k default = x at hx HST
      generalize FP.lastEpoch (l.take k) = n0 at *
      obtain ⟨g0, g1, g2, g3, g4, g5⟩ := hx
      go_upto_region 5 with fail
      have G := Lib.hid (Blk.new wr 112 (snC x))
      have HB2 := Lib.hid (hb.alloc hb.size (.cells (snC x) 112))
      change Code.wp _ _ _ _ (wr.alloc (.cells (snC x) 112))
      clear g0 g1 g2 g3 g4 g5 hb
      generalize wr.alloc (.cells (snC x) 112) = w2 at *
      generalize wr.heap.size = g at *
      have g0 : w2.cell? ⟨g, 0, none⟩ = some (vi x.tag.kind) := G.out.cell 0
      have g3 : w2.cell? ⟨g, 3, none⟩ = some (vq x.tag.epoch) := G.out.cell 3
      by_cases h2 : x.tag.kind = 2
      · have h2' : (x.tag.kind == 2) = true := by simp [h2]
        have HS2 : Hid (FP.lastEpoch (l.take (k + 1)) = max n0 x.tag.epoch) := Lib.hid (by rw [HST.out, FP.lastTo, if_pos h2])
        clear h2
        go_wp2_with fail
        go_roundw
        case rel => exact ⟨k + 1, by omega, by go_num, by rw [HS2.out]; exact vq_max _ _, HB2.out⟩
        case measure => simp [intOf]; omega
      · have h2' : (x.tag.kind == 2) = false := by simp [h2]
        have HS2 : Hid (FP.lastEpoch (l.take (k + 1)) = n0) := Lib.hid (by rw [HST.out, FP.lastTo, if_neg h2])
        clear h2
        go_wp2_with fail
        go_roundw
        case rel => exact ⟨k + 1, by omega, by go_num, by rw [HS2.out], HB2.out⟩
        case measure => simp [intOf]; omega
    · go_wp2_with fail
      go_ret
      obtain rfl : k = l.length := by omega
      exact ⟨congrArg (fun x => Ending.returned (vq (FP.lastEpoch x))) (List.take_length ..), hb⟩
end Go.Proofs.YtjkaioonppmkjaaGreat.ft

/-
  Rows of pages that were seen, made by the call itself; the newest of them. Conditions: a row that can be read.
-/
namespace Go.Proofs.YtjkaioonppmkjaaGreat.ft
open Go.RowKit Go.Proofs.YtjkaioonppmkjaaGreat.mgr

abbrev snL (s : FP.Sn) : List Value := [vi s.tag.kind, vw s.tag.page, vq s.tag.seq, vq s.tag.epoch, vi s.at_.block, vi s.at_.page]
theorem seen_info : (Tryz.prog.info? 112).map (fun i => (i.zero, i.size, i.bytes)) = some (some (.agg #[vi 0, vw 0, vq 0, vq 0, vi 0, vi 0]), 6, 48) := by kernel_rfl
/-- A row of the call's own. -/
def SnOwn (w : World) (b0 : Nat) (v : Value) (l : List FP.Sn) : Prop := w.ownsRow b0 112 6 v l.length (l.flatMap snL)
section
variable {w w' : World} {b0 : Nat} {v : Value} {l : List FP.Sn}
theorem SnOwn.grown (h : SnOwn w b0 v l) {row : Option Nat} (q : w.grownBy w' row) (hne : v.ownBlock = none ∨ v.ownBlock ≠ row) : SnOwn w' b0 v l := World.ownsRow.kept h q hne
theorem SnOwn.old (h : SnOwn w b0 v l) (hb : Below w.heap.size w w') : SnOwn w' b0 v l :=
  h.grown (row := none) ⟨hb.os, hb.tape, hb.output, hb.size, fun k hk _ => hb.block k hk⟩ (by cases hv : v.ownBlock <;> simp)
theorem SnOwn.form (h : SnOwn w b0 v l) : ∃ a c, v = .slice a l.length c := by
  rcases h.2 with ⟨rfl, h0⟩ | ⟨g, cap, cur, rfl, _⟩
  · exact ⟨none, 0, by rw [h0]⟩
  · exact ⟨_, _, rfl⟩
theorem SnOwn.blk (h : SnOwn w b0 v l) : ∀ b, v.ownBlock = some b → b0 ≤ b ∧ ∃ cur, Blk w b 112 cur := by
  intro b hb
  rcases h.2 with ⟨rfl, _⟩ | ⟨g, cap, cur, rfl, hg, hh, _⟩
  · simp [Value.ownBlock] at hb
  · simp [Value.ownBlock] at hb
    subst hb
    exact ⟨hg, cur, hh⟩
theorem SnOwn.nil (w : World) (b0 : Nat) : SnOwn w b0 (.slice none 0 0) [] := World.ownsRow_nil _ _ _ _
theorem flat_get (l : List FP.Sn) {i j : Nat} (hi : i < l.length) (hj : j < 6) : (l.flatMap snL)[i * 6 + j]? = (snL (l.getD i default))[j]? := by
  induction l generalizing i with
  | nil => simp at hi
  | cons x l ih =>
    rw [List.flatMap_cons]
    cases i with
    | zero => rw [List.getElem?_append_left (by simp; omega)]; simp
    | succ i =>
      rw [List.getElem?_append_right (by simp; omega), show (i + 1) * 6 + j - (snL x).length = i * 6 + j by simp; omega, ih (by simpa using hi)]
      rfl
theorem SnOwn.srow (h : SnOwn w b0 v l) : ∃ a c, v = .slice a l.length c ∧ SnRow w a l := by
  have h' := h
  rcases h'.2 with ⟨rfl, h0⟩ | ⟨g, cap, cur, rfl, _⟩
  · have : l = [] := List.eq_nil_of_length_eq_zero h0
    subst this
    exact ⟨none, 0, rfl, .inl rfl⟩
  · refine ⟨_, cap, rfl, .inr ⟨g, 0, rfl, fun i hi => ?_⟩⟩
    have hc : ∀ j, j < 6 → w.cell? ⟨g, 0 + i * 6 + j, none⟩ = (snL (l.getD i default))[j]? := fun j hj => by
      rw [Nat.zero_add, World.ownsRow.cellAt h (i * 6 + j) (by omega), flat_get l hi hj]
    exact ⟨hc 0 (by decide), hc 1 (by decide), hc 2 (by decide), hc 3 (by decide), hc 4 (by decide), hc 5 (by decide)⟩
theorem append_seen (hown : SnOwn w b0 v l) (x : FP.Sn) (hn : l.length + 1 ≤ 1000000) (hb : b0 ≤ w.heap.size) :
    ∃ v' w', AppRun 105 105 105 v (.slice (some ⟨w.heap.size, 0, none⟩) 1 1) (w.alloc (.cells (snC x) 112)) v' w' ∧ SnOwn w' b0 v' (l ++ [x]) ∧ (w.alloc (.cells (snC x) 112)).grownBy w' v.ownBlock := by
  obtain ⟨i0, hi, hz0, hz1, hz2⟩ := info_parts seen_info
  have hown' := hown.old ((Below.refl _ w).alloc (Nat.le_refl _) (.cells (snC x) 112))
  obtain ⟨v', w', h1, h2, h3, _⟩ := run_append_own_at (P := Tryz.prog) (w.alloc (.cells (snC x) 112)) b0 105 105 112 i0 _ 6 48 Tryz.underlying105 hi hz0 hz1 hz2 rfl (by omega) v l.length (l.flatMap snL) hown'
    ⟨w.heap.size, 0, none⟩ 1 1 (snL x) rfl (fun j u hu => by
      rw [add_plain, Nat.zero_add, (Blk.new w 112 (snC x)).cell]
      simpa using hu) (by intro u hu; simp at hu; rcases hu with rfl | rfl | rfl | rfl | rfl | rfl <;> rfl)
      (by unfold maxLen; omega) (by omega) (by simp; omega)
  refine ⟨v', w', ⟨h1⟩, ?_, h3⟩
  unfold SnOwn
  rw [List.length_append, List.flatMap_append]
  simpa using h2
end
end Go.Proofs.YtjkaioonppmkjaaGreat.ft

/-
  The newest of the pages that were seen. Conditions: a row that can be read.
-/
namespace Go.Proofs.YtjkaioonppmkjaaGreat.ft
open Go.RowKit Go.Proofs.YtjkaioonppmkjaaGreat.mgr

abbrev encN (n : Nat) : Value := vq n
theorem zero_u64 (w : World) : (zeroValue 90).run Tryz.prog w = .ok (vq 0) w := by kernel_rfl
section
variable {w w' : World} {b : Nat} {m : Mp Nat}
theorem seqs_look (h : MpAt w b .u32 encN m) (j : Nat) : (Instr.lookup 175 (.map (some b)) (vw j) false).run Tryz.prog w = .ok (vq ((MP.get m j).getD 0)) w := by
  have := h.lookup Tryz.underlying175 Tryz.underlying22 (zero_u64 w) j
  cases hg : MP.get m j with
  | none => rw [hg] at this; exact this
  | some n => rw [hg] at this; exact this
theorem seqs_upd (h : MpAt w b .u32 encN m) (j n : Nat) : ∃ w', UpdRun 175 (.map (some b)) (vw j) (vq n) w w' ∧ MpAt w' b .u32 encN (MP.put m j n) ∧ w.grownBy w' (some b) := by
  obtain ⟨w', h1, h2, h3⟩ := h.update (P := Tryz.prog) Tryz.underlying175 Tryz.underlying22 j n
  exact ⟨w', ⟨h1⟩, h2, h3⟩
def mostTo (last : Nat) (l : List FP.Sn) (k : Nat) : Mp Nat := (l.take k).foldl (FP.mostIn last) []
def newIn (last : Nat) (m : Mp Nat) (s : FP.Sn) : Bool := FP.counts last s && decide (s.tag.seq = (MP.get m s.tag.page).getD 0)
theorem mostTo_succ (last : Nat) (l : List FP.Sn) {k : Nat} (h : k < l.length) : mostTo last l (k + 1) = FP.mostIn last (mostTo last l k) (l.getD k default) := by
  unfold mostTo
  rw [List.take_succ_eq_append_getElem h, List.foldl_append, List.getD_eq_getElem?_getD, List.getElem?_eq_getElem h]
  rfl
theorem newTo_succ (last : Nat) (m : Mp Nat) (l : List FP.Sn) {k : Nat} (h : k < l.length) : (l.take (k + 1)).filter (newIn last m) = (l.take k).filter (newIn last m) ++ (if newIn last m (l.getD k default) then [l.getD k default] else []) := by
  rw [List.take_succ_eq_append_getElem h, List.filter_append, List.getD_eq_getElem?_getD, List.getElem?_eq_getElem h]
  simp only [Option.getD_some]
  cases hq : newIn last m l[k] <;> simp [hq]
theorem newest_eq (l : List FP.Sn) (last : Nat) : FP.newest l last = l.filter (newIn last (mostTo last l l.length)) := by
  unfold FP.newest mostTo newIn
  rw [List.take_length]
end
theorem map_kept {w w' : World} {mb b0 : Nat} {m : Mp Nat} {v : Value} {l : List FP.Sn} (h : MpAt w mb .u32 encN m) (ho : SnOwn w b0 v l) (q : w.grownBy w' v.ownBlock) : MpAt w' mb .u32 encN m :=
  h.of_heap (q.block mb h.lt (fun e => by
    obtain ⟨_, cur, hb⟩ := ho.blk mb e.symm
    exact h.ne_blk hb rfl))
set_option maxRecDepth 100000 in
set_option maxHeartbeats 4000000 in
theorem newest_any (a : Option Addr) (l : List FP.Sn) (c last : Nat) (w : World) (hr : SnRow w a l) (hl : l.length ≤ 100000) : Calls Tryz.prog 59 #[.slice a l.length c, vq last] w fun e w' => ∃ v, e = .returned v ∧ SnOwn w' w.heap.size v (FP.newest l last) ∧ Below w.heap.size w w' := by
  have HR := Lib.hid hr
  have HNE := Lib.hid (newest_eq l last)
  clear hr
  have hmm := @run_makeMap Tryz.prog
  go_enter Tryz.func59, Tryz.ntmps59
  go_upto_region 2 with fail
  have HM0 := Lib.hid (MpAt.made w .u32 encN)
  have HB0 : Hid (Below w.heap.size w (w.alloc (.map #[] 0))) := Lib.hid ((Below.refl _ _).alloc (Nat.le_refl _) _)
  generalize w.alloc (.map #[] 0) = w1 at *
  have HSZ : Hid (w.heap.size ≤ w.heap.size) := Lib.hid (Nat.le_refl _)
  generalize hmb : w.heap.size = mb at *
  have HMB := Lib.hid hmb
  clear hmb hmm
  go_wp2_with fail
  go_loopw [14] (fun i wr => ∃ k : Nat, k ≤ l.length ∧ i = vi k ∧ Hid (MpAt wr mb .u32 encN (mostTo last l k)) ∧ Hid (Below mb w wr)) (fun i _ => l.length - (intOf i).toNat)
  case atStart => exact ⟨0, Nat.zero_le _, rfl, HM0, HB0⟩
  case round =>
    obtain ⟨k, hk, rfl, hm, hb⟩ := hrel
    by_cases hlt : k < l.length
    · obtain ⟨b, o, rfl, hx⟩ := (HR.out.old (by rw [HMB.out]; exact hb.out)).lookup hlt
      have HST := Lib.hid (mostTo_succ last l hlt)
      generalize l.getD k default = x at hx HST
      obtain ⟨g0, g1, g2, g3, g4, g5⟩ := hx
      go_upto_region 5 with fail
      have G := Lib.hid (Blk.new wr 112 (snC x))
      have HBA : Hid (Below wr.heap.size wr (wr.alloc (.cells (snC x) 112))) := Lib.hid ((Below.refl _ _).alloc (Nat.le_refl _) _)
      have HM2 := Lib.hid (hm.out.old HBA.out)
      have HB2 := Lib.hid (hb.out.alloc (by rw [← HMB.out]; exact (by rw [HMB.out]; exact hb.out : Below w.heap.size w wr).size) (.cells (snC x) 112))
      change Code.wp _ _ _ _ (wr.alloc (.cells (snC x) 112))
      clear g0 g1 g2 g3 g4 g5 hb hm HBA
      generalize wr.alloc (.cells (snC x) 112) = w2 at *
      generalize wr.heap.size = g at *
      have g0 : w2.cell? ⟨g, 0, none⟩ = some (vi x.tag.kind) := G.out.cell 0
      have g1 : w2.cell? ⟨g, 1, none⟩ = some (vw x.tag.page) := G.out.cell 1
      have g2 : w2.cell? ⟨g, 2, none⟩ = some (vq x.tag.seq) := G.out.cell 2
      have g3 : w2.cell? ⟨g, 3, none⟩ = some (vq x.tag.epoch) := G.out.cell 3
      have g4 : w2.cell? ⟨g, 4, none⟩ = some (vi x.at_.block) := G.out.cell 4
      have g5 : w2.cell? ⟨g, 5, none⟩ = some (vi x.at_.page) := G.out.cell 5
      go_wp2_with fail
      refine (counts_any x last w2).mono ?_
      rintro e w3 ⟨rfl, hb3⟩
      have G3 := Lib.hid (G.out.old hb3)
      have HM3 := Lib.hid (HM2.out.old hb3)
      have HB3 := Lib.hid (HB2.out.trans (hb3.mono (by have := HB2.out; rw [← HMB.out] at this ⊢; exact this.size)))
      clear g0 g1 g2 g3 g4 g5 hb3 G HM2 HB2
      cases hq : FP.counts last x
      · have HS2 : Hid (mostTo last l (k + 1) = mostTo last l k) := Lib.hid (by rw [HST.out, FP.mostIn, hq]; rfl)
        clear hq
        go_wp2_with fail
        go_roundw
        case rel => exact ⟨k + 1, by omega, by go_num, by rw [HS2.out]; exact HM3, HB3⟩
        case measure => simp [intOf]; omega
      · have HS2 : Hid (mostTo last l (k + 1) = MP.put (mostTo last l k) x.tag.page (max ((MP.get (mostTo last l k) x.tag.page).getD 0) x.tag.seq)) := Lib.hid (by rw [HST.out, FP.mostIn, hq]; rfl)
        have L := seqs_look HM3.out x.tag.page
        obtain ⟨w4, hup, hm4, hg4⟩ := seqs_upd HM3.out x.tag.page (max ((MP.get (mostTo last l k) x.tag.page).getD 0) x.tag.seq)
        have HUP := Lib.hid hup
        have HM4 : Hid (MpAt w4 mb .u32 encN (mostTo last l (k + 1))) := Lib.hid (by rw [HS2.out]; exact hm4)
        have HB4 := Lib.hid (HB3.out.grown hg4 (by have := HB3.out; rw [← HMB.out] at this ⊢; exact this.size) (fun b e => by injection e with e; omega))
        clear hq hup hm4 hg4 HST HS2
        generalize (MP.get (mostTo last l k) x.tag.page).getD 0 = n0 at *
        have g1 : w3.cell? ⟨g, 1, none⟩ = some (vw x.tag.page) := G3.out.cell 1
        have g2 : w3.cell? ⟨g, 2, none⟩ = some (vq x.tag.seq) := G3.out.cell 2
        go_wp2_with (at_mapUpdate; refine wpList_mapUpdate_run rfl (.tmp 21) (.tmp 24) (.tmp 33) rfl rfl rfl (vq_max _ _) HUP.out.run ?_)
        go_roundw
        case rel => exact ⟨k + 1, by omega, by go_num, HM4, HB4⟩
        case measure => simp [intOf]; omega
    · obtain rfl : k = l.length := by omega
      have HM := Lib.hid hm.out
      have HB := Lib.hid hb.out
      have HSZ0 : Hid (mb ≤ wr.heap.size) := Lib.hid (by have := hb.out; rw [← HMB.out] at this ⊢; exact this.size)
      clear hm hb hk HM0 HB0 hlt
      generalize mostTo last l l.length = mo at *
      go_wp2_with fail
      go_loopw [8, 37] (fun v i wx => ∃ (k : Nat) (av : Option Addr) (nv cv : Nat), k ≤ l.length ∧ i = vi k ∧ v = .slice av nv cv ∧ Hid (SnOwn wx mb (.slice av nv cv) ((l.take k).filter (newIn last mo))) ∧ Hid (MpAt wx mb .u32 encN mo) ∧ Hid (Below mb w wx)) (fun _ i _ => l.length - (intOf i).toNat)
      case atStart => exact ⟨0, none, 0, 0, Nat.zero_le _, rfl, rfl, Lib.hid (SnOwn.nil _ _), HM, HB⟩
      case round =>
        clear HM HB HSZ0
        obtain ⟨k, av, nv, cv, hk, rfl, rfl, ho, hm, hb⟩ := hrel
        by_cases hlt : k < l.length
        · obtain ⟨b, o, rfl, hx⟩ := (HR.out.old (by rw [HMB.out]; exact hb.out)).lookup hlt
          have HST := Lib.hid (newTo_succ last mo l hlt)
          have HLN : Hid (((l.take k).filter (newIn last mo)).length ≤ k) := Lib.hid (Nat.le_trans (List.length_filter_le _ _) (by rw [List.length_take]; omega))
          generalize l.getD k default = x at hx HST
          obtain ⟨g0, g1, g2, g3, g4, g5⟩ := hx
          go_upto_region 12 with fail
          have G := Lib.hid (Blk.new wr 112 (snC x))
          have HBA : Hid (Below wr.heap.size wr (wr.alloc (.cells (snC x) 112))) := Lib.hid ((Below.refl _ _).alloc (Nat.le_refl _) _)
          have HM2 := Lib.hid (hm.out.old HBA.out)
          have HO2 := Lib.hid (ho.out.old HBA.out)
          have HB2 := Lib.hid (hb.out.alloc (by have := hb.out; rw [← HMB.out] at this ⊢; exact this.size) (.cells (snC x) 112))
          change Code.wp _ _ _ _ (wr.alloc (.cells (snC x) 112))
          clear g0 g1 g2 g3 g4 g5 hb hm ho HBA
          generalize wr.alloc (.cells (snC x) 112) = w2 at *
          generalize wr.heap.size = g at *
          have g0 : w2.cell? ⟨g, 0, none⟩ = some (vi x.tag.kind) := G.out.cell 0
          have g1 : w2.cell? ⟨g, 1, none⟩ = some (vw x.tag.page) := G.out.cell 1
          have g2 : w2.cell? ⟨g, 2, none⟩ = some (vq x.tag.seq) := G.out.cell 2
          have g3 : w2.cell? ⟨g, 3, none⟩ = some (vq x.tag.epoch) := G.out.cell 3
          have g4 : w2.cell? ⟨g, 4, none⟩ = some (vi x.at_.block) := G.out.cell 4
          have g5 : w2.cell? ⟨g, 5, none⟩ = some (vi x.at_.page) := G.out.cell 5
          go_wp2_with fail
          refine (counts_any x last w2).mono ?_
          rintro e w3 ⟨rfl, hb3⟩
          have G3 := Lib.hid (G.out.old hb3)
          have HM3 := Lib.hid (HM2.out.old hb3)
          have HO3 := Lib.hid (HO2.out.old hb3)
          have HB3 := Lib.hid (HB2.out.trans (hb3.mono (by have := HB2.out; rw [← HMB.out] at this ⊢; exact this.size)))
          clear g0 g1 g2 g3 g4 g5 hb3 G HM2 HB2 HO2
          have HNI : Hid (newIn last mo x = (FP.counts last x && decide (x.tag.seq = (MP.get mo x.tag.page).getD 0))) := Lib.hid rfl
          have L := seqs_look HM3.out x.tag.page
          have g0 : w3.cell? ⟨g, 0, none⟩ = some (vi x.tag.kind) := G3.out.cell 0
          have g1 : w3.cell? ⟨g, 1, none⟩ = some (vw x.tag.page) := G3.out.cell 1
          have g2 : w3.cell? ⟨g, 2, none⟩ = some (vq x.tag.seq) := G3.out.cell 2
          have g3 : w3.cell? ⟨g, 3, none⟩ = some (vq x.tag.epoch) := G3.out.cell 3
          have g4 : w3.cell? ⟨g, 4, none⟩ = some (vi x.at_.block) := G3.out.cell 4
          have g5 : w3.cell? ⟨g, 5, none⟩ = some (vi x.at_.page) := G3.out.cell 5
          generalize (MP.get mo x.tag.page).getD 0 = n0 at *
          generalize FP.counts last x = q at *
          by_cases hq : q = true ∧ x.tag.seq = n0
          · obtain ⟨rfl, hq⟩ := hq
            have hq' : ((x.tag.seq : Int) == (n0 : Int)) = true := by simp [hq]
            have HN2 : Hid ((l.take (k + 1)).filter (newIn last mo) = (l.take k).filter (newIn last mo) ++ [x]) := Lib.hid (by rw [HST.out, if_pos (by rw [HNI.out]; simp [hq])])
            clear hq HST HNI
            generalize (l.take k).filter (newIn last mo) = fl at *
            obtain ⟨av', cv', hv⟩ := HO3.out.form
            obtain ⟨v5, w5, hrun, ho5, hg5⟩ := append_seen HO3.out x (by have := HLN.out; omega) (by have := HB3.out; rw [← HMB.out] at this ⊢; exact this.size)
            have RA := Lib.hid hrun
            have HO5 : Hid (SnOwn w5 mb v5 ((l.take (k + 1)).filter (newIn last mo))) := Lib.hid (by rw [HN2.out]; exact ho5)
            obtain ⟨a5, c5, hv5⟩ := ho5.form
            rw [hv5] at RA HO5
            generalize (fl ++ [x]).length = n5 at *
            have HBA : Hid (Below w3.heap.size w3 (w3.alloc (.cells (snC x) 112))) := Lib.hid ((Below.refl _ _).alloc (Nat.le_refl _) _)
            have HM5 := Lib.hid (map_kept (HM3.out.old HBA.out) (HO3.out.old HBA.out) hg5)
            have HB5 := Lib.hid ((HB3.out.trans (HBA.out.mono (by have := HB3.out; rw [← HMB.out] at this ⊢; exact this.size))).grown hg5 (by have := (HB3.out.trans (HBA.out.mono (by have := HB3.out; rw [← HMB.out] at this ⊢; exact this.size))); rw [← HMB.out] at this ⊢; exact this.size) (fun b e => (HO3.out.blk b e).1))
            clear hv hrun ho5 hg5 hv5 HBA
            go_wp2_with (at_builtin; refine wpList_append_run rfl (.tmp 55) (.tmp 57) rfl rfl rfl RA.out.run ?_)
            go_roundw
            case rel => exact ⟨k + 1, a5, n5, c5, by omega, by go_num, rfl, HO5, HM5, HB5⟩
            case measure => simp [intOf]; omega
          · have HN2 : Hid ((l.take (k + 1)).filter (newIn last mo) = (l.take k).filter (newIn last mo)) := Lib.hid (by
              rw [HST.out, if_neg (by rw [HNI.out]; simpa using hq), List.append_nil])
            clear HST HNI
            cases q
            · clear hq
              go_wp2_with fail
              go_roundw
              case rel => exact ⟨k + 1, av, nv, cv, by omega, by go_num, rfl, by rw [HN2.out]; exact HO3, HM3, HB3⟩
              case measure => simp [intOf]; omega
            · have hq' : ((x.tag.seq : Int) == (n0 : Int)) = false := by simp at hq; simp; omega
              clear hq
              go_wp2_with fail
              go_roundw
              case rel => exact ⟨k + 1, av, nv, cv, by omega, by go_num, rfl, by rw [HN2.out]; exact HO3, HM3, HB3⟩
              case measure => simp [intOf]; omega
        · obtain rfl : k = l.length := by omega
          have HOF : Hid (SnOwn wr mb (.slice av nv cv) (FP.newest l last)) := Lib.hid (by rw [HNE.out]; have := ho.out; rw [List.take_length] at this; exact this)
          have HBF := Lib.hid hb.out
          clear ho hb hm
          go_wp2_with fail
          go_ret
          exact ⟨_, rfl, by rw [HMB.out]; exact HOF.out, by rw [HMB.out]; exact HBF.out⟩
end Go.Proofs.YtjkaioonppmkjaaGreat.ft

