/-
  Lemmas for a law's proof, put together from several texts: each part says what it shows, and its conditions.
-/
import Derived.Test.YtjkaioonppmkjaaGreatZP35
import Derived.Test.YtjkaioonppmkjaaGreatZP36
import Derived.Test.YtjkaioonppmkjaaGreatZP32
/-
  What a translation that is opened is like: its numbers fit, and how its parts are laid one by one. Conditions: a translation told by FtHf.
-/
namespace Go.Proofs.YtjkaioonppmkjaaGreat
theorem MP.del_filter {α : Type} {m : Mp α} (ok : MP.Ok m) (k : Int) : MP.del m k = m.filter (fun y => !decide (y.1 = k)) := by
  induction m with
  | nil => rfl
  | cons x m ih =>
    obtain ⟨h1, h2⟩ := List.pairwise_cons.1 ok
    unfold MP.del
    rw [List.filter_cons]
    split
    · rename_i h
      simp only [h, decide_true, Bool.not_true, Bool.false_eq_true, if_false]
      rw [List.filter_eq_self.2 (fun y hy => by have := h1 y hy; simp; omega)]
    · rename_i h
      simp only [h, decide_false, Bool.not_false, if_true]
      rw [ih h2]
end Go.Proofs.YtjkaioonppmkjaaGreat
namespace Go.Proofs.YtjkaioonppmkjaaGreat.FP
open Go.Proofs.YtjkaioonppmkjaaGreat.mgr
/-- The pages whose numbers lie beyond are struck as they come up. -/
def keep (cap : Int) (done : Mp Plc) (y : Int × Plc) : Bool := decide (y.1 < cap) || !(done.any fun x => decide (x.1 = y.1))
theorem keep_nil (cap : Int) (S : Mp Plc) : S.filter (keep cap []) = S := List.filter_eq_self.2 (fun y _ => by simp [keep])
theorem keep_all {cap : Int} {S done : Mp Plc} (h : done.Perm S) : S.filter (keep cap done) = S.filter (fun y => decide (y.1 < cap)) :=
  List.filter_congr fun y hy => by
    have : (done.any fun x => decide (x.1 = y.1)) = true := List.any_eq_true.2 ⟨y, h.symm.subset hy, by simp⟩
    simp [keep, this]
theorem keep_stay {cap : Int} {S done : Mp Plc} {x : Int × Plc} (h : x.1 < cap) : S.filter (keep cap (done ++ [x])) = S.filter (keep cap done) :=
  List.filter_congr fun y _ => by
    unfold keep
    by_cases e : x.1 = y.1
    · have : y.1 < cap := by omega
      simp [this]
    · simp [e]
theorem keep_strike {cap : Int} {S done : Mp Plc} {x : Int × Plc} (ok : MP.Ok S) (h : cap ≤ x.1) : S.filter (keep cap (done ++ [x])) = MP.del (S.filter (keep cap done)) x.1 := by
  rw [MP.del_filter (ok.sublist List.filter_sublist), List.filter_filter]
  refine List.filter_congr fun y _ => ?_
  unfold keep
  by_cases e : x.1 = y.1
  · have : ¬ y.1 < cap := by omega
    simp [e, this]
  · have e2 : ¬ y.1 = x.1 := fun q => e q.symm
    simp [e, e2]
/-- What is asked of a chip so that it is opened as written. -/
def openOk (c : NP.Chp) : Bool := decide (8 ≤ (oPay c).length) && decide ((oPay c).length ≤ 1000) && (scan c).l.all fun x => decide (x.tag.page < 4294967296)
theorem openOk_out {c : NP.Chp} (h : openOk c = true) : 8 ≤ (oPay c).length ∧ (oPay c).length ≤ 1000 ∧ ∀ x ∈ (scan c).l, x.tag.page < 4294967296 := by
  unfold openOk at h
  simp only [Bool.and_eq_true, decide_eq_true_eq, List.all_eq_true] at h
  exact ⟨h.1.1, h.1.2, h.2⟩
theorem oAll_in (c : NP.Chp) {P : Int × Plc → Prop} (h : ∀ s ∈ (scan c).l, P (s.tag.page, s.at_)) : ∀ x ∈ oAll c, P x := chosen_in (fun s hs => h s (newest_in s hs))
theorem oSld_in (c : NP.Chp) : ∀ x ∈ oSld c, (0 ≤ x.2.block ∧ x.2.block < c.B) ∧ 0 ≤ x.1 ∧ x.1 < oCap c (oPay c) := by
  intro x hx
  obtain ⟨h1, h2⟩ := List.mem_filter.1 hx
  exact ⟨(oAll_in c (P := fun x => (0 ≤ x.2.block ∧ x.2.block < c.B) ∧ 0 ≤ x.1) (fun s hs => ⟨scanTo_in c c.B s hs, by dsimp only; omega⟩) x h1).1,
    (oAll_in c (P := fun x => (0 ≤ x.2.block ∧ x.2.block < c.B) ∧ 0 ≤ x.1) (fun s hs => ⟨scanTo_in c c.B s hs, by dsimp only; omega⟩) x h1).2, by simpa using h2⟩
theorem oPay_rng {x : List Nat} (h : ∀ y ∈ x, y < 256) : 0 ≤ oRes x ∧ oRes x ≤ 65535 ∧ 0 ≤ oBad x ∧ oBad x ≤ 65535 := by
  have hi : ∀ i, x.getD i 0 < 256 := fun i => by
    rw [List.getD_eq_getElem?_getD]
    cases he : x[i]? with
    | none => simp
    | some v => exact h v (List.mem_of_getElem? he)
  have h0 := hi 0
  have h1 := hi 1
  have h2 := hi 2
  have h3 := hi 3
  unfold oRes oBad
  omega
end Go.Proofs.YtjkaioonppmkjaaGreat.FP
namespace Go.Proofs.YtjkaioonppmkjaaGreat.ft
open Go.RowKit Go.Proofs.YtjkaioonppmkjaaGreat.mgr
theorem scan_good {c : NP.Chp} (h : Good6 c) : Good6 (FP.scan c).c ∧ (FP.scan c).fresh.length = c.B ∧ (FP.scan c).l.length ≤ 32 * c.B := by
  have hP : c.P ≤ 32 := by
    have : NP.rightB c.B c.P c.S = true := h.ok.right
    unfold NP.rightB at this
    simp only [Bool.and_eq_true, Bool.or_eq_true, beq_iff_eq, decide_eq_true_eq] at this
    omega
  have := scanTo_good h hP c.B
  exact ⟨this.1, this.2.2.1, this.2.2.2⟩
theorem scanPages_B (k : Nat) (s : FP.Scan × Bool) : ∀ m, (FP.scanPages k m s).1.c.B = s.1.c.B
  | 0 => rfl
  | m + 1 => by
    refine Eq.trans ?_ (scanPages_B k s m)
    show (FP.scanPage k m (FP.scanPages k m s)).1.c.B = _
    have := (act_dims6 (FP.scanPages k m s).1.c (.read k m)).1
    unfold FP.scanPage
    dsimp only
    split
    · exact this
    · split <;> exact this
theorem scanTo_B (c : NP.Chp) : ∀ n, (FP.scanTo c n).c.B = c.B
  | 0 => rfl
  | n + 1 => by
    refine Eq.trans ?_ (scanTo_B c n)
    show (FP.scanBlock (FP.scanTo c n) n).c.B = _
    unfold FP.scanBlock
    split
    · rfl
    · exact scanPages_B n (FP.scanTo c n, true) _
theorem oRead_B (c : NP.Chp) : (FP.oRead c).2.B = c.B := (act_dims6 (FP.scan c).c (.read (FP.oPlc c).block (FP.oPlc c).page)).1.trans (scanTo_B c c.B)
theorem oPay_small {c : NP.Chp} (h : Good6 c) (h0 : (TP.read (FP.oRead c).1.1).2.2 = 0) : ∀ y ∈ FP.oPay c, y < 256 :=
  tread_small (l := (FP.oRead c).1.1) (tg := (TP.read (FP.oRead c).1.1).1) (pl := FP.oPay c) (n := 0) (by rw [← h0]; rfl) (readP_small (scan_good h).1.ok _ _)
theorem open_low {c : NP.Chp} (h : Good6 c) (h0 : (TP.read (FP.oRead c).1.1).2.2 = 0) : Low (FP.oSld c) := by
  refine ⟨(FP.chosen_ok _).sublist List.filter_sublist, fun x hx => ?_⟩
  have h1 := (FP.oSld_in c x hx).2
  have h2 := FP.oPay_rng (oPay_small h h0)
  have h3 : c.B ≤ 128 ∧ c.P ≤ 32 := by
    have : NP.rightB c.B c.P c.S = true := h.ok.right
    unfold NP.rightB at this
    simp only [Bool.and_eq_true, Bool.or_eq_true, beq_iff_eq, decide_eq_true_eq] at this
    omega
  refine ⟨h1.1, ?_⟩
  have h4 : FP.oCap c (FP.oPay c) ≤ 128 * 32 := by
    unfold FP.oCap FP.dataB
    have h5 : ((c.B : Int) - FP.oBad (FP.oPay c) - FP.oRes (FP.oPay c) - 1) ≤ 128 := by omega
    by_cases h6 : 0 ≤ ((c.B : Int) - FP.oBad (FP.oPay c) - FP.oRes (FP.oPay c) - 1)
    · have := Int.mul_le_mul h5 (show (c.P : Int) ≤ 32 by omega) (by omega) (by omega)
      omega
    · have := Int.mul_nonpos_of_nonpos_of_nonneg (a := ((c.B : Int) - FP.oBad (FP.oPay c) - FP.oRes (FP.oPay c) - 1)) (b := (c.P : Int)) (by omega) (by omega)
      omega
  omega
theorem open_fit {c c' : NP.Chp} {F : FP.Ft} (h : Good6 c) (hq : FP.openF c = some (0, some F, c')) (hk : FP.openOk c = true) (ov : Bool) : Fit { F with over := ov } := by
  obtain ⟨h1, h2, h3, h4, h5, h6, h7, h8, g, ho, rfl⟩ := FP.openF_some hq
  have hr := FP.oPay_rng (oPay_small h h4)
  have hs := openG_res ho
  have hg : Good6 (FP.oRead c).2 := readAct_good (scan_good h).1 _ _
  refine ⟨hg, (openG_ok ho).1, hr, ?_, open_low h h4, Low.nil, Low.nil, ?_, ?_⟩
  · show 0 ≤ g.reserve ∧ g.reserve ≤ 65535 ∧ 0 ≤ g.bad ∧ g.bad ≤ 65535
    rw [hs.1, hs.2]; exact hr
  · show (FP.oLater c).length = (FP.oRead c).2.B
    rw [oRead_B, FP.oLater, FP.later_len, List.length_replicate]
  · show (List.drop 8 (FP.oPay c)).length ≤ 1000
    have := (FP.openOk_out hk).2.1
    rw [List.length_drop]; omega
/-- A translation while it is opened. -/
structure OpSt (base : Nat) (w : World) (k : Nat) (M : ChM) (f : Nat) (wr : World) (X : FtM) : Prop where
  at_ : FtHf base wr f X
  chg : Chg (M.foot k) w wr
  foot : ∀ n, X.hfoot f n → M.foot k n ∨ w.heap.size ≤ n
  key : X.G.k = k
section
variable {base : Nat} {w wr w' : World} {k f : Nat} {M : ChM} {X X' : FtM}
theorem OpSt.go (h : OpSt base w k M f wr X) (q : FHg base wr f X w' X') : OpSt base w k M f w' X' := by
  refine ⟨q.at_, h.chg.trans q.chg fun n hn e => ?_, fun n e => ?_, q.key.trans h.key⟩
  · rcases h.foot n e with h1 | h1
    · exact h1
    · omega
  · rcases q.foot n e with h1 | h1
    · exact h.foot n h1
    · exact .inr (Nat.le_trans h.chg.size h1)
theorem OpSt.old (h : OpSt base w k M f wr X) (q : Below wr.heap.size wr w') : OpSt base w k M f w' X := h.go (FHg.of_old h.at_ q)
theorem OpSt.size (h : OpSt base w k M f wr X) : w.heap.size ≤ wr.heap.size := h.chg.size
theorem FtHf.laterSet (h : FtHf base w f X) (j : Nat) (b : Bool) : FHg base w f X (w.setCell ⟨X.lg, j, none⟩ (.bool b)) { X with later := X.later.set j b } := by
  have q : Chg (fun n => n = X.lg) w (w.setCell ⟨X.lg, j, none⟩ (.bool b)) := Chg.set (F := fun n => n = X.lg) w (p := ⟨X.lg, j, none⟩) rfl _
  have hl : ∀ n, n = X.lg → Loose base w n := fun n e => h.loose n (.inr (.inr (.inr (.inr (.inl e)))))
  refine ⟨⟨?_, h.chip.chg' q hl (fun n e e2 => h.later_ne (e2 ▸ e)), h.text.chg' q hl, h.tlen, h.sld.chg q (h.map_ne h.sld).2.1, h.now.chg q (h.map_ne h.now).2.1, h.gone.chg q (h.map_ne h.gone).2.1, ?_, h.low, h.ne⟩,
    q.mono (fun n _ e => .inr (.inr (.inr (.inr (.inl e))))), fun n e => .inl e, rfl⟩
  · have := h.obj.chg q h.obj_ne.2.2.2.1
    have e : ({ X with later := X.later.set j b } : FtM).hcs = X.hcs := by simp [FtM.hcs]
    rw [e]
    exact this
  · have := h.later.set j (.bool b)
    rw [← List.map_set] at this
    simpa using this
theorem OpSt.young (h : OpSt base w k M f wr X) {r : Nat} (q : Chg (fun n => n = r) wr w') (hr : w.heap.size ≤ r) (hl : Loose base wr r) (hn : ¬ X.hfoot f r) : OpSt base w k M f w' X :=
  ⟨h.at_.chg q (fun n e => by rw [e]; exact hl) (fun n e e2 => hn (by rw [← e2]; exact e)), h.chg.trans q (fun n hn e => by omega), h.foot, h.key⟩
/-- A row of Booleans lies apart from a translation, but for the row that it holds. -/
theorem FtHf.bools_ne (h : FtHf base w f X) {g n c : Nat} {xs : List Value} (ha : Arr w 4 1 g n c xs) (hg : g ≠ X.lg) : ¬ X.hfoot f g := by
  obtain ⟨cur, hb, _⟩ := ha.blk
  intro e
  rcases e with e | e | e | e | e | e
  · rw [e] at hb; exact absurd (blk_type hb h.obj) (by decide)
  · exact h.sld.ne_blk hb e.symm
  · exact h.now.ne_blk hb e.symm
  · exact h.gone.ne_blk hb e.symm
  · exact hg e
  · exact ChipAt_not h.chip hb (by decide) e
/-- The pages that are held are told one by one, and struck. -/
structure DlSt (base : Nat) (w : World) (k : Nat) (M : ChM) (f : Nat) (rr fb B : Nat) (fresh : List Bool) (X : FtM) (S left : Mp FP.Plc) (wr : World) : Prop where
  st : OpSt base w k M f wr { X with S := S }
  it : MpIt wr rr X.bs .u32 encP left
  arr : Arr wr 4 1 fb B B (fresh.map .bool)
  young : w.heap.size ≤ rr ∧ base ≤ w.heap.size ∧ ¬ X.hfoot f rr
variable {rr fb B : Nat} {fresh : List Bool} {S left : Mp FP.Plc}
theorem DlSt.old (h : DlSt base w k M f rr fb B fresh X S left wr) (q : Below wr.heap.size wr w') : DlSt base w k M f rr fb B fresh X S left w' := ⟨h.st.old q, h.it.old q, h.arr.old q, h.young⟩
theorem DlSt.next (h : DlSt base w k M f rr fb B fresh X S left wr) : (left = [] ∧ NxtRun (.pointer (some ⟨rr, 0, none⟩)) (.tuple #[.bool false]) wr wr) ∨
    ∃ (k' : Int) (pb pp : Int) (wn : World), (k', (⟨pb, pp⟩ : FP.Plc)) ∈ left ∧ NxtRun (.pointer (some ⟨rr, 0, none⟩)) (.tuple #[.bool true, .int .u32 k', .agg #[vi pb, vi pp]]) wr wn ∧ DlSt base w k M f rr fb B fresh X S (MP.del left k') wn ∧ (MP.del left k').length < left.length ∧
      left.Perm ((k', ⟨pb, pp⟩) :: MP.del left k') ∧ MP.get (MP.del left k') k' = none ∧ (Instr.entry (.pointer (some ⟨rr, 0, none⟩))).run Tryz.prog wn = .ok (.tuple #[.int .u32 k', .agg #[vi pb, vi pp]]) wn := by
  rcases h.it.next (P := Tryz.prog) with ⟨h1, h2⟩ | ⟨⟨k', pb, pp⟩, wn, h1, h2, h3, h4, h5, h6⟩
  · exact .inl ⟨h1, ⟨h2⟩⟩
  · have hok : MP.Ok left := by obtain ⟨_, _, _, _, _, _, _, _, _, _, _, _, hok⟩ := h.it; exact hok
    have hg := MP.mem_get hok h1
    obtain ⟨cur, hb, _⟩ := h.arr.blk
    refine .inr ⟨k', pb, pp, wn, h1, ⟨h2⟩, ⟨h.st.young h4 h.young.1 ⟨Nat.le_trans h.young.2.1 h.young.1, fun t cur hb => (noblk h.it t cur hb).elim⟩ h.young.2.2, h3, h.arr.chg h4 (fun e => noblk h.it _ _ (e ▸ hb)), h.young⟩,
      by have := MP.del_len hg; dsimp only at this ⊢; omega, MP.perm_del hg, by rw [MP.get_del hok, if_pos rfl], h6⟩
theorem DlSt.strike (h : DlSt base w k M f rr fb B fresh X S left wr) (j : Int) (hj : MP.get left j = none) : ∃ w', DelRun 89 22 (.map (some X.bs)) (.int .u32 j) wr w' ∧ DlSt base w k M f rr fb B fresh X (MP.del S j) left w' := by
  obtain ⟨w', h1, h2, h3, h4⟩ := h.it.delete (P := Tryz.prog) h.st.at_.sld Tryz.underlying89 Tryz.underlying22 j hj
  obtain ⟨cur, hb, _⟩ := h.arr.blk
  refine ⟨w', ⟨h1⟩, ⟨h.st.go (h.st.at_.sealPut h4 h2), h3, ?_, h.young⟩⟩
  have q : Chg (fun n => n = X.bs) wr w' := (Chg.refl _ wr).grown h4 (fun k e => by injection e with e; exact .inl e.symm)
  exact h.arr.chg q (fun e => h.st.at_.sld.ne_blk hb e.symm)
end
end Go.Proofs.YtjkaioonppmkjaaGreat.ft

/-
  Of each page one of the newest is chosen. Conditions: a row that can be read.
-/
namespace Go.Proofs.YtjkaioonppmkjaaGreat.ft
open Go.RowKit Go.Proofs.YtjkaioonppmkjaaGreat.mgr

abbrev encI (n : Int) : Value := vi n
theorem zero_int (w : World) : (zeroValue 3).run Tryz.prog w = .ok (vi 0) w := by kernel_rfl
section
variable {w w' : World} {b : Nat} {m : Mp Int}
theorem many_look (h : MpAt w b .i64 encI m) (j : Int) : (Instr.lookup 132 (.map (some b)) (vi j) false).run Tryz.prog w = .ok (vi (FP.many m j)) w := by
  have := h.lookup Tryz.underlying132 Tryz.underlying3 (zero_int w) j
  unfold FP.many
  cases hg : MP.get m j with
  | none => rw [hg] at this; exact this
  | some n => rw [hg] at this; exact this
theorem many_upd (h : MpAt w b .i64 encI m) (j n : Int) : ∃ w', UpdRun 132 (.map (some b)) (vi j) (vi n) w w' ∧ MpAt w' b .i64 encI (MP.put m j n) ∧ w.grownBy w' (some b) := by
  obtain ⟨w', h1, h2, h3⟩ := h.update (P := Tryz.prog) Tryz.underlying132 Tryz.underlying3 j n
  exact ⟨w', ⟨h1⟩, h2, h3⟩
def manyTo (l : List FP.Sn) (k : Nat) : Mp Int := (l.take k).foldl FP.manyIn []
def choTo (m : Mp Int) (l : List FP.Sn) (k : Nat) : Mp FP.Plc := (l.take k).foldl (FP.chooseIn m) []
theorem manyTo_succ (l : List FP.Sn) {k : Nat} (h : k < l.length) : manyTo l (k + 1) = FP.manyIn (manyTo l k) (l.getD k default) := by
  unfold manyTo
  rw [List.take_succ_eq_append_getElem h, List.foldl_append, List.getD_eq_getElem?_getD, List.getElem?_eq_getElem h]
  rfl
theorem choTo_succ (m : Mp Int) (l : List FP.Sn) {k : Nat} (h : k < l.length) : choTo m l (k + 1) = FP.chooseIn m (choTo m l k) (l.getD k default) := by
  unfold choTo
  rw [List.take_succ_eq_append_getElem h, List.foldl_append, List.getD_eq_getElem?_getD, List.getElem?_eq_getElem h]
  rfl
theorem manyIn_rng {m : Mp Int} {k : Int} (h : ∀ j, 0 ≤ FP.many m j ∧ FP.many m j ≤ k) (s : FP.Sn) : ∀ j, 0 ≤ FP.many (FP.manyIn m s) j ∧ FP.many (FP.manyIn m s) j ≤ k + 1 := by
  intro j
  have h1 := h s.at_.block
  have h2 := h j
  unfold FP.many FP.manyIn at *
  rw [MP.get_put]
  split
  · simp only [Option.getD_some]; omega
  · omega
theorem manyTo_rng (l : List FP.Sn) : ∀ k, k ≤ l.length → ∀ j, 0 ≤ FP.many (manyTo l k) j ∧ FP.many (manyTo l k) j ≤ k
  | 0, _, j => ⟨Int.le_refl _, Int.le_refl _⟩
  | k + 1, h, j => by
    rw [manyTo_succ l (by omega)]
    have := manyIn_rng (manyTo_rng l k (by omega)) (l.getD k default) j
    omega
theorem chosen_eq (l : List FP.Sn) : FP.chosen l = choTo (manyTo l l.length) l l.length := by
  unfold FP.chosen choTo manyTo
  rw [List.take_length]
end
set_option maxRecDepth 100000 in
set_option maxHeartbeats 4000000 in
theorem chosen_any (a : Option Addr) (l : List FP.Sn) (c : Nat) (w : World) (hr : SnRow w a l) (hl : l.length ≤ 100000) : Calls Tryz.prog 58 #[.slice a l.length c] w fun e w' => ∃ b, e = .returned (.map (some b)) ∧ MpAt w' b .u32 encP (FP.chosen l) ∧ w.heap.size ≤ b ∧ Below w.heap.size w w' := by
  have HR := Lib.hid hr
  have HNE := Lib.hid (chosen_eq l)
  clear hr
  have hmm := @run_makeMap Tryz.prog
  go_enter Tryz.func58, Tryz.ntmps58
  go_upto_region 2 with fail
  have HM0 := Lib.hid (MpAt.made w .i64 encI)
  have HB0 : Hid (Below w.heap.size w (w.alloc (.map #[] 0))) := Lib.hid ((Below.refl _ _).alloc (Nat.le_refl _) _)
  generalize w.alloc (.map #[] 0) = w1 at *
  generalize hmb : w.heap.size = mb at *
  have HMB := Lib.hid hmb
  clear hmb
  go_wp2_with fail
  go_loopw [14] (fun i wr => ∃ k : Nat, k ≤ l.length ∧ i = vi k ∧ Hid (MpAt wr mb .i64 encI (manyTo l k)) ∧ Hid (Below mb w wr)) (fun i _ => l.length - (intOf i).toNat)
  case atStart => exact ⟨0, Nat.zero_le _, rfl, HM0, HB0⟩
  case round =>
    obtain ⟨k, hk, rfl, hm, hb⟩ := hrel
    by_cases hlt : k < l.length
    · obtain ⟨b, o, rfl, hx⟩ := (HR.out.old (by rw [HMB.out]; exact hb.out)).lookup hlt
      have HST := Lib.hid (manyTo_succ l hlt)
      have HRG := Lib.hid (manyTo_rng l k hk)
      generalize l.getD k default = x at hx HST
      obtain ⟨g0, g1, g2, g3, g4, g5⟩ := hx
      go_upto_region 5 with fail
      have G := Lib.hid (Blk.new wr 112 (snC x))
      have HBA : Hid (Below wr.heap.size wr (wr.alloc (.cells (snC x) 112))) := Lib.hid ((Below.refl _ _).alloc (Nat.le_refl _) _)
      have HM2 := Lib.hid (hm.out.old HBA.out)
      have HB2 := Lib.hid (hb.out.alloc (by have := hb.out; rw [← HMB.out] at this ⊢; exact this.size) (.cells (snC x) 112))
      change Code.wp _ _ _ _ (wr.alloc (.cells (snC x) 112))
      clear g0 g1 g2 g3 g4 g5 hb hm HBA
      generalize wr.alloc (.cells (snC x) 112) = w2 at *
      generalize wr.heap.size = g at *
      have g4 : w2.cell? ⟨g, 4, none⟩ = some (vi x.at_.block) := G.out.cell 4
      have L := many_look HM2.out x.at_.block
      have hrg := HRG.out x.at_.block
      obtain ⟨w4, hup, hm4, hg4⟩ := many_upd HM2.out x.at_.block (FP.many (manyTo l k) x.at_.block + 1)
      have HUP := Lib.hid hup
      have HM4 : Hid (MpAt w4 mb .i64 encI (manyTo l (k + 1))) := Lib.hid (by rw [HST.out]; exact hm4)
      have HB4 := Lib.hid (HB2.out.grown hg4 (by have := HB2.out; rw [← HMB.out] at this ⊢; exact this.size) (fun b e => by injection e with e; omega))
      clear hup hm4 hg4 HST HRG
      generalize FP.many (manyTo l k) x.at_.block = n0 at *
      go_wp2_with (at_mapUpdate; refine wpList_mapUpdate_run rfl (.tmp 18) (.tmp 21) (.tmp 23) rfl rfl rfl (by first | rfl | (go_num)) HUP.out.run ?_)
      go_roundw
      case rel => exact ⟨k + 1, by omega, by go_num, HM4, HB4⟩
      case measure => simp [intOf]; omega
    · obtain rfl : k = l.length := by omega
      have HM := Lib.hid hm.out
      have HB := Lib.hid hb.out
      have HSZ0 : Hid (mb ≤ wr.heap.size) := Lib.hid (by have := hb.out; rw [← HMB.out] at this ⊢; exact this.size)
      clear hm hb hk HM0 HB0 hlt
      generalize manyTo l l.length = mo at *
      go_upto_region 8 with fail
      have HM6 := Lib.hid (HM.out.alloc (.map #[] 0))
      have HO6 : Hid (MpAt (wr.alloc (.map #[] 0)) wr.heap.size .u32 encP (choTo mo l 0)) := Lib.hid (MpAt.made wr .u32 encP)
      have HB6 := Lib.hid (HB.out.alloc HSZ0.out (.map #[] 0))
      have HNB : Hid (mb < wr.heap.size) := Lib.hid HM.out.lt
      clear HM HB hmm
      generalize wr.alloc (.map #[] 0) = w6 at *
      generalize wr.heap.size = ob at *
      go_wp2_with fail
      go_loopw [28] (fun i wx => ∃ k : Nat, k ≤ l.length ∧ i = vi k ∧ Hid (MpAt wx mb .i64 encI mo) ∧ Hid (MpAt wx ob .u32 encP (choTo mo l k)) ∧ Hid (Below mb w wx)) (fun i _ => l.length - (intOf i).toNat)
      case atStart => exact ⟨0, Nat.zero_le _, rfl, HM6, HO6, HB6⟩
      case round =>
        clear HM6 HO6 HB6
        obtain ⟨k, hk, rfl, hm, ho, hb⟩ := hrel
        by_cases hlt : k < l.length
        · obtain ⟨b, o, rfl, hx⟩ := (HR.out.old (by rw [HMB.out]; exact hb.out)).lookup hlt
          have HST := Lib.hid (choTo_succ mo l hlt)
          generalize l.getD k default = x at hx HST
          obtain ⟨g0, g1, g2, g3, g4, g5⟩ := hx
          go_upto_region 11 with fail
          have G := Lib.hid (Blk.new wr 112 (snC x))
          have HBA : Hid (Below wr.heap.size wr (wr.alloc (.cells (snC x) 112))) := Lib.hid ((Below.refl _ _).alloc (Nat.le_refl _) _)
          have HM2 := Lib.hid (hm.out.old HBA.out)
          have HO2 := Lib.hid (ho.out.old HBA.out)
          have HB2 := Lib.hid (hb.out.alloc (by have := hb.out; rw [← HMB.out] at this ⊢; exact this.size) (.cells (snC x) 112))
          change Code.wp _ _ _ _ (wr.alloc (.cells (snC x) 112))
          clear g0 g1 g2 g3 g4 g5 hb hm ho HBA
          generalize wr.alloc (.cells (snC x) 112) = w2 at *
          generalize wr.heap.size = g at *
          have g1 : w2.cell? ⟨g, 1, none⟩ = some (vw x.tag.page) := G.out.cell 1
          obtain ⟨pb, pp, ok, L, hsome, hnone⟩ := look_any HO2.out (x.tag.page : Int)
          have HSO := Lib.hid hsome
          have HNO := Lib.hid hnone
          clear hsome hnone
          go_upto_region 12 with fail
          have G2 := Lib.hid (G.out.alloc (.cells #[vi pb, vi pp] 85))
          have P2 := Lib.hid (Blk.new w2 85 #[vi pb, vi pp])
          have HM3 := Lib.hid (HM2.out.alloc (.cells #[vi pb, vi pp] 85))
          have HO3 := Lib.hid (HO2.out.alloc (.cells #[vi pb, vi pp] 85))
          have HB3 := Lib.hid (HB2.out.alloc (by have := HB2.out; rw [← HMB.out] at this ⊢; exact this.size) (.cells #[vi pb, vi pp] 85))
          clear g1 L G HM2 HO2 HB2
          generalize w2.alloc (.cells #[vi pb, vi pp] 85) = w3 at *
          generalize w2.heap.size = gp at *
          have g1 : w3.cell? ⟨g, 1, none⟩ = some (vw x.tag.page) := G2.out.cell 1
          have g4 : w3.cell? ⟨g, 4, none⟩ = some (vi x.at_.block) := G2.out.cell 4
          have g5 : w3.cell? ⟨g, 5, none⟩ = some (vi x.at_.page) := G2.out.cell 5
          have p0 : w3.cell? ⟨gp, 0, none⟩ = some (vi pb) := P2.out.cell 0
          have L1 := many_look HM3.out x.at_.block
          have L2 := many_look HM3.out pb
          obtain ⟨w4, hup, hm4, hg4⟩ := updRun HO3.out (x.tag.page : Int) x.at_.block x.at_.page
          have HUP := Lib.hid hup
          have HMP := Lib.hid hm4
          have HM4 : Hid (MpAt w4 mb .i64 encI mo) := Lib.hid (HM3.out.of_heap (hg4.block mb HM3.out.lt (fun e => by injection e with e; have := HNB.out; omega)))
          have HB4 := Lib.hid (HB3.out.grown hg4 (by have := HB3.out; rw [← HMB.out] at this ⊢; exact this.size) (fun b e => by injection e with e; have := HNB.out; omega))
          clear hup hm4 hg4
          cases ok
          · have HS2 : Hid (choTo mo l (k + 1) = MP.put (choTo mo l k) x.tag.page x.at_) := Lib.hid (by rw [HST.out, FP.chooseIn, HNO.out rfl])
            go_wp2_with (at_mapUpdate; refine wpList_mapUpdate_run rfl (.tmp 54) (.tmp 57) (.tmp 59) rfl rfl rfl rfl HUP.out.run ?_)
            go_roundw
            case rel => exact ⟨k + 1, by omega, by go_num, HM4, by rw [HS2.out]; exact HMP, HB4⟩
            case measure => simp [intOf]; omega
          · have HCH : Hid (choTo mo l (k + 1) = if FP.many mo pb < FP.many mo x.at_.block then MP.put (choTo mo l k) x.tag.page x.at_ else choTo mo l k) := Lib.hid (by rw [HST.out, FP.chooseIn, HSO.out rfl])
            generalize FP.many mo pb = n1 at *
            generalize FP.many mo x.at_.block = n2 at *
            by_cases hn : n1 < n2
            · have HS2 := Lib.hid (HCH.out.trans (if_pos hn))
              go_wp2_with (at_mapUpdate; refine wpList_mapUpdate_run rfl (.tmp 54) (.tmp 57) (.tmp 59) rfl rfl rfl rfl HUP.out.run ?_)
              go_roundw
              case rel => exact ⟨k + 1, by omega, by go_num, HM4, by rw [HS2.out]; exact HMP, HB4⟩
              case measure => simp [intOf]; omega
            · have HS2 := Lib.hid (HCH.out.trans (if_neg hn))
              go_wp2_with fail
              go_roundw
              case rel => exact ⟨k + 1, by omega, by go_num, HM3, by rw [HS2.out]; exact HO3, HB3⟩
              case measure => simp [intOf]; omega
        · obtain rfl : k = l.length := by omega
          have HOF : Hid (MpAt wr ob .u32 encP (FP.chosen l)) := Lib.hid (by rw [HNE.out]; exact ho.out)
          have HBF := Lib.hid hb.out
          clear ho hb hm
          go_wp2_with fail
          go_ret
          exact ⟨ob, rfl, HOF.out, by rw [HMB.out]; exact Nat.le_of_lt HNB.out, by rw [HMB.out]; exact HBF.out⟩
end Go.Proofs.YtjkaioonppmkjaaGreat.ft

