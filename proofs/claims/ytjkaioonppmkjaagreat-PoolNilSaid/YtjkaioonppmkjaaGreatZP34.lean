/-
  Lemmas for a law's proof, put together from several texts: each part says what it shows, and its conditions.
-/
import Derived.Test.YtjkaioonppmkjaaGreatZP33
import Derived.Test.YtjkaioonppmkjaaGreatZP21
/-
  A translation that has no manager yet, in memory: as while it is opened. Conditions: a translation told by FtHf.
-/
namespace Go.Proofs.YtjkaioonppmkjaaGreat.ft
open Go.RowKit Go.Proofs.YtjkaioonppmkjaaGreat.mgr

abbrev FtM.hcs (X : FtM) : Array Value := #[ptr X.G.k, (.pointer none : Value), vi X.reserve, vi X.bad, .slice X.ta X.tx.length X.tc, .map (some X.bs), .map (some X.bn), .map (some X.bg), vq X.seq, vq X.epoch, .slice (some ⟨X.lg, 0, none⟩) X.later.length X.lc, .bool X.over]
def FtM.hfoot (X : FtM) (f n : Nat) : Prop := n = f ∨ n = X.bs ∨ n = X.bn ∨ n = X.bg ∨ n = X.lg ∨ X.M.foot X.G.k n
structure FtHf (base : Nat) (w : World) (f : Nat) (X : FtM) : Prop where
  obj : Blk w f 93 X.hcs
  chip : ChipAt base w X.G.k X.M
  text : SRow base w X.ta X.tx
  tlen : X.tx.length ≤ X.tc ∧ X.tc ≤ maxLen
  sld : MpAt w X.bs .u32 encP X.S
  now : MpAt w X.bn .u32 encP X.N
  gone : MpAt w X.bg .u32 encP X.D
  later : Arr w 4 1 X.lg X.later.length X.lc (X.later.map .bool)
  low : base ≤ f ∧ base ≤ X.bs ∧ base ≤ X.bn ∧ base ≤ X.bg ∧ base ≤ X.lg
  ne : X.bs ≠ X.bn ∧ X.bs ≠ X.bg ∧ X.bn ≠ X.bg
structure FHg (base : Nat) (w : World) (f : Nat) (X : FtM) (w' : World) (X' : FtM) : Prop where
  at_ : FtHf base w' f X'
  chg : Chg (X.hfoot f) w w'
  foot : ∀ n, X'.hfoot f n → X.hfoot f n ∨ w.heap.size ≤ n
  key : X'.G.k = X.G.k
section
variable {F : Nat → Prop} {base : Nat} {w w' w'' : World} {f : Nat} {X X' X'' : FtM}
theorem FtHf.loose (h : FtHf base w f X) : ∀ n, X.hfoot f n → Loose base w n := by
  intro n hn
  rcases hn with rfl | rfl | rfl | rfl | rfl | hn
  · exact Loose.blk h.low.1 h.obj
  · exact Loose.map h.low.2.1 h.sld
  · exact Loose.map h.low.2.2.1 h.now
  · exact Loose.map h.low.2.2.2.1 h.gone
  · obtain ⟨cur, hb, _⟩ := h.later.blk
    exact Loose.blk h.low.2.2.2.2 hb
  · exact (h.chip.mine n hn).loose
theorem FtHf.lt (h : FtHf base w f X) : ∀ n, X.hfoot f n → n < w.heap.size := by
  intro n hn
  rcases hn with rfl | rfl | rfl | rfl | rfl | hn
  · exact h.obj.lt
  · exact h.sld.lt
  · exact h.now.lt
  · exact h.gone.lt
  · exact h.later.lt
  · exact h.chip.lt n hn
theorem FtHf.low' (h : FtHf base w f X) : ∀ n, X.hfoot f n → base ≤ n := fun n e => (h.loose n e).1
/-- The object, the row of blocks, the maps, the manager and its chip lie apart. -/
theorem FtHf.obj_ne (h : FtHf base w f X) : f ≠ X.bs ∧ f ≠ X.bn ∧ f ≠ X.bg ∧ f ≠ X.lg ∧ ¬ X.M.foot X.G.k f := by
  refine ⟨fun e => h.sld.ne_blk h.obj e.symm, fun e => h.now.ne_blk h.obj e.symm, fun e => h.gone.ne_blk h.obj e.symm, fun e => h.later.ne_blk h.obj (by decide) e.symm, fun e => ?_⟩
  obtain ⟨t, cs, hb, ht⟩ := ChipAt_type h.chip e
  have := blk_type hb h.obj
  rcases ht with ht | ht | ht <;> rw [ht] at this <;> exact absurd this (by decide)
theorem FtHf.map_ne {b : Nat} {K : IntKind} {α : Type} {enc : α → Value} {m : Mp α} (h : FtHf base w f X) (hm : MpAt w b K enc m) : b ≠ f ∧ b ≠ X.lg ∧ ¬ X.M.foot X.G.k b := by
  refine ⟨hm.ne_blk h.obj, ?_, fun e => ?_⟩
  · obtain ⟨cur, hb, _⟩ := h.later.blk
    exact hm.ne_blk hb
  · obtain ⟨t, cs, hb, ht⟩ := ChipAt_type h.chip e
    exact hm.ne_blk hb rfl
theorem FtHf.later_ne (h : FtHf base w f X) : ¬ X.M.foot X.G.k X.lg := by
  intro e
  obtain ⟨t, cs, hb, ht⟩ := ChipAt_type h.chip e
  obtain ⟨cur, hb', _⟩ := h.later.blk
  have := blk_type hb hb'
  rcases ht with ht | ht | ht <;> rw [ht] at this <;> exact absurd this (by decide)
theorem FtHf.chg (h : FtHf base w f X) (q : Chg F w w') (hF : ∀ n, F n → Loose base w n) (hn : ∀ n, X.hfoot f n → ¬ F n) : FtHf base w' f X :=
  ⟨h.obj.chg q (hn _ (.inl rfl)), h.chip.chg' q hF (fun n e => hn n (.inr (.inr (.inr (.inr (.inr e)))))), h.text.chg' q hF, h.tlen, h.sld.chg q (hn _ (.inr (.inl rfl))), h.now.chg q (hn _ (.inr (.inr (.inl rfl)))),
    h.gone.chg q (hn _ (.inr (.inr (.inr (.inl rfl))))), h.later.chg q (hn _ (.inr (.inr (.inr (.inr (.inl rfl)))))), h.low, h.ne⟩
theorem FtHf.old (h : FtHf base w f X) (q : Below w.heap.size w w') : FtHf base w' f X := h.chg (F := fun _ => False) (Chg.of_below q) (fun _ e => e.elim) (fun _ _ e => e)
theorem FHg.refl (h : FtHf base w f X) : FHg base w f X w X := ⟨h, Chg.refl _ _, fun _ e => .inl e, rfl⟩
theorem FHg.trans (h : FHg base w f X w' X') (q : FHg base w' f X' w'' X'') : FHg base w f X w'' X'' := by
  refine ⟨q.at_, h.chg.trans q.chg fun n hn e => ?_, fun n hn => ?_, q.key.trans h.key⟩
  · rcases h.foot n e with h1 | h1
    · exact h1
    · omega
  · rcases q.foot n hn with h1 | h1
    · exact h.foot n h1
    · exact .inr (Nat.le_trans h.chg.size h1)
theorem FHg.old (h : FHg base w f X w' X') (q : Below w'.heap.size w' w'') : FHg base w f X w'' X' := ⟨h.at_.old q, h.chg.below q, h.foot, h.key⟩
theorem FHg.of_old (h : FtHf base w f X) (q : Below w.heap.size w w') : FHg base w f X w' X := (FHg.refl h).old q
theorem FHg.size (h : FHg base w f X w' X') : w.heap.size ≤ w'.heap.size := h.chg.size
theorem FHg.below (h : FHg base w f X w' X') (hl : ∀ n, X.hfoot f n → base ≤ n) (hb : base ≤ w.heap.size) : Below base w w' := h.chg.to_below (fun n _ e => hl n e) hb
/-- The chip goes. -/
theorem FtHf.chipGoes (h : FtHf base w f X) {M' : ChM} (q : Goes base w X.G.k X.M w' M') : FHg base w f X w' { X with M := M' } := by
  have hm : ∀ n, X.M.foot X.G.k n → Loose base w n := fun n e => (h.chip.mine n e).loose
  refine ⟨⟨h.obj.chg q.chg h.obj_ne.2.2.2.2, q.at_, h.text.chg' q.chg hm, h.tlen, h.sld.chg q.chg (h.map_ne h.sld).2.2, h.now.chg q.chg (h.map_ne h.now).2.2, h.gone.chg q.chg (h.map_ne h.gone).2.2, h.later.chg q.chg h.later_ne, h.low, h.ne⟩,
    q.chg.mono (fun n _ e => .inr (.inr (.inr (.inr (.inr e))))), ?_, rfl⟩
  intro n e
  rcases e with e | e | e | e | e | e
  · exact .inl (.inl e)
  · exact .inl (.inr (.inl e))
  · exact .inl (.inr (.inr (.inl e)))
  · exact .inl (.inr (.inr (.inr (.inl e))))
  · exact .inl (.inr (.inr (.inr (.inr (.inl e)))))
  · rcases q.foot n e with e | e
    · exact .inl (.inr (.inr (.inr (.inr (.inr e)))))
    · exact .inr e
/-- A map's block is written. -/
theorem FtHf.sealPut (h : FtHf base w f X) {S' : Mp FP.Plc} (g : w.grownBy w' (some X.bs)) (hm : MpAt w' X.bs .u32 encP S') : FHg base w f X w' { X with S := S' } := by
  have q : Chg (fun n => n = X.bs) w w' := (Chg.refl _ w).grown g (fun k e => by injection e with e; exact .inl e.symm)
  have hl : ∀ n, n = X.bs → Loose base w n := fun n e => h.loose n (.inr (.inl e))
  exact ⟨⟨h.obj.chg q (h.map_ne h.sld).1.symm, h.chip.chg' q hl (fun n e e2 => (h.map_ne h.sld).2.2 (e2 ▸ e)), h.text.chg' q hl, h.tlen, hm, h.now.chg q h.ne.1.symm, h.gone.chg q h.ne.2.1.symm, h.later.chg q (h.map_ne h.sld).2.1.symm, h.low, h.ne⟩,
    q.mono (fun n _ e => .inr (.inl e)), fun n e => .inl e, rfl⟩
theorem FtHf.nowPut (h : FtHf base w f X) {N' : Mp FP.Plc} (g : w.grownBy w' (some X.bn)) (hm : MpAt w' X.bn .u32 encP N') : FHg base w f X w' { X with N := N' } := by
  have q : Chg (fun n => n = X.bn) w w' := (Chg.refl _ w).grown g (fun k e => by injection e with e; exact .inl e.symm)
  have hl : ∀ n, n = X.bn → Loose base w n := fun n e => h.loose n (.inr (.inr (.inl e)))
  exact ⟨⟨h.obj.chg q (h.map_ne h.now).1.symm, h.chip.chg' q hl (fun n e e2 => (h.map_ne h.now).2.2 (e2 ▸ e)), h.text.chg' q hl, h.tlen, h.sld.chg q h.ne.1, hm, h.gone.chg q h.ne.2.2.symm, h.later.chg q (h.map_ne h.now).2.1.symm, h.low, h.ne⟩,
    q.mono (fun n _ e => .inr (.inr (.inl e))), fun n e => .inl e, rfl⟩
theorem FtHf.gonePut (h : FtHf base w f X) {D' : Mp FP.Plc} (g : w.grownBy w' (some X.bg)) (hm : MpAt w' X.bg .u32 encP D') : FHg base w f X w' { X with D := D' } := by
  have q : Chg (fun n => n = X.bg) w w' := (Chg.refl _ w).grown g (fun k e => by injection e with e; exact .inl e.symm)
  have hl : ∀ n, n = X.bg → Loose base w n := fun n e => h.loose n (.inr (.inr (.inr (.inl e))))
  exact ⟨⟨h.obj.chg q (h.map_ne h.gone).1.symm, h.chip.chg' q hl (fun n e e2 => (h.map_ne h.gone).2.2 (e2 ▸ e)), h.text.chg' q hl, h.tlen, h.sld.chg q h.ne.2.1, h.now.chg q h.ne.2.2, hm, h.later.chg q (h.map_ne h.gone).2.1.symm, h.low, h.ne⟩,
    q.mono (fun n _ e => .inr (.inr (.inr (.inl e)))), fun n e => .inl e, rfl⟩
/-- Fields are laid that lead nowhere, and memory is made. -/
theorem FtHf.fields (h : FtHf base w f X) (q : Chg (fun n => n = f) w w') (hb : Blk w' f 93 X'.hcs) (h1 : X'.G = X.G ∧ X'.M = X.M) (h2 : SRow base w' X'.ta X'.tx ∧ X'.tx.length ≤ X'.tc ∧ X'.tc ≤ maxLen)
    (h3 : X'.bs = X.bs ∧ X'.S = X.S) (h4 : MpAt w' X'.bn .u32 encP X'.N ∧ (X'.bn = X.bn ∨ w.heap.size ≤ X'.bn)) (h5 : MpAt w' X'.bg .u32 encP X'.D ∧ (X'.bg = X.bg ∨ w.heap.size ≤ X'.bg)) (h6 : X'.lg = X.lg ∧ X'.lc = X.lc ∧ X'.later = X.later) (h7 : X'.bn ≠ X'.bg)
    (hbase : base ≤ w.heap.size) : FHg base w f X w' X' := by
  have hl : ∀ n, n = f → Loose base w n := fun n e => h.loose n (.inl e)
  have hlt := h.sld.lt
  refine ⟨⟨hb, ?_, h2.1, h2.2, ?_, h4.1, h5.1, ?_, ?_, ?_⟩, q.mono (fun n _ e => .inl e), ?_, by rw [h1.1]⟩
  · rw [h1.1, h1.2]; exact h.chip.chg' q hl (fun n e e2 => h.obj_ne.2.2.2.2 (e2 ▸ e))
  · rw [h3.1, h3.2]; exact h.sld.chg q h.obj_ne.1.symm
  · rw [h6.1, h6.2.1, h6.2.2]; exact h.later.chg q h.obj_ne.2.2.2.1.symm
  · rw [h3.1, h6.1]
    refine ⟨h.low.1, h.low.2.1, ?_, ?_, h.low.2.2.2.2⟩
    · rcases h4.2 with e | e
      · rw [e]; exact h.low.2.2.1
      · omega
    · rcases h5.2 with e | e
      · rw [e]; exact h.low.2.2.2.1
      · omega
  · rw [h3.1]
    refine ⟨?_, ?_, h7⟩
    · rcases h4.2 with e | e
      · rw [e]; exact h.ne.1
      · omega
    · rcases h5.2 with e | e
      · rw [e]; exact h.ne.2.1
      · omega
  · intro n e
    unfold FtM.hfoot at e
    rw [h1.1, h1.2, h3.1, h6.1] at e
    rcases e with e | e | e | e | e | e
    · exact .inl (.inl e)
    · exact .inl (.inr (.inl e))
    · rcases h4.2 with e2 | e2
      · exact .inl (.inr (.inr (.inl (e.trans e2))))
      · exact .inr (by omega)
    · rcases h5.2 with e2 | e2
      · exact .inl (.inr (.inr (.inr (.inl (e.trans e2)))))
      · exact .inr (by omega)
    · exact .inl (.inr (.inr (.inr (.inr (.inl e)))))
    · exact .inl (.inr (.inr (.inr (.inr (.inr e)))))
theorem FtHf.field (h : FtHf base w f X) (j : Nat) (v : Value) (hc : X'.hcs = X.hcs.setIfInBounds j v) (h1 : X'.G = X.G ∧ X'.M = X.M) (h2 : SRow base w X'.ta X'.tx ∧ X'.tx.length ≤ X'.tc ∧ X'.tc ≤ maxLen)
    (h3 : X'.bs = X.bs ∧ X'.S = X.S) (h4 : X'.bn = X.bn ∧ X'.N = X.N) (h5 : X'.bg = X.bg ∧ X'.D = X.D) (h6 : X'.lg = X.lg ∧ X'.lc = X.lc ∧ X'.later = X.later) (hbase : base ≤ w.heap.size) : FHg base w f X (w.setCell ⟨f, j, none⟩ v) X' := by
  have q : Chg (fun n => n = f) w (w.setCell ⟨f, j, none⟩ v) := Chg.set (F := fun n => n = f) w (p := ⟨f, j, none⟩) rfl v
  have hl : ∀ n, n = f → Loose base w n := fun n e => h.loose n (.inl e)
  refine h.fields q (by rw [hc]; exact h.obj.set_ j v) h1 ⟨h2.1.chg' q hl, h2.2⟩ h3 ?_ ?_ h6 ?_ hbase
  · rw [h4.1, h4.2]; exact ⟨h.now.chg q h.obj_ne.2.1.symm, .inl rfl⟩
  · rw [h5.1, h5.2]; exact ⟨h.gone.chg q h.obj_ne.2.2.1.symm, .inl rfl⟩
  · rw [h4.1, h5.1]; exact h.ne.2.2
/-- A manager is laid. -/
theorem FtHf.manage {m : Nat} {G : MgM} (h : FtHf base w f X) (hh : Held base w m G X.M) (hk : G.k = X.G.k) : FtAt base (w.setCell ⟨f, 1, none⟩ (ptr m)) f { X with m := m, G := G } := by
  have q : Chg (fun n => n = f) w (w.setCell ⟨f, 1, none⟩ (ptr m)) := Chg.set (F := fun n => n = f) w (p := ⟨f, 1, none⟩) rfl _
  have hl : ∀ n, n = f → Loose base w n := fun n e => h.loose n (.inl e)
  have hn : ¬ foot1 m G X.M f := by
    intro e
    obtain ⟨t, cs, hb, ht⟩ := hh.type e
    have := blk_type hb h.obj
    rcases ht with ht | ht | ht | ht | ht <;> rw [ht] at this <;> exact absurd this (by decide)
  refine ⟨?_, hh.chg' q hl (fun n e e2 => hn (e2 ▸ e)), h.text.chg' q hl, h.tlen, h.sld.chg q h.obj_ne.1.symm, h.now.chg q h.obj_ne.2.1.symm, h.gone.chg q h.obj_ne.2.2.1.symm, h.later.chg q h.obj_ne.2.2.2.1.symm, h.low, h.ne⟩
  show Blk _ f 93 #[ptr G.k, ptr m, vi X.reserve, vi X.bad, .slice X.ta X.tx.length X.tc, .map (some X.bs), .map (some X.bn), .map (some X.bg), vq X.seq, vq X.epoch, .slice (some ⟨X.lg, 0, none⟩) X.later.length X.lc, .bool X.over]
  rw [hk]
  exact h.obj.set_ 1 (ptr m)
set_option maxRecDepth 100000 in
set_option maxHeartbeats 1000000 in
theorem Capacity_hf (h : FtHf base w f X) (hd : 8 ≤ X.M.B ∧ X.M.B ≤ 128 ∧ X.M.P ≤ 32) (hr : 0 ≤ X.reserve ∧ X.reserve ≤ 65535 ∧ 0 ≤ X.bad ∧ X.bad ≤ 65535) : Calls Tryz.prog 20 #[ptr f] w fun e w' => e = .returned (vi X.view.cap) ∧ Below w.heap.size w w' := by
  have c0 : w.cell? ⟨f, 0, none⟩ = some (ptr X.G.k) := h.obj.cell 0
  have c2 : w.cell? ⟨f, 2, none⟩ = some (vi X.reserve) := h.obj.cell 2
  have c3 : w.cell? ⟨f, 3, none⟩ = some (vi X.bad) := h.obj.cell 3
  have H := Lib.hid h
  have HV : Hid (X.view.cap = ((X.M.B : Int) - X.bad - X.reserve - 1) * X.M.P - 2) := Lib.hid rfl
  have hm1 : ((X.M.B : Int) - X.bad - X.reserve - 1) * X.M.P ≤ 128 * 32 := by
    have h1 : ((X.M.B : Int) - X.bad - X.reserve - 1) ≤ 128 := by omega
    by_cases h0 : 0 ≤ ((X.M.B : Int) - X.bad - X.reserve - 1)
    · exact Int.mul_le_mul h1 (by omega) (by omega) (by omega)
    · have := Int.mul_nonpos_of_nonpos_of_nonneg (a := ((X.M.B : Int) - X.bad - X.reserve - 1)) (b := (X.M.P : Int)) (by omega) (by omega)
      omega
  have hm2 : -(200000 * 32) ≤ ((X.M.B : Int) - X.bad - X.reserve - 1) * X.M.P := by
    have h1 : -200000 ≤ ((X.M.B : Int) - X.bad - X.reserve - 1) := by omega
    have h2 : -200000 * (X.M.P : Int) ≤ ((X.M.B : Int) - X.bad - X.reserve - 1) * X.M.P := Int.mul_le_mul_of_nonneg_right h1 (by omega)
    omega
  have HDB : Hid (∀ n : Sub _, Calls Tryz.prog 50 #[.agg #[vi X.M.B, vi X.M.P, vi X.M.S], vi X.reserve, vi X.bad] n.w fun e w' => e = .returned (vi ((X.M.B : Int) - X.bad - X.reserve - 1)) ∧ Below n.w.heap.size n.w w') :=
    Lib.hid (fun n : Sub w => dataBlocks_any _ _ _ _ _ n.w (by omega))
  clear h HDB
  go_enter Tryz.func20, Tryz.ntmps20
  go_wp2_with fail
  refine (Geo_any H.out.chip).mono ?_
  rintro e w1 ⟨rfl, hb⟩
  have HB := Lib.hid hb
  have c2 := cell_below c2 hb
  have c3 := cell_below c3 hb
  clear hb c0
  have HB2 : Hid (Below w.heap.size w (w1.alloc (.cells #[vi X.M.B, vi X.M.P, vi X.M.S] 38))) := Lib.hid (HB.out.alloc HB.out.size _)
  have FG := Blk.new w1 38 #[vi X.M.B, vi X.M.P, vi X.M.S]
  have c2 := cell_below c2 ((Below.refl _ _).alloc (Nat.le_refl _) (.cells #[vi X.M.B, vi X.M.P, vi X.M.S] 38))
  have c3 := cell_below c3 ((Below.refl _ _).alloc (Nat.le_refl _) (.cells #[vi X.M.B, vi X.M.P, vi X.M.S] 38))
  have g0 := FG.cell 0
  have g1 := FG.cell 1
  have g2 := FG.cell 2
  simp only [List.getElem?_toArray, List.getElem?_cons_zero, List.getElem?_cons_succ] at g0 g1 g2
  clear FG
  go_upto_region 4 with fail
  generalize w1.alloc (.cells #[vi X.M.B, vi X.M.P, vi X.M.S] 38) = w2 at *
  have HDB : Hid (∀ n : Sub w2, Calls Tryz.prog 50 #[.agg #[vi X.M.B, vi X.M.P, vi X.M.S], vi X.reserve, vi X.bad] n.w fun e w' => e = .returned (vi ((X.M.B : Int) - X.bad - X.reserve - 1)) ∧ Below n.w.heap.size n.w w') :=
    Lib.hid (fun n => dataBlocks_any _ _ _ _ _ n.w (by omega))
  generalize hdb : (X.M.B : Int) - X.bad - X.reserve - 1 = db at *
  have HDD := Lib.hid hdb
  have q1 : IntKind.i64.wrap (db * X.M.P) = db * X.M.P := IntWalk.i64_in _ (by omega)
  have q2 : IntKind.i64.wrap (db * X.M.P - 2) = db * X.M.P - 2 := IntWalk.i64_in _ (by omega)
  clear hdb
  have c2 := Sub.cell c2
  have c3 := Sub.cell c3
  have g0 := Sub.cell g0
  have g1 := Sub.cell g1
  have g2 := Sub.cell g2
  refine wp_region_sub (by kernel_rfl) (by kernel_rfl) ?_
  repeat (go_big_quiet_step (exact ext_of (HDB.out _)))
  refine wpQuiet_nil ?_
  rintro _ ⟨nq, rfl⟩
  have HBN := Lib.hid (HB2.out.trans (nq.below.mono HB2.out.size))
  go_wp2_with fail
  go_ret
  exact ⟨ret_int HV.out.symm, HBN.out⟩
end
end Go.Proofs.YtjkaioonppmkjaaGreat.ft

/-
  Opening, in plain words: what is seen lies on the chip, what is chosen was seen, what is counted does not hang on the order. No program in sight; no conditions.
-/
namespace Go.Proofs.YtjkaioonppmkjaaGreat.FP
open Go.Proofs.YtjkaioonppmkjaaGreat.mgr

/-! How many pages a block holds. -/
theorem liveIn_comm (l : List Int) (x y : Int × Plc) : liveIn (liveIn l x) y = liveIn (liveIn l y) x := by
  unfold liveIn
  generalize x.2.block.toNat = i
  generalize y.2.block.toNat = j
  by_cases h : i = j
  · rw [h]
  · have e1 : ∀ a : Int, (l.set i a).getD j 0 = l.getD j 0 := fun a => by simp [List.getD_eq_getElem?_getD, h]
    have e2 : ∀ a : Int, (l.set j a).getD i 0 = l.getD i 0 := fun a => by simp [List.getD_eq_getElem?_getD, Ne.symm h]
    rw [e1, e2, List.set_comm _ _ h]
theorem live_perm {a b : Mp Plc} (h : a.Perm b) (z : List Int) : a.foldl liveIn z = b.foldl liveIn z :=
  h.foldl_eq' (fun x _ y _ z => liveIn_comm z x y) z
theorem live_len (S : Mp Plc) (z : List Int) : (S.foldl liveIn z).length = z.length := by
  induction S generalizing z with
  | nil => rfl
  | cons x S ih => rw [List.foldl_cons, ih]; simp [liveIn]
theorem liveIn_rng {z : List Int} {n : Int} (h : ∀ j, 0 ≤ z.getD j 0 ∧ z.getD j 0 ≤ n) (x : Int × Plc) : ∀ j, 0 ≤ (liveIn z x).getD j 0 ∧ (liveIn z x).getD j 0 ≤ n + 1 := by
  intro j
  have h1 := h x.2.block.toNat
  have h2 := h j
  unfold liveIn
  generalize x.2.block.toNat = i at *
  rw [List.getD_eq_getElem?_getD, List.getElem?_set]
  split
  · split
    · simp only [Option.getD_some]; omega
    · simp only [Option.getD_none]; omega
  · rw [← List.getD_eq_getElem?_getD]; omega
theorem live_rng (S : Mp Plc) : ∀ {z : List Int} {n : Int}, (∀ j, 0 ≤ z.getD j 0 ∧ z.getD j 0 ≤ n) → ∀ j, 0 ≤ (S.foldl liveIn z).getD j 0 ∧ (S.foldl liveIn z).getD j 0 ≤ n + S.length := by
  induction S with
  | nil => intro z n h j; have := h j; simp only [List.foldl_nil, List.length_nil]; omega
  | cons x S ih =>
    intro z n h j
    have := ih (liveIn_rng h x) j
    rw [List.foldl_cons, List.length_cons]
    omega
theorem zeros_rng (B : Nat) : ∀ j, 0 ≤ (List.replicate B (0 : Int)).getD j 0 ∧ (List.replicate B (0 : Int)).getD j 0 ≤ 0 := by
  intro j
  rw [List.getD_eq_getElem?_getD, List.getElem?_replicate]
  split <;> simp

/-! What is seen. -/
theorem scanPages_all (Q : Sn → Prop) (k : Nat) (s : Scan × Bool) (hs : ∀ x ∈ s.1.l, Q x) (hk : ∀ t (i : Nat), Q ⟨t, ⟨k, i⟩⟩) : ∀ m, ∀ x ∈ (scanPages k m s).1.l, Q x
  | 0 => hs
  | m + 1 => by
    have ih := scanPages_all Q k s hs hk m
    show ∀ x ∈ (scanPage k m (scanPages k m s)).1.l, Q x
    generalize scanPages k m s = u at *
    unfold scanPage
    dsimp only
    split
    · exact ih
    · split
      · exact ih
      · intro x hx
        rcases List.mem_append.1 hx with h | h
        · exact ih x h
        · rw [List.mem_singleton.1 h]; exact hk _ _
theorem scanTo_in (c : NP.Chp) : ∀ n, ∀ x ∈ (scanTo c n).l, 0 ≤ x.at_.block ∧ x.at_.block < n
  | 0 => by intro x hx; cases hx
  | n + 1 => by
    have ih : ∀ x ∈ (scanTo c n).l, 0 ≤ x.at_.block ∧ x.at_.block < (n + 1 : Nat) := fun x hx => by have := scanTo_in c n x hx; omega
    show ∀ x ∈ (scanBlock (scanTo c n) n).l, _
    generalize scanTo c n = u at *
    unfold scanBlock
    split
    · exact ih
    · exact scanPages_all (fun x => 0 ≤ x.at_.block ∧ x.at_.block < (n + 1 : Nat)) n (u, true) ih (fun t i => by dsimp only; omega) _
def Modest (s : Scan) : Prop := s.good = true → ∀ x ∈ s.l, x.tag.seq ≤ mostSeen ∧ x.tag.epoch ≤ mostSeen
theorem scanPages_modest (k : Nat) (s : Scan × Bool) (hs : Modest s.1) : ∀ m, Modest (scanPages k m s).1
  | 0 => hs
  | m + 1 => by
    have ih := scanPages_modest k s hs m
    show Modest (scanPage k m (scanPages k m s)).1
    generalize scanPages k m s = u at *
    unfold scanPage
    dsimp only
    split
    · exact ih
    · split
      · exact ih
      · intro hg x hx
        simp only [Bool.and_eq_true, decide_eq_true_eq] at hg
        rcases List.mem_append.1 hx with h | h
        · exact ih hg.1 x h
        · rw [List.mem_singleton.1 h]; exact hg.2
theorem scanTo_modest (c : NP.Chp) : ∀ n, Modest (scanTo c n)
  | 0 => by intro _ x hx; cases hx
  | n + 1 => by
    have ih := scanTo_modest c n
    show Modest (scanBlock (scanTo c n) n)
    generalize scanTo c n = u at *
    unfold scanBlock
    split
    · exact ih
    · exact scanPages_modest n (u, true) ih _

/-! What is chosen. -/
theorem choose_in (m : Mp Int) (l : List Sn) (P : Int × Plc → Prop) (hl : ∀ s ∈ l, P (s.tag.page, s.at_)) : ∀ out : Mp Plc, (∀ x ∈ out, P x) → ∀ x ∈ l.foldl (chooseIn m) out, P x := by
  induction l with
  | nil => exact fun _ h => h
  | cons s l ih =>
    intro out h
    rw [List.foldl_cons]
    refine ih (fun y hy => hl y (List.mem_cons_of_mem _ hy)) _ ?_
    have hput : ∀ x ∈ MP.put out s.tag.page s.at_, P x := fun x hx => by
      rcases MP.mem_put hx with rfl | hx
      · exact hl s (by simp)
      · exact h x hx
    unfold chooseIn
    split
    · exact hput
    · split
      · exact hput
      · exact h
theorem chosen_in {l : List Sn} {P : Int × Plc → Prop} (hl : ∀ s ∈ l, P (s.tag.page, s.at_)) : ∀ x ∈ chosen l, P x := choose_in _ l P hl [] (by simp)
theorem newest_in {l : List Sn} {last : Nat} : ∀ s ∈ newest l last, s ∈ l := fun _ h => (List.mem_filter.1 h).1
theorem choose_ok (m : Mp Int) (l : List Sn) : ∀ out : Mp Plc, MP.Ok out → MP.Ok (l.foldl (chooseIn m) out) := by
  induction l with
  | nil => exact fun _ h => h
  | cons s l ih =>
    intro out h
    rw [List.foldl_cons]
    refine ih _ ?_
    unfold chooseIn
    split
    · exact MP.put_ok h _ _
    · split
      · exact MP.put_ok h _ _
      · exact h
theorem chosen_ok (l : List Sn) : MP.Ok (chosen l) := choose_ok _ l [] MP.ok_nil

/-! What is opened, in parts. -/
def oLast (c : NP.Chp) : Nat := lastEpoch (scan c).l
def oAll (c : NP.Chp) : Mp Plc := chosen (newest (scan c).l (oLast c))
def maxSeq (l : List Sn) : Nat := l.foldl (fun n x => max n x.tag.seq) 0
def maxEpoch (l : List Sn) : Nat := l.foldl (fun n x => max n x.tag.epoch) 0
def oLater (c : NP.Chp) : List Bool := (scan c).l.foldl (laterIn (oLast c)) (List.replicate c.B false)
def oPlc (c : NP.Chp) : Plc := (MP.get (oAll c) 0).getD default
def oRead (c : NP.Chp) : (List Nat × Int) × NP.Chp := NP.readP (scan c).c (oPlc c).block (oPlc c).page
def oPay (c : NP.Chp) : List Nat := (TP.read (oRead c).1.1).2.1
def oRes (x : List Nat) : Int := x.getD 0 0 + 256 * x.getD 1 0
def oBad (x : List Nat) : Int := x.getD 2 0 + 256 * x.getD 3 0
def oCap (c : NP.Chp) (x : List Nat) : Int := dataB c.B (oRes x) (oBad x) * c.P - 2
def oSld (c : NP.Chp) : Mp Plc := (oAll c).filter fun y => decide (y.1 < oCap c (oPay c))
def oLive (c : NP.Chp) : List Int := (oSld c).foldl liveIn (List.replicate c.B 0)
theorem openF_some {c c' : NP.Chp} {F : Ft} (h : openF c = some (0, some F, c')) :
    c.down = false ∧ (scan c).good = true ∧ oLast c ≠ 0 ∧ (TP.read (oRead c).1.1).2.2 = 0 ∧
    ((oPay c).getD 4 0 = 0 ∧ (oPay c).getD 5 0 = 0 ∧ (oPay c).getD 6 0 = 0 ∧ (oPay c).getD 7 0 = 0) ∧ 0 < oRes (oPay c) ∧ oBad (oPay c) ≤ bads (oRead c).2 ∧ 2 ≤ dataB c.B (oRes (oPay c)) (oBad (oPay c)) ∧
    ∃ g, openG (oRead c).2 (scan c).fresh (oLive c) (oRes (oPay c)) (oBad (oPay c)) = (0, some g) ∧
      F = ⟨(oRead c).2, g, oRes (oPay c), oBad (oPay c), (oPay c).drop 8, oSld c, [], [], maxSeq (scan c).l + 1, maxEpoch (scan c).l + 1, oLater c, decide (idleTo g.l (oLive c) g.l.length = 0)⟩ := by
  unfold openF at h
  split at h
  · cases h
  · rename_i hd
    dsimp only at h
    split at h
    · cases h
    · rename_i h1
      split at h
      · cases h
      · rename_i h2
        split at h
        · rename_i h3
          split at h
          · cases h
          · rename_i e g hg
            injection h with h
            injection h with _ h
            injection h with h _
            injection h with h
            subst h
            have := (openG_ok hg).2.1
            subst this
            refine ⟨by simpa using hd, by simpa using fun e => h1 (.inl e), fun e => h1 (.inr e), Classical.byContradiction h2, h3.1, h3.2.1, h3.2.2.1, h3.2.2.2, g, hg, rfl⟩
        · cases h
theorem max_rng {α : Type} (f : α → Nat) (l : List α) (b : Nat) : ∀ a, a ≤ b → (∀ x ∈ l, f x ≤ b) → l.foldl (fun n x => max n (f x)) a ≤ b := by
  induction l with
  | nil => exact fun a h _ => h
  | cons x l ih =>
    intro a h hl
    rw [List.foldl_cons]
    refine ih _ ?_ (fun y hy => hl y (List.mem_cons_of_mem _ hy))
    have := hl x (by simp)
    omega
theorem later_len (last : Nat) (l : List Sn) : ∀ z, (l.foldl (laterIn last) z).length = z.length := by
  induction l with
  | nil => exact fun _ => rfl
  | cons s l ih =>
    intro z
    rw [List.foldl_cons, ih]
    unfold laterIn
    split <;> simp
end Go.Proofs.YtjkaioonppmkjaaGreat.FP

