/-
  Lemmas for a law's proof, put together from several texts: each part says what it shows, and its conditions.
-/
import Derived.Test.YtnfhlocflpdlcaaGreatZT31
/-
  A chip without bad blocks is formatted, and nothing fails. Conditions: a chip told by ChipAt.
-/
namespace Go.Proofs.YtnfhlocflpdlcaaGreat.FP
open Go.Proofs.YtnfhlocflpdlcaaGreat.mgr
/-- The first so many blocks are erased. -/
def wipedTo (c : NP.Chp) : Nat → NP.Chp
  | 0 => c
  | k + 1 => (NP.erase (wipedTo c k) k).2
def neat (c : NP.Chp) : Bool := (List.range c.B).all fun k => !NP.badAt (wipedTo c k) k && (NP.erase (wipedTo c k) k).1 == 0
def wiped (c : NP.Chp) : NP.Chp := wipedTo c c.B
def begun (c : NP.Chp) (g : Mg) (reserve : Int) : Ft := ⟨wiped c, g, reserve, bads (wiped c), [], [], [], [], 1, 1, List.replicate c.B false, false⟩
def formatN (c : NP.Chp) (reserve : Int) (text : List Nat) : Option Ft :=
  if c.down = false ∧ (1 ≤ reserve ∧ reserve ≤ 32768) ∧ (text.length : Int) = c.S - 8 ∧ 2 ≤ dataB c.B reserve (bads c) ∧ neat c = true ∧ 2 ≤ dataB c.B reserve (bads (wiped c)) then
    match openG (wiped c) (List.replicate c.B true) (List.replicate c.B 0) reserve (bads (wiped c)) with
    | (_, none) => none
    | (_, some g) => match Ft.sealed (begun c g reserve) text with
      | some (e, f) => if e = 0 then some f else none
      | none => none
  else none
theorem formatN_some {c : NP.Chp} {reserve : Int} {text : List Nat} {F : Ft} (h : formatN c reserve text = some F) :
    c.down = false ∧ (1 ≤ reserve ∧ reserve ≤ 32768) ∧ (text.length : Int) = c.S - 8 ∧ 2 ≤ dataB c.B reserve (bads c) ∧ neat c = true ∧ 2 ≤ dataB c.B reserve (bads (wiped c)) ∧
      ∃ g, openG (wiped c) (List.replicate c.B true) (List.replicate c.B 0) reserve (bads (wiped c)) = (0, some g) ∧ Ft.sealed (begun c g reserve) text = some (0, F) := by
  unfold formatN at h
  split at h
  · rename_i h0
    obtain ⟨h1, h2, h3, h4, h5, h6⟩ := h0
    refine ⟨h1, h2, h3, h4, h5, h6, ?_⟩
    split at h
    · cases h
    · rename_i e g hg
      have := (openG_ok hg).2.1
      subst this
      split at h
      · rename_i e f hs
        split at h
        · rename_i he
          subst he
          cases h
          exact ⟨g, hg, hs⟩
        · cases h
      · cases h
  · cases h
end Go.Proofs.YtnfhlocflpdlcaaGreat.FP
namespace Go.Proofs.YtnfhlocflpdlcaaGreat.ft
open Go.RowKit Go.Proofs.YtnfhlocflpdlcaaGreat.mgr

theorem wiped_good {c : NP.Chp} (h : Good6 c) : ∀ n, Good6 (FP.wipedTo c n)
  | 0 => h
  | n + 1 => (wiped_good h n).act (.erase n) trivial
theorem wiped_dims (c : NP.Chp) : ∀ n, (FP.wipedTo c n).B = c.B ∧ (FP.wipedTo c n).P = c.P ∧ (FP.wipedTo c n).S = c.S
  | 0 => ⟨rfl, rfl, rfl⟩
  | n + 1 => by
    have h1 := act_dims6 (FP.wipedTo c n) (.erase n)
    have h2 := wiped_dims c n
    exact ⟨h1.1.trans h2.1, h1.2.1.trans h2.2.1, h1.2.2.trans h2.2.2⟩
theorem neat_at {c : NP.Chp} (h : FP.neat c = true) {k : Nat} (hk : k < c.B) : NP.badAt (FP.wipedTo c k) k = false ∧ NP.erase (FP.wipedTo c k) k = (0, FP.wipedTo c (k + 1)) := by
  have := List.all_eq_true.1 h k (List.mem_range.2 hk)
  simp only [Bool.and_eq_true, Bool.not_eq_true', beq_iff_eq] at this
  exact ⟨this.1, by rw [← this.2]; rfl⟩
theorem bool_info : (Tryz.prog.info? 4).map (fun i => (i.zero, i.size, i.bytes)) = some (some (.bool false), 1, 1) := by kernel_rfl
theorem make_bools (n : Nat) (hn : n ≤ 1000000) (w : World) : (Instr.makeSlice 184 (.int .i64 (n : Int)) (.int .i64 (n : Int))).run Tryz.prog w = .ok (.slice (some ⟨w.heap.size, 0, none⟩) n n) (w.alloc (.cells (madeCells #[.bool false] n) 4)) :=
  run_make_row' 184 4 (.bool false) 1 Tryz.underlying184 bool_info rfl .i64 .i64 n (by omega) (by omega) w
theorem arr_bools (w : World) (n : Nat) (hn : n ≤ 1000000) : Arr (w.alloc (.cells (madeCells #[.bool false] n) 4)) 4 1 w.heap.size n n ((List.replicate n false).map Value.bool) := by
  have := Arr.lit w 4 1 n (madeCells #[.bool false] n) (by unfold maxLen; omega) (by simp [madeCells])
  rw [toList_madeCells_one] at this
  rw [List.map_replicate]
  exact this
theorem int_zeros (w : World) (n : Nat) : IRow (w.alloc (.cells (madeCells #[vi 0] n) 3)) (some ⟨w.heap.size, 0, none⟩) (List.replicate n 0) := by
  refine .inr ⟨w.heap.size, 0, rfl, fun i hi => ?_⟩
  rw [List.length_replicate] at hi
  rw [(Blk.new w _ _).cell, Nat.zero_add, ← Array.getElem?_toList, toList_madeCells_one, List.getElem?_replicate, if_pos hi, List.getD_eq_getElem?_getD, List.getElem?_replicate, if_pos hi]
  rfl
theorem bo_arr {w : World} {g n c : Nat} {l : List Bool} (h : Arr w 4 1 g n c (l.map Value.bool)) (hl : l.length = n) : BoRow w (some ⟨g, 0, none⟩) l := by
  refine .inr ⟨g, 0, rfl, fun i hi => ?_⟩
  rw [Nat.zero_add, h.cell (by omega), List.getElem?_map, List.getElem?_eq_getElem hi, List.getD_eq_getElem?_getD, List.getElem?_eq_getElem hi]
  rfl
/-- A translation that was made on a chip. -/
structure FtNew (base : Nat) (w : World) (k : Nat) (M : ChM) (w' : World) (f : Nat) (X : FtM) : Prop where
  at_ : FtAt base w' f X
  key : X.G.k = k
  chg : Chg (M.foot k) w w'
  foot : ∀ n, X.foot f n → M.foot k n ∨ w.heap.size ≤ n
def FNPost (base : Nat) (w : World) (k : Nat) (M : ChM) (F : FP.Ft) (e : Ending) (w' : World) : Prop := ∃ f X, e = .returned (.tuple #[ptr f, vi 0]) ∧ FtNew base w k M w' f X ∧ X.view = F
section
variable {base : Nat} {w w' wr : World} {k fb gb j n : Nat} {M Mj : ChM}
theorem ChipAt_type (h : ChipAt base w k M) {n : Nat} (hn : M.foot k n) : ∃ t cs, Blk w n t cs ∧ (t = 180 ∨ t = 176 ∨ t = 56) := by
  rcases hn with rfl | rfl | hn
  · exact ⟨_, _, h.chip, .inl rfl⟩
  · obtain ⟨cur, hb, _⟩ := h.blocks.blk
    exact ⟨_, _, hb, .inr (.inl rfl)⟩
  · obtain ⟨x, hx, rfl⟩ := List.mem_map.1 hn
    obtain ⟨cur, hb, _⟩ := (h.pages x hx).blk
    exact ⟨_, _, hb, .inr (.inr rfl)⟩
theorem ChipAt_not (h : ChipAt base w k M) {n : Nat} {t : TypeId} {cs : Array Value} (hb : Blk w n t cs) (ht : t ≠ 180 ∧ t ≠ 176 ∧ t ≠ 56) : ¬ M.foot k n := by
  intro e
  obtain ⟨t', cs', hb', h'⟩ := ChipAt_type h e
  rw [blk_type hb hb'] at h'
  rcases h' with h' | h' | h'
  · exact ht.1 h'
  · exact ht.2.1 h'
  · exact ht.2.2 h'
theorem Goes_fill {M' : ChM} (h : Goes base w k M wr M') {n : Nat} {t : TypeId} {cs : Array Value} (hb : Blk wr n t cs) (hn : w.heap.size ≤ n) (hbase : base ≤ n) (ht : t ≠ 180 ∧ t ≠ 176 ∧ t ≠ 56) (hd : dataT t = false) (i : Nat) (u : Value) :
    Goes base w k M (wr.setCell ⟨n, i, none⟩ u) M' :=
  ⟨h.at_.chg' (Chg.set (F := fun m => m = n) wr (p := ⟨n, i, none⟩) rfl u) (fun m e => by subst e; exact Loose.blk hbase hb hd) (fun m e e2 => ChipAt_not h.at_ hb ht (e2 ▸ e)), h.chg.setCell (p := ⟨n, i, none⟩) (.inr hn) u, h.foot⟩
theorem FtAt.made {m : Nat} {G : MgM} {w : World} {f bs bn bg lg B : Nat} {reserve bad : Int} (hh : Held base w m G M)
    (hf : Blk w f 189 #[ptr G.k, (.pointer none : Value), vi reserve, vi bad, .slice none 0 0, .map (some bs), .map (some bn), .map (some bg), vq 1, vq 1, .slice (some ⟨lg, 0, none⟩) B B, .bool false])
    (h1 : MpAt w bs .u32 encP []) (h2 : MpAt w bn .u32 encP []) (h3 : MpAt w bg .u32 encP []) (hl : Arr w 4 1 lg B B ((List.replicate B false).map Value.bool))
    (low : base ≤ f ∧ base ≤ bs ∧ base ≤ bn ∧ base ≤ bg ∧ base ≤ lg) (ne : bs ≠ bn ∧ bs ≠ bg ∧ bn ≠ bg) :
    FtAt base (w.setCell ⟨f, 1, none⟩ (ptr m)) f ⟨m, G, M, reserve, bad, none, [], 0, bs, bn, bg, [], [], [], 1, 1, lg, B, List.replicate B false, false⟩ := by
  have q : Chg (fun n => n = f) w (w.setCell ⟨f, 1, none⟩ (ptr m)) := Chg.set (F := fun n => n = f) w (p := ⟨f, 1, none⟩) rfl _
  have hn : ¬ foot1 m G M f := by
    intro e
    obtain ⟨t, cs, hb, ht⟩ := hh.type e
    have := blk_type hb hf
    rcases ht with ht | ht | ht | ht | ht <;> rw [ht] at this <;> exact absurd this (by decide)
  refine ⟨?_, hh.chg' q (fun n e => by subst e; exact Loose.blk low.1 hf) (fun n e e2 => hn (e2 ▸ e)), SRow.nil _ _ _, ⟨Nat.le_refl _, Nat.zero_le _⟩, h1.chg q (h1.ne_blk hf), h2.chg q (h2.ne_blk hf), h3.chg q (h3.ne_blk hf), ?_, low, ne⟩
  · show Blk _ f 189 #[ptr G.k, ptr m, vi reserve, vi bad, .slice none 0 0, .map (some bs), .map (some bn), .map (some bg), vq 1, vq 1, .slice (some ⟨lg, 0, none⟩) (List.replicate B false).length B, .bool false]
    rw [List.length_replicate]
    exact hf.set_ 1 (ptr m)
  · have := hl.chg q (hl.ne_blk hf (by decide))
    simpa using this
def begW (w : World) (B : Nat) (cs : Array Value) : World := ((((w.alloc (.map #[] 0)).alloc (.map #[] 0)).alloc (.map #[] 0)).alloc (.cells (madeCells #[.bool false] B) 4)).alloc (.cells cs 189)
theorem beg_all (w : World) (B : Nat) (hB : B ≤ 1000) (cs : Array Value) : Below w.heap.size w (begW w B cs) ∧ MpAt (begW w B cs) w.heap.size .u32 encP [] ∧ MpAt (begW w B cs) (w.heap.size + 1) .u32 encP [] ∧ MpAt (begW w B cs) (w.heap.size + 1 + 1) .u32 encP [] ∧
    Arr (begW w B cs) 4 1 (w.heap.size + 1 + 1 + 1) B B ((List.replicate B false).map Value.bool) ∧ Blk (begW w B cs) (w.heap.size + 1 + 1 + 1 + 1) 189 cs := by
  unfold begW
  refine ⟨((((((Below.refl _ _).alloc (Nat.le_refl _) _).alloc (by simp) _).alloc (by simp; omega) _).alloc (by simp; omega) _).alloc (by simp; omega) _), ((((MpAt.made w .u32 encP).alloc _).alloc _).alloc _).alloc _, ?_, ?_, ?_, ?_⟩
  · have := (((MpAt.made (w.alloc (.map #[] 0)) .u32 encP).alloc (.map #[] 0)).alloc (.cells (madeCells #[.bool false] B) 4)).alloc (.cells cs 189)
    have e : (w.alloc (.map #[] 0)).heap.size = w.heap.size + 1 := by simp
    rw [e] at this
    exact this
  · have := ((MpAt.made ((w.alloc (.map #[] 0)).alloc (.map #[] 0)) .u32 encP).alloc (.cells (madeCells #[.bool false] B) 4)).alloc (.cells cs 189)
    have e : ((w.alloc (.map #[] 0)).alloc (.map #[] 0)).heap.size = w.heap.size + 1 + 1 := by simp
    rw [e] at this
    exact this
  · have := (arr_bools (((w.alloc (.map #[] 0)).alloc (.map #[] 0)).alloc (.map #[] 0)) B (by omega)).old (alloc_box _ cs 189)
    have e : (((w.alloc (.map #[] 0)).alloc (.map #[] 0)).alloc (.map #[] 0)).heap.size = w.heap.size + 1 + 1 + 1 := by simp
    rw [e] at this
    exact this
  · have := Blk.new ((((w.alloc (.map #[] 0)).alloc (.map #[] 0)).alloc (.map #[] 0)).alloc (.cells (madeCells #[.bool false] B) 4)) 189 cs
    have e : ((((w.alloc (.map #[] 0)).alloc (.map #[] 0)).alloc (.map #[] 0)).alloc (.cells (madeCells #[.bool false] B) 4)).heap.size = w.heap.size + 1 + 1 + 1 + 1 := by simp
    rw [e] at this
    exact this
theorem openG_res {c : NP.Chp} {fresh : List Bool} {live : List Int} {reserve bad e : Int} {g : Mg} (h : openG c fresh live reserve bad = (e, some g)) : g.reserve = reserve ∧ g.bad = bad := by
  unfold openG at h
  split at h
  · simp at h
  · split at h
    · simp at h
    · split at h
      · simp only [Prod.mk.injEq, Option.some.injEq] at h
        rw [← h.2]
        exact ⟨rfl, rfl⟩
      · simp at h
theorem begun_fit {c : NP.Chp} {g : Mg} {reserve : Int} (hg : Good6 (FP.wiped c)) (ho : openG (FP.wiped c) (List.replicate c.B true) (List.replicate c.B 0) reserve (FP.bads (FP.wiped c)) = (0, some g)) (hr : 1 ≤ reserve ∧ reserve ≤ 32768) (hb : 0 ≤ FP.bads (FP.wiped c) ∧ FP.bads (FP.wiped c) ≤ 65535) : Fit (FP.begun c g reserve) := by
  have h1 := openG_res ho
  refine ⟨hg, (openG_ok ho).1, ⟨?_, ?_, hb.1, hb.2⟩, ?_, Low.nil, Low.nil, Low.nil, ?_, ?_⟩
  · show 0 ≤ reserve; omega
  · show reserve ≤ 65535; omega
  · show 0 ≤ g.reserve ∧ g.reserve ≤ 65535 ∧ 0 ≤ g.bad ∧ g.bad ≤ 65535
    rw [h1.1, h1.2]; omega
  · show (List.replicate c.B false).length = (FP.wiped c).B
    rw [List.length_replicate]; exact (wiped_dims c c.B).1.symm
  · exact Nat.zero_le _
/-- So many blocks were erased. -/
structure WipeSt (base : Nat) (w : World) (k : Nat) (M : ChM) (fb gb j : Nat) (wr : World) (Mj : ChM) : Prop where
  goes : Goes base w k M wr Mj
  view : Mj.view = FP.wipedTo M.view j
  arr : Arr wr 4 1 fb M.B M.B ((List.replicate j true ++ List.replicate (M.B - j) false).map Value.bool)
  geo : Blk wr gb 122 #[vi M.B, vi M.P, vi M.S]
  young : w.heap.size ≤ fb ∧ base ≤ fb ∧ fb ≠ gb
theorem WipeSt.erase (h : WipeSt base w k M fb gb j wr Mj) {M' : ChM} (q : Goes base wr k Mj w' M') (hv : M'.view = FP.wipedTo M.view (j + 1)) (hj : j < M.B) :
    WipeSt base w k M fb gb (j + 1) (w'.setCell ⟨fb, j, none⟩ (.bool true)) M' ∧ w'.cell? ⟨fb, j, none⟩ = some (.bool false) ∧ w'.frozen? ⟨fb, j, none⟩ = false := by
  obtain ⟨cur, hb, _⟩ := h.arr.blk
  have hn := ChipAt_not h.goes.at_ hb (by decide)
  have ha := h.arr.chg q.chg hn
  obtain ⟨cur', hb', _⟩ := ha.blk
  have hg := h.geo.chg q.chg (ChipAt_not h.goes.at_ h.geo (by decide))
  refine ⟨⟨Goes_fill (h.goes.trans q) hb' h.young.1 h.young.2.1 (by decide) (by decide) j _, hv, ?_, hg.far (fun e => h.young.2.2 e.symm) _, h.young⟩, ?_, ha.frozen j⟩
  · have := ha.set j (.bool true)
    have e : ((List.replicate j true ++ List.replicate (M.B - j) false).map Value.bool).set j (Value.bool true) = (List.replicate (j + 1) true ++ List.replicate (M.B - (j + 1)) false).map Value.bool := by
      rw [← List.map_set, List.set_append_right _ _ (by simp), List.length_replicate, Nat.sub_self, show M.B - j = (M.B - (j + 1)) + 1 by omega, List.replicate_succ, List.set_cons_zero, List.replicate_succ', List.append_assoc]
      rfl
    rw [e] at this
    exact this
  · rw [ha.cell (by omega), List.getElem?_map, List.getElem?_append_right (by simp), List.length_replicate, Nat.sub_self, List.getElem?_replicate, if_pos (by omega)]
    rfl
end
section
variable {base : Nat} {w : World} {k : Nat} {M : ChM}
set_option maxRecDepth 100000 in
set_option maxHeartbeats 8000000 in
theorem Format_new (h : ChipAt base w k M) (hg : Good6 M.view) (hbase : base ≤ w.heap.size) (reserve : Int) (a : Option Addr) (text : List Nat) (c : Nat) (hr : SRow base w a text) (F : FP.Ft) (hq : FP.formatN M.view reserve text = some F) :
    Calls Tryz.prog 66 #[ptr k, vi reserve, .slice a text.length c] w (FNPost base w k M F) := by
  obtain ⟨hdown, hres, hlen, hd1, hneat, hd2, g, hopen, hseal⟩ := FP.formatN_some hq
  have HBD : Hid (0 ≤ FP.bads M.view ∧ FP.bads M.view ≤ M.B) := Lib.hid (badTo_le M.view M.B)
  have HWD : Hid (0 ≤ FP.bads (FP.wiped M.view) ∧ FP.bads (FP.wiped M.view) ≤ M.B) := Lib.hid (by
    have h1 := badTo_le (FP.wiped M.view) (FP.wiped M.view).B
    have h2 : (FP.wiped M.view).B = M.B := (wiped_dims M.view M.B).1
    rw [h2] at h1
    unfold FP.bads
    rw [h2]
    exact h1)
  have hdim : 8 ≤ M.B ∧ M.B ≤ 128 ∧ M.P ≤ 32 ∧ 64 ≤ M.S ∧ M.S ≤ 512 := by
    have : NP.rightB M.B M.P M.S = true := hg.ok.right
    unfold NP.rightB at this
    simp only [Bool.and_eq_true, Bool.or_eq_true, beq_iff_eq, decide_eq_true_eq] at this
    omega
  have HDIM := Lib.hid hdim
  have H := Lib.hid h
  have HG := Lib.hid hg
  have HR := Lib.hid hr
  have HN := Lib.hid hneat
  have HO := Lib.hid hopen
  have HS := Lib.hid hseal
  have HU := Lib.hid (Up_any h)
  have hdown' : M.down = false := hdown
  rw [hdown'] at HU
  have r1 : ¬ reserve < 1 := by omega
  have r2 : ¬ 32768 < reserve := by omega
  have q8 : IntKind.i64.wrap ((M.S : Int) - 8) = (M.S : Int) - 8 := IntWalk.i64_in _ (by omega)
  have r3 : ((text.length : Int) != (M.S : Int) - 8) = false := by
    have : (text.length : Int) = (M.S : Int) - 8 := hlen
    simp [this]
  have HLEN := Lib.hid hlen
  have HD1 : Hid (¬ ((M.B : Int) - FP.bads M.view - reserve - 1 < 2)) := Lib.hid (by
    have : 2 ≤ (M.B : Int) - FP.bads M.view - reserve - 1 := hd1
    omega)
  have HD2 : Hid (¬ ((M.B : Int) - FP.bads (FP.wiped M.view) - reserve - 1 < 2)) := Lib.hid (by
    have : 2 ≤ (M.B : Int) - FP.bads (FP.wiped M.view) - reserve - 1 := hd2
    omega)
  have HRES := Lib.hid hres
  have hf2 := geo_f2 M.B M.P M.S
  clear h hg hr hneat hopen hseal hdown hdown' hlen hd1 hd2 hres hdim hq
  go_enter Tryz.func66, Tryz.ntmps66
  go_wp2_with fail
  refine HU.out.mono ?_
  rintro e w' ⟨rfl, rfl⟩
  go_wp2_with fail
  refine (Geo_any H.out).mono ?_
  rintro e w1 ⟨rfl, hb1⟩
  have HB1 := Lib.hid hb1
  clear hb1
  go_wp2_with fail
  refine (Geo_any (H.out.old HB1.out)).mono ?_
  rintro e w2 ⟨rfl, hb2⟩
  have HB2 := Lib.hid (HB1.out.trans (hb2.mono HB1.out.size))
  clear hb2
  go_upto_region 8 with fail
  have HB3 := Lib.hid (HB2.out.alloc HB2.out.size (.cells #[vi M.B, vi M.P, vi M.S] 122))
  have G3 := Lib.hid (Blk.new w2 122 #[vi M.B, vi M.P, vi M.S])
  have HGB := Lib.hid HB2.out.size
  generalize w2.alloc (.cells #[vi M.B, vi M.P, vi M.S] 122) = w3 at *
  generalize w2.heap.size = gb at *
  have HDB : Hid (∀ n : Sub w3, Calls Tryz.prog 111 #[.agg #[vi M.B, vi M.P, vi M.S], vi reserve, vi (FP.bads M.view)] n.w fun e w' => e = .returned (vi ((M.B : Int) - FP.bads M.view - reserve - 1)) ∧ Below n.w.heap.size n.w w') :=
    Lib.hid (fun n => dataBlocks_any _ _ _ _ _ n.w (by have h1 := HBD.out; have h2 := HDIM.out; have h3 := HRES.out; omega))
  have HBA : Hid (∀ n : Sub w3, Calls Tryz.prog 112 #[ptr k] n.w fun e w' => e = .returned (vi (FP.bads M.view)) ∧ Below n.w.heap.size n.w w') :=
    Lib.hid (fun n => badBlocks_any ((H.out.old HB3.out).old n.below) HG.out.ok)
  generalize FP.bads M.view = bd at *
  generalize (M.B : Int) - bd - reserve - 1 = db at *
  have lt2 := HD1.out
  have g0 := G3.out.cell 0
  have g1 := G3.out.cell 1
  have g2 := G3.out.cell 2
  simp only [List.getElem?_toArray, List.getElem?_cons_zero, List.getElem?_cons_succ] at g0 g1 g2
  have g0 := Sub.cell g0
  have g1 := Sub.cell g1
  have g2 := Sub.cell g2
  refine wp_region_sub (by kernel_rfl) (by kernel_rfl) ?_
  repeat (go_big_quiet_step (first | exact ext_of (HBA.out _) | exact ext_of (HDB.out _)))
  refine wpQuiet_nil ?_
  rintro _ ⟨nq, rfl⟩
  have HB4 := Lib.hid (HB3.out.trans (nq.below.mono HB3.out.size))
  have G4 := Lib.hid (G3.out.old nq.below)
  clear g0 g1 g2 HDB HBA G3 HB1 HB2 HU
  generalize nq.w = w4 at *
  have g0 : w4.cell? ⟨gb, 0, none⟩ = some (vi M.B) := G4.out.cell 0
  have hmk := make_bools M.B (by have := HDIM.out; omega)
  go_upto_region 11 with fail
  have HW5 : Hid (WipeSt base w' k M w4.heap.size gb 0 (w4.alloc (.cells (madeCells #[.bool false] M.B) 4)) M) := Lib.hid (by
    have h1 := arr_bools w4 M.B (by have := HDIM.out; omega)
    have h2 := HB4.out.size
    have h3 := G4.out.lt
    exact ⟨(Goes.of_old H.out HB4.out).old ((Below.refl _ _).alloc (Nat.le_refl _) _), rfl, by simpa using h1, G4.out.alloc _, h2, Nat.le_trans hbase h2, by omega⟩)
  clear hmk g0 G4 HB4 HB3
  generalize w4.alloc (.cells (madeCells #[.bool false] M.B) 4) = w5 at *
  generalize w4.heap.size = fb at *
  go_wp2_with fail
  go_loopw [51] (fun i wr => ∃ (j : Nat) (Mj : ChM), j ≤ M.B ∧ i = vi j ∧ Hid (WipeSt base w' k M fb gb j wr Mj)) (fun i _ => M.B - (intOf i).toNat)
  case atStart => exact ⟨0, M, Nat.zero_le _, rfl, HW5⟩
  case round =>
    clear HW5
    obtain ⟨j, Mj, hj, rfl, hst⟩ := hrel
    have hdm := HDIM.out
    by_cases hlt : j < M.B
    · have HGJ := Lib.hid (wiped_good HG.out j)
      have HNT := Lib.hid (neat_at HN.out (k := j) hlt)
      have HOK : Hid Mj.view.ok := Lib.hid (by rw [hst.out.view]; exact HGJ.out.ok)
      have HBM : Hid (badM Mj j = false) := Lib.hid (by rw [bad_view Mj j (ok_len HOK.out), hst.out.view]; exact HNT.out.1)
      go_wp2_with fail
      refine (Bad_any hst.out.goes.at_ j).mono ?_
      rw [HBM.out]
      rintro e w6 ⟨rfl, rfl⟩
      go_wp2_with fail
      refine (Erase_any hst.out.goes.at_ HOK.out j).mono ?_
      rw [hst.out.view, HNT.out.2]
      rintro e w7 ⟨M7, rfl, hg7, hv7⟩
      obtain ⟨hs7, hc7, hf7⟩ := hst.out.erase hg7 hv7 hlt
      have HS7 := Lib.hid hs7
      clear hs7 hg7 hv7 hst HBM HOK HNT HGJ
      go_wp2_with fail
      go_roundw
      case rel => exact ⟨j + 1, M7, by omega, by go_num, HS7⟩
      case measure => simp [intOf]; omega
    · obtain rfl : j = M.B := by omega
      have HST := Lib.hid hst.out
      have HVW : Hid (Mj.view = FP.wiped M.view) := Lib.hid hst.out.view
      have HGW : Hid (Good6 (FP.wiped M.view)) := Lib.hid (wiped_good HG.out M.B)
      have HOK : Hid Mj.view.ok := Lib.hid (by rw [HVW.out]; exact HGW.out.ok)
      clear hst hj hlt
      go_wp2_with fail
      refine (badBlocks_any HST.out.goes.at_ HOK.out).mono ?_
      rw [HVW.out]
      rintro e w8 ⟨rfl, hb8⟩
      have HG8 := Lib.hid (HST.out.goes.old hb8)
      have HA8 := Lib.hid (HST.out.arr.old hb8)
      have HX8 := Lib.hid (HST.out.geo.old hb8)
      have HFB := Lib.hid HST.out.young
      clear hb8 HST
      have g0 : w8.cell? ⟨gb, 0, none⟩ = some (vi M.B) := HX8.out.cell 0
      have g1 : w8.cell? ⟨gb, 1, none⟩ = some (vi M.P) := HX8.out.cell 1
      have g2 : w8.cell? ⟨gb, 2, none⟩ = some (vi M.S) := HX8.out.cell 2
      have HDB : Hid (Calls Tryz.prog 111 #[.agg #[vi M.B, vi M.P, vi M.S], vi reserve, vi (FP.bads (FP.wiped M.view))] w8 fun e w' => e = .returned (vi ((M.B : Int) - FP.bads (FP.wiped M.view) - reserve - 1)) ∧ Below w8.heap.size w8 w') :=
        Lib.hid (dataBlocks_any _ _ _ _ _ w8 (by have h1 := HWD.out; have h2 := HDIM.out; have h3 := HRES.out; omega))
      have lt3 := HD2.out
      generalize hbw : FP.bads (FP.wiped M.view) = bw at *
      have HBW := Lib.hid hbw
      clear hbw
      generalize (M.B : Int) - bw - reserve - 1 = dw at *
      go_wp2_with fail
      refine HDB.out.mono ?_
      rintro e w9 ⟨rfl, hb9⟩
      have HG9 := Lib.hid (HG8.out.old hb9)
      have HA9 := Lib.hid (HA8.out.old hb9)
      have HX9 := Lib.hid (HX8.out.old hb9)
      clear hb9 HG8 HA8 HX8 g0 g1 g2 HDB
      go_upto_region 26 with fail
      have hmm := @run_makeMap Tryz.prog
      have hmk := make_bools M.B (by omega)
      have g0 : (((w9.alloc (.map #[] 0)).alloc (.map #[] 0)).alloc (.map #[] 0)).cell? ⟨gb, 0, none⟩ = some (vi M.B) := (((HX9.out.alloc _).alloc _).alloc _).cell 0
      go_upto_region 27 with fail
      have HALL := Lib.hid (beg_all w9 M.B (by omega) #[ptr k, (.pointer none : Value), vi reserve, vi bw, .slice none 0 0, .map (some w9.heap.size), .map (some (w9.heap.size + 1)), .map (some (w9.heap.size + 1 + 1)), vq 1, vq 1, .slice (some ⟨w9.heap.size + 1 + 1 + 1, 0, none⟩) M.B M.B, .bool false])
      change Code.wp _ _ _ _ (begW w9 M.B #[ptr k, (.pointer none : Value), vi reserve, vi bw, .slice none 0 0, .map (some w9.heap.size), .map (some (w9.heap.size + 1)), .map (some (w9.heap.size + 1 + 1)), vq 1, vq 1, .slice (some ⟨w9.heap.size + 1 + 1 + 1, 0, none⟩) M.B M.B, .bool false])
      clear g0 hmk hmm
      generalize begW w9 M.B #[ptr k, (.pointer none : Value), vi reserve, vi bw, .slice none 0 0, .map (some w9.heap.size), .map (some (w9.heap.size + 1)), .map (some (w9.heap.size + 1 + 1)), vq 1, vq 1, .slice (some ⟨w9.heap.size + 1 + 1 + 1, 0, none⟩) M.B M.B, .bool false] = w10 at *
      have HB10 := Lib.hid HALL.out.1
      have HG10 := Lib.hid (HG9.out.old HB10.out)
      have HX10 := Lib.hid (HX9.out.old HB10.out)
      have HA10 := Lib.hid ((bo_arr HA9.out (by simp)).old HB10.out)
      rw [Nat.sub_self, List.replicate_zero, List.append_nil] at HA10
      have HSZ9 := Lib.hid HG9.out.size
      clear HG9 HX9 HA9
      generalize w9.heap.size = b9 at *
      have hmi := make_ints M.B (by omega)
      have g0 : w10.cell? ⟨gb, 0, none⟩ = some (vi M.B) := HX10.out.cell 0
      have HB11 : Hid (Below w10.heap.size w10 (w10.alloc (.cells (madeCells #[vi 0] M.B) 3))) := Lib.hid ((Below.refl _ _).alloc (Nat.le_refl _) _)
      have HOP := Lib.hid (mgr.Open_any (HG10.out.at_.old HB11.out) HOK.out (Nat.le_trans hbase (Nat.le_trans HG10.out.size HB11.out.size)) _ _ M.B (HA10.out.old HB11.out) _ _ M.B (int_zeros w10 M.B) reserve bw)
      have HOE : Hid (openG Mj.view (List.replicate M.B true) (List.replicate M.B 0) reserve bw = (0, some g)) := Lib.hid (by rw [HVW.out]; exact HO.out)
      rw [HOE.out, List.length_replicate, List.length_replicate] at HOP
      go_wp2_with fail
      refine HOP.out.mono ?_
      rintro e w12 ⟨hb12, m, G, rfl, hheld, hGk, hGv, hGf⟩
      have HB12 := Lib.hid (HB11.out.trans (hb12.mono HB11.out.size))
      have HF12 := Lib.hid (HALL.out.2.2.2.2.2.old HB12.out)
      have HFT := Lib.hid (FtAt.made (B := M.B) (reserve := reserve) (bad := bw) hheld (by rw [hGk]; exact HF12.out) (HALL.out.2.1.old HB12.out) (HALL.out.2.2.1.old HB12.out) (HALL.out.2.2.2.1.old HB12.out) (HALL.out.2.2.2.2.1.old HB12.out)
        (by have := HSZ9.out; omega) (by omega))
      have HQ13 : Hid (Chg (M.foot k) w' (w12.setCell ⟨b9 + 1 + 1 + 1 + 1, 1, none⟩ (ptr m))) := Lib.hid ((HG10.out.chg.below HB12.out).setCell (p := ⟨b9 + 1 + 1 + 1 + 1, 1, none⟩) (.inr (by have := HSZ9.out; dsimp only; omega)) _)
      have HFO : Hid (∀ n, ({ m := m, G := G, M := Mj, reserve := reserve, bad := bw, ta := none, tx := [], tc := 0, bs := b9, bn := b9 + 1, bg := b9 + 1 + 1, S := [], N := [], D := [], seq := 1, epoch := 1, lg := b9 + 1 + 1 + 1, lc := M.B, later := List.replicate M.B false, over := false } : FtM).foot (b9 + 1 + 1 + 1 + 1) n → M.foot k n ∨ w'.heap.size ≤ n) := Lib.hid (by
        intro n e
        have h9 := HSZ9.out
        have h10 := HG10.out.size
        have h11 := HB11.out.size
        rcases e with e | e | e | e | e | e
        · exact .inr (by omega)
        · exact .inr (by dsimp only at e; omega)
        · exact .inr (by dsimp only at e; omega)
        · exact .inr (by dsimp only at e; omega)
        · exact .inr (by dsimp only at e; omega)
        · rcases e with e | e
          · exact .inr (by have := hGf n e; omega)
          · rw [hGk] at e; exact HG10.out.foot n e)
      have HXV : Hid (({ m := m, G := G, M := Mj, reserve := reserve, bad := bw, ta := none, tx := [], tc := 0, bs := b9, bn := b9 + 1, bg := b9 + 1 + 1, S := [], N := [], D := [], seq := 1, epoch := 1, lg := b9 + 1 + 1 + 1, lc := M.B, later := List.replicate M.B false, over := false } : FtM).view = FP.begun M.view g reserve) := Lib.hid (by
        show FP.Ft.mk Mj.view G.view reserve bw [] [] [] [] 1 1 (List.replicate M.B false) false = _
        rw [HVW.out, hGv, ← HBW.out]
        rfl)
      have HKY := Lib.hid hGk
      have c1 : w12.cell? ⟨b9 + 1 + 1 + 1 + 1, 1, none⟩ = some (.pointer none) := HF12.out.cell 1
      have f1 := HF12.out.frozen 1
      clear hb12 hheld hGk hGv hGf HOP HOE HALL HF12 HX10 HA10 g0 hmi
      go_upto_region 28 with fail
      change Code.wp _ _ _ _ (w12.setCell ⟨b9 + 1 + 1 + 1 + 1, 1, none⟩ (ptr m))
      clear c1 f1
      generalize w12.setCell ⟨b9 + 1 + 1 + 1 + 1, 1, none⟩ (ptr m) = w13 at *
      generalize hX0 : ({ m := m, G := G, M := Mj, reserve := reserve, bad := bw, ta := none, tx := [], tc := 0, bs := b9, bn := b9 + 1, bg := b9 + 1 + 1, S := [], N := [], D := [], seq := 1, epoch := 1, lg := b9 + 1 + 1 + 1, lc := M.B, later := List.replicate M.B false, over := false } : FtM) = X0 at *
      have HKY : Hid (X0.G.k = k) := Lib.hid (by rw [← hX0]; exact HKY.out)
      clear hX0
      generalize b9 + 1 + 1 + 1 + 1 = f at *
      have HXF : Hid X0.Fit := Lib.hid (by
        have h1 := HWD.out
        have h2 := HBW.out
        have := begun_fit HGW.out (g := g) (reserve := reserve) (by rw [h2]; exact HO.out) HRES.out (by rw [h2]; omega)
        show Fit X0.view
        rw [HXV.out]; exact this)
      have HSR := Lib.hid (HR.out.chg' HQ13.out (fun n e => (H.out.mine n e).loose))
      have HSQ := Lib.hid (Seal_quiet HFT.out HXF.out (Nat.le_trans hbase HQ13.out.size) a text c HSR.out (by have := HLEN.out; have h2 := HDIM.out; have h3 : M.view.S = M.S := rfl; omega) (0, F) (by rw [HXV.out]; exact HS.out))
      go_wp2_with fail
      refine HSQ.out.mono ?_
      rintro e w14 ⟨X', rfl, hg14, hv14⟩
      have HNEW : Hid (FtNew base w' k M w14 f X') := Lib.hid ⟨hg14.at_, hg14.key.1.trans HKY.out, HQ13.out.trans hg14.chg (fun n hn e => by
        rcases HFO.out n e with h | h
        · exact h
        · omega), fun n e => by
        rcases hg14.foot n e with h | h
        · exact HFO.out n h
        · exact .inr (Nat.le_trans HQ13.out.size h)⟩
      clear hg14
      go_wp2_with fail
      go_ret2
      exact ⟨f, X', rfl, HNEW.out, hv14⟩
end
end Go.Proofs.YtnfhlocflpdlcaaGreat.ft

