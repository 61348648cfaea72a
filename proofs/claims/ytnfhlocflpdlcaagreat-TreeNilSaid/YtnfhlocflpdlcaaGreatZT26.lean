/-
  Lemmas for a law's proof, put together from several texts: each part says what it shows, and its conditions.
-/
import Derived.Test.YtnfhlocflpdlcaaGreatZT25
/-
  What a translation tells without a change: its capacity, what is used, whether it is shut, its text, a page's error, where a page is. Conditions: a translation told by FtAt, of moderate numbers.
-/
namespace Go.Proofs.YtnfhlocflpdlcaaGreat.ft
open Go.RowKit Go.Proofs.YtnfhlocflpdlcaaGreat.mgr

theorem low_len : ∀ (m : Mp FP.Plc) (a b : Int), a ≤ b → m.Pairwise (fun x y => x.1 < y.1) → (∀ x ∈ m, a ≤ x.1 ∧ x.1 < b) → (m.length : Int) ≤ b - a
  | [], a, b, h, _, _ => by simp; omega
  | x :: m, a, b, h, hp, hb => by
    obtain ⟨h1, h2⟩ := List.pairwise_cons.1 hp
    have hx := hb x (by simp)
    have := low_len m (x.1 + 1) b (by omega) h2 (fun y hy => ⟨by have := h1 y hy; omega, (hb y (List.mem_cons_of_mem _ hy)).2⟩)
    simp only [List.length_cons]
    omega
/-- The keys are pages' numbers. -/
def Low (m : Mp FP.Plc) : Prop := MP.Ok m ∧ ∀ x ∈ m, 0 ≤ x.1 ∧ x.1 < 8192
theorem Low.len {m : Mp FP.Plc} (h : Low m) : m.length ≤ 8192 := by have := low_len m 0 8192 (by decide) h.1 h.2; omega
theorem Low.put {m : Mp FP.Plc} (h : Low m) {k : Int} (hk : 0 ≤ k ∧ k < 8192) (v : FP.Plc) : Low (MP.put m k v) := ⟨MP.put_ok h.1 _ _, fun x hx => by
  rcases MP.mem_put hx with rfl | hx
  · exact hk
  · exact h.2 x hx⟩
theorem Low.del {m : Mp FP.Plc} (h : Low m) (k : Int) : Low (MP.del m k) := ⟨MP.del_ok h.1 _, fun x hx => h.2 x ((MP.del_sub m k).subset hx)⟩
theorem Low.nil : Low [] := ⟨MP.ok_nil, by simp⟩
/-- The numbers of a translation are moderate, its chip and manager right. -/
structure Fit (F : FP.Ft) : Prop where
  good : Good6 F.c
  gok : F.g.ok F.c
  res : 0 ≤ F.reserve ∧ F.reserve ≤ 65535 ∧ 0 ≤ F.bad ∧ F.bad ≤ 65535
  gres : 0 ≤ F.g.reserve ∧ F.g.reserve ≤ 65535 ∧ 0 ≤ F.g.bad ∧ F.g.bad ≤ 65535
  slow : Low F.sld
  nlow : Low F.now
  dlow : Low F.gone
  llen : F.later.length = F.c.B
  tlen : F.text.length ≤ 1000
def FtM.Fit (X : FtM) : Prop := ft.Fit X.view
theorem FtM.Fit.good {X : FtM} (h : X.Fit) : Good6 X.M.view := ft.Fit.good h
theorem FtM.Fit.gok {X : FtM} (h : X.Fit) : X.G.view.ok X.M.view := ft.Fit.gok h
theorem FtM.Fit.res {X : FtM} (h : X.Fit) : 0 ≤ X.reserve ∧ X.reserve ≤ 65535 ∧ 0 ≤ X.bad ∧ X.bad ≤ 65535 := ft.Fit.res h
theorem FtM.Fit.gres {X : FtM} (h : X.Fit) : 0 ≤ X.G.reserve ∧ X.G.reserve ≤ 65535 ∧ 0 ≤ X.G.bad ∧ X.G.bad ≤ 65535 := ft.Fit.gres h
theorem FtM.Fit.slen {X : FtM} (h : X.Fit) : X.S.length ≤ 100000 := Nat.le_trans (ft.Fit.slow h).len (by decide)
theorem FtM.Fit.nlen {X : FtM} (h : X.Fit) : X.N.length ≤ 100000 := Nat.le_trans (ft.Fit.nlow h).len (by decide)
theorem FtM.Fit.dlen {X : FtM} (h : X.Fit) : X.D.length ≤ 100000 := Nat.le_trans (ft.Fit.dlow h).len (by decide)
theorem FtM.Fit.llen {X : FtM} (h : X.Fit) : X.later.length = X.M.B := ft.Fit.llen h
theorem FtM.Fit.tlen {X : FtM} (h : X.Fit) : X.tx.length ≤ 1000 := ft.Fit.tlen h
theorem FtM.Fit.dims {X : FtM} (h : X.Fit) : 8 ≤ X.M.B ∧ X.M.B ≤ 128 ∧ 4 ≤ X.M.P ∧ X.M.P ≤ 32 ∧ 64 ≤ X.M.S := ok_dims h.good.ok
theorem FtM.Fit.size {X : FtM} (h : X.Fit) : X.M.S ≤ 512 := by
  have h1 := h.good.ok.right
  have h2 : NP.rightB X.M.B X.M.P X.M.S = true := h1
  unfold NP.rightB at h2
  simp only [Bool.and_eq_true, Bool.or_eq_true, beq_iff_eq, decide_eq_true_eq] at h2
  omega
theorem FtM.Fit.glen {X : FtM} (h : X.Fit) : X.G.l.length = X.M.B := h.gok.len
theorem geo_f0 (x y z : Int) (w : World) : (Instr.field 122 (.agg #[vi x, vi y, vi z]) 0).run Tryz.prog w = .ok (vi x) w := by kernel_rfl
theorem geo_f1 (x y z : Int) (w : World) : (Instr.field 122 (.agg #[vi x, vi y, vi z]) 1).run Tryz.prog w = .ok (vi y) w := by kernel_rfl
theorem geo_f2 (x y z : Int) (w : World) : (Instr.field 122 (.agg #[vi x, vi y, vi z]) 2).run Tryz.prog w = .ok (vi z) w := by kernel_rfl
theorem zero_plc (w : World) : (zeroValue 197).run Tryz.prog w = .ok (.agg #[vi 0, vi 0]) w := by kernel_rfl

section
variable {base : Nat} {w : World} {f : Nat} {X : FtM}
set_option maxRecDepth 100000 in
theorem size_any (h : FtAt base w f X) : Calls Tryz.prog 159 #[ptr f] w fun e w' => e = .returned (vi X.M.S) ∧ Below w.heap.size w w' := by
  obtain ⟨c0, c1, c2, c3, c4, c5, c6, c7, c8, c9, c10, c11⟩ := h.cells
  have H := Lib.hid h
  clear h c1 c2 c3 c4 c5 c6 c7 c8 c9 c10 c11
  go_enter Tryz.func159, Tryz.ntmps159
  go_wp2_with fail
  refine (Geo_any H.out.held.chip).mono ?_
  rintro e w' ⟨rfl, hb⟩
  have HB := Lib.hid hb
  have hf := geo_f2
  clear hb c0
  go_wp2_with fail
  go_ret
  exact ⟨rfl, HB.out⟩
set_option maxRecDepth 100000 in
theorem dataBlocks_any (B P S reserve bad : Int) (w : World) (h : 0 ≤ B ∧ B ≤ 1000 ∧ 0 ≤ reserve ∧ reserve ≤ 70000 ∧ 0 ≤ bad ∧ bad ≤ 70000) : Calls Tryz.prog 111 #[.agg #[vi B, vi P, vi S], vi reserve, vi bad] w fun e w' => e = .returned (vi (B - bad - reserve - 1)) ∧ Below w.heap.size w w' := by
  have HB : Hid (Below w.heap.size w (w.alloc (.cells #[vi B, vi P, vi S] 122))) := Lib.hid ((Below.refl _ _).alloc (Nat.le_refl _) _)
  have q1 : IntKind.i64.wrap (B - bad) = B - bad := IntWalk.i64_in _ (by omega)
  have q2 : IntKind.i64.wrap (B - bad - reserve) = B - bad - reserve := IntWalk.i64_in _ (by omega)
  have q3 : IntKind.i64.wrap (B - bad - reserve - 1) = B - bad - reserve - 1 := IntWalk.i64_in _ (by omega)
  go_enter Tryz.func111, Tryz.ntmps111
  go_wp2_with fail
  go_ret
  exact ⟨rfl, HB.out⟩
set_option maxRecDepth 100000 in
set_option maxHeartbeats 1000000 in
theorem Capacity_any (h : FtAt base w f X) (hx : X.Fit) : Calls Tryz.prog 118 #[ptr f] w fun e w' => e = .returned (vi X.view.cap) ∧ Below w.heap.size w w' := by
  obtain ⟨c0, c1, c2, c3, c4, c5, c6, c7, c8, c9, c10, c11⟩ := h.cells
  have H := Lib.hid h
  have hd := hx.dims
  have hr := hx.res
  have HV : Hid (X.view.cap = ((X.M.B : Int) - X.bad - X.reserve - 1) * X.M.P - 2) := Lib.hid rfl
  have hm1 : ((X.M.B : Int) - X.bad - X.reserve - 1) * X.M.P ≤ 128 * 32 := by
    have h1 : ((X.M.B : Int) - X.bad - X.reserve - 1) ≤ 128 := by omega
    by_cases h0 : 0 ≤ ((X.M.B : Int) - X.bad - X.reserve - 1)
    · exact Int.mul_le_mul h1 (by omega) (by omega) (by omega)
    · have := Int.mul_nonpos_of_nonpos_of_nonneg (a := ((X.M.B : Int) - X.bad - X.reserve - 1)) (b := (X.M.P : Int)) (by omega) (by omega)
      omega
  have hm2 : -(200000 * 32) ≤ ((X.M.B : Int) - X.bad - X.reserve - 1) * X.M.P := by
    have h1 : -200000 ≤ ((X.M.B : Int) - X.bad - X.reserve - 1) := by omega
    have h2 : -200000 * (X.M.P : Int) ≤ ((X.M.B : Int) - X.bad - X.reserve - 1) * X.M.P := Int.mul_le_mul_of_nonneg_right h1 (by omega)
    omega
  have HDB : Hid (∀ n : Sub _, Calls Tryz.prog 111 #[.agg #[vi X.M.B, vi X.M.P, vi X.M.S], vi X.reserve, vi X.bad] n.w fun e w' => e = .returned (vi ((X.M.B : Int) - X.bad - X.reserve - 1)) ∧ Below n.w.heap.size n.w w') :=
    Lib.hid (fun n : Sub w => dataBlocks_any _ _ _ _ _ n.w (by omega))
  clear h c1 c4 c5 c6 c7 c8 c9 c10 c11 HDB
  go_enter Tryz.func118, Tryz.ntmps118
  go_wp2_with fail
  refine (Geo_any H.out.held.chip).mono ?_
  rintro e w1 ⟨rfl, hb⟩
  have HB := Lib.hid hb
  have c2 := cell_below c2 hb
  have c3 := cell_below c3 hb
  clear hb c0
  have HB2 : Hid (Below w.heap.size w (w1.alloc (.cells #[vi X.M.B, vi X.M.P, vi X.M.S] 122))) := Lib.hid (HB.out.alloc HB.out.size _)
  have FG := Blk.new w1 122 #[vi X.M.B, vi X.M.P, vi X.M.S]
  have c2 := cell_below c2 ((Below.refl _ _).alloc (Nat.le_refl _) (.cells #[vi X.M.B, vi X.M.P, vi X.M.S] 122))
  have c3 := cell_below c3 ((Below.refl _ _).alloc (Nat.le_refl _) (.cells #[vi X.M.B, vi X.M.P, vi X.M.S] 122))
  have g0 := FG.cell 0
  have g1 := FG.cell 1
  have g2 := FG.cell 2
  simp only [List.getElem?_toArray, List.getElem?_cons_zero, List.getElem?_cons_succ] at g0 g1 g2
  clear FG
  go_upto_region 4 with fail
  generalize w1.alloc (.cells #[vi X.M.B, vi X.M.P, vi X.M.S] 122) = w2 at *
  have HDB : Hid (∀ n : Sub w2, Calls Tryz.prog 111 #[.agg #[vi X.M.B, vi X.M.P, vi X.M.S], vi X.reserve, vi X.bad] n.w fun e w' => e = .returned (vi ((X.M.B : Int) - X.bad - X.reserve - 1)) ∧ Below n.w.heap.size n.w w') :=
    Lib.hid (fun n => dataBlocks_any _ _ _ _ _ n.w (by omega))
  generalize hdb : (X.M.B : Int) - X.bad - X.reserve - 1 = db at *
  have HDD := Lib.hid hdb
  have q1 : IntKind.i64.wrap (db * X.M.P) = db * X.M.P := IntWalk.i64_in _ (by omega)
  have q2 : IntKind.i64.wrap (db * X.M.P - 2) = db * X.M.P - 2 := IntWalk.i64_in _ (by omega)
  clear hdb
  have c2 := Sub.cell c2
  have c3 := Sub.cell c3
  have g0 := Sub.cell g0
  have g1 := Sub.cell g1
  have g2 := Sub.cell g2
  refine wp_region_sub (by kernel_rfl) (by kernel_rfl) ?_
  repeat (go_big_quiet_step (exact ext_of (HDB.out _)))
  refine wpQuiet_nil ?_
  rintro _ ⟨nq, rfl⟩
  have HBN := Lib.hid (HB2.out.trans (nq.below.mono HB2.out.size))
  go_wp2_with fail
  go_ret
  exact ⟨ret_int HV.out.symm, HBN.out⟩
set_option maxRecDepth 100000 in
set_option maxHeartbeats 1000000 in
theorem ReadOnly_any (h : FtAt base w f X) (hx : X.Fit) : Calls Tryz.prog 160 #[ptr f] w fun e w' => e = .returned (.bool X.view.shut) ∧ Below w.heap.size w w' := by
  obtain ⟨c0, c1, c2, c3, c4, c5, c6, c7, c8, c9, c10, c11⟩ := h.cells
  have H := Lib.hid h
  have hg := hx.gres
  have hcl := countL_le 4 X.G.l
  have hgl := hx.glen
  have hd := hx.dims
  have hw : wrap64 (X.G.reserve - wrap64 ((countL 4 X.G.l : Nat) - X.G.bad)) = FP.left X.G.view := by
    unfold FP.left wrap64
    dsimp only [MgM.view]
    omega
  have HW := Lib.hid hw
  have HV : Hid (X.view.shut = (X.over || decide (FP.left X.G.view < 0))) := Lib.hid rfl
  rw [HV.out]
  clear h c0 c2 c3 c4 c5 c6 c7 c8 c9 c10 hw hcl hgl hd hg HV
  go_enter Tryz.func160, Tryz.ntmps160
  generalize X.over = ov at *
  cases ov
  · go_wp2_with fail
    refine (Left_any H.out.held.mgr).mono ?_
    rw [HW.out]
    rintro e w1 ⟨rfl, hb⟩
    have HB := Lib.hid hb
    clear hb
    go_wp2_with fail
    go_ret
    exact ⟨by simp, HB.out⟩
  · go_wp2_with fail
    go_ret
    exact ⟨rfl, Below.refl _ _⟩
set_option maxRecDepth 100000 in
theorem ready_any (h : FtAt base w f X) : Calls Tryz.prog 158 #[ptr f] w fun e w' => e = .returned (vi X.view.ready) ∧ w' = w := by
  obtain ⟨c0, c1, c2, c3, c4, c5, c6, c7, c8, c9, c10, c11⟩ := h.cells
  have HU := Lib.hid (Up_any h.held.chip)
  have HV : Hid (X.view.ready = if X.M.down then 4 else 0) := Lib.hid rfl
  rw [HV.out]
  clear h c1 c2 c3 c4 c5 c6 c7 c8 c9 c10 c11 HV
  generalize X.M.down = dn at *
  cases dn
  · go_enter Tryz.func158, Tryz.ntmps158
    go_wp2_with fail
    refine HU.out.mono ?_
    rintro e w' ⟨rfl, rfl⟩
    go_wp2_with fail
    go_ret
    exact ⟨rfl, rfl⟩
  · go_enter Tryz.func158, Tryz.ntmps158
    go_wp2_with fail
    refine HU.out.mono ?_
    rintro e w' ⟨rfl, rfl⟩
    go_wp2_with fail
    go_ret
    exact ⟨rfl, rfl⟩
theorem ret_at {a b : Int} {w w' : World} (h : a = b) (hb : Below w.heap.size w w') : Ending.returned (vi a) = .returned (vi b) ∧ Below w.heap.size w w' := ⟨by rw [h], hb⟩
set_option maxRecDepth 100000 in
set_option maxHeartbeats 1000000 in
theorem logical_any (h : FtAt base w f X) (hx : X.Fit) (page : Nat) (hp : page < 4294967296) : Calls Tryz.prog 124 #[ptr f, vw page] w fun e w' => e = .returned (vi (X.view.logical page)) ∧ Below w.heap.size w w' := by
  have HRD := Lib.hid (ready_any h)
  have HCP := Lib.hid (Capacity_any h hx)
  have HV : Hid (X.view.logical page = if X.M.down then 4 else if page = 0 ∨ X.view.cap ≤ page then 1 else 0) := Lib.hid rfl
  have HR : Hid (X.view.ready = if X.M.down then 4 else 0) := Lib.hid rfl
  rw [HV.out]
  rw [HR.out] at HRD
  clear h hx HV HR
  generalize X.M.down = dn at *
  generalize X.view.cap = cp at *
  cases dn
  · by_cases h0 : page = 0
    · subst h0
      go_enter Tryz.func124, Tryz.ntmps124
      go_wp2_with fail
      refine HRD.out.mono ?_
      rintro e w' ⟨rfl, rfl⟩
      go_wp2_with fail
      go_ret
      exact ret_at (by simp) (Below.refl _ _)
    · have h0' : ((page : Int) == 0) = false := by simp; omega
      by_cases hc : cp ≤ page
      · have HT : Hid ((if page = 0 ∨ cp ≤ page then 1 else 0 : Int) = 1) := Lib.hid (if_pos (.inr hc))
        have hi : (if (false = true) then 4 else if page = 0 ∨ cp ≤ page then 1 else 0 : Int) = 1 := by rw [HT.out]; rfl
        rw [hi]
        clear hi HT
        go_enter Tryz.func124, Tryz.ntmps124
        go_wp2_with fail
        refine HRD.out.mono ?_
        rintro e w' ⟨rfl, rfl⟩
        go_wp2_with fail
        refine HCP.out.mono ?_
        rintro e w1 ⟨rfl, hb⟩
        have HB := Lib.hid hb
        clear hb
        go_wp2_with fail
        go_ret
        exact ret_at rfl HB.out
      · have HT : Hid ((if page = 0 ∨ cp ≤ page then 1 else 0 : Int) = 0) := Lib.hid (if_neg (by omega))
        have hi : (if (false = true) then 4 else if page = 0 ∨ cp ≤ page then 1 else 0 : Int) = 0 := by rw [HT.out]; rfl
        rw [hi]
        clear hi HT
        go_enter Tryz.func124, Tryz.ntmps124
        go_wp2_with fail
        refine HRD.out.mono ?_
        rintro e w' ⟨rfl, rfl⟩
        go_wp2_with fail
        refine HCP.out.mono ?_
        rintro e w1 ⟨rfl, hb⟩
        have HB := Lib.hid hb
        clear hb
        go_wp2_with fail
        go_ret
        exact ret_at rfl HB.out
  · go_enter Tryz.func124, Tryz.ntmps124
    go_wp2_with fail
    refine HRD.out.mono ?_
    rintro e w' ⟨rfl, rfl⟩
    go_wp2_with fail
    go_ret
    exact ret_at rfl (Below.refl _ _)
set_option maxRecDepth 100000 in
theorem Text_any (h : FtAt base w f X) (hx : X.Fit) : Calls Tryz.prog 119 #[ptr f] w fun e w' => ∃ v, e = .returned v ∧ Own w' w.heap.size v X.tx ∧ Below w.heap.size w w' := by
  obtain ⟨c0, c1, c2, c3, c4, c5, c6, c7, c8, c9, c10, c11⟩ := h.cells
  have H := Lib.hid h
  have hl := hx.tlen
  clear h c0 c1 c2 c3 c5 c6 c7 c8 c9 c10 c11
  go_enter Tryz.func119, Tryz.ntmps119
  go_wp2_with fail
  refine (Clone_any X.ta X.tx X.tc w H.out.text.row (by omega)).mono ?_
  rintro e w' ⟨v, rfl, ho, hb⟩
  have HO := Lib.hid ho
  have HB := Lib.hid hb
  clear ho hb
  go_wp2_with fail
  go_ret
  exact ⟨_, rfl, HO.out, HB.out⟩
end
end Go.Proofs.YtnfhlocflpdlcaaGreat.ft

