/-
  Lemmas for a law's proof, put together from several texts: each part says what it shows, and its conditions.
-/
import Derived.Test.YtjkaioonppmkjaaGreatZP39
/-
  A pool: which pages are handed out, a page handed out and taken back. Conditions: a pool told by PlAt, of moderate numbers.
-/
namespace Go.Proofs.YtjkaioonppmkjaaGreat.pl
open Go.RowKit Go.Proofs.YtjkaioonppmkjaaGreat.mgr Go.Proofs.YtjkaioonppmkjaaGreat.ft
section
variable {w : World} {q : Nat} {Y : PlM}
def PlM.given (Y : PlM) (n : Int) : Bool := decide (Y.F ≤ n) && decide (n - Y.F < Y.P)
def PlM.there (Y : PlM) (n : Int) : Bool := (decide (1 ≤ n) && decide (n ≤ Y.T)) || MP.has Y.U n
set_option maxRecDepth 100000 in
theorem given_any (h : PlAt w q Y) (n : Int) (hb : -1000000 ≤ n ∧ n ≤ 1000000 ∧ -1000000 ≤ Y.F ∧ Y.F ≤ 1000000) : Calls Tryz.prog 76 #[ptr q, vi n] w fun e w' => e = .returned (.bool (Y.given n)) ∧ Below w.heap.size w w' := by
  have e2 : w.cell? ⟨q, 2, none⟩ = some (vi Y.F) := h.obj.cell 2
  have e3 : w.cell? ⟨q, 3, none⟩ = some (vi Y.P) := h.obj.cell 3
  have HG : Hid (Y.given n = (decide (Y.F ≤ n) && decide (n - Y.F < Y.P))) := Lib.hid rfl
  have w1 : IntKind.i64.wrap (n - Y.F) = n - Y.F := IntWalk.i64_in _ (by omega)
  clear h hb
  generalize Y.given n = gv at *
  have e2 := Sub.cell e2
  have e3 := Sub.cell e3
  go_enter Tryz.func76, Tryz.ntmps76
  by_cases hF : Y.F ≤ n
  · go_upto_region 1 with fail
    refine wp_region_sub (by kernel_rfl) (by kernel_rfl) ?_
    repeat (go_big_quiet_step (fail))
    refine wpQuiet_nil ?_
    rintro _ ⟨nq, rfl⟩
    have HB := Lib.hid nq.below
    go_wp2_with fail
    go_ret
    exact ⟨ret_bool (by rw [HG.out]; simp [hF]), HB.out⟩
  · go_upto_region 1 with fail
    refine wp_region_sub (by kernel_rfl) (by kernel_rfl) ?_
    repeat (go_big_quiet_step (fail))
    refine wpQuiet_nil ?_
    rintro _ ⟨nq, rfl⟩
    have HB := Lib.hid nq.below
    go_wp2_with fail
    go_ret
    exact ⟨ret_bool (by rw [HG.out]; simp; intros; omega), HB.out⟩
theorem there_any (h : PlAt w q Y) (n : Int) : Calls Tryz.prog 77 #[ptr q, vi n] w fun e w' => e = .returned (.bool (Y.there n)) ∧ w' = w := by
  have e1 : w.cell? ⟨q, 1, none⟩ = some (vi Y.T) := h.obj.cell 1
  have e6 : w.cell? ⟨q, 6, none⟩ = some (.map (some Y.bu)) := h.obj.cell 6
  have L := h.lookU n
  have HG : Hid (Y.there n = ((decide (1 ≤ n) && decide (n ≤ Y.T)) || MP.has Y.U n)) := Lib.hid rfl
  clear h
  generalize Y.there n = gv at *
  go_enter Tryz.func77, Tryz.ntmps77
  by_cases h1 : 1 ≤ n
  · by_cases h2 : n ≤ Y.T
    · go_wp2_with fail
      go_ret
      exact ⟨ret_bool (by rw [HG.out]; simp [h1, h2]), rfl⟩
    · go_wp2_with fail
      go_ret
      exact ⟨ret_bool (by rw [HG.out]; simp; intros; omega), rfl⟩
  · go_wp2_with fail
    go_ret
    exact ⟨ret_bool (by rw [HG.out]; simp; intros; omega), rfl⟩
theorem asked_any (h : PlAt w q Y) (n : Int) : Calls Tryz.prog 75 #[ptr q, vi n] w fun e w' => e = .returned (vi (if Y.there n then 0 else 1)) ∧ w' = w := by
  have H := Lib.hid (there_any h n)
  clear h
  generalize Y.there n = b at *
  go_enter Tryz.func75, Tryz.ntmps75
  go_wp2_with fail
  refine H.out.mono ?_
  rintro e w' ⟨rfl, rfl⟩
  cases b
  · go_wp2_with fail
    go_ret
    exact ⟨rfl, rfl⟩
  · go_wp2_with fail
    go_ret
    exact ⟨rfl, rfl⟩
theorem Dirty_any (h : PlAt w q Y) : Calls Tryz.prog 30 #[ptr q] w fun e w' => e = .returned (goInt Y.D.length) ∧ w' = w := by
  have e7 : w.cell? ⟨q, 7, none⟩ = some (.map (some Y.bd)) := h.obj.cell 7
  have l := h.dirty.len (P := Tryz.prog) Tryz.underlying133 3
  clear h
  go_enter Tryz.func30, Tryz.ntmps30
  go_wp2_with fail
  go_ret
  exact ⟨rfl, rfl⟩
theorem Room_any (h : PlAt w q Y) (n : Int) (hn : Y.P - Y.U.length = n) (hb : 0 ≤ Y.P ∧ Y.P ≤ 1000000 ∧ Y.U.length ≤ 1000000) : Calls Tryz.prog 31 #[ptr q] w fun e w' => e = .returned (vi n) ∧ Below w.heap.size w w' := by
  have e3 : w.cell? ⟨q, 3, none⟩ = some (vi Y.P) := h.obj.cell 3
  have e6 : w.cell? ⟨q, 6, none⟩ = some (.map (some Y.bu)) := h.obj.cell 6
  have l : ∀ n : Sub w, (Builtin.len_ #[132] 3 #[.map (some Y.bu)]).run Tryz.prog n.w = .ok (goInt Y.U.length) n.w := fun n => (h.used.old n.below).len Tryz.underlying132 _
  have w1 : IntKind.i64.wrap (Y.P - Y.U.length) = n := by rw [hn]; exact IntWalk.i64_in _ (by omega)
  clear h hn hb
  have e3 := Sub.cell e3
  have e6 := Sub.cell e6
  go_enter Tryz.func31, Tryz.ntmps31
  go_upto_region 3 with fail
  refine wp_region_sub (by kernel_rfl) (by kernel_rfl) ?_
  repeat (go_big_quiet_step (fail))
  refine wpQuiet_nil ?_
  rintro _ ⟨nq, rfl⟩
  have HB := Lib.hid nq.below
  go_wp2_with fail
  go_ret
  exact ⟨rfl, HB.out⟩
set_option maxRecDepth 100000 in
set_option maxHeartbeats 1000000 in
/-- The first page is handed out. -/
theorem Alloc_first (h : PlAt w q Y) (hb : 0 ≤ Y.F ∧ Y.F ≤ 1000000) (hg : Y.given Y.F = true) (ht : Y.there Y.F = false) (s : Nat) (hs : Y.sz = s) (hsl : s ≤ 1000000) : Calls Tryz.prog 24 #[ptr q] w fun e w' =>
    ∃ g, e = .returned (.tuple #[vi Y.F, vi 0]) ∧ PlAt w' q { Y with U := MP.put Y.U Y.F Y.F, D := MP.put Y.D Y.F (.slice (some ⟨g, 0, none⟩) s s) } ∧ Chg (fun n => n = Y.bu ∨ n = Y.bd) w w' := by
  have e2 : w.cell? ⟨q, 2, none⟩ = some (vi Y.F) := h.obj.cell 2
  have H := Lib.hid h
  have HG := Lib.hid (given_any h Y.F (by omega))
  rw [hg] at HG
  have HSZ := Lib.hid hs
  have HT := Lib.hid ht
  have hmk := make_bytes s hsl
  clear h hg ht hs
  go_enter Tryz.func24, Tryz.ntmps24
  go_wp2_with fail
  clear e2
  go_loopw [4] (fun v wr => v = vi Y.F ∧ wr = w) (fun _ _ => 0)
  case atStart => exact ⟨rfl, rfl⟩
  case round =>
    obtain ⟨rfl, rfl⟩ := hrel
    go_wp2_with fail
    refine HG.out.mono ?_
    rintro e w1 ⟨rfl, hb1⟩
    have HB1 := Lib.hid hb1
    have H1 := Lib.hid (H.out.old hb1)
    have HTH := Lib.hid (there_any H1.out Y.F)
    rw [HT.out] at HTH
    clear hb1
    go_wp2_with fail
    refine HTH.out.mono ?_
    rintro e w2 ⟨rfl, rfl⟩
    obtain ⟨w3, hu, h3, hg3⟩ := H1.out.putU Y.F Y.F
    have HU := Lib.hid hu
    have H3 := Lib.hid h3
    have HC3 : Hid (Chg (fun n => n = Y.bu ∨ n = Y.bd) wr w3) := Lib.hid ((Chg.of_below HB1.out).grown hg3 (fun k e => by cases e; exact .inl (.inl rfl)))
    have e6 : w2.cell? ⟨q, 6, none⟩ = some (.map (some Y.bu)) := H1.out.obj.cell 6
    clear hu h3 hg3
    go_upto_region 7 with fail
    go_wp2_with (at_mapUpdate; refine wpList_mapUpdate_run rfl (.tmp 24) (.tmp 25) (.tmp 26) rfl rfl rfl rfl HU.out.run ?_)
    clear e6 HU HTH HG
    go_frame
    have d7 : w3.cell? ⟨q, 7, none⟩ = some (.map (some Y.bd)) := H3.out.obj.cell 7
    have d5 : w3.cell? ⟨q, 5, none⟩ = some (.int .i64 (s : Int)) := by
      have h := H3.out.obj.cell 5
      change w3.cell? ⟨q, 5, none⟩ = some (vi Y.sz) at h
      rwa [HSZ.out] at h
    have hb4 : Below w3.heap.size w3 (w3.drew.alloc (.cells (madeCells #[vb 0] s) 5)) := (Below.refl _ _).drew.alloc (Nat.le_refl _) _
    obtain ⟨w5, hu5, h5, hg5⟩ := (H3.out.old hb4).putD Y.F (.slice (some ⟨w3.heap.size, 0, none⟩) s s)
    have hup : (Instr.mapUpdate 133 (.map (some Y.bd)) (vi Y.F) (.slice (some ⟨w3.heap.size, 0, none⟩) s s)).run Tryz.prog ((w3.alloc (.cells (madeCells #[vb 0] s) 5)).drew) = .ok () w5 := hu5.run
    have H5 := Lib.hid h5
    have HC5 : Hid (Chg (fun n => n = Y.bu ∨ n = Y.bd) wr w5) := Lib.hid ((HC3.out.below hb4).grown hg5 (fun k e => by cases e; exact .inl (.inr rfl)))
    have HS1 : Hid (w3.drew.cell? ⟨q, 7, none⟩ = some (.map (some Y.bd)) ∧ w3.drew.cell? ⟨q, 5, none⟩ = some (.int .i64 (s : Int))) := Lib.hid ⟨d7, d5⟩
    have HS2 : Hid (((w3.alloc (.cells (madeCells #[vb 0] s) 5)).drew).cell? ⟨q, 7, none⟩ = some (.map (some Y.bd)) ∧ ((w3.alloc (.cells (madeCells #[vb 0] s) 5)).drew).cell? ⟨q, 5, none⟩ = some (.int .i64 (s : Int))) := Lib.hid ⟨cell_below d7 hb4, cell_below d5 hb4⟩
    have HS3 : Hid (w5.cell? ⟨q, 7, none⟩ = some (.map (some Y.bd)) ∧ w5.cell? ⟨q, 5, none⟩ = some (.int .i64 (s : Int))) := Lib.hid ⟨h5.obj.cell 7, by
      have h := h5.obj.cell 5
      change w5.cell? ⟨q, 5, none⟩ = some (vi Y.sz) at h
      rwa [HSZ.out] at h⟩
    clear hu5 h5 hg5 hb4 HC3 H3
    go_region_held3 (fun W => W.cell? ⟨q, 7, none⟩ = some (.map (some Y.bd)) ∧ W.cell? ⟨q, 5, none⟩ = some (.int .i64 (s : Int)))
      (first | exact HS1.out | exact HS2.out | exact HS3.out)
      (fail)
    go_wp2_with fail
    go_ret2
    exact ⟨rfl, ⟨_, H5.out⟩, HC5.out⟩
set_option maxRecDepth 100000 in
/-- A page is taken back. -/
theorem Free_any (h : PlAt w q Y) (n : Int) (hb : -1000000 ≤ n ∧ n ≤ 1000000 ∧ -1000000 ≤ Y.F ∧ Y.F ≤ 1000000) (hg : Y.given n = true) (ht : Y.there n = true) : Calls Tryz.prog 28 #[ptr q, vi n] w fun e w' =>
    e = .returned (vi 0) ∧ PlAt w' q { Y with U := MP.del Y.U n, D := MP.del Y.D n } ∧ Chg (fun n => n = Y.bu ∨ n = Y.bd) w w' := by
  have H := Lib.hid h
  have HG := Lib.hid (given_any h n hb)
  rw [hg] at HG
  have HA := Lib.hid (asked_any h n)
  rw [ht] at HA
  clear h hg ht hb
  go_enter Tryz.func28, Tryz.ntmps28
  go_wp2_with fail
  refine HA.out.mono ?_
  rintro e w' ⟨rfl, rfl⟩
  go_wp2_with fail
  refine HG.out.mono ?_
  rintro e w1 ⟨rfl, hb1⟩
  have HB1 := Lib.hid hb1
  have H1 := Lib.hid (H.out.old hb1)
  clear hb1
  obtain ⟨w2, hu, h2, hg2⟩ := H1.out.delU n
  have HU := Lib.hid hu
  have H2 := Lib.hid h2
  have HC2 : Hid (Chg (fun n => n = Y.bu ∨ n = Y.bd) w' w2) := Lib.hid ((Chg.of_below HB1.out).grown hg2 (fun k e => by cases e; exact .inl (.inl rfl)))
  have e6 : w1.cell? ⟨q, 6, none⟩ = some (.map (some Y.bu)) := H1.out.obj.cell 6
  clear hu h2 hg2
  obtain ⟨w3, hu, h3, hg3⟩ := H2.out.delD n
  have HU2 := Lib.hid hu
  have H3 := Lib.hid h3
  have HC3 : Hid (Chg (fun n => n = Y.bu ∨ n = Y.bd) w' w3) := Lib.hid (HC2.out.grown hg3 (fun k e => by cases e; exact .inl (.inr rfl)))
  have e7 : w2.cell? ⟨q, 7, none⟩ = some (.map (some Y.bd)) := H2.out.obj.cell 7
  clear hu h3 hg3
  go_wp2_with (at_delete; first | (refine wpList_delete_run rfl (.tmp 19) (.tmp 20) rfl rfl rfl (HU.out.run _) ?_) | (refine wpList_delete_run rfl (.tmp 24) (.tmp 25) rfl rfl rfl (HU2.out.run _) ?_))
  go_ret
  exact ⟨rfl, H3.out, HC3.out⟩
theorem Get_no (h : PlAt w q Y) (n : Int) (ht : Y.there n = false) : Calls Tryz.prog 23 #[ptr q, vi n] w fun e w' => e = .returned (.tuple #[.slice none 0 0, vi 1]) ∧ w' = w := by
  have HA := Lib.hid (asked_any h n)
  rw [ht] at HA
  clear h ht
  go_enter Tryz.func23, Tryz.ntmps23
  go_wp2_with fail
  refine HA.out.mono ?_
  rintro e w' ⟨rfl, rfl⟩
  go_wp2_with fail
  go_ret2
  exact ⟨rfl, rfl⟩
def GetZ (base : Nat) (w : World) (q : Nat) (Y : PlM) (X : FtM) (s : Nat) (e : Ending) (w' : World) : Prop :=
  ∃ g X', e = .returned (.tuple #[.slice (some ⟨g, 0, none⟩) s s, vi 0]) ∧ BRow w' (some ⟨g, 0, none⟩) (List.replicate s 0) ∧ FGoes base w Y.f X w' X' ∧ X'.view = X.view ∧ PlAt w' q Y
set_option maxRecDepth 100000 in
/-- A page that was never written. -/
theorem Get_zero {base : Nat} {X : FtM} (h : PlAt w q Y) (hF : FtAt base w Y.f X) (hx : X.Fit) (hdis : ∀ n, Y.foot q n → ¬ X.foot Y.f n) (m : Nat) (hm : m < 4294967296) (ht : Y.there m = true) (hd : MP.has Y.D m = false) (s : Nat) (hs : Y.sz = s) (hsl : s ≤ 1000000)
    (hr : X.view.read m = (([], 60), X.view)) : Calls Tryz.prog 23 #[ptr q, vi m] w (GetZ base w q Y X s) := by
  have HA := Lib.hid (asked_any h m)
  rw [ht] at HA
  have e7 : w.cell? ⟨q, 7, none⟩ = some (.map (some Y.bd)) := h.obj.cell 7
  have e0 : w.cell? ⟨q, 0, none⟩ = some (ptr Y.f) := h.obj.cell 0
  have L := h.lookD m
  rw [hd] at L
  have HRD := Lib.hid (ft.Read_any hF hx m hm)
  rw [hr] at HRD
  have H := Lib.hid h
  have HDIS := Lib.hid hdis
  have HSZ := Lib.hid hs
  have hmk := make_bytes s hsl
  have w1 : IntKind.u32.wrap (m : Int) = m := by simp only [IntKind.wrap, IntKind.bits, IntKind.signed]; simp; omega
  clear h hF ht hd hr hdis hs
  generalize ((MP.get Y.D m).map fun v => v).getD (.slice none 0 0) = v0 at *
  go_enter Tryz.func23, Tryz.ntmps23
  go_wp2_with fail
  refine HA.out.mono ?_
  rintro e w' ⟨rfl, rfl⟩
  go_wp2_with fail
  refine HRD.out.mono ?_
  rintro e w2 ⟨va, X', rfl, _, hrd, hv⟩
  have HG := Lib.hid hrd.goes
  have HV := Lib.hid hv
  have H2 := Lib.hid (H.out.chg hrd.goes.chg HDIS.out)
  have d5 : w2.cell? ⟨q, 5, none⟩ = some (.int .i64 (s : Int)) := by
    have h := H2.out.obj.cell 5
    change w2.cell? ⟨q, 5, none⟩ = some (vi Y.sz) at h
    rwa [HSZ.out] at h
  clear hrd hv e7 e0 L
  go_wp2_with fail
  go_ret2
  have hb : Below w2.heap.size w2 (w2.alloc (.cells (madeCells #[vb 0] s) 5)) := (Below.refl _ _).alloc (Nat.le_refl _) _
  exact ⟨w2.heap.size, X', rfl, (zero_row (base := 0) w2 s).row, HG.out.old hb, HV.out, H2.out.old hb⟩
end
end Go.Proofs.YtjkaioonppmkjaaGreat.pl

/-
  A pool is opened on a translation, of which nothing is used yet. Conditions: a translation told by FtAt, a right layout.
-/
namespace Go.Proofs.YtjkaioonppmkjaaGreat.pl
open Go.RowKit Go.Proofs.YtjkaioonppmkjaaGreat.mgr Go.Proofs.YtjkaioonppmkjaaGreat.ft
section
variable {base : Nat} {w : World} {f : Nat} {X : FtM}
theorem made2 {α : Type} (w : World) (K : IntKind) (enc : α → Value) : MpAt ((w.alloc (.map #[] 0)).alloc (.map #[] 0)) (w.heap.size + 1) K enc [] := by
  have := MpAt.made (w.alloc (.map #[] 0)) K enc
  rwa [size_alloc] at this
theorem pl_made (W : World) (g f : Nat) (T F P I s : Int) (bu bd : Nat) (hg : g = W.heap.size) (hu : MpAt W bu .i64 encI []) (hd : MpAt W bd .i64 (fun v : Value => v) []) (ne : bu ≠ bd) :
    PlAt (W.alloc (.cells #[ptr f, vi T, vi F, vi P, vi I, vi s, .map (some bu), .map (some bd)] 135)) g ⟨f, T, F, P, I, s, bu, bd, [], []⟩ := by
  subst hg
  exact ⟨Blk.new _ _ _, hu.alloc _, hd.alloc _, ne⟩
theorem MpAt.drw {α : Type} {w : World} {b : Nat} {K : IntKind} {enc : α → Value} {m : Mp α} (h : MpAt w b K enc m) : MpAt w.drew b K enc m := h.of_heap rfl
def OpPost (w : World) (f : Nat) (T F P I s : Int) (e : Ending) (w' : World) : Prop :=
  ∃ q bu bd, e = .returned (.tuple #[ptr q, vi 0]) ∧ PlAt w' q ⟨f, T, F, P, I, s, bu, bd, [], []⟩ ∧ (w.heap.size ≤ q ∧ w.heap.size ≤ bu ∧ w.heap.size ≤ bd) ∧ Below w.heap.size w w'
set_option maxRecDepth 100000 in
set_option maxHeartbeats 2000000 in
theorem Open_any (h : FtAt base w f X) (hx : X.Fit) (T F P I : Int) (hT : 1 ≤ T ∧ T ≤ 8192) (hF : F = T + 1) (hP : 1 ≤ P ∧ P ≤ X.view.cap - F) (hc : X.view.cap ≤ 100000) :
    Calls Tryz.prog 25 #[ptr f, .agg #[vi T, vi F, vi P, vi I], .slice none 0 0] w (OpPost w f T F P I (X.tx.length + 8)) := by
  have H := Lib.hid h
  have HX := Lib.hid hx
  have htl := hx.tlen
  have l1 : IntKind.i64.wrap (T + 1) = F := by rw [hF]; exact IntWalk.i64_in _ (by omega)
  have l2 : IntKind.i64.wrap (X.view.cap - F) = X.view.cap - F := IntWalk.i64_in _ (by omega)
  have l3 : IntKind.i64.wrap ((X.tx.length : Int) + 8) = (X.tx.length : Int) + 8 := IntWalk.i64_in _ (by omega)
  have q1 : ¬ T < 1 := by omega
  have q2 : ¬ P < 1 := by omega
  have q3 : (F != F) = false := by simp
  have q4 : ¬ 8192 < T := by omega
  have q5 : ¬ X.view.cap - F < P := by omega
  clear h hx hF
  go_enter Tryz.func25, Tryz.ntmps25
  go_upto_region 3 with fail
  have HB1 : Hid (Below w.heap.size w (w.alloc (.cells #[vi T, vi F, vi P, vi I] 53))) := Lib.hid ((Below.refl _ _).alloc (Nat.le_refl _) _)
  have G1 := Lib.hid (Blk.new w 53 #[vi T, vi F, vi P, vi I])
  change Code.wp _ _ _ _ (w.alloc (.cells #[vi T, vi F, vi P, vi I] 53))
  obtain ⟨gl, hgl⟩ : ∃ gl, gl = w.heap.size := ⟨_, rfl⟩
  rw [← hgl] at G1 ⊢
  clear hgl
  generalize w.alloc (.cells #[vi T, vi F, vi P, vi I] 53) = w1 at *
  have H1 := Lib.hid (H.out.old HB1.out)
  have HCP : Hid (∀ n : Sub w1, Calls Tryz.prog 20 #[ptr f] n.w fun e w' => e = .returned (vi X.view.cap) ∧ Below n.w.heap.size n.w w') := Lib.hid (fun n => Capacity_any (H1.out.old n.below) HX.out)
  have g0 : w1.cell? ⟨gl, 0, none⟩ = some (vi T) := G1.out.cell 0
  have g1 : w1.cell? ⟨gl, 1, none⟩ = some (vi F) := G1.out.cell 1
  have g2 : w1.cell? ⟨gl, 2, none⟩ = some (vi P) := G1.out.cell 2
  have g0 := Sub.cell g0
  have g1 := Sub.cell g1
  have g2 := Sub.cell g2
  generalize X.view.cap = cap at *
  refine wp_region_sub (by kernel_rfl) (by kernel_rfl) ?_
  repeat (go_big_quiet_step (exact ext_of (HCP.out _)))
  refine wpQuiet_nil ?_
  rintro _ ⟨nq, rfl⟩
  have HB3 := Lib.hid (HB1.out.trans (nq.below.mono HB1.out.size))
  have H3 := Lib.hid (H1.out.old nq.below)
  have G3 := Lib.hid (G1.out.old nq.below)
  clear g0 g1 g2 HCP G1 H1 HB1 q1 q2 q3 q4 q5 l1 l2
  generalize nq.w = w3 at *
  go_upto_region 5 with fail
  have hmm := @run_makeMap Tryz.prog
  have HK : Hid (∀ W : World, Below w3.heap.size w3 W → (W.cell? ⟨gl, 0, none⟩ = some (vi T) ∧ W.cell? ⟨gl, 1, none⟩ = some (vi F) ∧ W.cell? ⟨gl, 2, none⟩ = some (vi P) ∧ W.cell? ⟨gl, 3, none⟩ = some (vi I))) :=
    Lib.hid (fun W hb => ⟨(G3.out.old hb).cell 0, (G3.out.old hb).cell 1, (G3.out.old hb).cell 2, (G3.out.old hb).cell 3⟩)
  have HA1 : Hid (∀ (W : World) o, Below w3.heap.size w3 W → Below w3.heap.size w3 (W.alloc o)) := Lib.hid (fun W o h => h.alloc h.size o)
  have HA2 : Hid (∀ W : World, Below w3.heap.size w3 W → Below w3.heap.size w3 W.drew) := Lib.hid (fun W h => h.drew)
  have HA3 : Hid (∀ W W' : World, Below W.heap.size W W' → Below w3.heap.size w3 W → Below w3.heap.size w3 W') := Lib.hid (fun W W' q h => h.trans (q.mono h.size))
  have HA0 : Hid (Below w3.heap.size w3 w3) := Lib.hid (Below.refl _ _)
  have HSM : Hid (∀ y ∈ X.tx, y < 256) := Lib.hid H3.out.text.row.small
  have HTX : Hid (∀ W : World, Below w3.heap.size w3 W → Calls Tryz.prog 18 #[ptr f] W fun e w' => ∃ v, e = .returned v ∧ Own w' W.heap.size v X.tx ∧ Below W.heap.size W w') := Lib.hid (fun W hb => Text_any (H3.out.old hb) HX.out)
  go_cut [8] from 46 to 55 (fun v8 wx => ∃ q bu bd, v8 = ptr q ∧ Hid (PlAt wx q ⟨f, T, F, P, I, X.tx.length + 8, bu, bd, [], []⟩) ∧ Hid (w3.heap.size ≤ q ∧ w3.heap.size ≤ bu ∧ w3.heap.size ≤ bd) ∧ Hid (Below w3.heap.size w3 wx))
  case first =>
    go_region_held3 (fun W => W.cell? ⟨gl, 0, none⟩ = some (vi T) ∧ W.cell? ⟨gl, 1, none⟩ = some (vi F) ∧ W.cell? ⟨gl, 2, none⟩ = some (vi P) ∧ W.cell? ⟨gl, 3, none⟩ = some (vi I))
      (exact HK.out _ (by repeat first | exact HA0.out | (refine HA3.out _ _ (by assumption) ?_) | (refine HA1.out _ _ ?_) | (refine HA2.out _ ?_)))
      (first | (go_at_call 18; refine (HTX.out _ (by repeat first | exact HA0.out | (refine HA1.out _ _ ?_) | (refine HA2.out _ ?_))).mono ?_; rintro e w5 ⟨v5, rfl, ho5, hb5⟩; obtain ⟨a5, k5, rfl, _, _, _, _⟩ := ho5.srow (base := 0) HSM.out))
    all_goals
      have hsz := hb5.size
      simp at hsz
      go_wp2_with fail
      go_meet
      refine ⟨_, _, _, rfl, Lib.hid (pl_made _ _ _ _ _ _ _ _ _ _ (by simp) ?_ ?_ ?_), Lib.hid ⟨?_, ?_, ?_⟩, Lib.hid ?_⟩
      · first
          | exact MpAt.made _ _ _
          | exact (MpAt.made _ _ _).alloc _
          | exact made2 _ _ _
          | exact (MpAt.drw (MpAt.made w3 _ _)).old hb5
          | exact ((MpAt.drw (MpAt.made w3 _ _)).old hb5).alloc _
          | exact (MpAt.drw ((MpAt.made w3 _ _).alloc _)).old hb5
          | exact (MpAt.drw (made2 w3 _ _)).old hb5
      · first
          | exact MpAt.made _ _ _
          | exact (MpAt.made _ _ _).alloc _
          | exact made2 _ _ _
          | exact (MpAt.drw (MpAt.made w3 _ _)).old hb5
          | exact ((MpAt.drw (MpAt.made w3 _ _)).old hb5).alloc _
          | exact (MpAt.drw ((MpAt.made w3 _ _).alloc _)).old hb5
          | exact (MpAt.drw (made2 w3 _ _)).old hb5
      · omega
      · omega
      · omega
      · omega
      · repeat first | exact HA0.out | (refine HA3.out _ _ (by assumption) ?_) | (refine HA1.out _ _ ?_) | (refine HA2.out _ ?_)
  case rest =>
    obtain ⟨q, bu, bd, rfl, hpl, hsz, hbl⟩ := hcut
    clear HK HA1 HA2 HA3 HA0 HSM HTX hmm
    have HPL := Lib.hid hpl.out
    have HSZ := Lib.hid hsz.out
    have HBL := Lib.hid (HB3.out.trans (hbl.out.mono HB3.out.size))
    clear hpl hsz hbl
    go_wp2_with fail
    go_loopw [58] (fun i wr => i = vi 0 ∧ wr = wc) (fun _ _ => 0)
    case atStart => exact ⟨rfl, rfl⟩
    case round =>
      obtain ⟨rfl, rfl⟩ := hrel
      go_wp2_with fail
      go_ret2
      have h1 := HB3.out.size
      have h2 := HSZ.out
      exact ⟨q, bu, bd, rfl, HPL.out, ⟨by omega, by omega, by omega⟩, HBL.out⟩
end
end Go.Proofs.YtjkaioonppmkjaaGreat.pl

/-
  What must come of fixed calls of a pool. No conditions.
-/
namespace Go.Proofs.YtjkaioonppmkjaaGreat.FP
open Go.Proofs.YtjkaioonppmkjaaGreat.mgr
def pC0 : NP.Chp := NP.blank 8 8 64
def pF0 : Ft := (formatN pC0 1 z56).getD dummy
theorem p_format : formatN pC0 1 z56 = some pF0 := by kernel_rfl
theorem p_cap : pF0.cap = 46 := by kernel_rfl
theorem p_text : pF0.text.length = 56 := by kernel_rfl
theorem p_read : pF0.read 1 = (([], 60), pF0) := by kernel_rfl
end Go.Proofs.YtjkaioonppmkjaaGreat.FP
namespace Go.Proofs.YtjkaioonppmkjaaGreat.pl
open Go.RowKit Go.Proofs.YtjkaioonppmkjaaGreat.mgr Go.Proofs.YtjkaioonppmkjaaGreat.ft
section
variable {base : Nat} {w w' : World} {f k q : Nat} {M : ChM} {X : FtM} {Y : PlM}
theorem SameBytes_any (a a' : Option Addr) (l : List Nat) (c c' : Nat) (w : World) (h : BRow w a l) (h' : BRow w a' l) :
    Calls Tryz.prog 83 #[.slice a l.length c, .slice a' l.length c'] w fun e w' => e = .returned (.bool true) ∧ w' = w := by
  have h1 := run_text h c
  have h2 := run_text h' c'
  clear h h'
  go_enter Tryz.func83, Tryz.ntmps83
  go_wp2_with fail
  go_ret
  exact ⟨rfl, rfl⟩
theorem pC0_good : Good6 FP.pC0 := new_good6 (b := 8) (p := 8) (s := 64) (bad := []) rfl
theorem pformat (h : ChipAt base w k M) (hv : M.view = FP.pC0) (hbase : base ≤ w.heap.size) (a : Option Addr) (hr : SRow base w a FP.z56) :
    Calls Tryz.prog 10 #[ptr k, .int .i64 1, .slice a 56 56] w fun e w' => ∃ f X, e = .returned (.tuple #[ptr f, vi 0]) ∧ FtNew base w k M w' f X ∧ X.view = FP.pF0 ∧ X.Fit := by
  have h1 := Format_new h (by rw [hv]; exact pC0_good) hbase 1 a FP.z56 56 hr FP.pF0 (by rw [hv]; exact FP.p_format)
  refine h1.mono ?_
  rintro e w' ⟨f, X, rfl, hn, hx⟩
  refine ⟨f, X, rfl, hn, hx, ?_⟩
  show Fit X.view
  rw [hx]
  exact format_fit pC0_good (by intro y hy; rw [List.eq_of_mem_replicate hy]; decide) FP.p_format
/-- A translation and a pool on it. -/
structure Both (base : Nat) (w0 w : World) (f : Nat) (X : FtM) (q : Nat) (Y : PlM) : Prop where
  ft : FtAt base w f X
  pl : PlAt w q Y
  dis : ∀ n, Y.foot q n → ¬ X.foot f n
  low : base ≤ Y.bu ∧ base ≤ Y.bd
  below : Below base w0 w
theorem Both.old (h : Both base w w' f X q Y) {w'' : World} (g : Below w'.heap.size w' w'') (hb : base ≤ w'.heap.size) : Both base w w'' f X q Y := ⟨h.ft.old g, h.pl.old g, h.dis, h.low, h.below.trans (g.mono hb)⟩
theorem Both.go (h : Both base w w' f X q Y) {w'' : World} {Y' : PlM} (g : Chg (fun n => n = Y.bu ∨ n = Y.bd) w' w'') (hp : PlAt w'' q Y') (e : Y'.bu = Y.bu ∧ Y'.bd = Y.bd) (hb : base ≤ w'.heap.size) : Both base w w'' f X q Y' := by
  refine ⟨h.ft.chg g (fun n e => ?_) (fun n e e2 => ?_), hp, fun n e2 => h.dis n ?_, by rw [e.1, e.2]; exact h.low, h.below.trans (g.to_below (fun n _ e => ?_) hb)⟩
  · rcases e with e | e
    · rw [e]; exact Loose.map h.low.1 h.pl.used
    · rw [e]; exact Loose.map h.low.2 h.pl.dirty
  · rcases e2 with e2 | e2
    · exact h.dis n (.inr (.inl e2)) e
    · exact h.dis n (.inr (.inr e2)) e
  · rcases e2 with e2 | e2 | e2
    · exact .inl e2
    · exact .inr (.inl (e2.trans e.1))
    · exact .inr (.inr (e2.trans e.2))
  · rcases e with e | e
    · rw [e]; exact h.low.1
    · rw [e]; exact h.low.2
set_option maxRecDepth 100000 in
set_option maxHeartbeats 4000000 in
theorem known11_any (w : World) : Calls Tryz.prog 35 #[] w fun e w' => e = .returned (.bool true) ∧ Below w.heap.size w w' := by
  have hm56 : ∀ w : World, (Instr.makeSlice 23 (.int .i64 56) (.int .i64 56)).run Tryz.prog w = .ok (.slice (some ⟨w.heap.size, 0, none⟩) 56 56) (w.alloc (.cells (madeCells #[vb 0] 56) 5)) := fun w => make_bytes 56 (by omega) w
  have hm64 : ∀ w : World, (Instr.makeSlice 23 (.int .i64 64) (.int .i64 64)).run Tryz.prog w = .ok (.slice (some ⟨w.heap.size, 0, none⟩) 64 64) (w.alloc (.cells (madeCells #[vb 0] 64) 5)) := fun w => make_bytes 64 (by omega) w
  go_enter Tryz.func35, Tryz.ntmps35
  go_wp2_with fail
  refine (New_any w.heap.size 8 8 64 none [] 0 _ (.inl rfl) (Nat.zero_le _) (Nat.le_refl _)).mono ?_
  rintro e w1 hn
  rw [show NP.new 8 8 64 [] = some FP.pC0 from rfl] at hn
  obtain ⟨k, M, rfl, hm, hv⟩ := hn
  have HM := Lib.hid hm
  have HV := Lib.hid hv
  clear hm hv
  go_wp2_with fail
  have HB2 : Hid (Below w1.heap.size w1 (w1.alloc (.cells (madeCells #[vb 0] 56) 5))) := Lib.hid ((Below.refl _ _).alloc (Nat.le_refl _) _)
  have HF := Lib.hid (pformat (HM.out.at_.old HB2.out) HV.out (Nat.le_trans HM.out.below.size HB2.out.size) _ (zero_row w1 56))
  have HW2 := Lib.hid (HM.out.below.trans (HB2.out.mono HM.out.below.size))
  have HMO := Lib.hid HM.out.own
  clear hm56 HM HB2
  generalize w1.alloc (.cells (madeCells #[vb 0] 56) 5) = w2 at *
  refine HF.out.mono ?_
  rintro e w3 ⟨f, X, rfl, hnew, hxv, hxf⟩
  have HN := Lib.hid hnew.at_
  have HXV := Lib.hid hxv
  have HXF := Lib.hid hxf
  have HB3 : Hid (Below w.heap.size w w3) := Lib.hid (HW2.out.trans (hnew.chg.to_below (fun n _ e => HMO.out n e) HW2.out.size))
  have HTX : Hid (X.tx.length = 56) := Lib.hid (by rw [show X.tx = FP.pF0.text from congrArg FP.Ft.text hxv]; exact FP.p_text)
  clear hnew hxv hxf HF HMO HW2 HV
  go_wp2_with fail
  have HOP : Hid (Calls Tryz.prog 25 #[ptr f, .agg #[.int .i64 2, .int .i64 3, .int .i64 16, .int .i64 0], .slice none 0 0] w3 (OpPost w3 f 2 3 16 0 64)) := Lib.hid (by
    have h := pl.Open_any HN.out HXF.out 2 3 16 0 (by omega) rfl (by rw [HXV.out, FP.p_cap]; omega) (by rw [HXV.out, FP.p_cap]; omega)
    rw [HTX.out] at h
    exact h)
  refine HOP.out.mono ?_
  rintro e w4 ⟨q, bu, bd, rfl, hpl, hsz, hb4⟩
  have HB : Hid (Both w.heap.size w w4 f X q ⟨f, 2, 3, 16, 0, 64, bu, bd, [], []⟩) := Lib.hid ⟨HN.out.old hb4, hpl, fun n e e2 => by
    have := HN.out.lt n e2
    rcases e with e | e | e
    · omega
    · dsimp only at e; omega
    · dsimp only at e; omega, ⟨by have := HB3.out.size; dsimp only; omega, by have := HB3.out.size; dsimp only; omega⟩, HB3.out.trans (hb4.mono HB3.out.size)⟩
  clear hpl hsz hb4 HOP HN HB3 HTX
  go_wp2_with fail
  refine (Alloc_first HB.out.pl (by dsimp only; omega) (by rfl) (by rfl) 64 rfl (by decide)).mono ?_
  rintro e w5 ⟨g5, rfl, hp5, hc5⟩
  have HB5 : Hid (Both w.heap.size w w5 f X q ⟨f, 2, 3, 16, 0, 64, bu, bd, [(3, 3)], [(3, .slice (some ⟨g5, 0, none⟩) 64 64)]⟩) := Lib.hid (HB.out.go hc5 hp5 ⟨rfl, rfl⟩ HB.out.below.size)
  clear hp5 hc5 HB
  go_wp2_with fail
  refine (Free_any HB5.out.pl 3 (by dsimp only; omega) (by rfl) (by rfl)).mono ?_
  rintro e w6 ⟨rfl, hp6, hc6⟩
  have HB6 : Hid (Both w.heap.size w w6 f X q ⟨f, 2, 3, 16, 0, 64, bu, bd, [], []⟩) := Lib.hid (HB5.out.go hc6 hp6 ⟨rfl, rfl⟩ HB5.out.below.size)
  clear hp6 hc6 HB5
  go_wp2_with fail
  refine (Alloc_first HB6.out.pl (by dsimp only; omega) (by rfl) (by rfl) 64 rfl (by decide)).mono ?_
  rintro e w7 ⟨g7, rfl, hp7, hc7⟩
  have HB7 : Hid (Both w.heap.size w w7 f X q ⟨f, 2, 3, 16, 0, 64, bu, bd, [(3, 3)], [(3, .slice (some ⟨g7, 0, none⟩) 64 64)]⟩) := Lib.hid (HB6.out.go hc7 hp7 ⟨rfl, rfl⟩ HB6.out.below.size)
  clear hp7 hc7 HB6
  go_wp2_with fail
  have HG : Hid (Calls Tryz.prog 23 #[ptr q, .int .i64 1] w7 (GetZ w.heap.size w7 q ⟨f, 2, 3, 16, 0, 64, bu, bd, [(3, 3)], [(3, .slice (some ⟨g7, 0, none⟩) 64 64)]⟩ X 64)) :=
    Lib.hid (Get_zero (Y := ⟨f, 2, 3, 16, 0, 64, bu, bd, [(3, 3)], [(3, .slice (some ⟨g7, 0, none⟩) 64 64)]⟩) HB7.out.pl HB7.out.ft HXF.out HB7.out.dis 1 (by decide) (by rfl) (by rfl) 64 rfl (by decide) (by rw [HXV.out]; exact FP.p_read))
  refine HG.out.mono ?_
  rintro e w8 ⟨g8, X8, rfl, hr8, hg8, _, hp8⟩
  have HR8 := Lib.hid hr8
  have HP8 := Lib.hid hp8
  have HB8 : Hid (Below w.heap.size w w8) := Lib.hid (HB7.out.below.trans (hg8.below HB7.out.ft.low' HB7.out.below.size))
  clear hr8 hg8 hp8 HG HB7
  go_wp2_with fail
  refine (Get_no HP8.out 4 (by rfl)).mono ?_
  rintro e w9 ⟨rfl, rfl⟩
  go_wp2_with fail
  have HB9 : Hid (Below w9.heap.size w9 (w9.alloc (.cells (madeCells #[vb 0] 64) 5))) := Lib.hid ((Below.refl _ _).alloc (Nat.le_refl _) _)
  have HSB : Hid (Calls Tryz.prog 83 #[.slice (some ⟨g8, 0, none⟩) 64 64, .slice (some ⟨w9.heap.size, 0, none⟩) 64 64] (w9.alloc (.cells (madeCells #[vb 0] 64) 5)) fun e w' => e = .returned (.bool true) ∧ w' = w9.alloc (.cells (madeCells #[vb 0] 64) 5)) :=
    Lib.hid (SameBytes_any _ _ (List.replicate 64 0) 64 64 _ (HR8.out.below HB9.out) (zero_row (base := 0) w9 64).row)
  have HP9 := Lib.hid (HP8.out.old HB9.out)
  have HBW := Lib.hid (HB8.out.trans (HB9.out.mono HB8.out.size))
  clear HR8 HP8 HB8 HB9 hm64
  generalize w9.alloc (.cells (madeCells #[vb 0] 64) 5) = w10 at *
  refine HSB.out.mono ?_
  rintro e w11 ⟨rfl, rfl⟩
  go_wp2_with fail
  refine (Room_any HP9.out 15 (by rfl) (by dsimp only; simp)).mono ?_
  rintro e w12 ⟨rfl, hb12⟩
  have HP12 := Lib.hid (HP9.out.old hb12)
  have HBX := Lib.hid (HBW.out.trans (hb12.mono HBW.out.size))
  clear hb12 HP9 HBW HSB
  go_wp2_with fail
  refine (Dirty_any HP12.out).mono ?_
  rintro e w13 ⟨rfl, rfl⟩
  go_wp2_with fail
  go_ret
  exact ⟨rfl, HBX.out⟩
end
end Go.Proofs.YtjkaioonppmkjaaGreat.pl

