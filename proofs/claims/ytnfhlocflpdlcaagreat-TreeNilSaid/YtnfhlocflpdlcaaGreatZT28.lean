/-
  Lemmas for a law's proof, put together from several texts: each part says what it shows, and its conditions.
-/
import Derived.Test.YtnfhlocflpdlcaaGreatZT27
/-
  A page is written where no block has to be freed for it: programmed, with the next number. Conditions: a translation told by FtAt, of moderate numbers; enough blocks free, none of a later epoch, the block does not fail.
-/
namespace Go.Proofs.YtnfhlocflpdlcaaGreat.ft
open Go.RowKit Go.Proofs.YtnfhlocflpdlcaaGreat.mgr

theorem program_result {w' : World} {g : Nat} {v0 v1 : Value} {n : Int} (hb : Blk w' g 197 #[v0, v1]) (tmps : Array Value) (h2 : tmps[4]? = some (.pointer (some ⟨g, 0, none⟩))) (h4 : tmps[5]? = some (vi n)) :
    (results Tryz.f192 tmps).run Tryz.prog w' = .ok (.tuple #[.agg #[v0, v1], vi n]) w' := by
  have g0 : w'.cell? ⟨g, 0, none⟩ = some v0 := hb.cell 0
  have g1 : w'.cell? ⟨g, 1, none⟩ = some v1 := hb.cell 1
  simp only [results, Tryz.results192]
  simp [go_sem, h2, h4, g0, g1]
theorem put_result {w' : World} {g : Nat} {v0 v1 : Value} {n : Int} (hb : Blk w' g 197 #[v0, v1]) (tmps : Array Value) (h2 : tmps[6]? = some (.pointer (some ⟨g, 0, none⟩))) (h4 : tmps[7]? = some (vi n)) :
    (results Tryz.f161 tmps).run Tryz.prog w' = .ok (.tuple #[.agg #[v0, v1], vi n]) w' := by
  have g0 : w'.cell? ⟨g, 0, none⟩ = some v0 := hb.cell 0
  have g1 : w'.cell? ⟨g, 1, none⟩ = some v1 := hb.cell 1
  simp only [results, Tryz.results161]
  simp [go_sem, h2, h4, g0, g1]
/-- A place, and what the translation is then. -/
def PlcPost (base : Nat) (w : World) (f : Nat) (X : FtM) (p : FP.Plc) (V : FP.Ft) (e : Ending) (w' : World) : Prop :=
  ∃ X', e = .returned (.tuple #[encP p, vi 0]) ∧ FGoes base w f X w' X' ∧ X'.view = V
section
variable {base : Nat} {w w' : World} {f : Nat} {X X' : FtM}
/-- Memory that is made ahead, and written to, is none of the translation's. -/
theorem FGoes.ahead {W : World} (h : FtAt base w f X) (hb : Below w.heap.size w W) (q : FGoes base W f X w' X') : FGoes base w f X w' X' := (FGoes.of_old h hb).trans q
theorem FGoes.young {W : World} (h : FGoes base w f X w' X') (q : Below w.heap.size w' W) (h2 : FtAt base W f X') : FGoes base w f X W X' :=
  ⟨h2, ⟨q.os.trans h.chg.os, q.tape.trans h.chg.tape, q.output.trans h.chg.output, Nat.le_trans h.chg.size q.size, fun k hk hn => (q.block k hk).trans (h.chg.block k hk hn)⟩, h.foot, h.key⟩
set_option maxRecDepth 100000 in
set_option maxHeartbeats 4000000 in
theorem program_quiet (h : FtAt base w f X) (hG : Good6 X.M.view) (hK : X.G.view.ok X.M.view) (a : Option Addr) (l : List Nat) (c : Nat) (hr : SRow base w a l) (hq : (Mg.program l X.M.view X.G.view).1.2.2 = 0) (hbase : base ≤ w.heap.size) :
    Calls Tryz.prog 192 #[ptr f, .slice a l.length c] w (PlcPost base w f X ⟨(Mg.program l X.M.view X.G.view).1.1, (Mg.program l X.M.view X.G.view).1.2.1⟩ { X.view with c := (Mg.program l X.M.view X.G.view).2.1, g := (Mg.program l X.M.view X.G.view).2.2 }) := by
  have F0 : Hid (Blk (w.alloc (.cells #[vi 0, vi 0] 197)) w.heap.size 197 #[vi 0, vi 0]) := Lib.hid (Blk.new _ _ _)
  have HB : Hid (Below w.heap.size w (w.alloc (.cells #[vi 0, vi 0] 197))) := Lib.hid ((Below.refl _ _).alloc (Nat.le_refl _) _)
  have H0 := Lib.hid h
  have H := Lib.hid (h.old HB.out)
  have HX := Lib.hid hG
  have HX2 := Lib.hid hK
  have HR := Lib.hid (hr.old HB.out)
  clear h hG hK hr
  go_enter Tryz.func192, Tryz.ntmps192
  go_upto_region 1 with fail
  generalize w.alloc (.cells #[vi 0, vi 0] 197) = w0 at *
  have c1 : w0.cell? ⟨f, 1, none⟩ = some (ptr X.m) := H.out.obj.cell 1
  have HP := Lib.hid (mgr.Program_any H.out.held HX.out.ok HX2.out a l c HR.out)
  change Hid (Calls _ _ _ _ (PPost base w0 X.m X.G X.M (Mg.program l X.M.view X.G.view))) at HP
  generalize Mg.program l X.M.view X.G.view = r at *
  obtain ⟨⟨x, y, z⟩, V, g'⟩ := r
  dsimp only at hq ⊢
  subst hq
  go_loop [8] (fun _ => True) (fun _ => 0)
  case atStart => trivial
  case round =>
    go_wp2_with fail
    refine HP.out.mono ?_
    rintro e w1 ⟨M2, rfl, hg, hv⟩
    have hgo := H.out.goes hg
    have hlt0 : ∀ n, X.foot f n → n < w.heap.size := H0.out.lt
    have F1 := Lib.hid (F0.out.chg hgo.chg (fun e => by have := hlt0 _ e; omega))
    have HG := Lib.hid (FGoes.ahead H0.out HB.out hgo)
    have HVV := Lib.hid hv
    have HF : Hid (∀ n, { X with G := X.G.lay g', M := M2 : FtM }.foot f n → n ≠ w.heap.size) := Lib.hid (fun n e e2 => by
      rcases hgo.foot n e with h1 | h1
      · have := hlt0 _ h1; omega
      · have := F0.out.lt; omega)
    obtain ⟨d0, d1, f0, f1⟩ := plc_cells F1.out
    clear hg hv hgo hlt0 HP
    go_wp2_with fail
    have hset : Chg (fun n => n = w.heap.size) w1 ((w1.setCell ⟨w.heap.size, 0, none⟩ (vi x)).setCell ⟨w.heap.size, 1, none⟩ (vi y)) := ((Chg.refl (fun n => n = w.heap.size) w1).setCell (p := ⟨w.heap.size, 0, none⟩) (.inl rfl) _).setCell (p := ⟨w.heap.size, 1, none⟩) (.inl rfl) _
    refine bodyPost_ret (program_result ((F1.out.set_ 0 (vi x)).set_ 1 (vi y)) _ rfl rfl) rfl ⟨_, rfl, HG.out.young ?_ ?_, ?_⟩
    · exact ⟨hset.os, hset.tape, hset.output, hset.size, fun k hk => hset.block k (Nat.lt_of_lt_of_le hk HG.out.size) (by omega)⟩
    · exact HG.out.at_.chg hset (fun n e => by subst e; exact Loose.blk hbase F1.out) (fun n e e2 => HF.out n e e2)
    · show FP.Ft.mk _ _ _ _ _ _ _ _ _ _ _ _ = _
      rw [HVV.out]
theorem put_some {F : FP.Ft} {kind : Int} {page : Nat} {b : List Nat} {p : FP.Plc} {V : FP.Ft} (h : F.put kind page b = some (p, V)) :
    F.later.all (fun x => !x) = true ∧ FP.enough F.g F.c.P = true ∧ (TP.write ⟨kind, page, F.seq, F.epoch⟩ b).2 = 0 ∧ (Mg.program (TP.write ⟨kind, page, F.seq, F.epoch⟩ b).1 F.c F.g).1.2.2 = 0 ∧
      p = ⟨(Mg.program (TP.write ⟨kind, page, F.seq, F.epoch⟩ b).1 F.c F.g).1.1, (Mg.program (TP.write ⟨kind, page, F.seq, F.epoch⟩ b).1 F.c F.g).1.2.1⟩ ∧
      V = { F with c := (Mg.program (TP.write ⟨kind, page, F.seq, F.epoch⟩ b).1 F.c F.g).2.1, g := (Mg.program (TP.write ⟨kind, page, F.seq, F.epoch⟩ b).1 F.c F.g).2.2, seq := F.seq + 1 } := by
  unfold FP.Ft.put at h
  split at h
  · rename_i h1
    simp only [Bool.and_eq_true] at h1
    dsimp only at h
    split at h
    · rename_i h2
      split at h
      · rename_i h3
        simp only [Option.some.injEq, Prod.mk.injEq] at h
        exact ⟨h1.1, h1.2, h2, h3, h.1.symm, h.2.symm⟩
      · cases h
    · cases h
  · cases h
theorem write_seq {t : TP.Tag} {b : List Nat} (h : (TP.write t b).2 = 0) : t.seq < 4611686018427387904 ∧ t.epoch < 4611686018427387904 ∧ t.page < 8192 ∧ b.length ≤ 512 := by
  unfold TP.write at h
  split at h
  · rename_i h1
    simp only [Bool.and_eq_true] at h1
    have h2 := right_small h1.1
    have h3 := sized_le h1.2
    exact ⟨h2.2.1, h2.2.2, h2.1, by omega⟩
  · cases h
theorem write_small {t : TP.Tag} {b : List Nat} (h : ∀ y ∈ b, y < 256) : ∀ y ∈ (TP.write t b).1, y < 256 := by
  unfold TP.write
  split
  · exact TP.bytes_small h
  · simp
theorem two_chg (W : World) (g i j : Nat) (u v : Value) : Chg (fun n => n = g) W ((W.setCell ⟨g, i, none⟩ u).setCell ⟨g, j, none⟩ v) :=
  ((Chg.refl (fun n => n = g) W).setCell (p := ⟨g, i, none⟩) (.inl rfl) _).setCell (p := ⟨g, j, none⟩) (.inl rfl) _
theorem two_below {w W : World} {g : Nat} (i j : Nat) (u v : Value) (hw : Below w.heap.size w W) (hg : w.heap.size ≤ g) : Below w.heap.size w ((W.setCell ⟨g, i, none⟩ u).setCell ⟨g, j, none⟩ v) :=
  (hw.setCell (p := ⟨g, i, none⟩) hg u).setCell (p := ⟨g, j, none⟩) hg v
theorem young_below {w W : World} {g i j : Nat} (u v : Value) (hs : w.heap.size ≤ W.heap.size) (hg : w.heap.size ≤ g) : Below w.heap.size W ((W.setCell ⟨g, i, none⟩ u).setCell ⟨g, j, none⟩ v) := by
  have h := two_chg W g i j u v
  exact ⟨h.os, h.tape, h.output, h.size, fun k hk => h.block k (by omega) (by omega)⟩
/-- A block of its own, of another kind than the translation's, is none of it. -/
theorem FtAt.not_young {base : Nat} {w0 : World} {f : Nat} {X : FtM} (h0 : FtAt base w0 f X) {g : Nat} (hg : w0.heap.size ≤ g) : ∀ n, X.foot f n → ¬ n = g := fun n e e2 => by have := h0.lt n e; omega
set_option maxRecDepth 100000 in
set_option maxHeartbeats 8000000 in
theorem put_quiet (h : FtAt base w f X) (hx : X.Fit) (hbase : base ≤ w.heap.size) (kind : Int) (page : Nat) (a : Option Addr) (b : List Nat) (c : Nat) (hr : SRow base w a b) (hl : b.length ≤ 900000) (p : FP.Plc) (V : FP.Ft) (hq : X.view.put kind page b = some (p, V)) :
    Calls Tryz.prog 161 #[ptr f, .agg #[vi kind, vw page, vq 0, vq 0], .slice a b.length c] w (PlcPost base w f X p V) := by
  obtain ⟨q1, q2, q3, q4, q5, q6⟩ := put_some hq
  clear hq
  have HQ1 : Hid (X.later.all (fun x => !x) = true) := Lib.hid q1
  have HQ2 : Hid (FP.enough X.G.view X.M.P = true) := Lib.hid q2
  have HQ4 := Lib.hid q4
  have HQ5 := Lib.hid q5
  have HQ6 := Lib.hid q6
  dsimp only [FtM.view] at q3 HQ4 HQ5 HQ6
  clear q1 q2 q4 q5 q6
  have HSM := Lib.hid (write_small (t := ⟨kind, page, X.seq, X.epoch⟩) hr.row.small)
  have F1 : Hid (Blk ((w.alloc (.cells #[vi kind, vw page, vq 0, vq 0] 202)).alloc (.cells #[vi 0, vi 0] 197)) w.heap.size 202 #[vi kind, vw page, vq 0, vq 0]) := Lib.hid ((Blk.new _ _ _).alloc _)
  have F2 : Hid (Blk ((w.alloc (.cells #[vi kind, vw page, vq 0, vq 0] 202)).alloc (.cells #[vi 0, vi 0] 197)) (w.heap.size + 1) 197 #[vi 0, vi 0]) := Lib.hid (by
    have := Blk.new (w.alloc (.cells #[vi kind, vw page, vq 0, vq 0] 202)) 197 #[vi 0, vi 0]
    rwa [size_alloc] at this)
  have HB : Hid (Below w.heap.size w ((w.alloc (.cells #[vi kind, vw page, vq 0, vq 0] 202)).alloc (.cells #[vi 0, vi 0] 197))) := Lib.hid (((Below.refl _ _).alloc (Nat.le_refl _) _).alloc (by simp) _)
  have H0 := Lib.hid h
  have H := Lib.hid (h.old HB.out)
  have HX := Lib.hid hx
  have HR := Lib.hid (hr.old HB.out)
  have hsq := (write_seq q3).1
  clear h hx hr
  go_enter Tryz.func161, Tryz.ntmps161
  go_wp2_with fail
  generalize (w.alloc (.cells #[vi kind, vw page, vq 0, vq 0] 202)).alloc (.cells #[vi 0, vi 0] 197) = w0 at *
  refine (clean_quiet H.out HX.out HQ1.out).mono ?_
  rintro e w1 ⟨rfl, hb1⟩
  have HB1 := Lib.hid (HB.out.trans (hb1.mono HB.out.size))
  have H1 := Lib.hid (H.out.old hb1)
  have F11 := Lib.hid (F1.out.old hb1)
  have F21 := Lib.hid (F2.out.old hb1)
  have HR1 := Lib.hid (HR.out.old hb1)
  clear hb1 HB H F1 F2 HR
  go_wp2_with fail
  refine (ensure_quiet H1.out HX.out HQ2.out).mono ?_
  rintro e w2 ⟨rfl, hb2⟩
  have HB2 := Lib.hid (HB1.out.trans (hb2.mono HB1.out.size))
  have H2 := Lib.hid (H1.out.old hb2)
  have F12 := Lib.hid (F11.out.old hb2)
  have F22 := Lib.hid (F21.out.old hb2)
  have HR2 := Lib.hid (HR1.out.old hb2)
  clear hb2 HB1 H1 F11 F21 HR1
  go_upto_region 7 with fail
  have c8 : w2.cell? ⟨f, 8, none⟩ = some (vq X.seq) := H2.out.obj.cell 8
  have c9 : w2.cell? ⟨f, 9, none⟩ = some (vq X.epoch) := H2.out.obj.cell 9
  have f2 := F12.out.frozen 2
  have f3 := F12.out.frozen 3
  obtain ⟨d0, d1, d2, d3⟩ := tag_box (t := ⟨kind, page, 0, 0⟩) F12.out
  have HNE : Hid (∀ n, X.foot f n → ¬ n = w.heap.size) := Lib.hid (H0.out.not_young (Nat.le_refl _))
  have hfn : ¬ f = w.heap.size := HNE.out _ (.inl rfl)
  have HS : Hid (w2.drew.cell? ⟨f, 8, none⟩ = some (vq X.seq) ∧ w2.drew.cell? ⟨f, 9, none⟩ = some (vq X.epoch)) := Lib.hid ⟨c8, c9⟩
  have hset := And.intro (two_below 2 3 (vq X.seq) (vq X.epoch) HB2.out (Nat.le_refl _)) (two_chg w2 w.heap.size 2 3 (vq X.seq) (vq X.epoch))
  have HB3 := Lib.hid hset.1.drew
  have H3 := Lib.hid (H2.out.chg hset.2.drew (fun n e => by subst e; exact Loose.blk hbase F12.out) HNE.out)
  have F13 : Hid (Blk ((w2.setCell ⟨w.heap.size, 2, none⟩ (vq X.seq)).setCell ⟨w.heap.size, 3, none⟩ (vq X.epoch)).drew w.heap.size 202 #[vi kind, vw page, vq X.seq, vq X.epoch]) := Lib.hid ((F12.out.set_ 2 _).set_ 3 _)
  have F23 := Lib.hid (F22.out.chg hset.2.drew (by omega))
  have HR3 := Lib.hid (HR2.out.chg' hset.2.drew (fun n e => by subst e; exact Loose.blk hbase F12.out))
  clear hset
  have HKP : Hid (∀ (W : World) j u, (W.cell? ⟨f, 8, none⟩ = some (vq X.seq) ∧ W.cell? ⟨f, 9, none⟩ = some (vq X.epoch)) → ((W.setCell ⟨w.heap.size, j, none⟩ u).cell? ⟨f, 8, none⟩ = some (vq X.seq) ∧ (W.setCell ⟨w.heap.size, j, none⟩ u).cell? ⟨f, 9, none⟩ = some (vq X.epoch))) :=
    Lib.hid (fun W j u h => ⟨(World.cell?_setCell_other _ _ _ _ (fun e => hfn (by injection e with e1; exact e1.symm))).trans h.1, (World.cell?_setCell_other _ _ _ _ (fun e => hfn (by injection e with e1; exact e1.symm))).trans h.2⟩)
  go_region_held3 (fun w' => w'.cell? ⟨f, 8, none⟩ = some (vq X.seq) ∧ w'.cell? ⟨f, 9, none⟩ = some (vq X.epoch))
    (first | exact HS.out | exact HKP.out _ _ _ HS.out | exact HKP.out _ _ _ (HKP.out _ _ _ HS.out))
    (fail)
  change Exit.then _ _ _ _ ((w2.setCell ⟨w.heap.size, 2, none⟩ (vq X.seq)).setCell ⟨w.heap.size, 3, none⟩ (vq X.epoch)).drew
  clear HS c8 c9 f2 f3 d0 d1 d2 d3 H2 F12 F22 HR2 HB2
  generalize ((w2.setCell ⟨w.heap.size, 2, none⟩ (vq X.seq)).setCell ⟨w.heap.size, 3, none⟩ (vq X.epoch)).drew = w3 at *
  obtain ⟨d0, d1, d2, d3⟩ := tag_box (t := ⟨kind, page, X.seq, X.epoch⟩) F13.out
  go_wp2_with fail
  refine (tWrite_any ⟨kind, page, X.seq, X.epoch⟩ a b c w3 HR3.out.row hl).mono ?_
  rw [q3]
  rintro e w4 ⟨v4, rfl, ho4, hb4⟩
  obtain ⟨a4, k4, rfl, hs4, hl4, hc4, _⟩ := ho4.srow (base := base) HSM.out
  have HB4 := Lib.hid (HB3.out.trans (hb4.mono HB3.out.size))
  have H4 := Lib.hid (H3.out.old hb4)
  have F24 := Lib.hid (F23.out.old hb4)
  have HS4 := Lib.hid hs4
  clear hb4 ho4 hs4 HB3 H3 F13 F23 HR3 d0 d1 d2 d3
  have c8 : w4.cell? ⟨f, 8, none⟩ = some (vq X.seq) := H4.out.obj.cell 8
  have f8 := H4.out.obj.frozen 8
  have HF5 := Lib.hid (H4.out.field (X' := { X with seq := X.seq + 1 }) 8 (vq (X.seq + 1)) rfl ⟨rfl, rfl, rfl⟩ ⟨H4.out.text, H4.out.tlen⟩ ⟨rfl, rfl⟩ ⟨rfl, rfl⟩ ⟨rfl, rfl⟩ ⟨rfl, rfl, rfl⟩ (Nat.le_trans hbase HB4.out.size))
  have HC5 : Hid (Chg (fun n => n = f) w4 (w4.setCell ⟨f, 8, none⟩ (vq (X.seq + 1)))) := Lib.hid (Chg.set (F := fun n => n = f) w4 (p := ⟨f, 8, none⟩) rfl _)
  have F25 := Lib.hid (F24.out.chg HC5.out (fun e => by have := H0.out.obj.lt; omega))
  have HS5 := Lib.hid (HS4.out.chg' HC5.out (fun n e => by subst e; exact H4.out.loose _ (.inl rfl)))
  have hsq2 : ((X.seq : Int) + 1) % 18446744073709551616 = (X.seq : Int) + 1 := by omega
  go_upto_region 12 with fail
  change Code.wp _ _ _ _ (w4.setCell ⟨f, 8, none⟩ (vq (X.seq + 1)))
  have HLB : Hid (w.heap.size ≤ (w4.setCell ⟨f, 8, none⟩ (vq (X.seq + 1))).heap.size) := Lib.hid (Nat.le_trans HB4.out.size HC5.out.size)
  have HGA := Lib.hid ((FGoes.of_old H0.out HB4.out).trans HF5.out)
  clear c8 f8 HC5 hsq2 H4 F24 HS4 HB4
  generalize w4.setCell ⟨f, 8, none⟩ (vq (X.seq + 1)) = w5 at *
  have HPQ := Lib.hid (program_quiet HF5.out.at_ HX.out.good HX.out.gok a4 _ k4 HS5.out HQ4.out (Nat.le_trans hbase HLB.out))
  dsimp only [FtM.view] at HPQ
  rw [← HQ5.out, ← HQ6.out] at HPQ
  clear HQ4 HQ5 HQ6
  generalize (TP.write ⟨kind, page, X.seq, X.epoch⟩ b).1 = wl at *
  go_wp2_with fail
  refine HPQ.out.mono ?_
  rintro e w6 ⟨X6, rfl, hg6, hv6⟩
  have HLT : Hid (∀ n, X.foot f n → n < w.heap.size) := Lib.hid H0.out.lt
  have F26 := Lib.hid (F25.out.chg hg6.chg (fun e => by have := HLT.out _ e; omega))
  have HG6 := Lib.hid (HGA.out.trans hg6)
  have HV6 := Lib.hid hv6
  have HF6 : Hid (∀ n, X6.foot f n → n ≠ w.heap.size + 1) := Lib.hid (fun n e e2 => by
    rcases hg6.foot n e with h1 | h1
    · have := HLT.out _ h1; omega
    · have := F25.out.lt; omega)
  clear hg6 hv6 HPQ HGA
  obtain ⟨pb, pp⟩ := p
  obtain ⟨d0, d1, f0, f1⟩ := plc_cells F26.out
  go_wp2_with fail
  refine bodyPost_ret (put_result ((F26.out.set_ 0 (vi pb)).set_ 1 (vi pp)) _ rfl rfl) rfl ⟨X6, rfl, HG6.out.young (young_below _ _ HG6.out.size (by omega)) ?_, HV6.out⟩
  exact HG6.out.at_.chg (two_chg _ _ _ _ _ _) (fun n e => by subst e; exact Loose.blk (Nat.le_succ_of_le hbase) F26.out) (fun n e e2 => HF6.out n e e2)
end
end Go.Proofs.YtnfhlocflpdlcaaGreat.ft

/-
  What keeps a translation's numbers moderate, in plain words. No program in sight; conditions: a translation that fits.
-/
namespace Go.Proofs.YtnfhlocflpdlcaaGreat.ft
open Go.RowKit Go.Proofs.YtnfhlocflpdlcaaGreat.mgr

theorem progTo_same (b : List Nat) : ∀ (n : Nat) (c : NP.Chp) (g : Mg), (Mg.progTo b n c g).2.2.reserve = g.reserve ∧ (Mg.progTo b n c g).2.2.bad = g.bad
  | 0, _, _ => ⟨rfl, rfl⟩
  | n + 1, c, g0 => by
    have h0 : (if g0.at_ = -1 then g0.begun else g0).reserve = g0.reserve ∧ (if g0.at_ = -1 then g0.begun else g0).bad = g0.bad := by
      split
      · unfold Mg.begun; split <;> exact ⟨rfl, rfl⟩
      · exact ⟨rfl, rfl⟩
    unfold Mg.progTo
    dsimp only
    generalize (if g0.at_ = -1 then g0.begun else g0) = g at *
    rw [← h0.1, ← h0.2]
    split
    · exact ⟨rfl, rfl⟩
    · split
      · exact progTo_same b n _ _
      · split
        · dsimp only; split <;> exact ⟨rfl, rfl⟩
        · split <;> exact ⟨rfl, rfl⟩
theorem program_same (b : List Nat) (c : NP.Chp) (g : Mg) : (Mg.program b c g).2.2.reserve = g.reserve ∧ (Mg.program b c g).2.2.bad = g.bad := by
  unfold Mg.program
  split
  · exact ⟨rfl, rfl⟩
  · split
    · exact ⟨rfl, rfl⟩
    · exact progTo_same _ _ _ _
theorem drop_same (g : Mg) (k : Int) : (g.drop k).2.reserve = g.reserve ∧ (g.drop k).2.bad = g.bad := by
  unfold Mg.drop
  split <;> exact ⟨rfl, rfl⟩
section
variable {F V : FP.Ft} {p : FP.Plc}
theorem Fit.cap (h : Fit F) : F.cap ≤ 4096 := by
  have hd := ok_dims h.good.ok
  have hr := h.res
  show ((F.c.B : Int) - F.bad - F.reserve - 1) * F.c.P - 2 ≤ 4096
  by_cases h0 : 0 ≤ ((F.c.B : Int) - F.bad - F.reserve - 1)
  · have : ((F.c.B : Int) - F.bad - F.reserve - 1) * F.c.P ≤ 128 * 32 := Int.mul_le_mul (by omega) (by omega) (by omega) (by omega)
    omega
  · have := Int.mul_nonpos_of_nonpos_of_nonneg (a := ((F.c.B : Int) - F.bad - F.reserve - 1)) (b := (F.c.P : Int)) (by omega) (by omega)
    omega
theorem Fit.page (h : Fit F) {page : Nat} (h0 : F.logical page = 0) : 0 ≤ (page : Int) ∧ (page : Int) < 8192 ∧ page ≠ 0 := by
  unfold FP.Ft.logical at h0
  split at h0
  · cases h0
  · split at h0
    · cases h0
    · rename_i h1
      have := h.cap
      omega
theorem Fit.put (h : Fit F) {kind : Int} {page : Nat} {b : List Nat} (hb : ∀ y ∈ b, y < 256) (e : F.put kind page b = some (p, V)) : Fit V ∧ V.sld = F.sld ∧ V.now = F.now ∧ V.gone = F.gone ∧ V.c.P = F.c.P ∧ V.reserve = F.reserve ∧ V.bad = F.bad ∧ V.c.S = F.c.S ∧ V.c.B = F.c.B ∧ V.epoch = F.epoch ∧ V.later = F.later := by
  obtain ⟨_, _, _, _, _, rfl⟩ := put_some e
  have hs := write_small (t := ⟨kind, page, F.seq, F.epoch⟩) hb
  have ha := program_acts6 (g := F.g) (c := F.c) hs
  have hsm := program_same (TP.write ⟨kind, page, F.seq, F.epoch⟩ b).1 F.c F.g
  refine ⟨⟨ha.good h.good, program_right hs h.good h.gok, h.res, ?_, h.slow, h.nlow, h.dlow, h.llen.trans ha.dims.1.symm, h.tlen⟩, rfl, rfl, rfl, ha.dims.2.1, rfl, rfl, ha.dims.2.2, ha.dims.1, rfl, rfl⟩
  dsimp only
  rw [hsm.1, hsm.2]
  exact h.gres
theorem Fit.drop (h : Fit F) (k : Int) : Fit { F with g := (F.g.drop k).2 } :=
  ⟨h.good, drop_right h.gok k, h.res, by
    have := drop_same F.g k
    dsimp only
    rw [this.1, this.2]
    exact h.gres, h.slow, h.nlow, h.dlow, h.llen, h.tlen⟩
theorem Fit.now (h : Fit F) {m : Mp FP.Plc} (hm : Low m) : Fit { F with now := m } := ⟨h.good, h.gok, h.res, h.gres, h.slow, hm, h.dlow, h.llen, h.tlen⟩
theorem Fit.gone (h : Fit F) {m : Mp FP.Plc} (hm : Low m) : Fit { F with gone := m } := ⟨h.good, h.gok, h.res, h.gres, h.slow, h.nlow, hm, h.llen, h.tlen⟩
theorem Fit.sld (h : Fit F) {m : Mp FP.Plc} (hm : Low m) : Fit { F with sld := m } := ⟨h.good, h.gok, h.res, h.gres, hm, h.nlow, h.dlow, h.llen, h.tlen⟩
theorem Fit.chip (h : Fit F) {c : NP.Chp} (hc : Good6 c) (h1 : c.B = F.c.B) (h2 : c.P = F.c.P) : Fit { F with c := c } :=
  ⟨hc, h.gok.chip h1 h2, h.res, h.gres, h.slow, h.nlow, h.dlow, h.llen.trans h1.symm, h.tlen⟩
end
end Go.Proofs.YtnfhlocflpdlcaaGreat.ft

/-
  A page of a translation is dropped. Conditions: a translation told by FtAt, of moderate numbers.
-/
namespace Go.Proofs.YtnfhlocflpdlcaaGreat.ft
open Go.RowKit Go.Proofs.YtnfhlocflpdlcaaGreat.mgr

/-- An error, and what the translation is then. -/
def FIPost (base : Nat) (w : World) (f : Nat) (X : FtM) (r : Int × FP.Ft) (e : Ending) (w' : World) : Prop := ∃ X', e = .returned (vi r.1) ∧ FGoes base w f X w' X' ∧ X'.view = r.2
theorem FIPost.mk {base : Nat} {w w' : World} {f : Nat} {X X' : FtM} {r : Int × FP.Ft} {n : Int} {V : FP.Ft} (hr : r = (n, V)) (hg : FGoes base w f X w' X') (hv : X'.view = V) : FIPost base w f X r (.returned (vi n)) w' := ⟨X', by rw [hr], hg, by rw [hr]; exact hv⟩
section
variable {base : Nat} {w w' : World} {f b : Nat} {X X' : FtM} {m : Mp FP.Plc}
/-- The manager's Drop. -/
theorem drop_call (h : FtAt base w f X) (hx : X.Fit) (k : Int) : Calls Tryz.prog 163 #[ptr X.m, vi k] w fun e w' => e = .returned (vi (X.G.view.drop k).1) ∧ FGoes base w f X w' { X with G := X.G.lay (X.G.view.drop k).2 } := by
  refine (mgr.Drop_any h.held hx.gok hx.dims.2.2.2.1 k).mono ?_
  rintro e w' ⟨he, hg⟩
  exact ⟨he, h.goes hg⟩
/-- A place's block that the call itself made stays. -/
theorem FGoes.far {g : Nat} {t : TypeId} {cs : Array Value} (h : FGoes base w f X w' X') (hb : Blk w g t cs) (hn : ¬ X.foot f g) : Blk w' g t cs := hb.chg h.chg hn
theorem delRun (h : MpAt w b .u32 encP m) (j : Int) : ∃ w', DelRun 185 140 (.map (some b)) (.int .u32 j) w w' ∧ MpAt w' b .u32 encP (MP.del m j) ∧ w.grownBy w' (some b) := by
  obtain ⟨w', h1, h2, h3⟩ := h.delete (P := Tryz.prog) Tryz.underlying185 Tryz.underlying140 j
  exact ⟨w', ⟨h1⟩, h2, h3⟩
theorem updRun (h : MpAt w b .u32 encP m) (j pb pp : Int) : ∃ w', UpdRun 185 (.map (some b)) (.int .u32 j) (.agg #[vi pb, vi pp]) w w' ∧ MpAt w' b .u32 encP (MP.put m j ⟨pb, pp⟩) ∧ w.grownBy w' (some b) := by
  obtain ⟨w', h1, h2, h3⟩ := h.update (P := Tryz.prog) Tryz.underlying185 Tryz.underlying140 j (⟨pb, pp⟩ : FP.Plc)
  exact ⟨w', ⟨h1⟩, h2, h3⟩
theorem look_any (h : MpAt w b .u32 encP m) (j : Int) : ∃ (pb pp : Int) (ok : Bool), (Instr.lookup 185 (.map (some b)) (.int .u32 j) true).run Tryz.prog w = .ok (.tuple #[.agg #[vi pb, vi pp], .bool ok]) w ∧ (ok = true → MP.get m j = some ⟨pb, pp⟩) ∧ (ok = false → MP.get m j = none) := by
  cases hg : MP.get m j with
  | some p => exact ⟨p.block, p.page, true, look_some h hg, fun _ => rfl, fun e => by cases e⟩
  | none => exact ⟨0, 0, false, look_none h hg, fun e => (by cases e), fun _ => rfl⟩
/-- What was written since is dropped. -/
def drop1 (F : FP.Ft) (page : Int) : FP.Ft := match MP.get F.now page with
  | some p => { F with g := (F.g.drop p.block).2, now := MP.del F.now page }
  | none => F
theorem drop1_same (F : FP.Ft) (page : Int) : (drop1 F page).sld = F.sld ∧ (drop1 F page).gone = F.gone := by
  unfold drop1
  split <;> exact ⟨rfl, rfl⟩
theorem Fit.drop1 {F : FP.Ft} (h : Fit F) (page : Int) : Fit (drop1 F page) := by
  unfold ft.drop1
  split
  · exact (h.drop _).now (h.nlow.del _)
  · exact h
theorem drop_eq (F : FP.Ft) (page : Nat) : F.drop page = if F.logical page ≠ 0 then (F.logical page, F) else
    match MP.get F.sld page with
    | some p => (0, { drop1 F page with gone := MP.put F.gone page p })
    | none => (0, drop1 F page) := by
  unfold FP.Ft.drop drop1
  dsimp only
  split
  · rfl
  · cases MP.get F.now page <;> cases MP.get F.sld page <;> rfl
theorem Fit.dropped {F : FP.Ft} (h : Fit F) (page : Nat) : Fit (F.drop page).2 := by
  rw [drop_eq]
  split
  · exact h
  · rename_i h0
    have hp := h.page (Classical.byContradiction h0)
    split
    · exact ((h.drop1 page).gone (h.dlow.put ⟨hp.1, hp.2.1⟩ _))
    · exact h.drop1 page
end
end Go.Proofs.YtnfhlocflpdlcaaGreat.ft

/-
  A page of a translation is written, where no block has to be freed for it. Conditions: a translation told by FtAt, of moderate numbers.
-/
namespace Go.Proofs.YtnfhlocflpdlcaaGreat.ft
open Go.RowKit Go.Proofs.YtnfhlocflpdlcaaGreat.mgr

/-- An older one of this epoch is dropped. -/
def older (F : FP.Ft) (page : Int) : FP.Ft := { F with g := match MP.get F.now page with | some old => (F.g.drop old.block).2 | none => F.g }
theorem older_same (F : FP.Ft) (page : Int) : (older F page).now = F.now ∧ (older F page).gone = F.gone := ⟨rfl, rfl⟩
theorem Fit.older {F : FP.Ft} (h : Fit F) (page : Int) : Fit (older F page) := by
  unfold ft.older
  cases MP.get F.now page with
  | some p => exact h.drop _
  | none => exact h
theorem write_eq (F : FP.Ft) (page : Nat) (b : List Nat) : F.write page b = if F.logical page ≠ 0 then some (F.logical page, F) else if b.length ≠ F.c.S then some (1, F) else if F.shut then some (41, F) else
    if MP.has F.now page = false ∧ F.cap ≤ F.used then some (40, F) else
    match F.put 1 page b with
    | none => none
    | some (p, f1) => some (0, { older f1 page with now := MP.put f1.now page p, gone := MP.del f1.gone page }) := rfl
theorem Fit.write {F : FP.Ft} (h : Fit F) {page : Nat} {b : List Nat} (hb : ∀ y ∈ b, y < 256) {r : Int × FP.Ft} (e : F.write page b = some r) : Fit r.2 := by
  rw [write_eq] at e
  split at e
  · cases e; exact h
  · rename_i h0
    have hp := h.page (Classical.byContradiction h0)
    split at e
    · cases e; exact h
    · split at e
      · cases e; exact h
      · split at e
        · cases e; exact h
        · split at e
          · cases e
          · rename_i p f1 hput
            cases e
            have h1 := (h.put hb hput).1
            exact ((h1.older page).now (h1.nlow.put ⟨hp.1, hp.2.1⟩ _)).gone (h1.dlow.del _)
theorem FtM.fit_of {X : FtM} {V : FP.Ft} (hv : X.view = V) (h : ft.Fit V) : X.Fit := by unfold FtM.Fit; rw [hv]; exact h
section
variable {base : Nat} {w w' : World} {f : Nat} {X X' : FtM}
end
end Go.Proofs.YtnfhlocflpdlcaaGreat.ft

