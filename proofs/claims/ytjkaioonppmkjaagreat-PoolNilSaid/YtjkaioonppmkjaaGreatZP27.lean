/-
  Lemmas for a law's proof, put together from several texts: each part says what it shows, and its conditions.
-/
import Derived.Test.YtjkaioonppmkjaaGreatZP26
/-
  A page of a translation is dropped. Conditions: a translation told by FtAt, of moderate numbers.
-/
namespace Go.Proofs.YtjkaioonppmkjaaGreat.ft
open Go.RowKit Go.Proofs.YtjkaioonppmkjaaGreat.mgr

/-- An error, and what the translation is then. -/
def FIPost (base : Nat) (w : World) (f : Nat) (X : FtM) (r : Int × FP.Ft) (e : Ending) (w' : World) : Prop := ∃ X', e = .returned (vi r.1) ∧ FGoes base w f X w' X' ∧ X'.view = r.2
theorem FIPost.mk {base : Nat} {w w' : World} {f : Nat} {X X' : FtM} {r : Int × FP.Ft} {n : Int} {V : FP.Ft} (hr : r = (n, V)) (hg : FGoes base w f X w' X') (hv : X'.view = V) : FIPost base w f X r (.returned (vi n)) w' := ⟨X', by rw [hr], hg, by rw [hr]; exact hv⟩
section
variable {base : Nat} {w w' : World} {f b : Nat} {X X' : FtM} {m : Mp FP.Plc}
/-- The manager's Drop. -/
theorem drop_call (h : FtAt base w f X) (hx : X.Fit) (k : Int) : Calls Tryz.prog 70 #[ptr X.m, vi k] w fun e w' => e = .returned (vi (X.G.view.drop k).1) ∧ FGoes base w f X w' { X with G := X.G.lay (X.G.view.drop k).2 } := by
  refine (mgr.Drop_any h.held hx.gok hx.dims.2.2.2.1 k).mono ?_
  rintro e w' ⟨he, hg⟩
  exact ⟨he, h.goes hg⟩
/-- A place's block that the call itself made stays. -/
theorem FGoes.far {g : Nat} {t : TypeId} {cs : Array Value} (h : FGoes base w f X w' X') (hb : Blk w g t cs) (hn : ¬ X.foot f g) : Blk w' g t cs := hb.chg h.chg hn
theorem delRun (h : MpAt w b .u32 encP m) (j : Int) : ∃ w', DelRun 89 22 (.map (some b)) (.int .u32 j) w w' ∧ MpAt w' b .u32 encP (MP.del m j) ∧ w.grownBy w' (some b) := by
  obtain ⟨w', h1, h2, h3⟩ := h.delete (P := Tryz.prog) Tryz.underlying89 Tryz.underlying22 j
  exact ⟨w', ⟨h1⟩, h2, h3⟩
theorem updRun (h : MpAt w b .u32 encP m) (j pb pp : Int) : ∃ w', UpdRun 89 (.map (some b)) (.int .u32 j) (.agg #[vi pb, vi pp]) w w' ∧ MpAt w' b .u32 encP (MP.put m j ⟨pb, pp⟩) ∧ w.grownBy w' (some b) := by
  obtain ⟨w', h1, h2, h3⟩ := h.update (P := Tryz.prog) Tryz.underlying89 Tryz.underlying22 j (⟨pb, pp⟩ : FP.Plc)
  exact ⟨w', ⟨h1⟩, h2, h3⟩
theorem look_any (h : MpAt w b .u32 encP m) (j : Int) : ∃ (pb pp : Int) (ok : Bool), (Instr.lookup 89 (.map (some b)) (.int .u32 j) true).run Tryz.prog w = .ok (.tuple #[.agg #[vi pb, vi pp], .bool ok]) w ∧ (ok = true → MP.get m j = some ⟨pb, pp⟩) ∧ (ok = false → MP.get m j = none) := by
  cases hg : MP.get m j with
  | some p => exact ⟨p.block, p.page, true, look_some h hg, fun _ => rfl, fun e => by cases e⟩
  | none => exact ⟨0, 0, false, look_none h hg, fun e => (by cases e), fun _ => rfl⟩
/-- What was written since is dropped. -/
def drop1 (F : FP.Ft) (page : Int) : FP.Ft := match MP.get F.now page with
  | some p => { F with g := (F.g.drop p.block).2, now := MP.del F.now page }
  | none => F
theorem drop1_same (F : FP.Ft) (page : Int) : (drop1 F page).sld = F.sld ∧ (drop1 F page).gone = F.gone := by
  unfold drop1
  split <;> exact ⟨rfl, rfl⟩
theorem Fit.drop1 {F : FP.Ft} (h : Fit F) (page : Int) : Fit (drop1 F page) := by
  unfold ft.drop1
  split
  · exact (h.drop _).now (h.nlow.del _)
  · exact h
theorem drop_eq (F : FP.Ft) (page : Nat) : F.drop page = if F.logical page ≠ 0 then (F.logical page, F) else
    match MP.get F.sld page with
    | some p => (0, { drop1 F page with gone := MP.put F.gone page p })
    | none => (0, drop1 F page) := by
  unfold FP.Ft.drop drop1
  dsimp only
  split
  · rfl
  · cases MP.get F.now page <;> cases MP.get F.sld page <;> rfl
theorem Fit.dropped {F : FP.Ft} (h : Fit F) (page : Nat) : Fit (F.drop page).2 := by
  rw [drop_eq]
  split
  · exact h
  · rename_i h0
    have hp := h.page (Classical.byContradiction h0)
    split
    · exact ((h.drop1 page).gone (h.dlow.put ⟨hp.1, hp.2.1⟩ _))
    · exact h.drop1 page
set_option maxRecDepth 100000 in
set_option maxHeartbeats 4000000 in
theorem Drop_any (h : FtAt base w f X) (hx : X.Fit) (page : Nat) (hp : page < 4294967296) : Calls Tryz.prog 16 #[ptr f, vw page] w (FIPost base w f X (X.view.drop page)) := by
  have H := Lib.hid h
  have HX := Lib.hid hx
  have HV := Lib.hid (drop_eq X.view page)
  have HD1 : Hid (drop1 X.view page = match MP.get X.N page with | some p => { X.view with g := (X.G.view.drop p.block).2, now := MP.del X.N page } | none => X.view) := Lib.hid rfl
  have HSM := Lib.hid (drop1_same X.view page)
  generalize drop1 X.view page = V1 at *
  clear h hx
  go_enter Tryz.func16, Tryz.ntmps16
  go_wp2_with fail
  refine (logical_any H.out HX.out page hp).mono ?_
  rintro e w1 ⟨rfl, hb1⟩
  have HB1 := Lib.hid hb1
  have H1 := Lib.hid (H.out.old hb1)
  clear hb1
  generalize X.view.logical page = lg at *
  by_cases h0 : lg = 0
  · subst h0
    rw [if_neg (by simp)] at HV
    have c6 : w1.cell? ⟨f, 6, none⟩ = some (.map (some X.bn)) := H1.out.obj.cell 6
    obtain ⟨pb, pp, ok, L, hsome, hnone⟩ := look_any H1.out.now page
    have HSO := Lib.hid hsome
    have HNO := Lib.hid hnone
    clear hsome hnone
    go_upto_region 5 with fail
    have FB : Hid (Blk (w1.alloc (.cells #[vi pb, vi pp] 85)) w1.heap.size 85 #[vi pb, vi pp]) := Lib.hid (Blk.new _ _ _)
    have H2 : Hid (FtAt base (w1.alloc (.cells #[vi pb, vi pp] 85)) f X) := Lib.hid (H1.out.old ((Below.refl _ _).alloc (Nat.le_refl _) _))
    have HB2 : Hid (Below w.heap.size w (w1.alloc (.cells #[vi pb, vi pp] 85))) := Lib.hid (HB1.out.alloc HB1.out.size _)
    have HNF : Hid (¬ X.foot f w1.heap.size) := Lib.hid (fun e => by have := H1.out.lt _ e; omega)
    clear L H1 HB1 c6
    generalize w1.alloc (.cells #[vi pb, vi pp] 85) = w2 at *
    generalize w1.heap.size = g at *
    go_upto_if 25 with fail
    go_cut [26] from 26 to 53 (fun _ wx => ∃ Y, Hid (FGoes base w f X wx Y ∧ Y.view = V1))
    case first =>
      cases ok
      · rw [HNO.out rfl] at HD1
        have HG2 := Lib.hid (FGoes.of_old H.out HB2.out)
        go_wp2_with fail
        go_meet
        exact ⟨X, Lib.hid ⟨HG2.out, HD1.out.symm⟩⟩
      · rw [HSO.out rfl] at HD1
        go_upto_region 6 with fail
        obtain ⟨d0, d1, _, _⟩ := plc_cells FB.out
        have c1 : w2.cell? ⟨f, 1, none⟩ = some (ptr X.m) := H2.out.obj.cell 1
        have HS : Hid (w2.drew.cell? ⟨f, 1, none⟩ = some (ptr X.m) ∧ w2.drew.cell? ⟨g, 0, none⟩ = some (vi pb)) := Lib.hid ⟨c1, d0⟩
        have HDC := Lib.hid (drop_call (H2.out.old (Below.refl _ _).drew) HX.out pb)
        have HKP : Hid (∀ W, FGoes base w2.drew f X W { X with G := X.G.lay (X.G.view.drop pb).2 } → (W.cell? ⟨f, 1, none⟩ = some (ptr X.m) ∧ W.cell? ⟨g, 0, none⟩ = some (vi pb))) :=
          Lib.hid (fun W q => ⟨q.at_.obj.cell 1, (q.far (FB.out.old (Below.refl _ _).drew) HNF.out).cell 0⟩)
        go_region_held3 (fun w' => w'.cell? ⟨f, 1, none⟩ = some (ptr X.m) ∧ w'.cell? ⟨g, 0, none⟩ = some (vi pb))
          (first | exact HS.out | exact HKP.out _ (by assumption))
          (first | (go_at_call 70; refine HDC.out.mono ?_; rintro e w3 ⟨rfl, hg3⟩))
        have HG3 := Lib.hid ((FGoes.of_old H.out HB2.out).trans ((FGoes.of_old H2.out (Below.refl _ _).drew).trans hg3))
        clear hg3 HKP HS HDC c1 d0 d1 H2
        obtain ⟨w4, hdel, hm4, hgr4⟩ := delRun HG3.out.at_.now page
        have HDL := Lib.hid hdel
        have HG4 := Lib.hid (HG3.out.trans (HG3.out.at_.nowPut hgr4 hm4))
        have c6 : w3.cell? ⟨f, 6, none⟩ = some (.map (some X.bn)) := HG3.out.at_.obj.cell 6
        clear hdel hm4 hgr4
        go_wp2_with (at_delete; refine wpList_delete_run rfl (.tmp 36) (.tmp 37) rfl rfl rfl (HDL.out.run _) ?_)
        go_meet
        exact ⟨_, Lib.hid ⟨HG4.out, HD1.out.symm⟩⟩
    case rest =>
    obtain ⟨Y, hcut⟩ := hcut
    have HGY := Lib.hid hcut.out.1
    have HVY := Lib.hid hcut.out.2
    have HYS : Hid (Y.S = X.S ∧ Y.D = X.D) := Lib.hid ⟨by have := HSM.out.1; rw [← HVY.out] at this; exact this, by have := HSM.out.2; rw [← HVY.out] at this; exact this⟩
    clear hcut FB H2 HB2 HNF HSO HNO HD1 HSM
    have c5 : wc.cell? ⟨f, 5, none⟩ = some (.map (some Y.bs)) := HGY.out.at_.obj.cell 5
    cases hs : MP.get X.S page with
    | none =>
      rw [hs] at HV
      have L := look_none HGY.out.at_.sld (j := page) (by rw [HYS.out.1]; exact hs)
      have HGZ := Lib.hid (HGY.out.old ((Below.refl _ _).alloc (Nat.le_refl _) (.cells #[vi 0, vi 0] 85)))
      clear hs
      go_wp2_with fail
      go_ret
      exact FIPost.mk HV.out HGZ.out HVY.out
    | some p =>
      obtain ⟨pb, pp⟩ := p
      rw [hs] at HV
      have L := look_some HGY.out.at_.sld (j := page) (by rw [HYS.out.1]; exact hs)
      clear hs
      go_upto_region 10 with fail
      have FB : Hid (Blk (wc.alloc (.cells #[vi pb, vi pp] 85)) wc.heap.size 85 #[vi pb, vi pp]) := Lib.hid (Blk.new _ _ _)
      have HGZ := Lib.hid (HGY.out.old ((Below.refl _ _).alloc (Nat.le_refl _) (.cells #[vi pb, vi pp] 85)))
      clear L c5 HGY
      generalize wc.alloc (.cells #[vi pb, vi pp] 85) = wd at *
      generalize wc.heap.size = g at *
      obtain ⟨d0, d1, _, _⟩ := plc_cells FB.out
      have c7 : wd.cell? ⟨f, 7, none⟩ = some (.map (some Y.bg)) := HGZ.out.at_.obj.cell 7
      obtain ⟨we, hupd, hm, hgr⟩ := updRun (HGZ.out.at_.old (Below.refl _ _).drew).gone page pb pp
      have HUP := Lib.hid hupd
      have HGE := Lib.hid ((HGZ.out.old (Below.refl _ _).drew).trans ((HGZ.out.at_.old (Below.refl _ _).drew).gonePut hgr hm))
      clear hupd hm hgr
      have hup := HUP.out.run
      go_region_law (fail)
      all_goals
        go_wp2_with fail
        go_ret
        refine FIPost.mk HV.out HGE.out ?_
        rw [← HVY.out, ← HYS.out.2]
  · rw [if_pos h0] at HV
    have HG := Lib.hid (FGoes.of_old H.out HB1.out)
    go_wp2_with fail
    go_ret
    exact FIPost.mk HV.out HG.out rfl
end
end Go.Proofs.YtjkaioonppmkjaaGreat.ft

/-
  A page of a translation is written, where no block has to be freed for it. Conditions: a translation told by FtAt, of moderate numbers.
-/
namespace Go.Proofs.YtjkaioonppmkjaaGreat.ft
open Go.RowKit Go.Proofs.YtjkaioonppmkjaaGreat.mgr

/-- An older one of this epoch is dropped. -/
def older (F : FP.Ft) (page : Int) : FP.Ft := { F with g := match MP.get F.now page with | some old => (F.g.drop old.block).2 | none => F.g }
theorem older_same (F : FP.Ft) (page : Int) : (older F page).now = F.now ∧ (older F page).gone = F.gone := ⟨rfl, rfl⟩
theorem Fit.older {F : FP.Ft} (h : Fit F) (page : Int) : Fit (older F page) := by
  unfold ft.older
  cases MP.get F.now page with
  | some p => exact h.drop _
  | none => exact h
theorem write_eq (F : FP.Ft) (page : Nat) (b : List Nat) : F.write page b = if F.logical page ≠ 0 then some (F.logical page, F) else if b.length ≠ F.c.S then some (1, F) else if F.shut then some (41, F) else
    if MP.has F.now page = false ∧ F.cap ≤ F.used then some (40, F) else
    match F.put 1 page b with
    | none => none
    | some (p, f1) => some (0, { older f1 page with now := MP.put f1.now page p, gone := MP.del f1.gone page }) := rfl
theorem Fit.write {F : FP.Ft} (h : Fit F) {page : Nat} {b : List Nat} (hb : ∀ y ∈ b, y < 256) {r : Int × FP.Ft} (e : F.write page b = some r) : Fit r.2 := by
  rw [write_eq] at e
  split at e
  · cases e; exact h
  · rename_i h0
    have hp := h.page (Classical.byContradiction h0)
    split at e
    · cases e; exact h
    · split at e
      · cases e; exact h
      · split at e
        · cases e; exact h
        · split at e
          · cases e
          · rename_i p f1 hput
            cases e
            have h1 := (h.put hb hput).1
            exact ((h1.older page).now (h1.nlow.put ⟨hp.1, hp.2.1⟩ _)).gone (h1.dlow.del _)
theorem FtM.fit_of {X : FtM} {V : FP.Ft} (hv : X.view = V) (h : ft.Fit V) : X.Fit := by unfold FtM.Fit; rw [hv]; exact h
section
variable {base : Nat} {w w' : World} {f : Nat} {X X' : FtM}
set_option maxRecDepth 100000 in
set_option maxHeartbeats 8000000 in
theorem Write_quiet (h : FtAt base w f X) (hx : X.Fit) (hbase : base ≤ w.heap.size) (page : Nat) (hp : page < 4294967296) (a : Option Addr) (b : List Nat) (c : Nat) (hr : SRow base w a b) (hl : b.length ≤ 900000) (r : Int × FP.Ft) (hq : X.view.write page b = some r) :
    Calls Tryz.prog 15 #[ptr f, vw page, .slice a b.length c] w (FIPost base w f X r) := by
  have H := Lib.hid h
  have HX := Lib.hid hx
  have HR := Lib.hid hr
  rw [write_eq] at hq
  have HSZ : Hid (X.view.c.S = X.M.S) := Lib.hid rfl
  rw [HSZ.out] at hq
  have HQ := Lib.hid hq
  clear h hx hr hq
  go_enter Tryz.func15, Tryz.ntmps15
  go_wp2_with fail
  refine (logical_any H.out HX.out page hp).mono ?_
  rintro e w1 ⟨rfl, hb1⟩
  have HB1 := Lib.hid hb1
  have H1 := Lib.hid (H.out.old hb1)
  clear hb1
  generalize X.view.logical page = lg at *
  by_cases h0 : lg = 0
  · subst h0
    have HQ : Hid _ := Lib.hid ((if_neg (by simp)).symm.trans HQ.out)
    have c6 : w1.cell? ⟨f, 6, none⟩ = some (.map (some X.bn)) := H1.out.obj.cell 6
    obtain ⟨pb, pp, ok, L, hsome, hnone⟩ := look_any H1.out.now page
    have HOK : Hid (MP.has X.N page = ok) := Lib.hid (by
      unfold MP.has
      cases ok
      · rw [hnone rfl]; rfl
      · rw [hsome rfl]; rfl)
    clear hsome hnone
    go_upto_region 5 with fail
    have H2 : Hid (FtAt base (w1.alloc (.cells #[vi pb, vi pp] 85)) f X) := Lib.hid (H1.out.old ((Below.refl _ _).alloc (Nat.le_refl _) _))
    have HB2 : Hid (Below w.heap.size w (w1.alloc (.cells #[vi pb, vi pp] 85))) := Lib.hid (HB1.out.alloc HB1.out.size _)
    clear L H1 HB1 c6
    generalize w1.alloc (.cells #[vi pb, vi pp] 85) = w2 at *
    go_wp2_with fail
    refine (size_any H2.out).mono ?_
    rintro e w3 ⟨rfl, hb3⟩
    have HB3 := Lib.hid (HB2.out.trans (hb3.mono HB2.out.size))
    have H3 := Lib.hid (H2.out.old hb3)
    clear hb3 H2 HB2
    by_cases hS : b.length = X.M.S
    · have HQ : Hid _ := Lib.hid ((if_neg (by simpa using hS)).symm.trans HQ.out)
      have hS' : ((b.length : Int) != (X.M.S : Int)) = false := by simp [hS]
      have HS := Lib.hid hS
      clear hS
      go_wp2_with fail
      refine (ReadOnly_any H3.out HX.out).mono ?_
      rintro e w4 ⟨rfl, hb4⟩
      have HB4 := Lib.hid (HB3.out.trans (hb4.mono HB3.out.size))
      have H4 := Lib.hid (H3.out.old hb4)
      clear hb4 H3 HB3
      generalize X.view.shut = sh at *
      cases sh
      · have HQ : Hid _ := Lib.hid ((if_neg (by simp)).symm.trans HQ.out)
        go_upto_region 9 with fail
        go_cut [38] from 39 to 86 (fun v wx => v = .bool (decide (MP.has X.N page = false ∧ X.view.cap ≤ X.view.used)) ∧ Hid (Below w.heap.size w wx))
        case first =>
          cases ok
          · go_wp2_with fail
            refine (Used_any H4.out HX.out).mono ?_
            rintro e w5 ⟨rfl, hb5⟩
            have HB5 := Lib.hid (HB4.out.trans (hb5.mono HB4.out.size))
            have H5 := Lib.hid (H4.out.old hb5)
            clear hb5
            go_wp2_with fail
            refine (Capacity_any H5.out HX.out).mono ?_
            rintro e w6 ⟨rfl, hb6⟩
            have HB6 := Lib.hid (HB5.out.trans (hb6.mono HB5.out.size))
            clear hb6 H5 HB5
            generalize hce : X.view.cap = cp
            generalize hue : X.view.used = us
            have HCE := Lib.hid hce
            have HUE := Lib.hid hue
            clear hce hue
            by_cases hcu : cp ≤ us
            · go_wp2_with fail
              go_meet
              exact ⟨by rw [HOK.out, HCE.out, HUE.out]; first | (simp; done) | simp [hcu], HB6⟩
            · go_wp2_with fail
              go_meet
              exact ⟨by rw [HOK.out, HCE.out, HUE.out]; first | (simp; done) | simp [hcu], HB6⟩
          · go_wp2_with fail
            go_meet
            exact ⟨by rw [HOK.out]; simp, HB4⟩
        case rest =>
        obtain ⟨rfl, HBC⟩ := hcut
        have HC := Lib.hid (H.out.old HBC.out)
        have HGC := Lib.hid (FGoes.of_old H.out HBC.out)
        have HRC := Lib.hid (HR.out.old HBC.out)
        clear H4 HB4 HR HOK
        by_cases hbad : MP.has X.N page = false ∧ X.view.cap ≤ X.view.used
        · have HQ : Hid _ := Lib.hid ((if_pos hbad).symm.trans HQ.out)
          rw [decide_eq_true hbad]
          clear hbad
          go_wp2_with fail
          go_ret
          exact FIPost.mk (by have := HQ.out; cases this; rfl) HGC.out rfl
        · have HQ : Hid _ := Lib.hid ((if_neg hbad).symm.trans HQ.out)
          rw [decide_eq_false hbad]
          clear hbad
          cases hput : X.view.put 1 page b with
          | none =>
            rw [hput] at HQ
            cases HQ.out
          | some q =>
            obtain ⟨⟨qb, qp⟩, V⟩ := q
            rw [hput] at HQ
            have HPQ := Lib.hid (put_quiet HC.out HX.out (Nat.le_trans hbase HBC.out.size) 1 page a b c HRC.out hl ⟨qb, qp⟩ V hput)
            have HFV := Lib.hid (Fit.put HX.out HRC.out.row.small hput)
            clear hput
            go_wp2_with fail
            refine HPQ.out.mono ?_
            rintro e w7 ⟨X7, rfl, hg7, hv7⟩
            have HG7 := Lib.hid (HGC.out.trans hg7)
            have HV7 := Lib.hid hv7
            have HX7 := Lib.hid (FtM.fit_of hv7 HFV.out.1)
            have HB7 := Lib.hid (Nat.le_trans HBC.out.size hg7.size)
            clear hg7 hv7 HPQ HC HGC HRC
            go_upto_region 14 with fail
            have FB7 : Hid (Blk (w7.alloc (.cells #[vi qb, vi qp] 85)) w7.heap.size 85 #[vi qb, vi qp]) := Lib.hid (Blk.new _ _ _)
            have HG8 := Lib.hid (HG7.out.old ((Below.refl _ _).alloc (Nat.le_refl _) (.cells #[vi qb, vi qp] 85)))
            have HN7 : Hid (¬ X7.foot f w7.heap.size) := Lib.hid (fun e => by have := HG7.out.at_.lt _ e; omega)
            clear HG7 HB7
            generalize w7.alloc (.cells #[vi qb, vi qp] 85) = w8 at *
            generalize w7.heap.size = g7 at *
            have c6 : w8.cell? ⟨f, 6, none⟩ = some (.map (some X7.bn)) := HG8.out.at_.obj.cell 6
            obtain ⟨ob, op, ok2, L, hsome, hnone⟩ := look_any HG8.out.at_.now page
            have HXN : Hid (X7.N = V.now) := Lib.hid (congrArg FP.Ft.now HV7.out)
            have HSO := Lib.hid hsome
            have HNO := Lib.hid hnone
            clear hsome hnone
            go_upto_region 15 with fail
            have FB9 : Hid (Blk (w8.alloc (.cells #[vi ob, vi op] 85)) w8.heap.size 85 #[vi ob, vi op]) := Lib.hid (Blk.new _ _ _)
            have FB79 : Hid (Blk (w8.alloc (.cells #[vi ob, vi op] 85)) g7 85 #[vi qb, vi qp]) := Lib.hid (FB7.out.alloc _)
            have HG9 := Lib.hid (HG8.out.old ((Below.refl _ _).alloc (Nat.le_refl _) (.cells #[vi ob, vi op] 85)))
            have HN9 : Hid (¬ X7.foot f w8.heap.size) := Lib.hid (fun e => by have := HG8.out.at_.lt _ e; omega)
            clear HG8 c6 L FB7
            generalize w8.alloc (.cells #[vi ob, vi op] 85) = w9 at *
            generalize w8.heap.size = g9 at *
            go_upto_if 68 with fail
            go_cut [69] from 69 to 86 (fun _ wx => Hid (Blk wx g7 85 #[vi qb, vi qp]) ∧ ∃ Y, Hid (FGoes base w f X wx Y ∧ Y.view = older V page))
            case first =>
              cases ok2
              · have HO : Hid (older V page = V) := Lib.hid (by
                  have := HNO.out rfl
                  rw [HXN.out] at this
                  unfold older
                  rw [this])
                go_wp2_with fail
                go_meet
                exact ⟨FB79, X7, Lib.hid ⟨HG9.out, by rw [HO.out]; exact HV7.out⟩⟩
              · have HO : Hid (older V page = { V with g := (V.g.drop ob).2 }) := Lib.hid (by
                  have := HSO.out rfl
                  rw [HXN.out] at this
                  unfold older
                  rw [this])
                go_upto_region 16 with fail
                obtain ⟨d0, d1, _, _⟩ := plc_cells FB9.out
                have c1 : w9.cell? ⟨f, 1, none⟩ = some (ptr X7.m) := HG9.out.at_.obj.cell 1
                have HS : Hid (w9.drew.cell? ⟨f, 1, none⟩ = some (ptr X7.m) ∧ w9.drew.cell? ⟨g9, 0, none⟩ = some (vi ob)) := Lib.hid ⟨c1, d0⟩
                have HDC := Lib.hid (drop_call (HG9.out.at_.old (Below.refl _ _).drew) HX7.out ob)
                have HKP : Hid (∀ W, FGoes base w9.drew f X7 W { X7 with G := X7.G.lay (X7.G.view.drop ob).2 } → (W.cell? ⟨f, 1, none⟩ = some (ptr X7.m) ∧ W.cell? ⟨g9, 0, none⟩ = some (vi ob))) :=
                  Lib.hid (fun W q => ⟨q.at_.obj.cell 1, (q.far (FB9.out.old (Below.refl _ _).drew) HN9.out).cell 0⟩)
                go_region_held3 (fun w' => w'.cell? ⟨f, 1, none⟩ = some (ptr X7.m) ∧ w'.cell? ⟨g9, 0, none⟩ = some (vi ob))
                  (first | exact HS.out | exact HKP.out _ (by assumption))
                  (first | (go_at_call 70; refine HDC.out.mono ?_; rintro e wd ⟨rfl, hgd⟩))
                have HGD := Lib.hid ((HG9.out.old (Below.refl _ _).drew).trans hgd)
                have FBD := Lib.hid (hgd.far (FB79.out.old (Below.refl _ _).drew) HN7.out)
                clear hgd HKP HS HDC c1 d0 d1
                go_wp2_with fail
                go_meet
                exact ⟨FBD, _, Lib.hid ⟨HGD.out, by rw [HO.out, ← HV7.out]⟩⟩
            case rest =>
            obtain ⟨FBC, Y, hcut⟩ := hcut
            have HGY := Lib.hid hcut.1
            have HVY := Lib.hid hcut.2
            clear hcut FB79 FB9 HG9 HN9 HN7 HSO HNO
            have HYN : Hid (Y.N = V.now ∧ Y.D = V.gone) := Lib.hid ⟨congrArg FP.Ft.now HVY.out, congrArg FP.Ft.gone HVY.out⟩
            go_upto_region 17 with fail
            obtain ⟨y0, y1, _, _⟩ := plc_cells FBC.out
            have c6 : wc.cell? ⟨f, 6, none⟩ = some (.map (some Y.bn)) := HGY.out.at_.obj.cell 6
            obtain ⟨we, hupd, hm, hgr⟩ := updRun (HGY.out.at_.old (Below.refl _ _).drew).now page qb qp
            have HGE := Lib.hid ((HGY.out.old (Below.refl _ _).drew).trans ((HGY.out.at_.old (Below.refl _ _).drew).nowPut hgr hm))
            have hup := hupd.run
            clear hupd hm hgr
            go_region_law (fail)
            all_goals
              have c7 : we.cell? ⟨f, 7, none⟩ = some (.map (some Y.bg)) := HGE.out.at_.obj.cell 7
              obtain ⟨wf, hdel, hm4, hgr4⟩ := delRun HGE.out.at_.gone page
              have HDL := Lib.hid hdel
              have HGF := Lib.hid (HGE.out.trans (HGE.out.at_.gonePut hgr4 hm4))
              clear hdel hm4 hgr4 hup c6 y0 y1
              go_wp2_with (at_delete; refine wpList_delete_run rfl (.tmp 85) (.tmp 86) rfl rfl rfl (HDL.out.run _) ?_)
              go_ret
              refine FIPost.mk (by have := HQ.out; cases this; rfl) HGF.out ?_
              have := HVY.out
              rw [← HYN.out.1, ← HYN.out.2, ← this]
      · have HQ : Hid _ := Lib.hid ((if_pos rfl).symm.trans HQ.out)
        have HG := Lib.hid (FGoes.of_old H.out HB4.out)
        go_wp2_with fail
        go_ret
        exact FIPost.mk (by have := HQ.out; cases this; rfl) HG.out rfl
    · have HQ : Hid _ := Lib.hid ((if_pos hS).symm.trans HQ.out)
      have hS' : ((b.length : Int) != (X.M.S : Int)) = true := by simp; omega
      have HG := Lib.hid (FGoes.of_old H.out HB3.out)
      clear hS
      go_wp2_with fail
      go_ret
      exact FIPost.mk (by have := HQ.out; cases this; rfl) HG.out rfl
  · have HQ : Hid _ := Lib.hid ((if_pos h0).symm.trans HQ.out)
    have HG := Lib.hid (FGoes.of_old H.out HB1.out)
    go_wp2_with fail
    go_ret
    exact FIPost.mk (by have := HQ.out; cases this; rfl) HG.out rfl
end
end Go.Proofs.YtjkaioonppmkjaaGreat.ft

/-
  A seal's payload. Conditions: moderate numbers, a row that is read.
-/
namespace Go.Proofs.YtjkaioonppmkjaaGreat.ft
open Go.RowKit Go.Proofs.YtjkaioonppmkjaaGreat.mgr

theorem own_made (w : World) (n m : Nat) (hm : n + m ≤ 1000000) : Own (w.alloc (.cells (madeCells #[vb 0] (n + m)) 5)) w.heap.size (.slice (some ⟨w.heap.size, 0, none⟩) n (n + m)) (List.replicate n 0) := by
  refine ⟨by simp [bv], .inr ⟨w.heap.size, n + m, madeCells #[vb 0] (n + m), by rw [List.length_replicate], Nat.le_refl _, heap_alloc_new w _, by rw [List.length_replicate]; omega, by unfold maxLen; omega, by simp [madeCells], ?_⟩⟩
  rw [toList_madeCells_one, List.length_replicate, Nat.mul_one, List.take_replicate, Nat.min_eq_left (by omega), bv, List.map_replicate]
theorem make_more (n m : Nat) (hm : n + m ≤ 1000000) (w : World) : (Instr.makeSlice 23 (.int .i64 (n : Int)) (.int .i64 ((n : Int) + (m : Int)))).run Tryz.prog w = .ok (.slice (some ⟨w.heap.size, 0, none⟩) n (n + m)) (w.alloc (.cells (madeCells #[vb 0] (n + m)) 5)) := by
  obtain ⟨i0, hi, hz0, hz1, hz2⟩ := info_parts byte_info
  have := run_make (P := Tryz.prog) w 23 5 i0 (vb 0) Tryz.underlying23 hi hz0 .i64 .i64 (n : Int) ((n : Int) + (m : Int)) (by omega) (by omega) (by rw [hz2]; omega) (by omega)
  rw [hz1] at this
  rw [show ((n : Int) + (m : Int)).toNat = n + m by omega, Int.toNat_natCast, Nat.mul_one] at this
  exact this
set_option maxRecDepth 100000 in
set_option maxHeartbeats 4000000 in
theorem head_any (reserve bad : Int) (a : Option Addr) (l : List Nat) (c : Nat) (w : World) (h : BRow w a l) (hl : l.length ≤ 10000) (h1 : 0 ≤ reserve ∧ reserve ≤ 65535) (h2 : 0 ≤ bad ∧ bad ≤ 65535) :
    Calls Tryz.prog 72 #[vi reserve, vi bad, .slice a l.length c] w fun e w' => ∃ v, e = .returned v ∧ Own w' w.heap.size v (FP.headP reserve bad l) ∧ Below w.heap.size w w' := by
  obtain ⟨rn, rfl⟩ : ∃ rn : Nat, reserve = rn := ⟨reserve.toNat, by omega⟩
  obtain ⟨bn, rfl⟩ : ∃ bn : Nat, bad = bn := ⟨bad.toNat, by omega⟩
  have HHD : Hid (FP.headP (rn : Int) (bn : Int) l = [rn % 256, rn / 256, bn % 256, bn / 256, 0, 0, 0, 0] ++ l) := Lib.hid (by
    have e1 : ((rn : Int) % 256).toNat = rn % 256 := by omega
    have e2 : ((rn : Int) / 256 % 256).toNat = rn / 256 := by omega
    have e3 : ((bn : Int) % 256).toNat = bn % 256 := by omega
    have e4 : ((bn : Int) / 256 % 256).toNat = bn / 256 := by omega
    unfold FP.headP
    rw [e1, e2, e3, e4])
  have hmk : (Instr.makeSlice 23 (.int .i64 8) (.int .i64 (8 + (l.length : Int)))).run Tryz.prog w = .ok (.slice (some ⟨w.heap.size, 0, none⟩) 8 (8 + l.length)) (w.alloc (.cells (madeCells #[vb 0] (8 + l.length)) 5)) := make_more 8 l.length (by omega) w
  have HO := Lib.hid (own_made w 8 l.length (by omega))
  have HB : Hid (Below w.heap.size w (w.alloc (.cells (madeCells #[vb 0] (8 + l.length)) 5))) := Lib.hid ((Below.refl _ _).alloc (Nat.le_refl _) _)
  have HR0 := Lib.hid h
  have HR := Lib.hid (h.below HB.out)
  have hc : (8 : Nat) ≤ 8 + l.length := by omega
  clear h
  go_enter Tryz.func72, Tryz.ntmps72
  go_upto_region 2 with fail
  generalize w.alloc (.cells (madeCells #[vb 0] (8 + l.length)) 5) = w0 at *
  have f0 := own_frozen HO.out (by simp) 0
  have f1 := own_frozen HO.out (by simp) 1
  have f2 := own_frozen HO.out (by simp) 2
  have f3 := own_frozen HO.out (by simp) 3
  have e0 := own_cell HO.out (by simp) (j := 0) (by decide)
  have e1 := own_cell HO.out (by simp) (j := 1) (by decide)
  have e2 := own_cell HO.out (by simp) (j := 2) (by decide)
  have e3 := own_cell HO.out (by simp) (j := 3) (by decide)
  go_upto_region 3 with fail
  have hbase : w.heap.size ≤ w0.heap.size := HB.out.size
  have HO4 := Lib.hid (own_set (own_set (own_set (own_set HO.out (by simp) 0 (rn % 256)) (by simp) 1 (rn / 256)) (by simp) 2 (bn % 256)) (by simp) 3 (bn / 256))
  have HB4 : Hid (Below w.heap.size w ((((w0.setCell ⟨w.heap.size, 0, none⟩ (vb (rn % 256))).setCell ⟨w.heap.size, 1, none⟩ (vb (rn / 256))).setCell ⟨w.heap.size, 2, none⟩ (vb (bn % 256))).setCell ⟨w.heap.size, 3, none⟩ (vb (bn / 256)))) := Lib.hid
    ((((HB.out.setCell (p := ⟨w.heap.size, 0, none⟩) (Nat.le_refl _) _).setCell (p := ⟨w.heap.size, 1, none⟩) (Nat.le_refl _) _).setCell (p := ⟨w.heap.size, 2, none⟩) (Nat.le_refl _) _).setCell (p := ⟨w.heap.size, 3, none⟩) (Nat.le_refl _) _)
  have HR4 : Hid (BRow ((((w0.setCell ⟨w.heap.size, 0, none⟩ (vb (rn % 256))).setCell ⟨w.heap.size, 1, none⟩ (vb (rn / 256))).setCell ⟨w.heap.size, 2, none⟩ (vb (bn % 256))).setCell ⟨w.heap.size, 3, none⟩ (vb (bn / 256))) a l) := Lib.hid (by
    exact HR0.out.below HB4.out)
  change Code.wp _ _ _ _ ((((w0.setCell ⟨w.heap.size, 0, none⟩ (vb (rn % 256))).setCell ⟨w.heap.size, 1, none⟩ (vb (rn / 256))).setCell ⟨w.heap.size, 2, none⟩ (vb (bn % 256))).setCell ⟨w.heap.size, 3, none⟩ (vb (bn / 256)))
  clear e0 e1 e2 e3 f0 f1 f2 f3 HO HB hmk
  generalize ((((w0.setCell ⟨w.heap.size, 0, none⟩ (vb (rn % 256))).setCell ⟨w.heap.size, 1, none⟩ (vb (rn / 256))).setCell ⟨w.heap.size, 2, none⟩ (vb (bn % 256))).setCell ⟨w.heap.size, 3, none⟩ (vb (bn / 256))) = w1 at *
  obtain ⟨v2, w2, hrun, ho2, hs2⟩ := append_bytes (c := c) HO4.out HR4.out (by simp; omega) HB4.out.size
  have RA : AppRun 23 23 23 (.slice (some ⟨w.heap.size, 0, none⟩) 8 (8 + l.length)) (.slice a l.length c) w1 v2 w2 := ⟨hrun⟩
  have HO2 := Lib.hid ho2
  have HB2 := Lib.hid (HB4.out.trans hs2.below)
  clear hrun ho2 hs2
  go_wp2_with (at_builtin; refine wpList_append_run rfl (.tmp 30) (.tmp 31) rfl rfl rfl RA.run ?_)
  go_ret
  rw [HHD.out]
  exact ⟨_, rfl, HO2.out, HB2.out⟩
end Go.Proofs.YtjkaioonppmkjaaGreat.ft

