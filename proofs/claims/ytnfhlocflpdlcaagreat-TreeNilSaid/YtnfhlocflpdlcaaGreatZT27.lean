/-
  Lemmas for a law's proof, put together from several texts: each part says what it shows, and its conditions.
-/
import Derived.Test.YtnfhlocflpdlcaaGreatZT26
import Derived.Test.YtnfhlocflpdlcaaGreatZT07
/-
  Where a page of a translation is, and its bytes. Conditions: a translation told by FtAt, of moderate numbers.
-/
namespace Go.Proofs.YtnfhlocflpdlcaaGreat.ft
open Go.RowKit Go.Proofs.YtnfhlocflpdlcaaGreat.mgr

section
variable {w : World} {b : Nat} {m : Mp FP.Plc}
theorem look_some (h : MpAt w b .u32 encP m) {j : Int} {p : FP.Plc} (hg : MP.get m j = some p) : (Instr.lookup 185 (.map (some b)) (.int .u32 j) true).run Tryz.prog w = .ok (.tuple #[.agg #[vi p.block, vi p.page], .bool true]) w := by
  rw [h.lookup_ok Tryz.underlying185 Tryz.underlying140 (zero_plc w) j, MP.has, hg]
  rfl
theorem look_none (h : MpAt w b .u32 encP m) {j : Int} (hg : MP.get m j = none) : (Instr.lookup 185 (.map (some b)) (.int .u32 j) true).run Tryz.prog w = .ok (.tuple #[.agg #[vi 0, vi 0], .bool false]) w := by
  rw [h.lookup_ok Tryz.underlying185 Tryz.underlying140 (zero_plc w) j, MP.has, hg]
  rfl
end
theorem at_result {w' : World} {g : Nat} {v0 v1 : Value} {n : Bool} (hb : Blk w' g 197 #[v0, v1]) (tmps : Array Value) (h2 : tmps[4]? = some (.pointer (some ⟨g, 0, none⟩))) (h4 : tmps[5]? = some (.bool n)) :
    (results Tryz.f125 tmps).run Tryz.prog w' = .ok (.tuple #[.agg #[v0, v1], .bool n]) w' := by
  have g0 : w'.cell? ⟨g, 0, none⟩ = some v0 := hb.cell 0
  have g1 : w'.cell? ⟨g, 1, none⟩ = some v1 := hb.cell 1
  simp only [results, Tryz.results125]
  simp [go_sem, h2, h4, g0, g1]
theorem plc_fill {w W : World} {g : Nat} {u0 u1 : Value} (v0 v1 : Value) (hb : Blk W g 197 #[u0, u1]) (hw : Below w.heap.size w W) (hg : w.heap.size ≤ g) :
    Blk ((W.setCell ⟨g, 0, none⟩ v0).setCell ⟨g, 1, none⟩ v1) g 197 #[v0, v1] ∧ Below w.heap.size w ((W.setCell ⟨g, 0, none⟩ v0).setCell ⟨g, 1, none⟩ v1) :=
  ⟨(hb.set_ 0 v0).set_ 1 v1, (hw.setCell hg v0).setCell hg v1⟩
/-- Cells of a place that lies in a block. -/
theorem plc_cells {w : World} {g : Nat} {v0 v1 : Value} (h : Blk w g 197 #[v0, v1]) : w.cell? ⟨g, 0, none⟩ = some v0 ∧ w.cell? ⟨g, 1, none⟩ = some v1 ∧ w.frozen? ⟨g, 0, none⟩ = false ∧ w.frozen? ⟨g, 1, none⟩ = false :=
  ⟨h.cell 0, h.cell 1, h.frozen 0, h.frozen 1⟩
abbrev atV (p : Option FP.Plc) : Value := .tuple #[encP (p.getD default), .bool p.isSome]
section
variable {base : Nat} {w : World} {f : Nat} {X : FtM}
set_option maxRecDepth 100000 in
set_option maxHeartbeats 2000000 in
theorem at_any (h : FtAt base w f X) (page : Nat) : Calls Tryz.prog 125 #[ptr f, vw page] w fun e w' => e = .returned (atV (X.view.at_ page)) ∧ Below w.heap.size w w' := by
  have HV : Hid (X.view.at_ page = match MP.get X.N page with | some p => some p | none => if MP.has X.D page then none else MP.get X.S page) := Lib.hid rfl
  have F0 : Hid (Blk (w.alloc (.cells #[vi 0, vi 0] 197)) w.heap.size 197 #[vi 0, vi 0]) := Lib.hid (Blk.new _ _ _)
  have HB : Hid (Below w.heap.size w (w.alloc (.cells #[vi 0, vi 0] 197))) := Lib.hid ((Below.refl _ _).alloc (Nat.le_refl _) _)
  have H := Lib.hid (h.old HB.out)
  clear h
  go_enter Tryz.func125, Tryz.ntmps125
  go_upto_region 1 with fail
  generalize w.alloc (.cells #[vi 0, vi 0] 197) = w0 at *
  have c6 : w0.cell? ⟨f, 6, none⟩ = some (.map (some X.bn)) := H.out.obj.cell 6
  cases hg : MP.get X.N page with
  | some p =>
    obtain ⟨pb, pp⟩ := p
    rw [hg] at HV
    have L := look_some H.out.now hg
    clear hg
    go_upto_region 2 with fail
    have FZ : Hid (Blk (w0.alloc (.cells #[vi pb, vi pp] 197)) w.heap.size 197 #[vi 0, vi 0]) := Lib.hid (F0.out.alloc _)
    have FY : Hid (Blk (w0.alloc (.cells #[vi pb, vi pp] 197)) w0.heap.size 197 #[vi pb, vi pp]) := Lib.hid (Blk.new _ _ _)
    have HBZ : Hid (Below w.heap.size w (w0.alloc (.cells #[vi pb, vi pp] 197))) := Lib.hid (HB.out.alloc HB.out.size _)
    clear F0 HB H L c6
    generalize w0.alloc (.cells #[vi pb, vi pp] 197) = wz at *
    generalize w0.heap.size = gz at *
    obtain ⟨d0, d1, f0, f1⟩ := plc_cells FZ.out
    obtain ⟨y0, y1, _, _⟩ := plc_cells FY.out
    go_wp2_with fail
    obtain ⟨hf, hw⟩ := plc_fill (vi pb) (vi pp) FZ.out HBZ.out (Nat.le_refl _)
    refine bodyPost_ret (at_result hf _ rfl rfl) rfl ?_
    rw [HV.out]
    exact ⟨rfl, hw⟩
  | none =>
    rw [hg] at HV
    have L := look_none H.out.now hg
    clear hg
    go_upto_region 4 with fail
    have F1 : Hid (Blk (w0.alloc (.cells #[vi 0, vi 0] 197)) w.heap.size 197 #[vi 0, vi 0]) := Lib.hid (F0.out.alloc _)
    have HB1 : Hid (Below w.heap.size w (w0.alloc (.cells #[vi 0, vi 0] 197))) := Lib.hid (HB.out.alloc HB.out.size _)
    have H1 : Hid (FtAt base (w0.alloc (.cells #[vi 0, vi 0] 197)) f X) := Lib.hid (H.out.old ((Below.refl _ _).alloc (Nat.le_refl _) _))
    clear c6 L H HB F0
    generalize w0.alloc (.cells #[vi 0, vi 0] 197) = w1 at *
    have c7 : w1.cell? ⟨f, 7, none⟩ = some (.map (some X.bg)) := H1.out.obj.cell 7
    cases hd : MP.get X.D page with
    | some p =>
      obtain ⟨pb, pp⟩ := p
      have hh : MP.has X.D page = true := by rw [MP.has, hd]; rfl
      rw [hh] at HV
      have L := look_some H1.out.gone hd
      clear hd hh
      go_upto_region 5 with fail
      have FZ : Hid (Blk (w1.alloc (.cells #[vi pb, vi pp] 197)) w.heap.size 197 #[vi 0, vi 0]) := Lib.hid (F1.out.alloc _)
      have FY : Hid (Blk (w1.alloc (.cells #[vi pb, vi pp] 197)) w1.heap.size 197 #[vi pb, vi pp]) := Lib.hid (Blk.new _ _ _)
      have HBZ : Hid (Below w.heap.size w (w1.alloc (.cells #[vi pb, vi pp] 197))) := Lib.hid (HB1.out.alloc HB1.out.size _)
      clear F1 HB1 H1 L c7
      generalize w1.alloc (.cells #[vi pb, vi pp] 197) = wz at *
      generalize w1.heap.size = gz at *
      obtain ⟨d0, d1, f0, f1⟩ := plc_cells FZ.out
      obtain ⟨y0, y1, _, _⟩ := plc_cells FY.out
      go_wp2_with fail
      obtain ⟨hf, hw⟩ := plc_fill (vi 0) (vi 0) FZ.out HBZ.out (Nat.le_refl _)
      refine bodyPost_ret (at_result hf _ rfl rfl) rfl ?_
      rw [HV.out]
      exact ⟨rfl, hw⟩
    | none =>
      have hh : MP.has X.D page = false := by rw [MP.has, hd]; rfl
      rw [hh] at HV
      have L := look_none H1.out.gone hd
      clear hd hh
      go_upto_region 7 with fail
      have F2 : Hid (Blk (w1.alloc (.cells #[vi 0, vi 0] 197)) w.heap.size 197 #[vi 0, vi 0]) := Lib.hid (F1.out.alloc _)
      have HB2 : Hid (Below w.heap.size w (w1.alloc (.cells #[vi 0, vi 0] 197))) := Lib.hid (HB1.out.alloc HB1.out.size _)
      have H2 : Hid (FtAt base (w1.alloc (.cells #[vi 0, vi 0] 197)) f X) := Lib.hid (H1.out.old ((Below.refl _ _).alloc (Nat.le_refl _) _))
      clear c7 L H1 HB1 F1
      generalize w1.alloc (.cells #[vi 0, vi 0] 197) = w2 at *
      have c5 : w2.cell? ⟨f, 5, none⟩ = some (.map (some X.bs)) := H2.out.obj.cell 5
      cases hs : MP.get X.S page with
      | some p =>
        obtain ⟨pb, pp⟩ := p
        rw [hs] at HV
        have L := look_some H2.out.sld hs
        clear hs
        go_upto_region 8 with fail
        have FZ : Hid (Blk (w2.alloc (.cells #[vi pb, vi pp] 197)) w.heap.size 197 #[vi 0, vi 0]) := Lib.hid (F2.out.alloc _)
        have FY : Hid (Blk (w2.alloc (.cells #[vi pb, vi pp] 197)) w2.heap.size 197 #[vi pb, vi pp]) := Lib.hid (Blk.new _ _ _)
        have HBZ : Hid (Below w.heap.size w (w2.alloc (.cells #[vi pb, vi pp] 197))) := Lib.hid (HB2.out.alloc HB2.out.size _)
        clear F2 HB2 H2 L c5
        generalize w2.alloc (.cells #[vi pb, vi pp] 197) = wz at *
        generalize w2.heap.size = gz at *
        obtain ⟨d0, d1, f0, f1⟩ := plc_cells FZ.out
        obtain ⟨y0, y1, _, _⟩ := plc_cells FY.out
        go_wp2_with fail
        obtain ⟨hf, hw⟩ := plc_fill (vi pb) (vi pp) FZ.out HBZ.out (Nat.le_refl _)
        refine bodyPost_ret (at_result hf _ rfl rfl) rfl ?_
        rw [HV.out]
        exact ⟨rfl, hw⟩
      | none =>
        rw [hs] at HV
        have L := look_none H2.out.sld hs
        clear hs
        go_upto_region 8 with fail
        have FZ : Hid (Blk (w2.alloc (.cells #[vi 0, vi 0] 197)) w.heap.size 197 #[vi 0, vi 0]) := Lib.hid (F2.out.alloc _)
        have FY : Hid (Blk (w2.alloc (.cells #[vi 0, vi 0] 197)) w2.heap.size 197 #[vi 0, vi 0]) := Lib.hid (Blk.new _ _ _)
        have HBZ : Hid (Below w.heap.size w (w2.alloc (.cells #[vi 0, vi 0] 197))) := Lib.hid (HB2.out.alloc HB2.out.size _)
        clear F2 HB2 H2 L c5
        generalize w2.alloc (.cells #[vi 0, vi 0] 197) = wz at *
        generalize w2.heap.size = gz at *
        obtain ⟨d0, d1, f0, f1⟩ := plc_cells FZ.out
        obtain ⟨y0, y1, _, _⟩ := plc_cells FY.out
        go_wp2_with fail
        obtain ⟨hf, hw⟩ := plc_fill (vi 0) (vi 0) FZ.out HBZ.out (Nat.le_refl _)
        refine bodyPost_ret (at_result hf _ rfl rfl) rfl ?_
        rw [HV.out]
        exact ⟨rfl, hw⟩
theorem readP_small {c : NP.Chp} (h : c.ok) (j p : Int) : ∀ y ∈ (NP.readP c j p).1.1, y < 256 := by
  unfold NP.readP
  dsimp only
  split
  · rename_i h0
    dsimp only
    split
    · intro y hy; rw [(List.mem_replicate.1 hy).2]; decide
    · intro y hy
      unfold NP.asked at h0
      split at h0
      · cases h0
      · split at h0
        · rename_i h1
          have hk : j.toNat < c.bs.length := by rw [h.blocks]; omega
          have hb := NP.getD_mem (d := (default : NP.Blo)) hk
          have hp : p.toNat < (c.bs.getD j.toNat default).ps.length := by rw [h.pages _ hb]; omega
          exact h.small _ hb _ (NP.getD_mem (d := []) hp) y hy
        · cases h0
  · simp
/-- What a call leaves of a translation: a result, and what it is then. -/
def FReadPost (base : Nat) (w : World) (f : Nat) (X : FtM) (r : (List Nat × Int) × FP.Ft) (e : Ending) (w' : World) : Prop :=
  ∃ v X', e = .returned (.tuple #[v, vi r.1.2]) ∧ Own w' w.heap.size v r.1.1 ∧ FRd base w f X w' X' ∧ X'.view = r.2
theorem FReadPost.mk {r : (List Nat × Int) × FP.Ft} {l : List Nat} {n : Int} {V : FP.Ft} {w' : World} {v : Value} (hr : r = ((l, n), V)) (ho : Own w' w.heap.size v l) {X' : FtM} (hg : FRd base w f X w' X') (hv : X'.view = V) : FReadPost base w f X r (.returned (.tuple #[v, vi n])) w' :=
  ⟨v, X', by rw [hr], by rw [hr]; exact ho, hg, by rw [hr]; exact hv⟩
set_option maxRecDepth 100000 in
set_option maxHeartbeats 4000000 in
theorem Read_any (h : FtAt base w f X) (hx : X.Fit) (page : Nat) (hp : page < 4294967296) : Calls Tryz.prog 76 #[ptr f, vw page] w (FReadPost base w f X (X.view.read page)) := by
  have H := Lib.hid h
  have HX := Lib.hid hx
  have HV : Hid (X.view.read page = if X.view.logical page ≠ 0 then (([], X.view.logical page), X.view) else match X.view.at_ page with
    | none => (([], 60), X.view)
    | some p => if (NP.readP X.M.view p.block p.page).1.2 ≠ 0 then (([], (NP.readP X.M.view p.block p.page).1.2), X.view.chip (NP.readP X.M.view p.block p.page).2) else
      if (TP.read (NP.readP X.M.view p.block p.page).1.1).2.2 ≠ 0 then (([], 21), X.view.chip (NP.readP X.M.view p.block p.page).2) else (((TP.read (NP.readP X.M.view p.block p.page).1.1).2.1, 0), X.view.chip (NP.readP X.M.view p.block p.page).2)) := Lib.hid rfl
  clear h hx
  go_enter Tryz.func76, Tryz.ntmps76
  go_wp2_with fail
  refine (logical_any H.out HX.out page hp).mono ?_
  rintro e w1 ⟨rfl, hb1⟩
  have HB1 := Lib.hid hb1
  have H1 := Lib.hid (H.out.old hb1)
  clear hb1
  generalize X.view.logical page = lg at *
  by_cases h0 : lg = 0
  · subst h0
    rw [if_neg (by simp)] at HV
    go_wp2_with fail
    refine (at_any H1.out page).mono ?_
    rintro e w2 ⟨rfl, hb2⟩
    have HB2 := Lib.hid (HB1.out.trans (hb2.mono HB1.out.size))
    have H2 := Lib.hid (H1.out.old hb2)
    clear hb2 H1 HB1
    cases hat : X.view.at_ page with
    | none =>
      rw [hat] at HV
      have HG := Lib.hid ((FRd.of_old H.out HB2.out).old ((Below.refl _ _).alloc (Nat.le_refl _) (.cells #[vi 0, vi 0] 197)))
      go_wp2_with fail
      go_ret2
      exact FReadPost.mk HV.out (Own.nil _ _) HG.out rfl
    | some p =>
      obtain ⟨pb, pp⟩ := p
      rw [hat] at HV
      dsimp only at HV
      have HB3 : Hid (Below w.heap.size w (w2.alloc (.cells #[vi pb, vi pp] 197))) := Lib.hid (HB2.out.alloc HB2.out.size _)
      have H3 : Hid (FtAt base (w2.alloc (.cells #[vi pb, vi pp] 197)) f X) := Lib.hid (H2.out.old ((Below.refl _ _).alloc (Nat.le_refl _) _))
      have F3 : Hid (Blk (w2.alloc (.cells #[vi pb, vi pp] 197)) w2.heap.size 197 #[vi pb, vi pp]) := Lib.hid (Blk.new _ _ _)
      go_upto_region 7 with fail
      clear H2 HB2
      generalize w2.alloc (.cells #[vi pb, vi pp] 197) = w3 at *
      generalize w2.heap.size = g at *
      obtain ⟨d0, d1, _, _⟩ := plc_cells F3.out
      have c0 : w3.cell? ⟨f, 0, none⟩ = some (ptr X.G.k) := H3.out.obj.cell 0
      have HS : Hid (w3.drew.cell? ⟨f, 0, none⟩ = some (ptr X.G.k) ∧ w3.drew.cell? ⟨g, 0, none⟩ = some (vi pb) ∧ w3.drew.cell? ⟨g, 1, none⟩ = some (vi pp)) := Lib.hid ⟨c0, d0, d1⟩
      have HRD := Lib.hid (_root_.Go.Proofs.YtnfhlocflpdlcaaGreat.Read_any (H3.out.held.chip.old (Below.refl _ _).drew) HX.out.good.ok pb pp)
      have hfn : ¬ X.M.foot X.G.k f := fun e => H3.out.obj_ne.2.2.2.2 (.inr e)
      have HGN : Hid (¬ X.M.foot X.G.k g) := Lib.hid (fun e => by
        have := H3.out.held.type (.inr e)
        obtain ⟨t, cs, hb, ht⟩ := this
        have := blk_type hb F3.out
        rcases ht with ht | ht | ht | ht | ht <;> rw [ht] at this <;> exact absurd this (by decide))
      have HKP : Hid (∀ W M', Goes base w3.drew X.G.k X.M W M' → (W.cell? ⟨f, 0, none⟩ = some (ptr X.G.k) ∧ W.cell? ⟨g, 0, none⟩ = some (vi pb) ∧ W.cell? ⟨g, 1, none⟩ = some (vi pp))) :=
        Lib.hid (fun W M' q => ⟨q.chg.cell HS.out.1 hfn, q.chg.cell HS.out.2.1 HGN.out, q.chg.cell HS.out.2.2 HGN.out⟩)
      go_region_held3 (fun w' => w'.cell? ⟨f, 0, none⟩ = some (ptr X.G.k) ∧ w'.cell? ⟨g, 0, none⟩ = some (vi pb) ∧ w'.cell? ⟨g, 1, none⟩ = some (vi pp))
        (first | exact HS.out | exact HKP.out _ _ (by assumption))
        (first | (go_at_call 126; refine HRD.out.mono ?_; rintro e w4 ⟨v4, M4, rfl, ho4, hg4, hv4⟩))
      have HG := Lib.hid ((FRd.of_old H.out HB3.out).trans ((FRd.of_old H3.out (Below.refl _ _).drew).trans ((H3.out.old (Below.refl _ _).drew).chipRd hg4)))
      have HV4 := Lib.hid hv4
      have HSM := Lib.hid (readP_small HX.out.good.ok pb pp)
      obtain ⟨a4, k4, rfl, hs4, hl4, hc4, _⟩ := ho4.srow (base := base) HSM.out
      have HR4 := Lib.hid hs4.row
      have HB4 := Lib.hid (Nat.le_trans HB3.out.size hg4.chg.size)
      clear hs4 ho4 hg4 hv4 HKP HGN HRD HS c0 d0 d1
      generalize NP.readP X.M.view pb pp = r at *
      obtain ⟨⟨l, e⟩, V⟩ := r
      dsimp only at *
      by_cases he : e = 0
      · subst he
        rw [if_neg (by simp)] at HV
        go_wp2_with fail
        refine (tRead_any a4 l k4 w4 HR4.out hl4 hc4).mono ?_
        rintro e w5 ⟨v5, rfl, ho5, hb5⟩
        have HO5 := Lib.hid (ho5.more (Nat.le_trans HB4.out (Nat.le_refl _)))
        have HG5 := Lib.hid (HG.out.old hb5)
        clear ho5 hb5 HG
        generalize TP.read l = t at *
        obtain ⟨⟨k, pg, sq, ep⟩, pl, te⟩ := t
        dsimp only at *
        by_cases ht : te = 0
        · subst ht
          rw [if_neg (by simp)] at HV
          go_wp2_with fail
          go_ret2
          exact FReadPost.mk HV.out (HO5.out.old ((Below.refl _ _).alloc (Nat.le_refl _) _)) (HG5.out.old ((Below.refl _ _).alloc (Nat.le_refl _) _)) (by show FP.Ft.mk _ _ _ _ _ _ _ _ _ _ _ _ = _; rw [HV4.out]; rfl)
        · rw [if_pos ht] at HV
          go_wp2_with fail
          go_ret2
          exact FReadPost.mk HV.out (Own.nil _ _) (HG5.out.old ((Below.refl _ _).alloc (Nat.le_refl _) _)) (by show FP.Ft.mk _ _ _ _ _ _ _ _ _ _ _ _ = _; rw [HV4.out]; rfl)
      · rw [if_pos he] at HV
        go_wp2_with fail
        go_ret2
        exact FReadPost.mk HV.out (Own.nil _ _) HG.out (by show FP.Ft.mk _ _ _ _ _ _ _ _ _ _ _ _ = _; rw [HV4.out]; rfl)
  · rw [if_pos h0] at HV
    have HG := Lib.hid (FRd.of_old H.out HB1.out)
    go_wp2_with fail
    go_ret2
    exact FReadPost.mk HV.out (Own.nil _ _) HG.out rfl
end
end Go.Proofs.YtnfhlocflpdlcaaGreat.ft

/-
  A page is written where no block has to be freed for it. Conditions: a translation told by FtAt, of moderate numbers; enough blocks free, none of a later epoch.
-/
namespace Go.Proofs.YtnfhlocflpdlcaaGreat.ft
open Go.RowKit Go.Proofs.YtnfhlocflpdlcaaGreat.mgr

theorem FtM.Fit.fit {X : FtM} (h : X.Fit) : X.G.fit X.M.P := MgM.fit_of rfl (h.gok.fit h.dims.2.1 h.dims.2.2.2.1)
theorem FtM.Fit.left {X : FtM} (h : X.Fit) : wrap64 (X.G.reserve - wrap64 ((countL 4 X.G.l : Nat) - X.G.bad)) = FP.left X.G.view ∧ -70000 ≤ FP.left X.G.view ∧ FP.left X.G.view ≤ 140000 := by
  have hg := h.gres
  have hcl := countL_le 4 X.G.l
  have hgl := h.glen
  have hd := h.dims
  unfold FP.left wrap64
  dsimp only [MgM.view]
  omega
section
variable {base : Nat} {w : World} {f : Nat} {X : FtM}
set_option maxRecDepth 100000 in
set_option maxHeartbeats 2000000 in
theorem enough_any (h : FtAt base w f X) (hx : X.Fit) : Calls Tryz.prog 205 #[ptr f] w fun e w' => e = .returned (.bool (FP.enough X.G.view X.M.P)) ∧ Below w.heap.size w w' := by
  obtain ⟨c0, c1, c2, c3, c4, c5, c6, c7, c8, c9, c10, c11⟩ := h.cells
  have H := Lib.hid h
  have HX := Lib.hid hx
  have hlf := hx.left
  have HW := Lib.hid hlf.1
  have hl1 := hlf.2
  have hcl := countL_le 0 X.G.l
  have hgl := hx.glen
  have hd := hx.dims
  have hcm : countL 0 X.G.l * X.M.P ≤ 128 * 32 := Nat.mul_le_mul (by omega) (by omega)
  have HV : Hid (FP.enough X.G.view X.M.P = decide ((if roomL X.G X.M.P = ((countL 0 X.G.l : Nat) : Int) * X.M.P then FP.left X.G.view + 1 + 1 else FP.left X.G.view + 1) ≤ ((countL 0 X.G.l : Nat) : Int))) := Lib.hid rfl
  have hcz : ((countL 0 X.G.l : Nat) : Int) * (X.M.P : Int) = ((countL 0 X.G.l * X.M.P : Nat) : Int) := by rw [Int.natCast_mul]
  have q3 : IntKind.i64.wrap (((countL 0 X.G.l : Nat) : Int) * (X.M.P : Int)) = ((countL 0 X.G.l : Nat) : Int) * (X.M.P : Int) := IntWalk.i64_in _ (by rw [hcz]; omega)
  clear h hx c2 c3 c4 c5 c6 c7 c8 c9 c10 c11 hlf hcz hcm hgl
  go_enter Tryz.func205, Tryz.ntmps205
  go_wp2_with fail
  refine (Left_any H.out.held.mgr).mono ?_
  rw [HW.out]
  rintro e w1 ⟨rfl, hb1⟩
  have HB1 := Lib.hid hb1
  have H1 := Lib.hid (H.out.old hb1)
  have c0 := cell_below c0 hb1
  have c1 := cell_below c1 hb1
  clear hb1 H
  have HRO : Hid (∀ n : Sub w1, Calls Tryz.prog _ #[ptr X.m] n.w fun e w' => e = .returned (vi (roomL X.G X.M.P)) ∧ Below n.w.heap.size n.w w') := Lib.hid (fun n => Room_any (H1.out.held.mgr.old n.below) (H1.out.held.chip.old n.below) HX.out.fit)
  have HFR : Hid (∀ n : Sub w1, Calls Tryz.prog _ #[ptr X.m] n.w fun e w' => e = .returned (vi (countL 0 X.G.l : Nat)) ∧ Below n.w.heap.size n.w w') := Lib.hid (fun n => Free_any (H1.out.held.mgr.old n.below))
  have HGE : Hid (∀ n : Sub w1, Calls Tryz.prog _ #[ptr X.G.k] n.w fun e w' => e = .returned (.agg #[vi X.M.B, vi X.M.P, vi X.M.S]) ∧ Below n.w.heap.size n.w w') := Lib.hid (fun n => Geo_any (H1.out.held.chip.old n.below))
  have hf := geo_f1
  generalize roomL X.G X.M.P = rm at *
  generalize FP.left X.G.view = lf at *
  generalize countL 0 X.G.l = cn at *
  have q1 : IntKind.i64.wrap (lf + 1) = lf + 1 := IntWalk.i64_in _ (by omega)
  have q2 : IntKind.i64.wrap (lf + 1 + 1) = lf + 1 + 1 := IntWalk.i64_in _ (by omega)
  go_upto_region 2 with fail
  have c0' := c0
  have c1' := c1
  have c0 := Sub.cell c0
  have c1 := Sub.cell c1
  refine wp_region_sub (by kernel_rfl) (by kernel_rfl) ?_
  repeat (go_big_quiet_step (first | exact ext_of (HRO.out _) | exact ext_of (HFR.out _) | exact ext_of (HGE.out _)))
  refine wpQuiet_nil ?_
  rintro _ ⟨nq, rfl⟩
  have HBN := Lib.hid (HB1.out.trans (nq.below.mono HB1.out.size))
  have H2 := Lib.hid (H1.out.old nq.below)
  have e1 : nq.w.cell? ⟨f, 1, none⟩ = some (ptr X.m) := H2.out.obj.cell 1
  clear c0 c1 c0' c1' HRO HGE
  by_cases hr : rm = (cn : Int) * X.M.P
  · have hr' : (rm == (cn : Int) * X.M.P) = true := by simp [hr]
    have HRR := Lib.hid hr
    clear hr
    go_wp2_with fail
    refine (HFR.out nq).mono ?_
    rintro e w3 ⟨rfl, hb3⟩
    have HB3 := Lib.hid (HBN.out.trans (hb3.mono HBN.out.size))
    clear hb3
    go_wp2_with fail
    go_ret
    exact ⟨ret_bool (by rw [HV.out, if_pos HRR.out]), HB3.out⟩
  · have hr' : (rm == (cn : Int) * X.M.P) = false := by simp [hr]
    have HRR := Lib.hid hr
    clear hr
    go_wp2_with fail
    refine (HFR.out nq).mono ?_
    rintro e w3 ⟨rfl, hb3⟩
    have HB3 := Lib.hid (HBN.out.trans (hb3.mono HBN.out.size))
    clear hb3
    go_wp2_with fail
    go_ret
    exact ⟨ret_bool (by rw [HV.out, if_neg HRR.out]), HB3.out⟩
set_option maxRecDepth 100000 in
set_option maxHeartbeats 2000000 in
theorem ensure_quiet (h : FtAt base w f X) (hx : X.Fit) (he : FP.enough X.G.view X.M.P = true) : Calls Tryz.prog 190 #[ptr f] w fun e w' => e = .returned (vi 0) ∧ Below w.heap.size w w' := by
  obtain ⟨c0, c1, c2, c3, c4, c5, c6, c7, c8, c9, c10, c11⟩ := h.cells
  have H := Lib.hid h
  have HX := Lib.hid hx
  have HE := Lib.hid he
  have hd := hx.dims
  have hm1 : 8 * X.M.B * X.M.P ≤ 8 * 128 * 32 := Nat.mul_le_mul (by omega) (by omega)
  have hm0 : 0 < 8 * X.M.B * X.M.P := Nat.mul_pos (by omega) (by omega)
  have hz : (8 : Int) * (X.M.B : Int) * (X.M.P : Int) = ((8 * X.M.B * X.M.P : Nat) : Int) := by simp
  have q1 : IntKind.i64.wrap (8 * (X.M.B : Int)) = 8 * (X.M.B : Int) := IntWalk.i64_in _ (by omega)
  have q2 : IntKind.i64.wrap (8 * (X.M.B : Int) * (X.M.P : Int)) = 8 * (X.M.B : Int) * (X.M.P : Int) := IntWalk.i64_in _ (by rw [hz]; omega)
  have q0 : (0 : Int) < 8 * (X.M.B : Int) * (X.M.P : Int) := by rw [hz]; omega
  clear h hx he c1 c2 c3 c4 c5 c6 c7 c8 c9 c10 c11 hz hm0 hm1
  go_enter Tryz.func190, Tryz.ntmps190
  go_wp2_with fail
  refine (Geo_any H.out.held.chip).mono ?_
  rintro e w1 ⟨rfl, hb1⟩
  have HB1 : Hid (Below w.heap.size w (w1.alloc (.cells #[vi X.M.B, vi X.M.P, vi X.M.S] 122))) := Lib.hid (hb1.alloc hb1.size _)
  have H1 : Hid (FtAt base (w1.alloc (.cells #[vi X.M.B, vi X.M.P, vi X.M.S] 122)) f X) := Lib.hid ((H.out.old hb1).old ((Below.refl _ _).alloc (Nat.le_refl _) _))
  clear hb1 c0 H
  go_wp2_with fail
  go_loop [16] (fun i => i = vi 0) (fun _ => 0)
  case atStart => rfl
  case round =>
    subst hrel
    go_wp2_with fail
    refine (enough_any H1.out HX.out).mono ?_
    rw [HE.out]
    rintro e w2 ⟨rfl, hb2⟩
    have HB2 := Lib.hid (HB1.out.trans (hb2.mono HB1.out.size))
    clear hb2
    go_wp2_with fail
    go_ret
    exact ⟨rfl, HB2.out⟩
set_option maxRecDepth 100000 in
set_option maxHeartbeats 2000000 in
theorem clean_quiet (h : FtAt base w f X) (hx : X.Fit) (hl : X.later.all (fun x => !x) = true) : Calls Tryz.prog 189 #[ptr f] w fun e w' => e = .returned (vi 0) ∧ Below w.heap.size w w' := by
  have HL : Hid (∀ k, k < X.later.length → X.later.getD k false = false) := Lib.hid (fun k hk => by
    have := List.all_eq_true.1 hl _ (NP.getD_mem (d := false) hk)
    simpa using this)
  have hll := hx.llen
  have hd := hx.dims
  have hlb : X.later.length ≤ 128 := by omega
  have HB : Hid (Below w.heap.size w (w.alloc (.cells #[.bool false, .bool true] 4))) := Lib.hid ((Below.refl _ _).alloc (Nat.le_refl _) _)
  have FB : Hid (Blk (w.alloc (.cells #[.bool false, .bool true] 4)) w.heap.size 4 #[.bool false, .bool true]) := Lib.hid (Blk.new _ _ _)
  have H := Lib.hid (h.old HB.out)
  clear h hx hl hll hd
  go_enter Tryz.func189, Tryz.ntmps189
  go_wp2_with fail
  generalize w.alloc (.cells #[.bool false, .bool true] 4) = w0 at *
  have c10 : w0.cell? ⟨f, 10, none⟩ = some (.slice (some ⟨X.lg, 0, none⟩) X.later.length X.lc) := H.out.obj.cell 10
  have b0 : w0.cell? ⟨w.heap.size, 0, none⟩ = some (.bool false) := FB.out.cell 0
  have b1 : w0.cell? ⟨w.heap.size, 1, none⟩ = some (.bool true) := FB.out.cell 1
  go_loop [9] (fun i => ∃ n : Nat, n ≤ 2 ∧ i = vi n) (fun i => 2 - (intOf i).toNat)
  case atStart => exact ⟨0, by omega, rfl⟩
  case round =>
    obtain ⟨n, hn, rfl⟩ := hrel
    by_cases hlt : n < 2
    · have hbn : w0.cell? ⟨w.heap.size, n, none⟩ = some (.bool (decide (n = 1))) := by
        obtain rfl | rfl : n = 0 ∨ n = 1 := by omega
        · exact b0
        · exact b1
      generalize decide (n = 1) = nd at *
      clear b0 b1
      have hn0 : (0 : Int) ≤ (n : Int) := by omega
      have hn1 : (n : Int) < 2 := by omega
      go_wp2_with fail
      go_loop [18] (fun i => ∃ k : Nat, k ≤ X.later.length ∧ i = vi k) (fun i => X.later.length - (intOf i).toNat)
      case atStart => exact ⟨0, by omega, rfl⟩
      case round =>
        obtain ⟨k, hk, rfl⟩ := hrel
        by_cases hlk : k < X.later.length
        · have hck : w0.cell? ⟨X.lg, k, none⟩ = some (.bool false) := by
            rw [H.out.later.cell (by omega), List.getElem?_map, List.getElem?_eq_getElem hlk]
            have := HL.out k hlk
            rw [List.getD_eq_getElem?_getD, List.getElem?_eq_getElem hlk] at this
            simpa using this
          have hk0 : (0 : Int) ≤ (k : Int) := by omega
          have hk1 : (k : Int) < (X.later.length : Int) := by omega
          go_wp2_with fail
          go_round
          case rel => exact ⟨k + 1, by omega, by go_num⟩
          case measure => simp [intOf]; omega
        · obtain rfl : k = X.later.length := by omega
          go_wp2_with fail
          go_round
          case rel => exact ⟨n + 1, by omega, by go_num⟩
          case measure => simp [intOf]; omega
    · obtain rfl : n = 2 := by omega
      go_wp2_with fail
      go_ret
      exact ⟨rfl, HB.out⟩
end
end Go.Proofs.YtnfhlocflpdlcaaGreat.ft

