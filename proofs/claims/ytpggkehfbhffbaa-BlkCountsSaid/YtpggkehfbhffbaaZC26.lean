/-
  Lemmas for a law's proof, put together from several texts: each part says what it shows, and its conditions.
-/
import Derived.Test.YtpggkehfbhffbaaZC23
import Derived.Test.YtpggkehfbhffbaaZC25
import Derived.Test.YtpggkehfbhffbaaZC18
import Derived.Test.YtpggkehfbhffbaaZC01
import Derived.Deep.Slices
import Derived.Deep.Fields
import Derived.ChangeSame
/-
  The fixed calls of a manager answer as they must. No conditions.
-/
namespace Go.Proofs.Ytpggkehfbhffbaa.mgr
open Go.RowKit

def kT : List Bool := List.replicate 8 true
def kZ : List Int := List.replicate 8 0
def kG0 : Mg := ⟨firstL kV0 kT kZ 8, -1, 1, 0, evenB (firstL kV0 kT kZ 8)⟩
theorem k_open : openG kV0 kT kZ 1 0 = (0, some kG0) := by kernel_rfl
def kG1 : Mg := (kG0.program zs96 kV0).2.2
theorem k_prog : kG0.program zs96 kV0 = ((0, 0, 0), kV1, kG1) := by kernel_rfl
theorem kG0_ok : kG0.ok kV0 := (openG_ok k_open).1
/-- What a manager tells depends on what it is alone. -/
def Mg.std (g : Mg) : MgM := ⟨0, g.l, 0, 0, g.at_, g.reserve, g.bad, g.even⟩
theorem Mg.ok.fit {c : NP.Chp} {g : Mg} (h : g.ok c) (hB : c.B ≤ 128) (hP : c.P ≤ 32) : g.std.fit c.P := by
  refine ⟨by have := h.len; show g.l.length ≤ 128; omega, hP, ?_⟩
  rcases h.at1 with e | ⟨i, e, hi, hs⟩
  · exact .inl e
  · have h1 := h.open_ _ (blk_mem hi) hs
    have h2 := h.rng _ (blk_mem hi)
    exact .inr ⟨i, e, hi, h2.2.2.2.2.1, h2.2.2.2.2.2⟩
theorem MgM.fit_of {G : MgM} {g : Mg} {P : Nat} (hv : G.view = g) (h : g.std.fit P) : G.fit P := by subst hv; exact h
theorem roomL_of {G : MgM} {g : Mg} (hv : G.view = g) (P : Nat) : roomL G P = roomL g.std P := by subst hv; rfl
theorem nextL_of {G : MgM} {g : Mg} (hv : G.view = g) (P : Nat) : nextL G P = nextL g.std P := by subst hv; rfl
theorem k_free : countL 0 kG0.l = 8 := by kernel_rfl
theorem k_room : roomL kG0.std 4 = 32 := by kernel_rfl
theorem k_next : nextL kG0.std 4 = (3, 0) := by kernel_rfl
theorem k_len : kG0.l.length = 8 := by kernel_rfl
theorem k1_free : countL 0 kG1.l = 7 := by kernel_rfl
theorem k1_room : roomL kG1.std 4 = 31 := by kernel_rfl
theorem k1_left : wrap64 (kG1.reserve - wrap64 ((countL 4 kG1.l : Nat) - kG1.bad)) = 1 := by kernel_rfl
theorem k0_fit : kG0.std.fit 4 := kG0_ok.fit (by decide) (by decide)
theorem k1_fit : kG1.std.fit 4 := by
  have h1 : kG1.l.length = 8 := by kernel_rfl
  have h2 : (kG1.l.getD 0 default).n = 1 := by kernel_rfl
  exact ⟨by show kG1.l.length ≤ 128; omega, by decide, .inr ⟨0, by kernel_rfl, by show 0 < kG1.l.length; omega, by show 0 ≤ (kG1.l.getD 0 default).n; omega, by show (kG1.l.getD 0 default).n ≤ _; omega⟩⟩
theorem bo_row (w : World) : BoRow ((w.alloc (.cells #[.bool true, .bool true, .bool true, .bool true, .bool true, .bool true, .bool true, .bool true] 4)).alloc (.cells (madeCells #[vi 0] 8) 3)) (some ⟨w.heap.size, 0, none⟩) kT := by
  refine .inr ⟨w.heap.size, 0, rfl, fun i hi => ?_⟩
  have hb : Blk ((w.alloc (.cells #[.bool true, .bool true, .bool true, .bool true, .bool true, .bool true, .bool true, .bool true] 4)).alloc (.cells (madeCells #[vi 0] 8) 3)) w.heap.size 4 _ := (Blk.new w _ _).alloc _
  rw [hb.cell]
  have h8 : i < 8 := hi
  obtain rfl | rfl | rfl | rfl | rfl | rfl | rfl | rfl : i = 0 ∨ i = 1 ∨ i = 2 ∨ i = 3 ∨ i = 4 ∨ i = 5 ∨ i = 6 ∨ i = 7 := by omega
  all_goals rfl
theorem int_row (w : World) : IRow (w.alloc (.cells (madeCells #[vi 0] 8) 3)) (some ⟨w.heap.size, 0, none⟩) kZ := by
  refine .inr ⟨w.heap.size, 0, rfl, fun i hi => ?_⟩
  have h8 : i < 8 := hi
  rw [(Blk.new w _ _).cell, Nat.zero_add, ← Array.getElem?_toList, toList_madeCells_one, List.getElem?_replicate, if_pos h8]
  unfold kZ
  rw [List.getD_eq_getElem?_getD, List.getElem?_replicate, if_pos h8]
  rfl
set_option maxRecDepth 100000 in
set_option maxHeartbeats 4000000 in
theorem known06_any (w : World) : Calls Try.prog 47 #[] w fun e w' => e = .returned (.bool true) ∧ Below w.heap.size w w' := by
  have hmk : ∀ w : World, (Instr.makeSlice 32 (.int .i64 96) (.int .i64 96)).run Try.prog w = .ok (.slice (some ⟨w.heap.size, 0, none⟩) 96 96) (w.alloc (.cells (madeCells #[vb 0] 96) 5)) := fun w => make_bytes 96 (by omega) w
  have hmi : ∀ w : World, (Instr.makeSlice 24 (.int .i64 8) (.int .i64 8)).run Try.prog w = .ok (.slice (some ⟨w.heap.size, 0, none⟩) 8 8) (w.alloc (.cells (madeCells #[vi 0] 8) 3)) := fun w => make_ints 8 (by omega) w
  go_enter Try.func47, Try.ntmps47
  go_wp2_with fail
  refine (New_any w.heap.size 8 4 64 none [] 0 _ (.inl rfl) (Nat.zero_le _) (Nat.le_refl _)).mono ?_
  rintro e w1 hn
  rw [show NP.new 8 4 64 [] = some kV0 from rfl] at hn
  obtain ⟨k, M, rfl, hm, hv⟩ := hn
  have HM := Lib.hid hm
  have HV := Lib.hid hv
  clear hm hv
  go_wp2_with fail
  have hb2 : Below w1.heap.size w1 ((w1.alloc (.cells #[.bool true, .bool true, .bool true, .bool true, .bool true, .bool true, .bool true, .bool true] 4)).alloc (.cells (madeCells #[vi 0] 8) 3)) := ((Below.refl _ w1).alloc (Nat.le_refl _) _).alloc (by simp) _
  have HM2 := Lib.hid (HM.out.at_.old hb2)
  have HB2 := Lib.hid (HM.out.below.trans (hb2.mono HM.out.below.size))
  have HBO := Lib.hid (bo_row w1)
  have HIR : Hid (IRow ((w1.alloc (.cells #[.bool true, .bool true, .bool true, .bool true, .bool true, .bool true, .bool true, .bool true] 4)).alloc (.cells (madeCells #[vi 0] 8) 3)) (some ⟨w1.heap.size + 1, 0, none⟩) kZ) := Lib.hid (by
    have := int_row (w1.alloc (.cells #[.bool true, .bool true, .bool true, .bool true, .bool true, .bool true, .bool true, .bool true] 4))
    rwa [size_alloc] at this)
  clear hb2 HM hmi
  generalize (w1.alloc (.cells #[.bool true, .bool true, .bool true, .bool true, .bool true, .bool true, .bool true, .bool true] 4)).alloc (.cells (madeCells #[vi 0] 8) 3) = w2 at *
  have HO : Hid (Calls Try.prog 38 #[ptr k, .slice (some ⟨w1.heap.size, 0, none⟩) 8 8, .slice (some ⟨w1.heap.size + 1, 0, none⟩) 8 8, vi 1, vi 0] w2 (OpenPost w.heap.size w2 k M (0, some kG0))) := Lib.hid (by
    have h := Open_any (base := w.heap.size) HM2.out (by rw [HV.out]; exact kV0_ok) HB2.out.size _ kT 8 HBO.out _ kZ 8 HIR.out 1 0
    rw [HV.out, k_open] at h
    exact h)
  refine HO.out.mono ?_
  rintro e w3 ⟨hb3, m, G, rfl, hH, hk, hgv, hfoot⟩
  subst hk
  have HB3 := Lib.hid (HB2.out.trans (hb3.mono HB2.out.size))
  have HP : Hid (M.P = 4) := Lib.hid (congrArg NP.Chp.P HV.out)
  have HGV := Lib.hid hgv
  have HH := Lib.hid hH
  have HFIT : Hid (G.fit M.P) := Lib.hid (by rw [HP.out]; exact MgM.fit_of hgv k0_fit)
  have HL : Hid (G.l = kG0.l) := Lib.hid (congrArg Mg.l hgv)
  clear hb3 hH hgv hfoot HO HBO HIR HM2 HB2
  go_wp2_with fail
  refine (Free_any HH.out.mgr).mono ?_
  rintro e w4 ⟨rfl, hb4⟩
  rw [HL.out, k_free]
  have H4 := Lib.hid (HH.out.old hb4)
  have B4 := Lib.hid (HB3.out.trans (hb4.mono HB3.out.size))
  clear hb4
  go_wp2_with fail
  refine (Room_any H4.out.mgr H4.out.chip HFIT.out).mono ?_
  rintro e w5 ⟨rfl, hb5⟩
  rw [roomL_of HGV.out, HP.out, k_room]
  have H5 := Lib.hid (H4.out.old hb5)
  have B5 := Lib.hid (B4.out.trans (hb5.mono B4.out.size))
  clear hb5
  go_wp2_with fail
  refine (Next_any H5.out HFIT.out (by rw [HL.out, k_len]; decide)).mono ?_
  rintro e w6 ⟨rfl, hb6⟩
  rw [nextL_of HGV.out, HP.out, k_next]
  have H6 := Lib.hid (H5.out.old hb6)
  have B6 := Lib.hid (B5.out.trans (hb6.mono B5.out.size))
  clear hb6
  go_wp2_with fail
  have hb7 : Below w6.heap.size w6 ((w6.alloc (.cells #[.int .i64 3, .int .i64 0] 74)).alloc (.cells (madeCells #[vb 0] 96) 5)) := ((Below.refl _ w6).alloc (Nat.le_refl _) _).alloc (by simp) _
  have H7 := Lib.hid (H6.out.old hb7)
  have B7 := Lib.hid (B6.out.trans (hb7.mono B6.out.size))
  have A7 : Blk ((w6.alloc (.cells #[.int .i64 3, .int .i64 0] 74)).alloc (.cells (madeCells #[vb 0] 96) 5)) w6.heap.size 74 #[vi 3, vi 0] := (Blk.new _ _ _).alloc _
  have HS : Hid (SRow w.heap.size ((w6.alloc (.cells #[.int .i64 3, .int .i64 0] 74)).alloc (.cells (madeCells #[vb 0] 96) 5)) (some ⟨w6.heap.size + 1, 0, none⟩) zs96) := Lib.hid (by
    obtain ⟨a, c, ha, hs, -⟩ := (own_zeros (w6.alloc (.cells #[.int .i64 3, .int .i64 0] 74)) 96 (by omega)).srow (base := w.heap.size) zs96_small
    rw [List.length_replicate, size_alloc] at ha
    injection ha with ha1 _ ha3
    subst ha1
    exact hs)
  have HLT : Hid (∀ n, foot1 m G M n → n < w6.heap.size) := Lib.hid H6.out.lt
  clear hmk hb7
  generalize (w6.alloc (.cells #[.int .i64 3, .int .i64 0] 74)).alloc (.cells (madeCells #[vb 0] 96) 5) = w7 at *
  generalize w6.heap.size = ga at *
  have HPR : Hid (Calls Try.prog 37 #[ptr m, .slice (some ⟨ga + 1, 0, none⟩) 96 96] w7 (PPost w.heap.size w7 m G M ((0, 0, 0), kV1, kG1))) := Lib.hid (by
    have h := Program_any H7.out (by rw [HV.out]; exact kV0_ok) (by rw [HGV.out, HV.out]; exact kG0_ok) (some ⟨ga + 1, 0, none⟩) zs96 96 HS.out
    rw [HGV.out, HV.out, k_prog, show zs96.length = 96 from List.length_replicate ..] at h
    exact h)
  refine HPR.out.mono ?_
  rintro e w8 ⟨M8, rfl, hg8, hv8⟩
  have HG8 := Lib.hid hg8
  have A8 : Blk w8 ga 74 #[vi 3, vi 0] := A7.chg hg8.chg (fun e => by have := HLT.out _ e; omega)
  have HP8 : Hid (M8.P = 4) := Lib.hid (by have : M8.view.P = kV1.P := congrArg NP.Chp.P hv8; exact this)
  have a0 : w8.cell? ⟨ga, 0, none⟩ = some (vi 3) := A8.cell 0
  have a1 : w8.cell? ⟨ga, 1, none⟩ = some (vi 0) := A8.cell 1
  clear hg8 hv8 A7 A8 HPR HS
  go_wp2_with fail
  refine (Free_any HG8.out.at_.mgr).mono ?_
  rintro e w9 ⟨rfl, hb9⟩
  rw [show countL 0 (MgM.lay G kG1).l = 7 from k1_free]
  have HG9 := Lib.hid (HG8.out.old hb9)
  clear hb9 a0 a1
  go_wp2_with fail
  refine (Room_any HG9.out.at_.mgr HG9.out.at_.chip (by rw [HP8.out]; exact MgM.fit_of rfl k1_fit)).mono ?_
  rintro e w10 ⟨rfl, hb10⟩
  rw [roomL_of (G := MgM.lay G kG1) (g := kG1) rfl, HP8.out, k1_room]
  have HG10 := Lib.hid (HG9.out.old hb10)
  clear hb10
  go_wp2_with fail
  refine (Left_any HG10.out.at_.mgr).mono ?_
  rintro e w11 ⟨rfl, hb11⟩
  rw [show wrap64 ((MgM.lay G kG1).reserve - wrap64 ((countL 4 (MgM.lay G kG1).l : Nat) - (MgM.lay G kG1).bad)) = 1 from k1_left]
  have HG11 := Lib.hid (HG10.out.old hb11)
  clear hb11
  go_wp2_with fail
  go_ret
  exact ⟨rfl, B7.out.trans (HG11.out.chg.to_below (fun n _ hn => H7.out.low n hn) B7.out.size)⟩

end Go.Proofs.Ytpggkehfbhffbaa.mgr

/-
  From a walk to the given statement: a law whose call answers true and leaves all old memory alone meets its row. No conditions.
-/
namespace Go.Proofs.Ytpggkehfbhffbaa
open Go.ChangeShapes Go.WideShapes Go.ChangeAt Go.RowKit Go.Deep
open Go.ChangeMaps (open_string shut_string)

theorem own : ownKnob Try.prog.godebug = none := by kernel_rfl
theorem laidOut : laidOutB Try.prog = true := by kernel_rfl

section
variable {H : Type} {enc : TypeId × Value → H} {P : Program}

theorem trodAll_stays (hl : laidOutB P = true) {W W' : World} (hb : Below W.heap.size W W') {sp : Nat → Bool} :
    ∀ {ts : List TypeId} {vs : List Value} {ds : List (DataW H)} {ps : List MemPlace}, (∀ t ∈ ts, P.readableRec t = true ∧ t < P.types.size) →
      DataW.TrodAll enc P W 0 (fun _ => true) true ts vs ds ps → (∀ x ∈ ps, x.block < W.heap.size) → (∀ x ∈ ps, sp x.block = true) → DataW.TrodAll enc P W' 0 sp true ts vs ds ps
  | [], vs, ds, ps, _, h, _, _ => by
    obtain ⟨rfl, rfl, rfl⟩ := trodAll_nil h
    exact trodAll_mk0
  | t :: ts, vs, ds, ps, ht, h, hlt, hsp => by
    obtain ⟨v, vs', d, ds', p, q, rfl, rfl, rfl, h0, r⟩ := trodAll_cons h
    exact trodAll_cons_mk (WideElems.Trod_stays hl (ht t (by simp)).1 (ht t (by simp)).2 h0 (fun x hx => hb.same (hlt x (by simp [hx]))) (fun x hx => hsp x (by simp [hx])))
      (trodAll_stays hl hb (fun t' h' => ht t' (by simp [h'])) r (fun x hx => hlt x (by simp [hx])) (fun x hx => hsp x (by simp [hx])))

/-- The row's step, whatever the arguments are: the call answered true, all old memory stands. -/
theorem law_close {f : Func} {s : ChangeSpec} {W W' : World} {args : Array Value} {ds gs : List (DataW H)} {before : List MemPlace} {tb : TypeId}
    (hl : laidOutB P = true) (htsB : (f.params.toList.all fun t => P.readableRec t && decide (t < P.types.size)) = true)
    (hW : DataW.Whole enc P f.params.toList s.vars false W args.toList ds gs before) (hv : s.vars = []) (hb : Below W.heap.size W W')
    (hres : f.resultTypes = #[tb]) (htb : P.underlying tb = some .bool)
    (hfn : s.fn H (ds ++ gs) = { results := [.lit (.bool true)], args := ds }) :
    s.post enc P f false true false false W args (.bool true) W' := by
  have hts : ∀ t ∈ f.params.toList, P.readableRec t = true ∧ t < P.types.size := fun t ht => by
    have := List.all_eq_true.1 htsB t ht
    simpa using this
  have hlt : ∀ x ∈ before, x.block < W.heap.size := fun x hx => hW.lt x hx
  have hW' := hW
  obtain ⟨p, q, hA, hV, rfl, hfz, hnd⟩ := hW
  rw [hv] at hV
  obtain ⟨rfl, rfl⟩ := trodVars_none hV
  refine ⟨_, _, _, [], p, [], hW', ?_, ?_, ?_, hb.frame _, fun h => by cases h⟩
  · rw [hfn, hres]
    exact trodAll_mk1 (shut_bool htb true)
  · rw [hfn]
    exact trodAll_stays hl hb hts hA (fun x hx => hlt x (by simp [hx])) (fun x hx => by simpa using hlt x (by simp [hx]))
  · rw [hfn, hv]
    rfl
end

end Go.Proofs.Ytpggkehfbhffbaa

