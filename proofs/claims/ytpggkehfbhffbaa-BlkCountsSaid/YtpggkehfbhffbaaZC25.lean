/-
  Lemmas for a law's proof, put together from several texts: each part says what it shows, and its conditions.
-/
import Derived.Test.YtpggkehfbhffbaaZC24
import Derived.Test.YtpggkehfbhffbaaZC16
import Derived.OwnWalkIn
import Derived.RangeFuncNested
import Derived.Test.YtpggkehfbhffbaaZC21
import Derived.Test.YtpggkehfbhffbaaZC15
/-
  The blocks of a manager told one by one, and laid in a row. Conditions: a manager told by MgrAt, of few blocks.
-/
namespace Go.Proofs.Ytpggkehfbhffbaa.mgr
open Go.RowKit
attribute [local go_sem] Oper.semAt_some

theorem wpListIn_append_run {F : Fence} {n : Nat} {P : Program} {w w' : World} {ops : Array Oper} {rest : List Oper} {o : Oper} {a : Act} {Q : Exit → Act → World → Prop} (hgd : o.guard = none) (s x : Operand) {t : TypeId}
    (ho : o.op = .call { callee := .builtin .append, args := #[s, x], argTypes := #[t, t] }) {v src v' : Value} (hs : a.eval s = v) (hx : a.eval x = src)
    (hrun : (Builtin.append_ #[t, t] o.type #[v, src]).run P w = .ok v' w') (h : wpListIn F n P ops Q rest (a.put o.dst v') w') : wpListIn F n P ops Q (o :: rest) a w := by
  refine wpListIn_plain hgd fun K hK' => ?_
  unfold Oper.wpIn
  refine ⟨?_, ?_⟩
  · simp [Oper.about, ho, resolve, Target.leads, Sem.run_pure]
  · rw [Oper.semAt_plain F _ _ (by rw [ho]; intro c hc'; cases hc')]
    simp [execOp, ho, resolve, invoke, builtin, hs, hx, hrun, Result.andThen]
    exact hK' _ _ h
/-- A block that is told. -/
abbrev BTold := Nat × gcs.Blk
abbrev BTold.encs (x : BTold) : Array Value := #[vi x.1, .agg #[vi x.2.s, vi x.2.l, vi x.2.r, vi x.2.n]]
def told (l : List gcs.Blk) : List BTold := (List.range l.length).map fun i => (i, l.getD i default)
theorem told_length (l : List gcs.Blk) : (told l).length = l.length := by simp [told]
theorem told_take {l : List gcs.Blk} {j : Nat} (h : j < l.length) : (told l).take (j + 1) = (told l).take j ++ [(j, l.getD j default)] := by
  rw [List.take_succ_eq_append_getElem (by rw [told_length]; exact h)]
  congr 1
  simp [told]
theorem told_snd (l : List gcs.Blk) : (told l).map (·.2) = l := by
  refine List.ext_getElem? fun i => ?_
  simp only [told, List.map_map, List.getElem?_map]
  by_cases h : i < l.length
  · simp [h]
  · simp [h]
/-- What a round may change. -/
def Kept6 (box B : Nat) (W W' : World) : Prop := Chg (fun m => m = box ∨ B ≤ m) W W'
section
variable {base : Nat} {w w' wr : World} {m : Nat} {G : MgM}
theorem Kept6.join {box : Nat} (h : Chg (fun m => m = box) w wr) (q : Kept6 box w.heap.size wr w') : Chg (fun m => m = box) w w' := h.trans q (fun n hn e => by rcases e with e | e; exact e; omega)
theorem abides6 {β : Type} {B : Nat} {J : β → World → Prop} (hJ : AbidesFrom B J) {s : β} (hs : J s w) (h : Below w.heap.size w w') : J s w' :=
  hJ s w w' none hs ⟨h.os, h.tape, h.output, h.size, fun k hk _ => h.block k hk⟩ (fun r e => by cases e)
set_option maxRecDepth 100000 in
set_option maxHeartbeats 4000000 in
theorem All1_some (n : Nat) (hn : 1 ≤ n) (h : MgrAt base w m G) (hl : G.l.length ≤ 128) (b1 box : Nat) (h1 : w.cell? ⟨b1, 0, none⟩ = some (ptr m)) (hm : Mine base w box) (hf : ¬ G.foot m box) :
    SeqStopsK Fence.wide n Try.prog 121 #[.pointer (some ⟨b1, 0, none⟩)] BTold.encs (Kept6 box w.heap.size) (fun xs => xs = told G.l) (fun _ => True) 129 w := by
  intro l J Jx W hW hJ hJx hY h0
  have c1 := cell_below h1 hW
  have H0 := Lib.hid h
  have HCW : Hid (Chg (fun m => m = box) w W) := Lib.hid (Chg.of_below hW)
  have d1 : W.cell? ⟨m, 1, none⟩ = some (.slice (some ⟨G.gl, 0, none⟩) G.l.length G.cl) := (h.old hW).mgr.cell 1
  have HY := Lib.hid hY
  have HJ := Lib.hid hJ
  have HJ0 := Lib.hid h0
  have HM := Lib.hid (fun (n : Nat) (e : n = box) => (show Mine base w n by rw [e]; exact hm))
  have HF := Lib.hid (fun (n : Nat) (hn : G.foot m n) (e : n = box) => hf (by rw [← e]; exact hn))
  clear hY hJ hJx h1 h h0 hm hf hW
  refine callsIn_of_wp Try.func121 rfl trivial ?_ rfl
  simp only [Try.ntmps121, List.size_toArray, List.length_cons, List.length_nil, Nat.reduceAdd, Nat.reduceSub, Array.replicate_succ, Array.replicate_zero, List.push_toArray, List.append_toArray, List.nil_append, List.cons_append]
  gi_wp2
  gi_loopw [12] (fun v wr => ∃ (j : Nat), j ≤ G.l.length ∧ v = vi j ∧ Hid (J ((told G.l).take j) wr) ∧ Hid (Chg (fun m => m = box) w wr)) (fun v _ => G.l.length - (intOf v).toNat)
  case atStart => exact ⟨0, Nat.zero_le _, rfl, HJ0, HCW⟩
  case round =>
    clear HJ0 HCW c1 d1
    obtain ⟨j, hj, rfl, hJs, hcs⟩ := hrel
    by_cases hlt : j < G.l.length
    · have HA := Lib.hid (H0.out.chg hcs.out HF.out)
      have e0 := HA.out.cell (j := 0) hlt (by decide)
      have e1 := HA.out.cell (j := 1) hlt (by decide)
      have e2 := HA.out.cell (j := 2) hlt (by decide)
      have e3 := HA.out.cell (j := 3) hlt (by decide)
      have HTK := Lib.hid (told_take hlt)
      generalize hx : G.l.getD j default = x at *
      obtain ⟨xs, xl, xr, xn⟩ := x
      change wr.cell? ⟨G.gl, j * 4, none⟩ = some (vi xs) at e0
      change wr.cell? ⟨G.gl, j * 4 + 1, none⟩ = some (vi xl) at e1
      change wr.cell? ⟨G.gl, j * 4 + 2, none⟩ = some (vi xr) at e2
      change wr.cell? ⟨G.gl, j * 4 + 3, none⟩ = some (vi xn) at e3
      have hq0 : (0 : Int) ≤ (j : Int) := by omega
      have hq1 : (j : Int) < (G.l.length : Int) := by omega
      clear hx
      have HJ3 := abides6 HJ.out hJs.out (w' := wr.alloc (.cells #[vi xs, vi xl, vi xr, vi xn] 121)) ((Below.refl _ _).alloc (Nat.le_refl _) _)
      have HC3 : Hid (Chg (fun m => m = box) w (wr.alloc (.cells #[vi xs, vi xl, vi xr, vi xn] 121))) := Lib.hid (hcs.out.alloc _)
      have hlen : ((told G.l).take j).length < 129 := by rw [List.length_take, told_length]; omega
      obtain ⟨fn, tmps, assign, body, hy, hR⟩ := HY.out ((told G.l).take j) (j, ⟨xs, xl, xr, xn⟩) _ HJ3 hlen
      have HR := Lib.hid hR
      change (Instr.yield l #[vi j, .agg #[vi xs, vi xl, vi xr, vi xn]]).run Try.prog (wr.alloc (.cells #[vi xs, vi xl, vi xr, vi xn] 121)) = _ at hy
      clear HJ3 hR hcs hJs
      gi_wp2
      refine HR.out.mono ?_
      rintro e W4 (⟨rfl, hJ4, hk4⟩ | ⟨rfl, hJx4⟩)
      · have HJ4 : Hid (J ((told G.l).take (j + 1)) W4) := Lib.hid (by rw [HTK.out]; exact hJ4)
        have HC4 := Lib.hid (Kept6.join HC3.out hk4)
        clear hJ4 hk4 HC3 hy
        gi_wp2
        go_roundw
        case rel => exact ⟨j + 1, by omega, by go_num, HJ4, HC4⟩
        case measure => simp [intOf]; omega
      · have HJX := Lib.hid hJx4
        clear hJx4 HC3 hy
        gi_wp2
        refine bodyPost_ret (results_none rfl _ _ _) rfl ?_
        exact ⟨⟨_, rfl⟩, .inr ⟨_, trivial, HJX.out⟩⟩
    · obtain rfl : j = G.l.length := by omega
      gi_wp2
      go_end0
      exact ⟨⟨_, rfl⟩, .inl ⟨_, rfl, by have := hJs.out; rwa [List.take_of_length_le (by rw [told_length]; omega)] at this⟩⟩
/-- A function that holds a range over a function returns ahead of it. -/
theorem keeps_grown {B : Nat} {W W' : World} {row : Option Nat} (hg : W.grownBy W' row) (hr : ∀ r, row = some r → ∃ t cur, Blk W r t cur) : KeepsFrom B W W' :=
  ⟨hg.size, fun k o _ hk ho => (hg.block k (Array.getElem?_eq_some_iff.1 hk).1 (fun e => by
    obtain ⟨t, cur, hb⟩ := hr k e.symm
    unfold Blk at hb
    rw [hb] at hk
    cases hk
    cases ho)).trans hk⟩
/-- What the row of blocks is while it is laid. -/
def AllIn (w1 : World) (box : Nat) (pre : List BTold) (W : World) : Prop := ∃ v, Blk W box 76 #[v] ∧ GOwn W w1.heap.size v (pre.map (·.2)) ∧ Kept6 box w1.heap.size w1 W
theorem allIn_own (w1 : World) (box : Nat) (hb : box < w1.heap.size) : OwnFrom w1.heap.size (AllIn w1 box) := by
  intro s W W' row hs hg hr
  obtain ⟨v, h1, h2, h3⟩ := hs
  refine ⟨v, (hg.block box h1.lt (fun e => ?_)).trans h1, h2.grown hg ?_, h3.grown hg (fun k e => .inl (.inr (hr k e).1))⟩
  · have := (hr box e.symm).1
    omega
  · cases hv : v.ownBlock with
    | none => exact .inl rfl
    | some g =>
      refine .inr (fun e => ?_)
      obtain ⟨_, o, ho, hc⟩ := hr g e.symm
      obtain ⟨_, cur, hbk⟩ := h2.row g hv
      unfold Blk at hbk
      rw [hbk] at ho
      cases ho
      cases hc
set_option maxRecDepth 100000 in
set_option maxHeartbeats 4000000 in
theorem all_any (h : MgrAt base w m G) (hl : G.l.length ≤ 128) (hbase : base ≤ w.heap.size) : Calls Try.prog 46 #[ptr m] w fun e w' => ∃ v, e = .returned v ∧ GOwn w' w.heap.size v G.l ∧ Below w.heap.size w w' := by
  have HB1 : Hid (Below w.heap.size w ((w.alloc (.cells #[.slice none 0 0] 76)).alloc (.cells #[ptr m] 68))) := Lib.hid (((Below.refl _ _).alloc (Nat.le_refl _) _).alloc (by simp) _)
  have F0 : Blk ((w.alloc (.cells #[.slice none 0 0] 76)).alloc (.cells #[ptr m] 68)) w.heap.size 76 #[.slice none 0 0] := (Blk.new _ _ _).alloc _
  have F1 : Blk ((w.alloc (.cells #[.slice none 0 0] 76)).alloc (.cells #[ptr m] 68)) (w.heap.size + 1) 68 #[ptr m] := by
    have := Blk.new (w.alloc (.cells #[.slice none 0 0] 76)) 68 #[ptr m]
    rwa [size_alloc] at this
  have H := Lib.hid h
  have HLT : Hid (∀ n, G.foot m n → n < w.heap.size) := Lib.hid (fun n hn => by
    obtain ⟨_, t, cur, _, hb⟩ := h.mine n hn
    exact hb.lt)
  clear h
  refine callsIn_wide.1 (callsIn_of_wp_marks (F := Fence.wide) (n := 6) Try.func46 rfl trivial (wpIn_wide.2 ?_) rfl)
  simp only [Try.ntmps46, List.size_toArray, List.length_cons, List.length_nil, Nat.reduceAdd, Nat.reduceSub, Array.replicate_succ, Array.replicate_zero, List.push_toArray, List.append_toArray, List.nil_append, List.cons_append]
  go_wp2_with fail
  refine (All_any (some ⟨m, 0, none⟩)).mono ?_
  rintro e w' ⟨rfl, rfl⟩
  have heq := eql_seq_nil
  go_wp2_with fail
  clear heq
  generalize (w.alloc (.cells #[.slice none 0 0] 76)).alloc (.cells #[ptr m] 68) = w1 at *
  have H1 := Lib.hid (H.out.old HB1.out)
  have HBX : Hid (w.heap.size < w1.heap.size) := Lib.hid F0.lt
  have HBL : Hid (w.heap.size + 1 < w1.heap.size) := Lib.hid F1.lt
  refine wpIn_wide.1 (wpIn_rangeFunc_ownH (F := Fence.wide) (n := 6) rfl (by omega) (gf := 121) (lb := #[.pointer (some ⟨w.heap.size + 1, 0, none⟩)]) rfl trivial (enter_of Try.func121 (by kernel_rfl) rfl)
    (All1_some 5 (by decide) H1.out hl (w.heap.size + 1) w.heap.size (F1.cell 0) ⟨hbase, _, _, (by decide), F0⟩ (fun e => by have := HLT.out _ e; omega))
    (fun h1 h2 => h1.trans h2 (fun _ _ e => e)) (fun W l o o' hl0 _ _ _ => ⟨rfl, rfl, rfl, by simp, fun k _ hk => World.putObj_heap_other (fun e => hk (.inr (by omega)))⟩) (Below.refl _ _) (fun _ => rfl)
    (AllIn w1 w.heap.size) (fun _ _ _ => False) (allIn_own w1 _ HBX.out) (fun _ _ _ _ _ h _ _ => h) ⟨_, F0, World.ownsRow_nil _ _ _ _, Chg.refl _ _⟩
    (fun x a' W => ∃ g, a' = ({ tmps := #[ptr m, undef, .slice none 0 0, .pointer (some ⟨w.heap.size, 0, none⟩), .func (.func 121) #[] #[.pointer (some ⟨w.heap.size + 1, 0, none⟩)], undef, .pointer (some ⟨g, 0, none⟩), ptr m, .func (.func 121) #[] #[.pointer (some ⟨w.heap.size + 1, 0, none⟩)], .func (.func 121) #[] #[.pointer (some ⟨w.heap.size + 1, 0, none⟩)], .bool false, .func (.func 121) #[] #[.pointer (some ⟨w.heap.size + 1, 0, none⟩)], vi x.1, .agg #[vi x.2.s, vi x.2.l, vi x.2.r, vi x.2.n], undef, undef, undef, undef, undef], defers := [] } : Act) ∧ Blk W g 121 #[vi x.2.s, vi x.2.l, vi x.2.r, vi x.2.n]) ?_ ?_ ?_ ?_ (fun _ _ _ _ _ _ h => h.elim))
  · intro x a' s W W' row hs hg hr
    obtain ⟨g, e, hb⟩ := hs
    refine ⟨g, e, (hg.block g hb.lt (fun e2 => ?_)).trans hb⟩
    obtain ⟨_, o, ho, hc⟩ := hr g e2.symm
    unfold Blk at hb
    rw [hb] at ho
    cases ho
    cases hc
  · rintro l pre ⟨xi, xs, xl, xr, xn⟩ W K hI hK
    have HI := Lib.hid hI
    have HK := Lib.hid hK
    clear hI hK
    dsimp only
    gi_wp2
    exact HK.out _ _ (keeps_grown (World.grownBy_alloc W _ none) (fun r e => by cases e)) ((Chg.refl _ W).alloc _) ((allIn_own w1 _ HBX.out).alloc _ HI.out) ⟨W.heap.size, rfl, Blk.new W _ _⟩
  · rintro l pre ⟨xi, xs, xl, xr, xn⟩ a' W hlw hrec ⟨v, hbx, hown, hkp⟩ ⟨g, rfl, hg⟩ hlen
    dsimp only at hg ⊢
    obtain ⟨v', w', hrun, ho, hgr⟩ := append_block hown ⟨xs, xl, xr, xn⟩ (by rw [List.length_map]; omega) (hkp.size)
    have hA := hown.old ((Below.refl _ W).alloc (Nat.le_refl _) (.cells #[vi xs, vi xl, vi xr, vi xn] 121))
    have hbA := hbx.alloc (.cells #[vi xs, vi xl, vi xr, vi xn] 121)
    have HC : Hid (Blk w' w.heap.size 76 #[v]) := Lib.hid (hbA.grown hgr (own_blk_ne hA hbA (by decide)))
    clear hA hbA
    have HO := Lib.hid ho
    have HGR := Lib.hid hgr
    have HOW := Lib.hid hown
    have HKP := Lib.hid hkp
    have HNE : Hid (some w.heap.size ≠ v'.ownBlock) := Lib.hid (own_blk_ne ho HC.out (by decide))
    obtain ⟨a1, c1, h1⟩ := hown.form
    obtain ⟨a2, c2, h2⟩ := ho.form
    have h2' : v' = .slice a2 ((pre.map (·.2)).length + 1) c2 := by rw [h2]; simp
    rw [List.length_map] at h1 h2'
    subst h1 h2'
    have RA : AppRun 76 76 76 (.slice a1 pre.length c1) (.slice (some ⟨W.heap.size, 0, none⟩) 1 1) (W.alloc (.cells #[vi xs, vi xl, vi xr, vi xn] 121)) (.slice a2 (pre.length + 1) c2) w' := hrun
    have b0 : W.cell? ⟨w.heap.size, 0, none⟩ = some (.slice a1 pre.length c1) := hbx.cell 0
    have b1 : w'.cell? ⟨w.heap.size, 0, none⟩ = some (.slice a1 pre.length c1) := HC.out.cell 0
    have z1 := HC.out.frozen 0
    have g0 : W.cell? ⟨g, 0, none⟩ = some (vi xs) := hg.cell 0
    have g1 : W.cell? ⟨g, 1, none⟩ = some (vi xl) := hg.cell 1
    have g2 : W.cell? ⟨g, 2, none⟩ = some (vi xr) := hg.cell 2
    have g3 : W.cell? ⟨g, 3, none⟩ = some (vi xn) := hg.cell 3
    have hwl : w.heap.size < W.heap.size := hbx.lt
    have hgl : g < W.heap.size := hg.lt
    clear hrec hown hkp hrun ho hgr hbx h2 hg
    gi_wp2_with (gi_at_builtin; refine wpListIn_append_run rfl (.tmp 14) (.tmp 16) rfl rfl rfl RA.run ?_)
    have hrow : ∀ r, (Value.slice a1 pre.length c1).ownBlock = some r → ∃ t cur, Blk (W.alloc (.cells #[vi xs, vi xl, vi xr, vi xn] 121)) r t cur := fun r e => by
      obtain ⟨_, cur, hb⟩ := HOW.out.row r e
      exact ⟨_, cur, hb.alloc _⟩
    refine ⟨((keeps_grown (World.grownBy_alloc W _ none) (fun r e => by cases e)).trans (keeps_grown HGR.out hrow)).trans (keeps_grown (set_grown w' w.heap.size 0 _) (fun r e => by cases e; exact ⟨_, _, HC.out⟩)), ?_, ?_⟩
    · exact ((((Chg.refl (fun m => m = w.heap.size ∨ w1.heap.size ≤ m) W).alloc _).grown HGR.out (fun k e => .inl (.inr (HOW.out.row k e).1)))).setCell (p := ⟨w.heap.size, 0, none⟩) (.inl (.inl rfl)) _
    · refine ⟨_, HC.out.set_ 0 _, ?_, ?_⟩
      · rw [List.map_append]
        exact HO.out.grown (set_grown w' w.heap.size 0 _) (.inr (fun e => HNE.out e.symm))
      · exact (HKP.out.trans ((((Chg.refl (fun m => m = w.heap.size ∨ w1.heap.size ≤ m) W).alloc _).grown HGR.out (fun k e => .inl (.inr (HOW.out.row k e).1)))) (fun _ _ e => e)).setCell (p := ⟨w.heap.size, 0, none⟩) (.inl (.inl rfl)) _
  · rintro D xs W hD hS ⟨v, hbx, hown, hkp⟩ hdf
    have b0 : W.cell? ⟨w.heap.size, 0, none⟩ = some v := hbx.cell 0
    have HOW := Lib.hid hown
    have HKP := Lib.hid hkp
    have HDF := Lib.hid hdf
    have HD := Lib.hid hD
    rw [hS, told_snd] at HOW
    clear hown hkp hdf hD hS hbx
    go_wp2_with fail
    refine marks_ret (v := v) HDF.out (fun w => by simp [results, Try.results46, go_sem]) ⟨v, rfl, ?_, ?_⟩
    · have h1 : GOwn (W.putObj D (.deferred none)) w1.heap.size v G.l := HOW.out.grown (grownBy_putObj' W D _) (by
        cases hv : v.ownBlock with
        | none => exact .inl rfl
        | some g =>
          refine .inr (fun e => ?_)
          injection e with e
          obtain ⟨_, cur, hb⟩ := HOW.out.row g hv
          have hdf := HDF.out
          unfold Blk at hb
          rw [← e, hb] at hdf
          cases hdf)
      refine ⟨h1.1, ?_⟩
      rcases h1.2 with h2 | ⟨g, cap, cur, e1, e2, e3⟩
      · exact .inl h2
      · exact .inr ⟨g, cap, cur, e1, Nat.le_trans HB1.out.size e2, e3⟩
    · have h2 : Below w.heap.size w W := HB1.out.trans (HKP.out.to_below (fun k _ e => by rcases e with e | e <;> omega) HB1.out.size)
      exact below_taken h2 (Nat.le_trans HB1.out.size HD.out)
end

end Go.Proofs.Ytpggkehfbhffbaa.mgr

/-
  What BlkCounts counts, in plain words: one open block, the sum of what is needed, erase counts. No program in sight; conditions: a chip and a manager that are right.
-/
namespace Go.Proofs.Ytpggkehfbhffbaa.mgr
open Go.RowKit

theorem countL_zero {s : Int} {l : List gcs.Blk} (h : ∀ x ∈ l, x.s ≠ s) : countL s l = 0 := by
  unfold countL
  rw [List.length_eq_zero_iff, List.filter_eq_nil_iff]
  intro x hx
  simpa using h x hx
section
variable {c : NP.Chp} {g : Mg} {b : List Nat}
theorem count_open (h : g.ok c) : countL 1 g.l ≤ 1 := by
  rcases h.at1 with e | ⟨i, e, hi, hs⟩
  · rw [countL_zero]
    · omega
    · intro x hx hs
      obtain ⟨j, hj, rfl⟩ := List.getElem_of_mem hx
      have := h.at2 j hj (by show (g.l.getD j default).s = 1; rw [List.getD_eq_getElem?_getD, List.getElem?_eq_getElem hj]; exact hs)
      omega
  · have h1 := count_set 1 g.l i ⟨0, 0, 0, 0⟩ hi
    have h2 : countL 1 (g.l.set i ⟨0, 0, 0, 0⟩) = 0 := countL_zero (fun x hx hs2 => by
      obtain ⟨j, hj, rfl⟩ := List.getElem_of_mem hx
      rw [List.length_set] at hj
      rw [List.getElem_set] at hs2
      split at hs2
      · cases hs2
      · rename_i hne
        have := h.at2 j hj (by show (g.l.getD j default).s = 1; rw [List.getD_eq_getElem?_getD, List.getElem?_eq_getElem hj]; exact hs2)
        omega)
    have h3 : (g.l.getD i default).s = 1 := hs
    rw [h2, if_pos h3] at h1
    simp only [show ¬ ((0 : Int) = 1) by decide, if_false] at h1
    omega
/-- What is needed, summed up. -/
def sumL : List gcs.Blk → Int
  | [] => 0
  | x :: l => x.l + sumL l
theorem sumL_append : ∀ (l m : List gcs.Blk), sumL (l ++ m) = sumL l + sumL m
  | [], m => by simp [sumL]
  | x :: l, m => by simp only [List.cons_append, sumL, sumL_append l m]; omega
theorem sumL_set : ∀ (l : List gcs.Blk) (i : Nat) (x : gcs.Blk), i < l.length → sumL (l.set i x) = sumL l - (l.getD i default).l + x.l
  | y :: l, 0, x, _ => by simp only [List.set_cons_zero, sumL, List.getD_cons_zero]; omega
  | y :: l, i + 1, x, h => by
    have := sumL_set l i x (by simpa using h)
    simp only [List.set_cons_succ, sumL, List.getD_cons_succ, this]; omega
theorem wrap_in (x : Int) (h : -4096 ≤ x ∧ x ≤ 4096) : wrap64 x = x := by
  rw [← IntWalk.i64_left]
  exact IntWalk.i64_in _ (by omega)
theorem liveTo_sum {l : List gcs.Blk} (h : ∀ x ∈ l, 0 ≤ x.l ∧ x.l ≤ 32) (hl : l.length ≤ 128) : ∀ k, k ≤ l.length → gcs.liveTo l k = sumL (l.take k) ∧ 0 ≤ sumL (l.take k) ∧ sumL (l.take k) ≤ 32 * k
  | 0, _ => ⟨rfl, by simp [sumL], by simp [sumL]⟩
  | k + 1, hk => by
    obtain ⟨h1, h2, h3⟩ := liveTo_sum h hl k (by omega)
    have hx := h (l.getD k default) (NP.getD_mem (by omega))
    have e : l.take (k + 1) = l.take k ++ [l.getD k default] := by
      rw [List.take_succ_eq_append_getElem (by omega), List.getD_eq_getElem?_getD, List.getElem?_eq_getElem (by omega)]
      rfl
    rw [e, sumL_append]
    have e2 : sumL [l.getD k default] = (l.getD k default).l := by simp [sumL]
    rw [e2]
    refine ⟨?_, by omega, by omega⟩
    show wrap64 (gcs.liveTo l k + (l.getD k default).l) = _
    rw [h1]
    exact wrap_in _ (by omega)
theorem live_sum (h : g.ok c) (hc : c.ok) : gcs.liveL g.l = sumL g.l ∧ 0 ≤ sumL g.l ∧ sumL g.l ≤ 4096 := by
  have hd := ok_dims hc
  have hl := h.len
  obtain ⟨h1, h2, h3⟩ := liveTo_sum (l := g.l) (fun x hx => by have := h.rng x hx; omega) (by omega) g.l.length (Nat.le_refl _)
  rw [List.take_length] at h1 h2 h3
  exact ⟨h1, h2, by omega⟩
theorem Mg.sum_put {i : Nat} (hi : i < g.l.length) (x : gcs.Blk) : sumL (g.put i x).l = sumL g.l - (g.blk i).l + x.l := sumL_set _ _ _ hi
theorem Mg.sum_close {i : Nat} (hi : i < g.l.length) : sumL (g.close i).l = sumL g.l := by
  have := Mg.sum_put (g := g) hi (closeB (g.blk i))
  show sumL (g.put i (closeB (g.blk i))).l = _
  rw [this]
  show sumL g.l - (g.blk i).l + (g.blk i).l = _
  omega
theorem Mg.sum_ready (h : g.ok c) : sumL g.ready.l = sumL g.l := by
  unfold Mg.ready
  split
  · unfold Mg.begun
    split
    · rfl
    · rename_i h1
      have hi : g.freeI.toNat < g.l.length := by have := g.freeI_lt; omega
      have hs : (g.blk g.freeI.toNat).s = 0 := Mg.freeI_free (by omega)
      have hz := h.none_ _ (blk_mem hi) (by rw [show (g.l.getD g.freeI.toNat default).s = 0 from hs]; decide) (by rw [show (g.l.getD g.freeI.toNat default).s = 0 from hs]; decide)
      have := Mg.sum_put (g := g) hi ⟨1, 0, (g.blk g.freeI.toNat).r, 0⟩
      show sumL (g.put g.freeI.toNat ⟨1, 0, (g.blk g.freeI.toNat).r, 0⟩).l = _
      rw [this]
      show sumL g.l - (g.l.getD g.freeI.toNat default).l + 0 = _
      omega
  · rfl
theorem progTo_sum (hb : ∀ y ∈ b, y < 256) : ∀ (n : Nat) (c : NP.Chp) (g : Mg), Good6 c → g.ok c → sumL (Mg.progTo b n c g).2.2.l = sumL g.l + (if (Mg.progTo b n c g).1.2.2 = 0 then 1 else 0)
  | 0, c, g, _, _ => by show sumL g.l = sumL g.l + (if (40 : Int) = 0 then 1 else 0); simp
  | n + 1, c, g, hG, h => by
    rw [progTo_succ, ← Mg.sum_ready h]
    unfold Mg.progStep
    dsimp only
    have hr := h.ready (by have := ok_dims hG.ok; omega)
    generalize g.ready = g at *
    split
    · simp
    · rename_i ha
      rcases hr.at1 with e | ⟨i, e, hi, hs⟩
      · exact absurd e ha
      · rw [e, Int.toNat_natCast]
        have h1 : ActsN (fun _ => False) c (NP.program c i (g.blk i).n b).2 := .one (.program i (g.blk i).n b) hb (fun k e => by cases e)
        split
        · rw [progTo_sum hb n _ _ (h1.good hG) ((hr.close hi).acts h1), Mg.sum_close hi]
        · split
          · dsimp only
            rw [if_pos rfl]
            have hp := Mg.sum_put (g := g) hi { g.blk i with n := (g.blk i).n + 1, l := (g.blk i).l + 1 }
            split
            · rw [Mg.sum_close (by show i < (g.l.set _ _).length; rw [List.length_set]; exact hi), hp]
              dsimp only
              omega
            · rw [hp]
              dsimp only
              omega
          · split
            · dsimp only
              rw [Mg.sum_close hi]
              simp
            · dsimp only
              first | omega | (rw [if_neg (by assumption)]; omega)
theorem program_sum (hb : ∀ y ∈ b, y < 256) (hG : Good6 c) (h : g.ok c) : sumL (Mg.program b c g).2.2.l = sumL g.l + (if (Mg.program b c g).1.2.2 = 0 then 1 else 0) := by
  unfold Mg.program
  split
  · simp
  · split
    · simp
    · exact progTo_sum hb _ _ _ hG h
theorem drop_sum (k : Int) : sumL (g.drop k).2.l = sumL g.l - (if (g.drop k).1 = 0 then 1 else 0) := by
  unfold Mg.drop
  dsimp only
  split
  · simp
  · rename_i hn
    simp only [not_or, Bool.not_eq_false] at hn
    obtain ⟨h0, hi⟩ := there_i hn.1
    have := Mg.sum_put (g := g) hi { g.blk k.toNat with l := (g.blk k.toNat).l - 1, s := if (g.blk k.toNat).s = 2 ∧ (g.blk k.toNat).l - 1 = 0 then 3 else (g.blk k.toNat).s }
    rw [if_pos rfl, this]
    dsimp only
    omega
theorem idle_l (h : g.ok c) {k : Int} (hz : g.idle c k = 0) : 0 ≤ k ∧ k.toNat < g.l.length ∧ (g.blk k.toNat).l = 0 := by
  obtain ⟨h0, hi⟩ := idle_i hz
  have hr := (h.rng (g.blk k.toNat) (blk_mem hi)).2.2.1
  unfold Mg.idle at hz
  split at hz
  · cases hz
  · split at hz
    · cases hz
    · rename_i hn
      simp only [not_or] at hn
      exact ⟨h0, hi, by omega⟩
theorem gone_sum {k : Nat} (hi : k < g.l.length) (hl : (g.blk k).l = 0) : sumL (Mg.gone c g k).2.2.l = sumL g.l := by
  unfold Mg.gone
  dsimp only
  split
  · have := Mg.sum_put (g := g) hi ⟨4, 0, NP.wearAt (NP.mark c k).2 k, 0⟩
    show sumL (g.put k ⟨4, 0, NP.wearAt (NP.mark c k).2 k, 0⟩).l = _
    rw [this, hl]
    dsimp only
    omega
  · rfl
theorem retire_sum (h : g.ok c) (k : Int) : sumL (Mg.retire c g k).2.2.l = sumL g.l := by
  unfold Mg.retire
  dsimp only
  split
  · rfl
  · rename_i hz
    obtain ⟨h0, hi, hl⟩ := idle_l h (by simpa using hz)
    exact gone_sum hi hl
theorem erase_sum (h : g.ok c) (k : Int) : sumL (Mg.erase c g k).2.2.l = sumL g.l := by
  unfold Mg.erase
  dsimp only
  split
  · rfl
  · rename_i hz
    obtain ⟨h0, hi, hl⟩ := idle_l h (by simpa using hz)
    split
    · rfl
    · have hp := Mg.sum_put (g := g) hi { g.blk k.toNat with r := NP.wearAt (NP.erase c k).2 k }
      have hb : (g.put k.toNat { g.blk k.toNat with r := NP.wearAt (NP.erase c k).2 k }).blk k.toNat = { g.blk k.toNat with r := NP.wearAt (NP.erase c k).2 k } := by
        show (g.l.set _ _).getD _ _ = _
        rw [blk_set _ _ _ _ hi, if_pos rfl]
      have hil : k.toNat < (g.put k.toNat { g.blk k.toNat with r := NP.wearAt (NP.erase c k).2 k }).l.length := by
        show k.toNat < (g.l.set _ _).length
        rw [List.length_set]; exact hi
      have hs : sumL (g.put k.toNat { g.blk k.toNat with r := NP.wearAt (NP.erase c k).2 k }).l = sumL g.l := by
        rw [hp]; dsimp only; omega
      split
      · have := Mg.sum_put (g := g.put k.toNat { g.blk k.toNat with r := NP.wearAt (NP.erase c k).2 k }) hil ⟨0, 0, NP.wearAt (NP.erase c k).2 k, 0⟩
        show sumL ((g.put k.toNat { g.blk k.toNat with r := NP.wearAt (NP.erase c k).2 k }).put k.toNat ⟨0, 0, NP.wearAt (NP.erase c k).2 k, 0⟩).l = _
        rw [this, hb, hs]
        dsimp only
        omega
      · split
        · dsimp only
          rw [gone_sum hil (by rw [hb]; exact hl), hs]
        · exact hs
/-! Erase counts. -/
theorem getD_set_or {α : Type} (l : List α) (k : Nat) (x d : α) (j : Nat) : (l.set k x).getD j d = x ∨ (l.set k x).getD j d = l.getD j d := by
  simp only [List.getD_eq_getElem?_getD, List.getElem?_set]
  split
  · split
    · exact .inl rfl
    · rename_i h1 h2
      subst h1
      exact .inr (by rw [List.getElem?_eq_none (by omega)])
  · exact .inr rfl
def WearC (c : NP.Chp) (i : Int) : Prop := ∀ k, 0 ≤ (c.blk k).wear ∧ (c.blk k).wear ≤ i
def WearL (l : List gcs.Blk) (i : Int) : Prop := ∀ k, 0 ≤ (l.getD k default).r ∧ (l.getD k default).r ≤ i
variable {i : Int}
theorem WearC.set (h : WearC c i) {x : NP.Blo} (k : Nat) (hx : 0 ≤ x.wear ∧ x.wear ≤ i) : WearC (NP.setBlk c k x) i := by
  intro j
  rcases getD_set_or c.bs k x default j with e | e
  · show 0 ≤ ((c.bs.set k x).getD j default).wear ∧ ((c.bs.set k x).getD j default).wear ≤ i
    rw [e]; exact hx
  · show 0 ≤ ((c.bs.set k x).getD j default).wear ∧ ((c.bs.set k x).getD j default).wear ≤ i
    rw [e]; exact h j
theorem WearL.set {l : List gcs.Blk} (h : WearL l i) {x : gcs.Blk} (k : Nat) (hx : 0 ≤ x.r ∧ x.r ≤ i) : WearL (l.set k x) i := by
  intro j
  rcases getD_set_or l k x default j with e | e
  · rw [e]; exact hx
  · rw [e]; exact h j
theorem WearC.more {j : Int} (h : WearC c i) (hj : i ≤ j) : WearC c j := fun k => by have := h k; omega
theorem WearL.more {l : List gcs.Blk} {j : Int} (h : WearL l i) (hj : i ≤ j) : WearL l j := fun k => by have := h k; omega
theorem WearC.at_ (h : WearC c i) (h0 : 0 ≤ i) (k : Int) : 0 ≤ NP.wearAt c k ∧ NP.wearAt c k ≤ i := by
  unfold NP.wearAt
  split
  · exact h _
  · exact ⟨by decide, h0⟩
theorem wear_put (h : WearC c i) (k : Nat) (l : List Nat) : WearC (NP.putP c k l) i := WearC.set h k (h k)
theorem wear_act (h : WearC c i) (a : NP.Act) (ha : ∀ k, a ≠ .erase k) : WearC (NP.act c a) i := by
  have hs : WearC (NP.stroke c) i := h
  cases a with
  | program k p b =>
    unfold NP.act NP.program
    dsimp only
    repeat (first | exact h | exact hs | exact wear_put hs _ _ | split)
  | erase k => exact absurd rfl (ha k)
  | mark k =>
    unfold NP.act NP.mark
    dsimp only
    split
    · exact WearC.set h k.toNat (h k.toNat)
    · exact h
  | read k p =>
    unfold NP.act NP.readP
    dsimp only
    split <;> exact h
  | lose => exact h
  | start => exact h
  | none => exact h
  | script l =>
    show WearC (NP.script c l).2 i
    unfold NP.script
    split <;> exact h
theorem wear_acts {c' : NP.Chp} (q : ActsN (fun _ => False) c c') (h : WearC c i) : WearC c' i := by
  induction q with
  | refl => exact h
  | step a _ _ h3 ih => exact wear_act ih a (fun k e => h3 k e)
theorem w64_in (x : Int) (h : 0 ≤ x ∧ x ≤ 1099511627776) : NP.w64 (x + 1) = x + 1 := by
  unfold NP.w64
  omega
theorem wear_erase (h : WearC c i) (hi : i ≤ 1099511627776) (k : Int) : WearC (NP.erase c k).2 (i + 1) := by
  have hm := h.more (j := i + 1) (by omega)
  have hs : WearC (NP.stroke c) (i + 1) := hm
  have hk := h k.toNat
  have hw := w64_in (c.blk k.toNat).wear ⟨hk.1, by omega⟩
  have h2 : 0 ≤ NP.w64 ((c.blk k.toNat).wear + 1) ∧ NP.w64 ((c.blk k.toNat).wear + 1) ≤ i + 1 := by rw [hw]; omega
  have hb : ∀ d, WearC (NP.breakOff (NP.stroke c) k.toNat d) (i + 1) := fun d => WearC.set hs _ h2
  unfold NP.erase
  dsimp only
  repeat (first | exact hm | exact hs | exact hb _ | exact WearC.set hs _ h2 | split)
theorem wear_close (h : WearL g.l i) (k : Nat) : WearL (g.close k).l i := WearL.set h k (h k)
theorem wear_ready (h : WearL g.l i) : WearL g.ready.l i := by
  unfold Mg.ready
  split
  · unfold Mg.begun
    split
    · exact h
    · exact WearL.set h _ (h _)
  · exact h
theorem progTo_wear : ∀ (n : Nat) (c : NP.Chp) (g : Mg), WearL g.l i → WearL (Mg.progTo b n c g).2.2.l i
  | 0, c, g, h => h
  | n + 1, c, g, h => by
    rw [progTo_succ]
    unfold Mg.progStep
    dsimp only
    have hr := wear_ready h
    generalize g.ready = g at *
    split
    · exact hr
    · split
      · exact progTo_wear n _ _ (wear_close hr _)
      · split
        · dsimp only
          have hp : WearL (g.put g.at_.toNat { g.blk g.at_.toNat with n := (g.blk g.at_.toNat).n + 1, l := (g.blk g.at_.toNat).l + 1 }).l i := WearL.set hr _ (hr _)
          split
          · exact wear_close hp _
          · exact hp
        · split
          · exact wear_close hr _
          · exact hr
theorem program_wear (h : WearL g.l i) : WearL (Mg.program b c g).2.2.l i := by
  unfold Mg.program
  split
  · exact h
  · split
    · exact h
    · exact progTo_wear _ _ _ h
theorem drop_wear (h : WearL g.l i) (k : Int) : WearL (g.drop k).2.l i := by
  unfold Mg.drop
  dsimp only
  split
  · exact h
  · exact WearL.set h _ (h _)
theorem gone_wear (h : WearL g.l i) (hc : WearC c i) (h0 : 0 ≤ i) (k : Nat) : WearL (Mg.gone c g k).2.2.l i := by
  unfold Mg.gone
  dsimp only
  split
  · refine WearL.set h _ ((WearC.at_ ?_ h0) _)
    exact wear_act hc (.mark k) (fun k e => by cases e)
  · exact h
theorem retire_wear (h : WearL g.l i) (hc : WearC c i) (h0 : 0 ≤ i) (k : Int) : WearL (Mg.retire c g k).2.2.l i := by
  unfold Mg.retire
  dsimp only
  split
  · exact h
  · exact gone_wear h hc h0 _
theorem erase_wear (h : WearL g.l i) (hc : WearC c i) (h0 : 0 ≤ i) (hi : i ≤ 1099511627776) (k : Int) : WearL (Mg.erase c g k).2.2.l (i + 1) ∧ WearC (Mg.erase c g k).2.1 (i + 1) := by
  have hm := h.more (j := i + 1) (by omega)
  have hcm := hc.more (j := i + 1) (by omega)
  have he := wear_erase hc hi k
  have hp : WearL (g.put k.toNat { g.blk k.toNat with r := NP.wearAt (NP.erase c k).2 k }).l (i + 1) := WearL.set hm _ (he.at_ (by omega) k)
  unfold Mg.erase
  dsimp only
  split
  · exact ⟨hm, hcm⟩
  · split
    · exact ⟨hm, hcm⟩
    · split
      · exact ⟨WearL.set hp _ (he.at_ (by omega) k), he⟩
      · split
        · exact ⟨gone_wear hp he (by omega) _, wear_acts (gone_acts _) he⟩
        · exact ⟨hp, he⟩
/-- What is told is right. -/
theorem right_all (h : g.ok c) (hc : c.ok) (hw : WearL g.l i) (hi : i ≤ 1099511627776) : gcs.RightL c.P g.l = true := by
  have hd := ok_dims hc
  unfold gcs.RightL
  rw [decide_eq_false (by omega), decide_eq_false (by omega)]
  simp only [Bool.not_false, Bool.true_and]
  rw [List.all_eq_true]
  intro x hx
  rw [gcs.rightB_iff]
  have h1 := h.rng x hx
  have h2 := h.none_ x hx
  obtain ⟨j, hj, rfl⟩ := List.getElem_of_mem hx
  have h3 := hw j
  rw [List.getD_eq_getElem?_getD, List.getElem?_eq_getElem hj] at h3
  have h4 : 0 ≤ g.l[j].r ∧ g.l[j].r ≤ i := h3
  refine ⟨h1.1, h1.2.1, h1.2.2.1, h1.2.2.2.1, h1.2.2.2.2.1, h1.2.2.2.2.2, h4.1, by omega, ?_⟩
  by_cases e1 : g.l[j].s = 1
  · exact .inr (.inl e1)
  · by_cases e2 : g.l[j].s = 2
    · exact .inr (.inr e2)
    · exact .inl (h2 e1 e2)
theorem badTo_wear : ∀ {bad : List Int} {c d : NP.Chp}, WearC c 0 → NP.badTo c bad = some d → WearC d 0
  | [], c, d, h, e => by injection e with e; subst e; exact h
  | k :: l, c, d, h, e => by
    unfold NP.badTo at e
    split at e
    · exact badTo_wear (bad := l) (c := NP.markB c k.toNat) (WearC.set h k.toNat (h k.toNat)) e
    · cases e
theorem new_wear {b p s : Int} {bad : List Int} {d : NP.Chp} (e : NP.new b p s bad = some d) : WearC d 0 := by
  unfold NP.new at e
  split at e
  · refine badTo_wear (fun k => ?_) e
    show 0 ≤ ((List.replicate b.toNat (NP.blankB p.toNat)).getD k default).wear ∧ ((List.replicate b.toNat (NP.blankB p.toNat)).getD k default).wear ≤ 0
    rw [List.getD_eq_getElem?_getD, List.getElem?_replicate]
    split
    · exact ⟨Int.le_refl _, Int.le_refl _⟩
    · exact ⟨Int.le_refl _, Int.le_refl _⟩
  · cases e
theorem openG_wear {fresh : List Bool} {live : List Int} {reserve bad : Int} {e : Int} (hc : WearC c 0) (h : openG c fresh live reserve bad = (e, some g)) : WearL g.l 0 := by
  unfold openG at h
  split at h
  · simp at h
  · split at h
    · simp at h
    · split at h
      · injection h with _ h
        injection h with h
        subst h
        intro k
        by_cases hk : k < c.B
        · have e2 : (firstL c fresh live c.B).getD k default = firstB c (fresh.getD k false) (live.getD k 0) k := by
            unfold firstL
            rw [List.getD_eq_getElem?_getD, List.getElem?_map, List.getElem?_range hk]
            rfl
          rw [show (Mg.mk (firstL c fresh live c.B) (-1) reserve bad (evenB (firstL c fresh live c.B))).l = firstL c fresh live c.B from rfl, e2]
          have hw := hc.at_ (by decide) (k : Int)
          unfold firstB
          split
          · exact hw
          · split
            · exact hw
            · split <;> exact hw
        · rw [show (Mg.mk (firstL c fresh live c.B) (-1) reserve bad (evenB (firstL c fresh live c.B))).l = firstL c fresh live c.B from rfl, List.getD_eq_getElem?_getD, List.getElem?_eq_none (by rw [firstL_length]; omega)]
          exact ⟨Int.le_refl _, Int.le_refl _⟩
      · simp at h
end

end Go.Proofs.Ytpggkehfbhffbaa.mgr

/-
  A manager of a chip's blocks: what is to be done next. Conditions: a manager and its chip told by Held.
-/
namespace Go.Proofs.Ytpggkehfbhffbaa.mgr
open Go.RowKit

def zeroTo (l : List gcs.Blk) : Nat → List gcs.Blk
  | 0 => l
  | n + 1 => (zeroTo l n).set n { (zeroTo l n).getD n default with r := 0 }
def nextL (G : MgM) (P : Nat) : Int × Int := gcs.NextL (if G.even then zeroTo G.l G.l.length else G.l) P (decide ((P : Int) ≤ roomL G P))
theorem zeroTo_length (l : List gcs.Blk) : ∀ n, (zeroTo l n).length = l.length
  | 0 => rfl
  | n + 1 => by unfold zeroTo; rw [List.length_set, zeroTo_length l n]
section
variable {base : Nat} {w : World} {m : Nat} {G : MgM} {M : ChM}
theorem gcells_one (l : List gcs.Blk) : ∀ u ∈ l.flatMap gcells, u.oneCell' = true := by
  intro u hu
  obtain ⟨x, _, hx⟩ := List.mem_flatMap.1 hu
  simp [gcells] at hx
  rcases hx with rfl | rfl | rfl | rfl <;> rfl
theorem arr_row {g c : Nat} {l : List gcs.Blk} (h : Arr w 121 4 g l.length c (l.flatMap gcells)) : gcs.Row w (.slice (some ⟨g, 0, none⟩) l.length c) l := by
  obtain ⟨cur, _, g1, g2, _⟩ := h.blk
  refine ⟨by unfold maxLen at g2; omega, _, _, rfl, .inr ⟨g, 0, rfl, fun i hi => ?_⟩⟩
  have hc : ∀ j, j < 4 → w.cell? ⟨g, i * 4 + j, none⟩ = (gcells (l.getD i default))[j]? := fun j hj => by
    rw [h.cell (by omega), flat_get gcells_len default _ _ _ hi hj]
  rw [Nat.zero_add]
  exact ⟨hc 0 (by decide), hc 1 (by decide), hc 2 (by decide), hc 3 (by decide)⟩
/-- The row while its wear is set to 0. -/
structure NxSt (w1 : World) (g c : Nat) (l : List gcs.Blk) (wr : World) : Prop where
  below : Below w1.heap.size w1 wr
  arr : Arr wr 121 4 g l.length c (l.flatMap gcells)
  low : w1.heap.size ≤ g
theorem NxSt.zero {w1 wr : World} {g c : Nat} {l : List gcs.Blk} (h : NxSt w1 g c l wr) {n : Nat} (hn : n < l.length) : NxSt w1 g c (l.set n { l.getD n default with r := 0 }) (wr.setCell ⟨g, n * 4 + 2, none⟩ (vi 0)) := by
  refine ⟨h.below.setCell (p := ⟨g, n * 4 + 2, none⟩) h.low _, ?_, h.low⟩
  rw [List.length_set, ← flat_set gcells_len default l n 2 { l.getD n default with r := 0 } (vi 0) hn (by decide) rfl]
  exact h.arr.set _ _
set_option maxRecDepth 100000 in
set_option maxHeartbeats 4000000 in
theorem Next_any (h : Held base w m G M) (hf : G.fit M.P) (hl0 : 0 < G.l.length) : Calls Try.prog 39 #[ptr m] w fun e w' => e = .returned (gcs.vact (nextL G M.P)) ∧ Below w.heap.size w w' := by
  have HDEF : Hid (nextL G M.P = gcs.NextL (if G.even then zeroTo G.l G.l.length else G.l) M.P (decide ((M.P : Int) ≤ roomL G M.P))) := Lib.hid rfl
  have H := Lib.hid h
  have HF := Lib.hid hf
  have HZL := Lib.hid (zeroTo_length G.l)
  have hlen : G.l.length ≤ 128 := hf.1
  have HL := Lib.hid hlen
  have B0 := Lib.hid (alloc_below w (.cells #[vi 0, vi 0] 74))
  have R0 := Lib.hid (Blk.new w 74 #[vi 0, vi 0])
  clear h hf
  go_enter Try.func39, Try.ntmps39
  go_upto_region 1 with fail
  generalize w.alloc (.cells #[vi 0, vi 0] 74) = w1 at *
  generalize hrb : w.heap.size = rb at *
  have HRB := Lib.hid hrb
  clear hrb
  have H1 : Hid (Held base w1 m G M) := Lib.hid (H.out.old (by rw [HRB.out]; exact B0.out))
  have c1 : w1.cell? ⟨m, 1, none⟩ = some (.slice (some ⟨G.gl, 0, none⟩) G.l.length G.cl) := H1.out.cells.2.1
  go_wp2_with fail
  have hown := H1.out.mgr.row
  refine (CloneR_any (some ⟨G.gl, 0, none⟩) G.l.length G.cl (G.l.flatMap gcells) _ (flat_length gcells_len G.l) (fun ad had j u hu => by
      injection had with had
      subst had
      rw [add_plain, Nat.zero_add, hown.cell (by rw [← flat_length gcells_len G.l]; exact (List.getElem?_eq_some_iff.1 hu).1)]
      exact hu) (gcells_one _) (by simp) (by omega)).mono ?_
  rintro e w2 ⟨v2, rfl, ho2, hb2⟩
  obtain ⟨g, c, rfl, harr, hg⟩ := Arr.of_own ho2 hl0
  have HEL : Hid ((if G.even then zeroTo G.l 0 else G.l) = G.l) := Lib.hid (by cases G.even <;> rfl)
  have ST : Hid (NxSt w1 g c (if G.even then zeroTo G.l 0 else G.l) w2) := Lib.hid (by rw [HEL.out]; exact ⟨hb2, harr, hg⟩)
  clear ho2 hb2 harr hg hown c1
  go_wp2_with fail
  go_loopw [15] (fun i wr => ∃ n : Nat, n ≤ G.l.length ∧ i = vi n ∧ Hid (NxSt w1 g c (if G.even then zeroTo G.l n else G.l) wr)) (fun i _ => G.l.length - (intOf i).toNat)
  case atStart => exact ⟨0, Nat.zero_le _, rfl, ST⟩
  case round =>
    clear ST
    obtain ⟨n, hn, rfl, st⟩ := hrel
    by_cases hlt : n < G.l.length
    · have c5 : wr.cell? ⟨m, 5, none⟩ = some (.bool G.even) := (H1.out.old st.out.below).cells.2.2.2.2.2
      have hn0 : (0 : Int) ≤ (n : Int) := by omega
      have hn1 : (n : Int) < (G.l.length : Int) := by omega
      generalize hev : G.even = ev at *
      cases ev
      · rw [if_neg (by simp)] at st
        go_wp2_with fail
        go_roundw
        case rel => exact ⟨n + 1, by omega, by go_num, by rw [if_neg (by simp)]; exact st⟩
        case measure => simp [intOf]; omega
      · rw [if_pos rfl] at st
        have hnz : n < (zeroTo G.l n).length := by rw [HZL.out]; exact hlt
        have d2 : wr.cell? ⟨g, n * 4 + 2, none⟩ = some (vi ((zeroTo G.l n).getD n default).r) := by
          rw [st.out.arr.cell (by omega), flat_get gcells_len default _ _ _ hnz (by decide)]
          rfl
        have z2 := st.out.arr.frozen (n * 4 + 2)
        have S1 : Hid (NxSt w1 g c (zeroTo G.l (n + 1)) (wr.setCell ⟨g, n * 4 + 2, none⟩ (vi 0))) := Lib.hid (st.out.zero hnz)
        generalize ((zeroTo G.l n).getD n default).r = rr at *
        clear st hnz
        go_wp2_with fail
        go_roundw
        case rel => exact ⟨n + 1, by omega, by go_num, S1⟩
        case measure => simp [intOf]; omega
    · obtain rfl : n = G.l.length := by omega
      have HLL : Hid ((if G.even then zeroTo G.l G.l.length else G.l).length = G.l.length) := Lib.hid (by split; exact HZL.out _; rfl)
      generalize (if G.even then zeroTo G.l G.l.length else G.l) = L at *
      have H2 := Lib.hid (H1.out.old st.out.below)
      have R2 := Lib.hid (R0.out.old st.out.below)
      have RW := Lib.hid (arr_row st.out.arr)
      rw [HLL.out] at RW
      have B2 : Hid (Below w.heap.size w wr) := Lib.hid (by rw [HRB.out]; exact B0.out.trans (st.out.below.mono (by rw [← HRB.out]; exact B0.out.size)))
      clear st hn hlt hlen
      go_wp2_with fail
      refine (pages_any H2.out.mgr H2.out.chip).mono ?_
      rintro e w4 ⟨rfl, hb4⟩
      have H4 := Lib.hid (H2.out.old hb4)
      have R4 := Lib.hid (R2.out.old hb4)
      have W4 := Lib.hid (RW.out.below hb4)
      have B4 := Lib.hid (B2.out.trans (hb4.mono B2.out.size))
      clear hb4
      go_wp2_with fail
      refine (Room_any H4.out.mgr H4.out.chip HF.out).mono ?_
      rintro e w5 ⟨rfl, hb5⟩
      have H5 := Lib.hid (H4.out.old hb5)
      have R5 := Lib.hid (R4.out.old hb5)
      have W5 := Lib.hid (W4.out.below hb5)
      have B5 := Lib.hid (B4.out.trans (hb5.mono B4.out.size))
      clear hb5
      generalize roomL G M.P = rm at *
      go_wp2_with fail
      refine (pages_any H5.out.mgr H5.out.chip).mono ?_
      rintro e w6 ⟨rfl, hb6⟩
      have R6 := Lib.hid (R5.out.old hb6)
      have W6 := Lib.hid (W5.out.below hb6)
      have B6 := Lib.hid (B5.out.trans (hb6.mono B5.out.size))
      clear hb6
      go_wp2_with fail
      have HN := Lib.hid (gcs.Next_any _ L M.P (decide ((M.P : Int) ≤ rm)) _ W6.out)
      refine HN.out.mono ?_
      rintro e w7 ⟨rfl, hb7⟩
      have R7 := Lib.hid (R6.out.old hb7)
      have B7 := Lib.hid (B6.out.trans (hb7.mono B6.out.size))
      clear hb7 HN
      generalize gcs.NextL L M.P (decide ((M.P : Int) ≤ rm)) = r at *
      have c0 : w7.cell? ⟨rb, 0, none⟩ = some (vi 0) := R7.out.cell 0
      have c1 : w7.cell? ⟨rb, 1, none⟩ = some (vi 0) := R7.out.cell 1
      have z0 := R7.out.frozen 0
      have z1 := R7.out.frozen 1
      go_wp2_with fail
      refine bodyPost_ret (v := gcs.vact r) (by simp [results, Try.results39, go_sem, c0, c1]) rfl ⟨by rw [HDEF.out], ?_⟩
      exact (B7.out.setCell (p := ⟨rb, 0, none⟩) (by rw [HRB.out]; exact Nat.le_refl _) _).setCell (p := ⟨rb, 1, none⟩) (by rw [HRB.out]; exact Nat.le_refl _) _
end

end Go.Proofs.Ytpggkehfbhffbaa.mgr

