/-
  A block's pages told one by one. Conditions: a chip that is told by ChipAt, right and up, and a block that is there.
-/
import Derived.Test.YtpggkehfbhffbaaNO
import Derived.Test.YtpggkehfbhffbaaQF
import Derived.Deep.QuietTactic
import Derived.BigQuiet
namespace Go.Proofs.Ytpggkehfbhffbaa
open Go.RowKit
attribute [local go_sem] Oper.semAt_some

section
variable {base : Nat} {w w' wr : World} {k : Nat} {M : ChM}
theorem abides_below {β : Type} {B : Nat} {J : β → World → Prop} (hJ : AbidesFrom B J) {s : β} (hs : J s w) (h : Below w.heap.size w w') : J s w' :=
  hJ s w w' none hs ⟨h.os, h.tape, h.output, h.size, fun k hk _ => h.block k hk⟩ (fun r e => by cases e)
theorem neq_bytes_nil (w : World) (a : Option Addr) (n c : Nat) : (binOp .neq 32 (.slice a n c) (.slice none 0 0)).run Try.prog w = .ok (.bool (!a.isNone)) w := by
  simp only [binOp]
  simp [Op.equal, Op.maxDepth, Lib.run_equalIn_slice_nil w 9999 32 5 a n c 0 0 Try.underlying32]
/-- A page that is told is programmed. -/
abbrev PTold (V : NP.Chp) (i : Nat) := { x : Told // 0 ≤ x.i ∧ (V.blk i).page x.i.toNat ≠ [] }
abbrev PTold.encs {V : NP.Chp} {i : Nat} (x : PTold V i) : Array Value := x.1.encs
/-- What a round may change. -/
def Kept (box B : Nat) (W W' : World) : Prop := Chg (fun m => m = box ∨ B ≤ m) W W'
theorem Kept.join {box : Nat} (h : Chg (fun m => m = box) w wr) (q : Kept box w.heap.size wr w') : Chg (fun m => m = box) w w' := h.trans q (fun n hn e => by rcases e with e | e; exact e; omega)

set_option maxRecDepth 100000 in
set_option maxHeartbeats 4000000 in
theorem Pages1_some (n : Nat) (hn : 1 ≤ n) (h : ChipAt base w k M) (hok : M.view.ok) (hd : M.down = false) (i : Nat) (hi : i < M.bs.length) (b1 b2 box : Nat) (h1 : w.cell? ⟨b1, 0, none⟩ = some (ptr k)) (h2 : w.cell? ⟨b2, 0, none⟩ = some (vi i))
    (hm : Mine base w box) (hf : ¬ M.foot k box) :
    SeqStopsK Fence.wide n Try.prog 61 #[.pointer (some ⟨b1, 0, none⟩), .pointer (some ⟨b2, 0, none⟩)] (PTold.encs (V := M.view) (i := i)) (Kept box w.heap.size) (fun _ => True) (fun _ => True) 33 w := by
  intro l J Jx W hW hJ hJx hY h0
  have hne := fun (w : World) (a : Option Addr) (n c : Nat) => neq_bytes_nil w a n c
  have c1 := cell_below h1 hW
  have c2 := cell_below h2 hW
  have H := Lib.hid (h.old hW)
  have HW0 := Lib.hid h
  have HCW : Hid (Chg (fun m => m = box) w W) := Lib.hid (Chg.of_below hW)
  have hps := ok_ps hok hi
  have hPP := (ok_S hok).2.1
  have hpl32 : (M.bs.getD i default).ps.length ≤ 32 := by omega
  have hSS := (ok_S hok).1
  have HFUL := Lib.hid (fun (p : PgM) (hp : p ∈ (M.bs.getD i default).ps) => ok_full hok hi hp)
  have HVP := Lib.hid (fun (p : Nat) (hp : p < (M.bs.getD i default).ps.length) => view_page hi hp)
  have c0 : W.cell? ⟨k, 6, none⟩ = some (.bool false) := by
    have := H.out.chip.cell 6
    rw [← hd]
    exact this
  have c3 : W.cell? ⟨k, 1, none⟩ = W.cell? ⟨k, 1, none⟩ := rfl
  have HY := Lib.hid hY
  have HJ := Lib.hid hJ
  have HJ0 := Lib.hid h0
  have HM := Lib.hid (fun (n : Nat) (e : n = box) => (show Mine base w n by rw [e]; exact hm))
  have HF := Lib.hid (fun (n : Nat) (hn : M.foot k n) (e : n = box) => hf (by rw [← e]; exact hn))
  have HWS := Lib.hid hW.size
  have ht : thereB M i = true := by simp [thereB, hi]
  have HTH := Lib.hid ht
  clear hY hJ hJx h1 h2 h hok h0 hm hf hW c3 ht hd hps
  refine callsIn_of_wp Try.func61 rfl trivial ?_ rfl
  simp only [Try.ntmps61, List.size_toArray, List.length_cons, List.length_nil, Nat.reduceAdd, Nat.reduceSub, Array.replicate_succ, Array.replicate_zero, List.push_toArray, List.append_toArray, List.nil_append, List.cons_append]
  gi_wp2
  refine ⟨trivial, ?_⟩
  refine (callsIn_wide.2 (there_any H.out (i : Int))).mono ?_
  rintro e w' ⟨rfl, rfl⟩
  rw [HTH.out]
  gi_wp2
  have d1 : w'.cell? ⟨k, 3, none⟩ = some (.slice (some ⟨M.kb, 0, none⟩) M.bs.length M.kc) := H.out.chip.cell 3
  have d2 : w'.cell? ⟨M.kb, i * 5, none⟩ = some (.slice (some ⟨(M.bs.getD i default).g, 0, none⟩) (M.bs.getD i default).ps.length (M.bs.getD i default).c) := H.out.bcell (i := i) (j := 0) hi (by decide)
  have q0 : (0 : Int) ≤ (i : Int) := by omega
  have q1 : (i : Int) < (M.bs.length : Int) := by omega
  have hxm : M.bs.getD i default ∈ M.bs := getD_mem hi
  have HXM := Lib.hid hxm
  have HPC := Lib.hid (fun (wr : World) (hc : Chg (fun m => m = box) w wr) (j : Nat) (hj : j < (M.bs.getD i default).ps.length) => (HW0.out.chg hc HM.out HF.out).pcell hi hj)
  have HPR := Lib.hid (fun (wr : World) (hc : Chg (fun m => m = box) w wr) (j : Nat) (hj : j < (M.bs.getD i default).ps.length) => (HW0.out.chg hc HM.out HF.out).rows _ hxm _ (getD_mem (d := default) hj))
  clear hxm
  refine wpIn_wide.2 ?_
  generalize M.bs.getD i default = x at *
  go_quiet (fail)
  have HJ1 := Lib.hid (abides_below HJ.out HJ0.out (below_drewN (Below.refl _ w') nq))
  have HC1 : Hid (Chg (fun m => m = box) w (w'.drewN nq)) := Lib.hid (HCW.out.drewN nq)
  have HW1 := Lib.hid (show w.heap.size ≤ (w'.drewN nq).heap.size from HC1.out.size)
  clear c1 c2 c0 d1 d2 HJ0 HCW
  generalize w'.drewN nq = w1 at *
  gi_wp2
  gi_loopw [25] (fun v wr => ∃ (j : Nat) (pre : List (PTold M.view i)), j ≤ x.ps.length ∧ v = vi j ∧ pre.length ≤ j ∧ Hid (J pre wr) ∧ Hid (Chg (fun m => m = box) w wr)) (fun v _ => x.ps.length - (intOf v).toNat)
  case atStart => exact ⟨0, [], Nat.zero_le _, rfl, Nat.le_refl _, HJ1, HC1⟩
  case round =>
    clear HJ1 HC1 HW1
    obtain ⟨j, pre, hj, rfl, hpl, hJs, hcs⟩ := hrel
    by_cases hlt : j < x.ps.length
    · have cj := HPC.out wr hcs.out j hlt
      have hpok := HPR.out wr hcs.out j hlt
      have hvp := HVP.out j hlt
      have hful := HFUL.out _ (getD_mem (d := default) hlt)
      generalize x.ps.getD j default = pg at *
      obtain ⟨pa, pl, pc⟩ := pg
      change wr.cell? ⟨x.g, j, none⟩ = some (.slice pa pl.length pc) at cj
      have hq0 : (0 : Int) ≤ (j : Int) := by omega
      have hq1 : (j : Int) < (x.ps.length : Int) := by omega
      by_cases hpe : pl = []
      · have := hpok.nil hpe
        injection this with e1 e2 e3
        subst e1 e2 e3
        clear hpok hvp hful
        gi_wp2
        refine ⟨trivial, ?_⟩
        gi_wp2
        refine ⟨fun _ h => (by cases h), ?_⟩
        gi_wp2
        go_roundw
        case rel => exact ⟨j + 1, pre, by omega, by go_num, by omega, hJs, hcs⟩
        case measure => simp [intOf]; omega
      · obtain ⟨pb, po, hpa⟩ := hpok.some hpe
        dsimp only at hpa
        subst hpa
        have HPR2 := Lib.hid hpok.row.row
        have hll : pl.length ≤ 900000 := by
          rcases hful with h | h
          · exact absurd h hpe
          · dsimp only at h; omega
        have HVP2 := Lib.hid hvp
        have HNE := Lib.hid hpe
        have HSM := Lib.hid hpok.row.row.small
        clear hpok hvp hful hpe
        gi_wp2
        refine ⟨trivial, ?_⟩
        refine (callsIn_wide.2 (Clone_any _ pl pc _ HPR2.out hll)).mono ?_
        rintro e w3 ⟨v3, rfl, ho3, hb3⟩
        obtain ⟨a3, c3, rfl, -⟩ := ho3.srow (base := base) HSM.out
        have HC3 := Lib.hid (hcs.out.below hb3)
        have HJ3 := abides_below HJ.out hJs.out hb3
        have hlen : pre.length < 33 := by omega
        obtain ⟨fn, tmps, assign, body, hy, hR⟩ := HY.out pre ⟨⟨j, a3, pl, c3⟩, hq0, by rw [Int.toNat_natCast, HVP2.out]; exact HNE.out⟩ w3 HJ3 hlen
        have HR := Lib.hid hR
        change (Instr.yield l #[vi j, .slice a3 pl.length c3]).run Try.prog w3 = _ at hy
        clear ho3 hb3 HJ3 hR hcs hJs cj
        gi_wp2
        refine HR.out.mono ?_
        rintro e W4 (⟨rfl, hJ4, hk4⟩ | ⟨rfl, hJx4⟩)
        · have HJ4 := Lib.hid hJ4
          have HC4 := Lib.hid (Kept.join HC3.out hk4)
          clear hJ4 hk4 HC3 hy
          gi_wp2
          go_roundw
          case rel => exact ⟨j + 1, _, by omega, by go_num, by rw [List.length_append, List.length_singleton]; omega, HJ4, HC4⟩
          case measure => simp [intOf]; omega
        · have HJX := Lib.hid hJx4
          clear hJx4 HC3 hy
          gi_wp2
          refine bodyPost_ret (results_none rfl _ _ _) rfl ?_
          exact ⟨⟨_, rfl⟩, .inr ⟨_, trivial, HJX.out⟩⟩
    · obtain rfl : j = x.ps.length := by omega
      gi_wp2
      go_end0
      exact ⟨⟨_, rfl⟩, .inl ⟨_, trivial, hJs.out⟩⟩
/-- A function that holds a range over a function returns ahead of it. -/
theorem marks_ret0 {n : Nat} {fn : Func} {R : Ending → World → Prop} {tmps : Array Value} {v : Value} (hres : ∀ w, (results fn tmps).run Try.prog w = .ok v w) (h : R (.returned v) w) :
    bodyPostM Fence.wide n Try.prog fn R .ret { tmps, defers := [] } w := ⟨_, hres _, h⟩
/-- A range over a function whose loop has its first variable. -/
theorem wp_rangeFunc_first {α : Type} {g : Operand} {p0 p1 s : Tmp} {id : Nat} {t : TypeId} {ps : String} {body : Code} {Q : Exit → Act → World → Prop} {a : Act} {gf : Nat} {lb : Array Value} (hg : a.eval g = .func (.func gf) #[] lb)
    (eg : ∀ args w, (callFunc gf args).run Try.prog w = .ok (.enter gf args) w) {encs : α → Array Value} {Kp : World → World → Prop} {N : Nat} (hseq : SeqStopsK Fence.wide 5 Try.prog gf lb encs Kp (fun _ => True) (fun _ => True) N w)
    (hKt : ∀ {A B C : World}, Kp A B → Kp B C → Kp A C) (hKb : ∀ (W : World) (l : Nat) (o o' : Obj), w.heap.size ≤ l → W.heap[l]? = some o → o.isCells = false → o.isWalk = false → Kp W (W.putObj l o'))
    (e0 e1 : α → Value) (hps : ∀ x, encs x = #[e0 x, e1 x]) (hp : p0 ≠ p1) (hlt : p0 < a.tmps.size) (I : List α → World → Prop) (hI : OwnFrom w.heap.size I) (h0 : I [] w)
    (hbody : ∀ (l : Nat) (pre : List α) (x : α) (W : World), I pre W → pre.length < N → body.wpIn (Fence.wide.inRound l) 4 Try.prog (ownPostK Kp I (fun _ _ _ => False) (pre ++ [x]) W)
      { tmps := ((a.tmps.setIfInBounds p0 (e0 x)).setIfInBounds p1 (e1 x)).setIfInBounds s (e0 x), defers := [] } W)
    (hdone : ∀ (D : Nat) (xs : List α) (W : World), w.heap.size ≤ D → I xs W → W.heap[D]? = some (.deferred (some [])) → Q .normal { a with defers := { target := .collected D, args := #[] } :: a.defers } W) :
    (Code.rangeFunc g #[p0, p1] (Code.region id #[{ dst := some s, op := .assign (.tmp p0), type := t, pos := ps, after := #[], guard := none }] false) body).wp Try.prog Q a w := by
  have hf : ∀ x, (#[p0, p1].zip (encs x)).foldl (fun t (p, v) => t.setIfInBounds p v) a.tmps = (a.tmps.setIfInBounds p0 (e0 x)).setIfInBounds p1 (e1 x) := fun x => by rw [hps]; simp
  have hr : ∀ x, ((a.tmps.setIfInBounds p0 (e0 x)).setIfInBounds p1 (e1 x))[p0]?.getD undef = e0 x := fun x => by
    rw [Array.getElem?_setIfInBounds_ne (fun e => hp e.symm), Array.getElem?_setIfInBounds_self_of_lt hlt]
    rfl
  refine wpIn_wide.1 (wpIn_rangeFunc_ownF (F := Fence.wide) (n := 6) rfl (by omega) (gf := gf) (lb := lb) hg trivial eg hseq hKt hKb (Below.refl _ _) (fun x => by rw [hps]; rfl)
    I (fun _ _ _ => False) hI (fun _ _ _ _ _ h _ _ => h) h0 (fun x => { tmps := ((a.tmps.setIfInBounds p0 (e0 x)).setIfInBounds p1 (e1 x)).setIfInBounds s (e0 x), defers := [] }) (fun l x W K hK => ?_) hbody (fun D xs W hD _ hI hK => hdone D xs W hD hI hK) (fun _ _ _ _ _ _ h => h.elim))
  rw [hf]
  have h := hr x
  generalize (a.tmps.setIfInBounds p0 (e0 x)).setIfInBounds p1 (e1 x) = T at *
  generalize e0 x = v at *
  subst h
  gi_wp2
  exact hK
end

end Go.Proofs.Ytpggkehfbhffbaa
