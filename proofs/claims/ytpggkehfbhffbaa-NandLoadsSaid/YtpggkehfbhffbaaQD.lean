/-
  A chip behind some operations, and the document's. Conditions: data that came in.
-/
import Derived.Test.YtpggkehfbhffbaaQC
namespace Go.Proofs.Ytpggkehfbhffbaa
open Go.RowKit

/-- What holds of a chip behind operations. -/
structure NP.Chp.good (c : NP.Chp) : Prop where
  ok : c.ok
  small : NP.small c.fs
  order : c.order
  few : c.fs.length ≤ 9000
theorem act_fs (c : NP.Chp) (a : NP.Act) : (NP.act c a).fs = c.fs ∨ ∃ l, a = .script l ∧ (NP.act c a).fs = l := by
  cases a with
  | program k p b =>
    left
    unfold NP.act NP.program
    dsimp only
    split
    · split
      · split
        · rfl
        · split
          · rfl
          · split
            · rfl
            · split
              · rfl
              · split <;> rfl
      · rfl
    · rfl
  | erase k =>
    left
    unfold NP.act NP.erase
    dsimp only
    split
    · split
      · rfl
      · split
        · rfl
        · split
          · rfl
          · split <;> rfl
    · rfl
  | mark k =>
    left
    unfold NP.act NP.mark
    dsimp only
    split <;> rfl
  | read k p =>
    left
    unfold NP.act NP.readP
    dsimp only
    split <;> rfl
  | lose => exact .inl rfl
  | start => exact .inl rfl
  | none => exact .inl rfl
  | script l =>
    show (NP.script c l).2.fs = c.fs ∨ ∃ l', NP.Act.script l = .script l' ∧ (NP.script c l).2.fs = l'
    unfold NP.script
    split
    · exact .inr ⟨l, rfl, rfl⟩
    · exact .inl rfl
theorem NP.Chp.good.act {c : NP.Chp} (h : c.good) (a : NP.Act) (ha : a.fine) (hl : ∀ l, a = .script l → l.length ≤ 9000) : (NP.act c a).good := by
  obtain ⟨h1, h2⟩ := NP.act_ok h.ok h.small a ha
  refine ⟨h1, h2, NP.order_act h.ok h.order a, ?_⟩
  rcases act_fs c a with e | ⟨l, e, e2⟩
  · rw [e]; exact h.few
  · rw [e2]; exact hl l e
theorem new_good {b p s : Int} {bad : List Int} {d : NP.Chp} (e : NP.new b p s bad = some d) : d.good := by
  obtain ⟨h1, h2, h3, _⟩ := NP.new_ok e
  exact ⟨h1, (by rw [h3]; exact fun f hf => by cases hf), h2, (by rw [h3]; decide)⟩
/-- Operations done. -/
def acts (c : NP.Chp) (l : List OpM) : NP.Chp := l.foldl (fun c o => NP.act c (actOf o)) c
theorem acts_snoc (c : NP.Chp) (l : List OpM) (o : OpM) : acts c (l ++ [o]) = NP.act (acts c l) (actOf o) := by simp [acts]
theorem fwt_len : ∀ l : List FltM, l.length ≤ fwt l ∧ ∀ f ∈ l, f.l.length ≤ fwt l
  | [] => ⟨Nat.le_refl _, by simp⟩
  | f :: l => by
    obtain ⟨h1, h2⟩ := fwt_len l
    refine ⟨by simp only [List.length_cons, fwt]; omega, fun g hg => ?_⟩
    rcases List.mem_cons.1 hg with rfl | hg
    · simp only [fwt]; omega
    · have := h2 g hg; simp only [fwt]; omega
theorem owt_mem : ∀ {l : List OpM} {o : OpM}, o ∈ l → o.b.length + fwt o.fs < owt l
  | x :: l, o, h => by
    rcases List.mem_cons.1 h with rfl | h
    · simp only [owt]; omega
    · have := owt_mem h; simp only [owt]; omega
theorem owt_small {l : List OpM} (h : owt l ≤ 9000) {o : OpM} (ho : o ∈ l) : o.b.length ≤ 9000 ∧ o.fs.length ≤ 9000 ∧ ∀ f ∈ o.fs, f.l.length ≤ 9000 := by
  have h1 := owt_mem ho
  obtain ⟨h2, h3⟩ := fwt_len o.fs
  exact ⟨by omega, by omega, fun f hf => by have := h3 f hf; omega⟩
theorem actOf_few {o : OpM} (h : o.fs.length ≤ 9000) : ∀ l, actOf o = .script l → l.length ≤ 9000 := by
  intro l
  unfold actOf
  split
  · intro e; cases e
  split
  · intro e; cases e
  split
  · intro e; cases e
  split
  · intro e; cases e
  split
  · intro e; cases e
  split
  · intro e; cases e
  split
  · intro e
    injection e with e
    rw [← e, List.length_map]
    exact h
  · intro e; cases e
theorem take_getD {α : Type} [Inhabited α] {l : List α} {i : Nat} (h : i < l.length) : l.take (i + 1) = l.take i ++ [l.getD i default] := by
  rw [List.take_succ_eq_append_getElem h, List.getD_eq_getElem?_getD, List.getElem?_eq_getElem h]
  rfl

section
variable {base : Nat} {w w' w'' wa wb wr : World} {k q : Nat} {M M' M'' : ChM} {R R' R'' : RefM}
/-- Both made in this call. -/
structure TwoMade (base : Nat) (w : World) (k : Nat) (M : ChM) (q : Nat) (R : RefM) (w' : World) : Prop where
  at_ : Two base w' k M q R
  below : Below w.heap.size w w'
  own : ∀ n, foot2 k M q R n → w.heap.size ≤ n
theorem TwoMade.goes (h : TwoMade base w k M q R wr) (g : TwoGoes base wr k M q R w' M' R') : TwoMade base w k M' q R' w' :=
  ⟨g.at_, h.below.trans (g.chg.to_below (fun n _ hn => h.own n hn) h.below.size), fun n hn => by
    rcases hn with hn | hn
    · rcases g.footM n hn with h1 | h1
      · exact h.own n (.inl h1)
      · exact Nat.le_trans h.below.size h1
    · rcases g.footR n hn with h1 | h1
      · exact h.own n (.inr h1)
      · exact Nat.le_trans h.below.size h1⟩
theorem TwoMade.more {w0 : World} (h : TwoMade base w k M q R wr) (c : Below w0.heap.size w0 w) : TwoMade base w0 k M q R wr :=
  ⟨h.at_, c.trans (h.below.mono c.size), fun n hn => Nat.le_trans c.size (h.own n hn)⟩
theorem MadeAt.both (h : MadeAt base w k M wa) (g : RMadeAt base wa q R wb) : TwoMade base w k M q R wb :=
  ⟨⟨h.at_.old g.below, g.at_, fun n hn hr => by have h1 := h.at_.lt n hn; have h2 := g.own n hr; omega⟩, h.below.trans (g.below.mono h.below.size), fun n hn => hn.elim (h.own n) (fun hr => Nat.le_trans h.below.size (g.own n hr))⟩
/-- What made answers. -/
def MadePost (base : Nat) (w : World) (b p s : Int) (bad : List Int) (l : List OpM) (e : Ending) (w' : World) : Prop :=
  (e = .returned (.tuple #[.pointer none, .pointer none, .bool false]) ∧ Below w.heap.size w w') ∨
  ∃ k q M R V, e = .returned (.tuple #[ptr k, ptr q, .bool true]) ∧ TwoMade base w k M q R w' ∧ M.view = acts V l ∧ R.view = M.view ∧ M.view.good ∧ NP.new b p s bad = some V ∧ wideB b p s = false ∧ owt l ≤ 9000 ∧ bad.length ≤ 200
theorem MadePost.no {b p s : Int} {bad : List Int} {l : List OpM} (h : Below w.heap.size w w') : MadePost base w b p s bad l (.returned (.tuple #[.pointer none, .pointer none, .bool false])) w' := .inl ⟨rfl, h⟩
set_option maxRecDepth 100000 in
set_option maxHeartbeats 4000000 in
theorem made_any (b p s : Int) (a : Option Addr) (bad : List Int) (c : Nat) (a2 : Option Addr) (l : List OpM) (c2 : Nat) (w : World) (hr : IRow w a bad) (hl : bad.length ≤ 9223372036854775807) (ho : OpRow base w a2 l) (hb : base ≤ w.heap.size) :
    Calls Try.prog 10 #[.agg #[vi b, vi p, vi s], .slice a bad.length c, .slice a2 l.length c2] w (MadePost base w b p s bad l) := by
  have HR := Lib.hid hr
  have HO := Lib.hid ho
  have hol := ho.len
  have g0 := Lib.hid (Blk.new w 23 #[vi b, vi p, vi s])
  have HB := Lib.hid (alloc_box w #[vi b, vi p, vi s] 23)
  clear hr ho
  go_enter Try.func10, Try.ntmps10
  go_upto_region 1 with fail
  generalize w.alloc (.cells #[vi b, vi p, vi s] 23) = w0 at *
  have c0 : w0.cell? ⟨w.heap.size, 0, none⟩ = some (vi b) := g0.out.cell 0
  have c1 : w0.cell? ⟨w.heap.size, 1, none⟩ = some (vi p) := g0.out.cell 1
  have c2' : w0.cell? ⟨w.heap.size, 2, none⟩ = some (vi s) := g0.out.cell 2
  go_wp2_with fail
  refine (wide_any b p s _).mono ?_
  rintro e w1 ⟨rfl, hb1⟩
  have g1 := Lib.hid (g0.out.old hb1)
  have HB1 := Lib.hid (HB.out.trans (hb1.mono HB.out.size))
  clear c0 c1 c2' hb1 g0 HB
  cases hwd : wideB b p s
  · have HWD := Lib.hid hwd
    clear hwd
    go_wp2_with fail
    refine (long_any c2 (HO.out.old HB1.out)).mono ?_
    rintro e w' ⟨x, rfl, rfl, hx⟩
    cases x
    · have HOW := Lib.hid (hx rfl)
      clear hx
      by_cases h200 : 200 < bad.length
      · go_wp2_with fail
        go_ret3
        exact .no HB1.out
      · have c0 : w'.cell? ⟨w.heap.size, 0, none⟩ = some (vi b) := g1.out.cell 0
        have c1 : w'.cell? ⟨w.heap.size, 1, none⟩ = some (vi p) := g1.out.cell 1
        have c2' : w'.cell? ⟨w.heap.size, 2, none⟩ = some (vi s) := g1.out.cell 2
        go_wp2_with fail
        refine (New_any base b p s a bad c _ (HR.out.below HB1.out) hl (Nat.le_trans hb HB1.out.size)).mono ?_
        cases hn : NP.new b p s bad with
        | none =>
          rintro e w2 ⟨rfl, hb2⟩
          have HN := Lib.hid hn
          have g2 := Lib.hid (g1.out.old hb2)
          have HB2 := Lib.hid (HB1.out.trans (hb2.mono HB1.out.size))
          clear c0 c1 c2' hb2 hn
          have c0 : w2.cell? ⟨w.heap.size, 0, none⟩ = some (vi b) := g2.out.cell 0
          have c1 : w2.cell? ⟨w.heap.size, 1, none⟩ = some (vi p) := g2.out.cell 1
          have c2' : w2.cell? ⟨w.heap.size, 2, none⟩ = some (vi s) := g2.out.cell 2
          go_wp2_with fail
          refine (rNew_any base b p s a bad c _ (HR.out.below HB2.out) hl (Nat.le_trans hb HB2.out.size)).mono ?_
          rw [HN.out]
          rintro e w3 ⟨rfl, hb3⟩
          have HB3 := Lib.hid (HB2.out.trans (hb3.mono HB2.out.size))
          clear hb3 c0 c1 c2'
          go_wp2_with fail
          go_ret3
          exact .no HB3.out
        | some V =>
          rintro e w2 ⟨k, M, rfl, hm, hv⟩
          have HN := Lib.hid hn
          have HM := Lib.hid hm
          have HV := Lib.hid hv
          have g2 := Lib.hid (g1.out.old hm.below)
          have HB2 := Lib.hid (HB1.out.trans (hm.below.mono HB1.out.size))
          clear c0 c1 c2' hm hv hn
          have c0 : w2.cell? ⟨w.heap.size, 0, none⟩ = some (vi b) := g2.out.cell 0
          have c1 : w2.cell? ⟨w.heap.size, 1, none⟩ = some (vi p) := g2.out.cell 1
          have c2' : w2.cell? ⟨w.heap.size, 2, none⟩ = some (vi s) := g2.out.cell 2
          go_wp2_with fail
          refine (rNew_any base b p s a bad c _ (HR.out.below HB2.out) hl (Nat.le_trans hb HB2.out.size)).mono ?_
          rw [HN.out]
          rintro e w3 ⟨q, R, rfl, hm2, hv2⟩
          have HT := Lib.hid ((HM.out.both hm2).more HB1.out)
          have HE : Hid (M.view = acts V (l.take 0) ∧ R.view = M.view ∧ M.view.good) := Lib.hid ⟨HV.out, by rw [HV.out]; exact hv2, by rw [HV.out]; exact new_good HN.out⟩
          clear c0 c1 c2' hm2 hv2 HV HM g2 g1
          go_wp2_with fail
          go_loopw [13] (fun v wr => ∃ (i : Nat) (M : ChM) (R : RefM), i ≤ l.length ∧ v = vi i ∧ Hid (TwoMade base w k M q R wr) ∧ Hid (M.view = acts V (l.take i) ∧ R.view = M.view ∧ M.view.good)) (fun v _ => l.length - (intOf v).toNat)
          case atStart => exact ⟨0, M, R, Nat.zero_le _, rfl, HT, HE⟩
          case round =>
            clear HT HE M R
            obtain ⟨i, M, R, hi, rfl, HT, HE⟩ := hrel
            by_cases hlt : i < l.length
            · obtain ⟨ob, oo, rfl, hcell, hok⟩ := (HO.out.old HT.out.below).lookup hlt
              have HSM := Lib.hid (owt_small HOW.out (getD_mem (d := default) hlt))
              have HTK := Lib.hid (take_getD hlt)
              have HOK := Lib.hid hok
              have d0 : wr.cell? ⟨ob, oo + i * 5, none⟩ = some (vi (l.getD i default).kind) := hcell 0 _ rfl
              have d1 : wr.cell? ⟨ob, oo + i * 5 + 1, none⟩ = some (vi (l.getD i default).block) := hcell 1 _ rfl
              have d2 : wr.cell? ⟨ob, oo + i * 5 + 2, none⟩ = some (vi (l.getD i default).page) := hcell 2 _ rfl
              have d3 : wr.cell? ⟨ob, oo + i * 5 + 3, none⟩ = some (.slice (l.getD i default).ba (l.getD i default).b.length (l.getD i default).bc) := hcell 3 _ rfl
              have d4 : wr.cell? ⟨ob, oo + i * 5 + 4, none⟩ = some (.slice (l.getD i default).fa (l.getD i default).fs.length (l.getD i default).fc) := hcell 4 _ rfl
              clear hcell hok
              generalize l.getD i default = o at *
              obtain ⟨kind, block, page, ba, ob', bc, fa, fs, fc⟩ := o
              dsimp only at d0 d1 d2 d3 d4
              go_wp2_with fail
              refine (plays_any HT.out.at_ HE.out.2.1.symm HE.out.2.2.ok ⟨kind, block, page, ba, ob', bc, fa, fs, fc⟩ HOK.out HSM.out (Nat.le_trans hb HT.out.below.size)).mono ?_
              rintro e w4 ⟨M4, R4, rfl, hg4, h41, h42⟩
              have HT4 := Lib.hid (HT.out.goes hg4)
              have HE4 : Hid (M4.view = acts V (l.take (i + 1)) ∧ R4.view = M4.view ∧ M4.view.good) := Lib.hid ⟨by rw [h41, HTK.out, acts_snoc, HE.out.1], h42.trans h41.symm, by rw [h41]; exact HE.out.2.2.act _ (actOf_fine HOK.out) (actOf_few HSM.out.2.1)⟩
              clear hg4 h41 h42 d0 d1 d2 d3 d4
              go_wp2_with fail
              go_roundw
              case rel => exact ⟨i + 1, M4, R4, by omega, by go_num, HT4, HE4⟩
              case measure => simp [intOf]; omega
            · obtain rfl : i = l.length := by omega
              have HF : Hid (M.view = acts V l ∧ R.view = M.view ∧ M.view.good) := Lib.hid (by have := HE.out; rwa [List.take_length] at this)
              go_wp2_with fail
              go_ret3
              exact .inr ⟨k, q, M, R, V, rfl, HT.out, HF.out.1, HF.out.2.1, HF.out.2.2, HN.out, HWD.out, HOW.out, by omega⟩
    · clear hx
      go_wp2_with fail
      go_ret3
      exact .no HB1.out
  · clear hwd
    go_wp2_with fail
    go_ret3
    exact .no HB1.out
end

end Go.Proofs.Ytpggkehfbhffbaa
