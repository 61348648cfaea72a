/-
  A chip and the document's beside it: what a step of one leaves of the other. No conditions of its own.
-/
import Derived.Test.YtpggkehfbhffbaaRL
import Derived.Test.YtpggkehfbhffbaaRP
namespace Go.Proofs.Ytpggkehfbhffbaa
open Go.RowKit

/-- Both, that share no block of their own. -/
structure Two (base : Nat) (w : World) (k : Nat) (M : ChM) (q : Nat) (R : RefM) : Prop where
  a : ChipAt base w k M
  b : RefAt base w q R
  apart : ∀ n, M.foot k n → ¬ R.foot q n
/-- What a step may change. -/
def foot2 (k : Nat) (M : ChM) (q : Nat) (R : RefM) (n : Nat) : Prop := M.foot k n ∨ R.foot q n
structure TwoGoes (base : Nat) (w : World) (k : Nat) (M : ChM) (q : Nat) (R : RefM) (w' : World) (M' : ChM) (R' : RefM) : Prop where
  at_ : Two base w' k M' q R'
  chg : Chg (foot2 k M q R) w w'
  footM : ∀ n, M'.foot k n → M.foot k n ∨ w.heap.size ≤ n
  footR : ∀ n, R'.foot q n → R.foot q n ∨ w.heap.size ≤ n
section
variable {base : Nat} {w w' w'' wa wb : World} {k q : Nat} {M M' M'' : ChM} {R R' R'' : RefM}
theorem Two.mine (h : Two base w k M q R) : ∀ n, foot2 k M q R n → Mine base w n := fun n hn => hn.elim (h.a.mine n) (h.b.mine n)
theorem Two.lt (h : Two base w k M q R) : ∀ n, foot2 k M q R n → n < w.heap.size := fun n hn => hn.elim (h.a.lt n) (h.b.lt n)
theorem Two.leftAt (h : Two base w k M q R) (c : Chg (R.foot q) w w') : ChipAt base w' k M := h.a.chg c h.b.mine (fun n hn hr => h.apart n hn hr)
theorem Two.rightAt (h : Two base w k M q R) (c : Chg (M.foot k) w w') : RefAt base w' q R := h.b.chg c h.a.mine (fun n hn hr => h.apart n hr hn)
theorem Two.old (h : Two base w k M q R) (c : Below w.heap.size w w') : Two base w' k M q R := ⟨h.a.old c, h.b.old c, h.apart⟩
theorem TwoGoes.refl (h : Two base w k M q R) : TwoGoes base w k M q R w M R := ⟨h, Chg.refl _ _, fun _ h => .inl h, fun _ h => .inl h⟩
theorem TwoGoes.size (h : TwoGoes base w k M q R w' M' R') : w.heap.size ≤ w'.heap.size := h.chg.size
theorem TwoGoes.trans (h : TwoGoes base w k M q R w' M' R') (g : TwoGoes base w' k M' q R' w'' M'' R'') : TwoGoes base w k M q R w'' M'' R'' := by
  refine ⟨g.at_, h.chg.trans g.chg fun n hn e => ?_, fun n hn => ?_, fun n hn => ?_⟩
  · rcases e with e | e
    · rcases h.footM n e with h1 | h1
      · exact .inl h1
      · omega
    · rcases h.footR n e with h1 | h1
      · exact .inr h1
      · omega
  · rcases g.footM n hn with h1 | h1
    · exact h.footM n h1
    · exact .inr (Nat.le_trans h.chg.size h1)
  · rcases g.footR n hn with h1 | h1
    · exact h.footR n h1
    · exact .inr (Nat.le_trans h.chg.size h1)
theorem TwoGoes.old (h : TwoGoes base w k M q R w' M' R') (c : Below w'.heap.size w' w'') : TwoGoes base w k M q R w'' M' R' := ⟨h.at_.old c, h.chg.below c, h.footM, h.footR⟩
theorem TwoGoes.of_old (h : Two base w k M q R) (c : Below w.heap.size w w') : TwoGoes base w k M q R w' M R := (TwoGoes.refl h).old c
theorem Two.left (h : Two base w k M q R) (g : Goes base w k M w' M') : TwoGoes base w k M q R w' M' R :=
  ⟨⟨g.at_, h.rightAt g.chg, fun n hn hr => by
    rcases g.foot n hn with h1 | h1
    · exact h.apart n h1 hr
    · have := h.b.lt n hr; omega⟩, g.chg.mono (fun n _ e => .inl e), g.foot, fun n hn => .inl hn⟩
theorem Two.right (h : Two base w k M q R) (g : RGoes base w q R w' R') : TwoGoes base w k M q R w' M R' :=
  ⟨⟨h.leftAt g.chg, g.at_, fun n hn hr => by
    rcases g.foot n hr with h1 | h1
    · exact h.apart n hn h1
    · have := h.a.lt n hn; omega⟩, g.chg.mono (fun n _ e => .inr e), fun n hn => .inl hn, g.foot⟩
theorem Two.ab (h : Two base w k M q R) (c : Below w.heap.size w w') (ga : Goes base w' k M wa M') (gb : RGoes base wa q R wb R') : TwoGoes base w k M q R wb M' R' :=
  (TwoGoes.of_old h c).trans (((h.old c).left ga).trans (((h.old c).left ga).at_.right gb))
theorem Two.ba (h : Two base w k M q R) (c : Below w.heap.size w w') (gb : RGoes base w' q R wa R') (ga : Goes base wa k M wb M') : TwoGoes base w k M q R wb M' R' :=
  (TwoGoes.of_old h c).trans (((h.old c).right gb).trans (((h.old c).right gb).at_.left ga))
theorem TwoGoes.opok (h : TwoGoes base w k M q R w' M' R') (h0 : Two base w k M q R) {o : OpM} (ho : o.ok base w) : o.ok base w' := ho.chg h.chg h0.mine
theorem TwoGoes.oprow (h : TwoGoes base w k M q R w' M' R') (h0 : Two base w k M q R) {a : Option Addr} {l : List OpM} (ho : OpRow base w a l) : OpRow base w' a l := ho.chg h.chg h0.mine
/-- What an operation does with a chip. -/
def actOf (o : OpM) : NP.Act :=
  if o.kind = 1 then .program o.block o.page o.b else if o.kind = 2 then .erase o.block else if o.kind = 3 then .mark o.block else if o.kind = 4 then .read o.block o.page
  else if o.kind = 5 then .lose else if o.kind = 6 then .start else if o.kind = 7 then .script (o.fs.map (·.view)) else .none
theorem actOf_fine {o : OpM} (h : o.ok base w) : (actOf o).fine := by
  unfold actOf
  split
  · exact h.bytes.row.small
  · split
    · trivial
    · split
      · trivial
      · split
        · trivial
        · split
          · trivial
          · split
            · trivial
            · split
              · intro f hf
                obtain ⟨g, hg, rfl⟩ := List.mem_map.1 hf
                exact (h.faults.data g hg).1.row.small
              · trivial
/-- What plays leaves. -/
def PlaysPost (base : Nat) (w : World) (k : Nat) (M : ChM) (q : Nat) (R : RefM) (V : NP.Chp) (e : Ending) (w' : World) : Prop :=
  ∃ M' R', e = .returned (.bool true) ∧ TwoGoes base w k M q R w' M' R' ∧ M'.view = V ∧ R'.view = V
theorem PlaysPost.mk {V : NP.Chp} (hg : TwoGoes base w k M q R w' M' R') (h1 : M'.view = V) (h2 : R'.view = V) : PlaysPost base w k M q R V (.returned (.bool true)) w' := ⟨M', R', rfl, hg, h1, h2⟩
end

end Go.Proofs.Ytpggkehfbhffbaa
