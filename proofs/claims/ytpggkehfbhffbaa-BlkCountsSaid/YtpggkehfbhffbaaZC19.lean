/-
  Lemmas for a law's proof, put together from several texts: each part says what it shows, and its conditions.
-/
import Derived.Test.YtpggkehfbhffbaaZC18
/-
  The document's chip: a block erased. Conditions: a chip that is told by RefAt, and right.
-/
namespace Go.Proofs.Ytpggkehfbhffbaa
open Go.RowKit

section
variable {base : Nat} {w wr w' w'' : World} {k : Nat} {R R' : RefM}
def cutF (n : Nat) (data : List Nat) (p : Nat) (l : List Nat) : List Nat := NP.cutOne n (data.getD p 0) l
def cutR (R : RefM) (i : Nat) (qs : List PgM) : RefM := { strokeR R with ps := qs, br := R.br.set i true, wr := R.wr.set i (NP.w64 (R.wr.getD i 0 + 1)) }
def newR (R : RefM) (i : Nat) (qs : List PgM) : RefM := { strokeR R with ps := qs, br := R.br.set i false, nx := R.nx.set i 0, wr := R.wr.set i (NP.w64 (R.wr.getD i 0 + 1)) }
theorem cutR_view (h : RefAt base w k (strokeR R)) {i : Nat} (hi : i < R.B) {data : List Nat} {qs : List PgM} (T : Turned (strokeR R) i (cutF (R.S + 32) data) R.P qs) : (cutR R i qs).view = NP.breakOff (NP.stroke R.view) i data := by
  have h1 := T.view (R' := cutR R i qs) (n' := R.nx.getD i 0) (br' := true) (wr' := NP.w64 (R.wr.getD i 0 + 1)) hi h (by
    show cutR R i qs = { strokeR R with ps := qs, nx := R.nx.set i (R.nx.getD i 0), br := R.br.set i true, wr := R.wr.set i (NP.w64 (R.wr.getD i 0 + 1)) }
    rw [set_getD_self R.nx i 0]
    rfl)
  rw [h1]
  unfold NP.breakOff
  have h2 : (NP.stroke R.view).blk i = R.blo i := (strokeR R).blk hi
  dsimp only
  rw [h2]
  unfold RefM.blo
  dsimp only
  rw [List.length_map, List.length_range, cutTo_range]
  rfl
theorem newR_view (h : RefAt base w k (strokeR R)) {i : Nat} (hi : i < R.B) (hb : R.bd.getD i false = false) {qs : List PgM} (T : Turned (strokeR R) i (fun _ _ => []) R.P qs) :
    (newR R i qs).view = NP.setBlk (NP.stroke R.view) i ⟨List.replicate R.P [], 0, false, false, NP.w64 (R.wr.getD i 0 + 1)⟩ := by
  have h1 := T.view (R' := newR R i qs) (n' := 0) (br' := false) (wr' := NP.w64 (R.wr.getD i 0 + 1)) hi h rfl
  rw [h1]
  have h2 : (strokeR R).bd.getD i false = false := hb
  rw [h2]
  have h3 : (List.range R.P).map (fun _ => ([] : List Nat)) = List.replicate R.P [] := by
    rw [List.map_const', List.length_range]
  show NP.setBlk (strokeR R).view i ⟨(List.range R.P).map (fun _ => ([] : List Nat)), _, _, _, _⟩ = _
  rw [h3]
  rfl
theorem SRow.cellAt {b o : Nat} {l : List Nat} (h : SRow base w (some ⟨b, o, none⟩) l) {i : Nat} (hi : i < l.length) : w.cell? ⟨b, o + i, none⟩ = some (vb (l.getD i 0)) := by
  obtain ⟨b', o', e, hc, _⟩ := h.row.lookup hi
  injection e with e
  injection e with e1 e2 _
  subst e1 e2
  exact hc
theorem FilSt.drew {w0 : World} {at_ y n : Nat} {v : Value} (h : FilSt w0 R at_ y n v wr) : FilSt w0 R at_ y n v wr.drew := ⟨h.chg.drew, h.row.old (Below.refl _ _).drew, h.gp.old (Below.refl _ _).drew⟩
theorem fil_sees {w5 : World} {h2 p db do_ : Nat} {fat fk : Int} {fl : List Nat} {fc : Nat} (hR : RefAt base w5 k R) (hf : Blk w5 h2 96 #[vi fat, vi fk, .slice (some ⟨db, do_, none⟩) fl.length fc]) (hne : h2 ≠ R.gp) (hr : SRow base w5 (some ⟨db, do_, none⟩) fl) (hp : p < fl.length) {y : Nat} (hy : fl.getD p 0 = y)
    (q : Chg (fun n => n = R.gp) w5 w') : w'.cell? ⟨k, 3, none⟩ = some (.slice (some ⟨R.gp, 0, none⟩) R.ps.length R.cp) ∧ w'.cell? ⟨h2, 2, none⟩ = some (.slice (some ⟨db, do_, none⟩) fl.length fc) ∧ w'.cell? ⟨db, do_ + p, none⟩ = some (vb y) := by
  refine ⟨(hR.chip.chg q hR.k_ne.1.symm).cell 3, (hf.chg q hne).cell 2, ?_⟩
  rw [← hy]
  exact (hr.chg q (fun n e => hR.mine n (.inr (.inl e)))).cellAt hp
def wearR (R : RefM) (i : Nat) : RefM := { strokeR R with wr := R.wr.set i (NP.w64 (R.wr.getD i 0 + 1)) }
def pgR (R : RefM) (i : Nat) (qs : List PgM) : RefM := { wearR R i with ps := qs }
def nilP : PgM := ⟨none, [], 0⟩
/-- The state while a block's pages are turned. -/
structure OutSt (base : Nat) (w : World) (k : Nat) (R : RefM) (b : Nat) (f : Nat → List Nat → List Nat) (h2 : Nat) (fcs : Array Value) (fa : Option Addr) (fl : List Nat) (p : Nat) (qs : List PgM) (wr : World) : Prop where
  goes : RGoes base w k R wr (pgR R b qs)
  turned : Turned (strokeR R) b f p qs
  flt : Blk wr h2 96 fcs
  row : SRow base wr fa fl
section
variable {b h2 p : Nat} {f : Nat → List Nat → List Nat} {fcs : Array Value} {fa : Option Addr} {fl : List Nat} {qs : List PgM}
theorem OutSt.f_ne (h : OutSt base w k R b f h2 fcs fa fl p qs wr) : h2 ≠ R.gp := by
  intro e
  subst e
  obtain ⟨cur, hb, _⟩ := h.goes.at_.ps.blk
  have hb' := h.flt
  unfold Blk at hb hb'
  rw [show (pgR R b qs).gp = R.gp from rfl, hb'] at hb
  injection hb with hb
  injection hb with _ hb
  exact absurd hb (by decide)
theorem OutSt.lt (h : OutSt base w k R b f h2 fcs fa fl p qs wr) (hb : b < R.B) (hp : p < R.P) : b * R.P + p < qs.length := by
  have := h.goes.at_.lp
  change qs.length = R.B * R.P at this
  rw [this]
  exact at_lt hb hp
theorem OutSt.nil1 (h : OutSt base w k R b f h2 fcs fa fl p qs wr) : RGoes base w k R (wr.setCell ⟨R.gp, b * R.P + p, none⟩ (.slice none 0 0)) (pgR R b (qs.set (b * R.P + p) nilP)) ∧ Blk (wr.setCell ⟨R.gp, b * R.P + p, none⟩ (.slice none 0 0)) h2 96 fcs ∧ SRow base (wr.setCell ⟨R.gp, b * R.P + p, none⟩ (.slice none 0 0)) fa fl :=
  ⟨h.goes.trans (h.goes.at_.setP (b * R.P + p) nilP (PgM.ok.none _ _)), h.flt.far (p := ⟨R.gp, b * R.P + p, none⟩) h.f_ne _, h.row.chg (h.goes.at_.setP (b * R.P + p) nilP (PgM.ok.none _ _)).chg h.goes.at_.mine⟩
theorem OutSt.nil_ (h : OutSt base w k R b f h2 fcs fa fl p qs wr) (hb : b < R.B) (hp : p < R.P) (hf : ∀ l, f p l = []) : OutSt base w k R b f h2 fcs fa fl (p + 1) (qs.set (b * R.P + p) nilP) (wr.setCell ⟨R.gp, b * R.P + p, none⟩ (.slice none 0 0)) :=
  ⟨h.nil1.1, h.turned.step (R := strokeR R) (by have := h.lt hb hp; have e := h.turned.len; change b * R.P + p < R.ps.length; change qs.length = R.ps.length at e; omega) nilP (hf _).symm, h.nil1.2.1, h.nil1.2.2⟩
theorem OutSt.stay (h : OutSt base w k R b f h2 fcs fa fl p qs wr) (hf : ∀ l, f p l = l) : OutSt base w k R b f h2 fcs fa fl (p + 1) qs wr := ⟨h.goes, h.turned.stay (hf _).symm, h.flt, h.row⟩
theorem OutSt.fill0 (h : OutSt base w k R b f h2 fcs fa fl p qs wr) (y : Nat) : FilSt (wr.setCell ⟨R.gp, b * R.P + p, none⟩ (.slice none 0 0)) (pgR R b (qs.set (b * R.P + p) nilP)) (b * R.P + p) y 0 (.slice none 0 0) (wr.setCell ⟨R.gp, b * R.P + p, none⟩ (.slice none 0 0)) := by
  refine ⟨Chg.refl _ _, Own.nil _ _, ?_⟩
  have := h.nil1.1.at_.ps
  have e : ((pgR R b (qs.set (b * R.P + p) nilP)).ps.map (·.v)).set (b * R.P + p) (.slice none 0 0) = (pgR R b (qs.set (b * R.P + p) nilP)).ps.map (·.v) := by
    show ((qs.set (b * R.P + p) nilP).map (·.v)).set (b * R.P + p) (nilP.v) = (qs.set (b * R.P + p) nilP).map (·.v)
    rw [List.map_set, List.set_set]
  rw [e]
  exact this
theorem OutSt.fill (h : OutSt base w k R b f h2 fcs fa fl p qs wr) (hb : b < R.B) (hp : p < R.P) {y n : Nat} {v : Value} {w' : World} (q : FilSt (wr.setCell ⟨R.gp, b * R.P + p, none⟩ (.slice none 0 0)) (pgR R b (qs.set (b * R.P + p) nilP)) (b * R.P + p) y n v w') (hy : y < 256) (hn : 0 < n)
    (hf : ∀ l, f p l = List.replicate n y) : ∃ qs', OutSt base w k R b f h2 fcs fa fl (p + 1) qs' w' := by
  obtain ⟨pg, hpg, hg⟩ := q.done h.nil1.1.at_ hy hn
  have hF : ∀ n, n = R.gp → Mine base (wr.setCell ⟨R.gp, b * R.P + p, none⟩ (.slice none 0 0)) n := fun n e => h.nil1.1.at_.mine n (.inr (.inl e))
  refine ⟨qs.set (b * R.P + p) pg, ?_, h.turned.step (R := strokeR R) (by have := h.lt hb hp; have e := h.turned.len; change b * R.P + p < R.ps.length; change qs.length = R.ps.length at e; omega) pg (by rw [hpg, hf]), h.nil1.2.1.chg q.chg h.f_ne, h.nil1.2.2.chg q.chg hF⟩
  have := h.nil1.1.trans hg
  have e : (qs.set (b * R.P + p) nilP).set (b * R.P + p) pg = qs.set (b * R.P + p) pg := List.set_set ..
  rw [← e]
  exact this
end

set_option maxRecDepth 100000 in
set_option maxHeartbeats 20000000 in
theorem rErase_any (h : RefAt base w k R) (hok : R.view.ok) (j : Int) : Calls Try.prog 66 #[ptr k, vi j] w (RActPost base w k R (NP.erase R.view j)) := by
  have HC := Lib.hid h
  by_cases he : NP.asked R.view j 0 = 0
  · obtain ⟨hd, hj0, hj1, hp0, hp1⟩ := NP.asked_zero he
    change j < R.B at hj1
    obtain ⟨i, rfl⟩ : ∃ i : Nat, j = i := ⟨j.toNat, by omega⟩
    have hi : i < R.B := by omega
    have hS := (rok_S hok).1
    have hPP := (rok_S hok).2.1
    have HQ : Hid (NP.erase R.view i =
        (if R.bd.getD i false then (13, R.view)
        else if (faultM R.fs R.since).kind = 1 then (4, NP.downP (NP.stroke R.view))
        else if (faultM R.fs R.since).kind = 2 then (4, NP.downP (NP.breakOff (NP.stroke R.view) i (faultM R.fs R.since).l))
        else if (faultM R.fs R.since).kind = 3 then (11, NP.breakOff (NP.stroke R.view) i (faultM R.fs R.since).l)
        else (0, NP.setBlk (NP.stroke R.view) i ⟨List.replicate R.P [], 0, false, false, NP.w64 (R.wr.getD i 0 + 1)⟩))) := Lib.hid (by
      unfold NP.erase
      dsimp only
      rw [if_pos he, Int.toNat_natCast, R.blk hi]
      have : NP.faultOf R.view.fs R.view.since = (faultM R.fs R.since).view := (faultM_view R.fs R.since).symm
      rw [this]
      rfl)
    have HE := Lib.hid he
    have hid : i < R.bd.length := by rw [h.ld]; exact hi
    have hib : i < R.br.length := by rw [h.lb]; exact hi
    have hin : i < R.nx.length := by rw [h.ln]; exact hi
    have hiw : i < R.wr.length := by rw [h.lw]; exact hi
    have c6 : w.cell? ⟨k, 6, none⟩ = some (.slice (some ⟨R.gd, 0, none⟩) R.bd.length R.cd) := h.chip.cell 6
    have d6 := h.dcell hid
    have HOK := Lib.hid hok
    have HLP := Lib.hid h.lp
    clear hd he hok h hp0 hp1
    cases hbad : R.bd.getD i false
    · rw [hbad] at HQ d6
      rw [if_neg (by simp)] at HQ
      have HBD := Lib.hid hbad
      clear hbad
      go_enter Try.func66, Try.ntmps66
      go_wp2_with fail
      refine (place_any HC.out _ _).mono ?_
      rintro e w' ⟨rfl, rfl⟩
      rw [HE.out]
      go_wp2_with fail
      refine (stroke_any HC.out).mono ?_
      rintro e w2 ⟨rfl, hg2⟩
      have HG := Lib.hid hg2
      have HFR := Lib.hid (rfault_row (R := R) hg2.at_.faults R.since)
      have hfl9 : (faultM R.fs R.since).l.length ≤ maxLen := by
        rcases faultM_mem R.fs R.since with e | e
        · rw [e]; simp [default]
        · have := HC.out.faults.data _ e; omega
      have HFL := Lib.hid hfl9
      clear hfl9 hg2 d6 c6
      generalize faultM R.fs R.since = f at *
      obtain ⟨fat, fk, fa, fl, fc⟩ := f
      dsimp only at *
      have HA : Hid (RGoes base w' k R (w2.alloc (.cells #[vi fat, vi fk, .slice fa fl.length fc] 96)) (strokeR R)) := Lib.hid (HG.out.old ((Below.refl _ _).alloc (Nat.le_refl _) _))
      have HF2 : Hid (SRow base (w2.alloc (.cells #[vi fat, vi fk, .slice fa fl.length fc] 96)) fa fl) := Lib.hid (HFR.out.old ((Below.refl _ _).alloc (Nat.le_refl _) _))
      have F9 := Blk.new w2 96 #[vi fat, vi fk, .slice fa fl.length fc]
      go_upto_region 7 with fail
      generalize hw3 : w2.alloc (.cells #[vi fat, vi fk, .slice fa fl.length fc] 96) = w3 at *
      have HH2 : Hid (w2.heap.size < w3.heap.size) := Lib.hid (by rw [← hw3]; simp)
      have k1 : w3.cell? ⟨w2.heap.size, 1, none⟩ = some (vi fk) := F9.cell 1
      have HLOW : Hid (∀ n, R.foot k n → n < w2.heap.size) := Lib.hid (fun n hn => HG.out.at_.lt n hn)
      clear HFR HG hw3
      generalize w2.heap.size = h2 at *
      have z10 := HA.out.at_.chip.frozen 10
      have c10 : w3.cell? ⟨k, 10, none⟩ = some (.bool R.down) := HA.out.at_.chip.cell 10
      by_cases h1 : fk = 1
      · subst h1
        have hQ := HQ.out
        rw [if_pos rfl] at hQ
        have HQ1 := Lib.hid hQ
        clear hQ F9
        go_wp2_with fail
        go_ret
        exact .mk HQ1.out (HA.out.trans (HA.out.at_.field (R' := downR (strokeR R) true) 10 (.bool true) rfl rfl)) rfl
      have c7 : w3.cell? ⟨k, 7, none⟩ = some (.slice (some ⟨R.gw, 0, none⟩) R.wr.length R.cw) := HA.out.at_.chip.cell 7
      have d7 := HA.out.at_.wcell (i := i) hiw
      have z7 := HA.out.at_.wr.frozen i
      change w3.cell? ⟨R.gw, i, none⟩ = some (vi (R.wr.getD i 0)) at d7
      change w3.frozen? ⟨R.gw, i, none⟩ = false at z7
      have HW : Hid (RGoes base w' k R ((w3.setCell ⟨R.gw, i, none⟩ (vi (wrap64 (R.wr.getD i 0 + 1)))).drew) (pgR R i R.ps)) := Lib.hid (by
        have h1 := HA.out.trans ((HA.out.at_.old (Below.refl _ _).drew).setW i (wrap64 (R.wr.getD i 0 + 1)) |> fun g => (RGoes.of_old HA.out.at_ (Below.refl _ _).drew).trans g)
        rw [← w64_eq] at h1 ⊢
        exact h1)
      have hgw : h2 ≠ R.gw := fun e => by have := HLOW.out _ (.inr (.inr (.inr (.inr (.inr rfl))))); omega
      have F10 : Blk ((w3.setCell ⟨R.gw, i, none⟩ (vi (wrap64 (R.wr.getD i 0 + 1)))).drew) h2 96 #[vi fat, vi fk, .slice fa fl.length fc] := (F9.far (p := ⟨R.gw, i, none⟩) hgw (vi (wrap64 (R.wr.getD i 0 + 1)))).drew
      have HF3 : Hid (SRow base ((w3.setCell ⟨R.gw, i, none⟩ (vi (wrap64 (R.wr.getD i 0 + 1)))).drew) fa fl) := Lib.hid (((HF2.out.chg (Chg.set (F := fun n => n = R.gw) w3 (p := ⟨R.gw, i, none⟩) rfl _) (fun n e => HA.out.at_.mine n (.inr (.inr (.inr (.inr (.inr e)))))))).old (Below.refl _ _).drew)
      clear z10 c10
      have HAT := Lib.hid HA.out.at_
      generalize hx : R.wr.getD i 0 = x at *
      have HX := Lib.hid hx
      clear hx
      go_upto_region 10 with fail
      go_still_tail 14, (by kernel_rfl)
      change wpList _ _ _ _ _ w3.drew
      rw [IntWalk.i64_left]
      go_upto_region 11 with fail
      generalize (w3.setCell ⟨R.gw, i, none⟩ (vi (wrap64 (x + 1)))).drew = w4 at *
      clear c7 d7 z7 k1 F9 HF2 HA HH2
      have k1 : w4.cell? ⟨h2, 1, none⟩ = some (vi fk) := F10.cell 1
      have HHI := Lib.hid hi
      by_cases hc2 : fk = 2
      · subst hc2
        have hQ := HQ.out
        rw [if_neg h1, if_pos rfl] at hQ
        have HQ1 := Lib.hid hQ
        have ST : Hid (OutSt base w' k R i (cutF (R.S + 32) fl) h2 #[vi fat, vi 2, .slice fa fl.length fc] fa fl 0 R.ps w4) := Lib.hid ⟨HW.out, Turned.nil (R := strokeR R), F10, HF3.out⟩
        clear hQ HQ F10 HW HF3
        go_wp2_with fail
        clear k1
        go_loopw [8] (fun v wr => ∃ (p : Nat) (qs : List PgM), p ≤ R.P ∧ v = vi p ∧ Hid (OutSt base w' k R i (cutF (R.S + 32) fl) h2 #[vi fat, vi 2, .slice fa fl.length fc] fa fl p qs wr)) (fun v _ => R.P - (intOf v).toNat)
        case atStart => exact ⟨0, R.ps, Nat.zero_le _, rfl, ST⟩
        case round =>
          clear ST
          obtain ⟨p, qs, hp, rfl, st⟩ := hrel
          have c1 : wr.cell? ⟨k, 1, none⟩ = some (vi R.P) := st.out.goes.at_.chip.cell 1
          by_cases hlt : p < R.P
          · have hat := st.out.lt hi hlt
            obtain ⟨hs1, hs2⟩ := at_small HOK.out hi hlt
            have q1 : IntKind.i64.wrap ((i : Int) * (R.P : Int)) = (i : Int) * (R.P : Int) := IntWalk.i64_in _ (by omega)
            have q2 : IntKind.i64.wrap ((i : Int) * (R.P : Int) + (p : Int)) = (i : Int) * (R.P : Int) + (p : Int) := IntWalk.i64_in _ (by omega)
            have q3 : (0 : Int) ≤ (i : Int) * (R.P : Int) + (p : Int) := by omega
            have q4 : (i : Int) * (R.P : Int) + (p : Int) < (qs.length : Int) := by omega
            have q5 : ((i : Int) * (R.P : Int) + (p : Int)).toNat = i * R.P + p := by omega
            have c3 : wr.cell? ⟨k, 3, none⟩ = some (.slice (some ⟨R.gp, 0, none⟩) qs.length R.cp) := st.out.goes.at_.chip.cell 3
            have d3 : wr.cell? ⟨R.gp, i * R.P + p, none⟩ = some ((qs.getD (i * R.P + p) default).v) := st.out.goes.at_.pcell (i := i * R.P + p) hat
            have z3 : wr.frozen? ⟨R.gp, i * R.P + p, none⟩ = false := st.out.goes.at_.ps.frozen (i * R.P + p)
            have k2 : wr.cell? ⟨h2, 2, none⟩ = some (.slice fa fl.length fc) := st.out.flt.cell 2
            generalize qs.getD (i * R.P + p) default = pg at *
            obtain ⟨pa, pl, pc⟩ := pg
            change wr.cell? ⟨R.gp, i * R.P + p, none⟩ = some (.slice pa pl.length pc) at d3
            by_cases hpl : p < fl.length
            · obtain ⟨db, do_, hfa, hcell, hsm⟩ := st.out.row.row.lookup hpl
              subst hfa
              obtain ⟨y, hy⟩ : ∃ y, fl.getD p 0 = y := ⟨_, rfl⟩
              rw [hy] at hcell hsm
              have HYD := Lib.hid hy
              clear hy
              by_cases hy0 : y = 0
              · subst hy0
                have ST2 := Lib.hid (st.out.stay (fun l => by rw [cutF, HYD.out]; rfl))
                clear d3 z3 c3
                go_wp2_with fail
                go_roundw
                case rel => exact ⟨p + 1, qs, by omega, by go_num, ST2⟩
                case measure => simp [intOf]; omega
              · have hg1 : (0 : Int) < (y : Int) := by omega
                have hg1n : 0 < y := by omega
                have HST := Lib.hid st
                have hN := st.out.nil1
                have HN := Lib.hid hN
                have HFN := Lib.hid st.out.f_ne
                have HF0 := Lib.hid (st.out.fill0 y)
                clear hN
                go_upto_region 20 with fail
                clear d3 z3 c3 k2 hcell c1
                generalize hw5 : wr.setCell ⟨R.gp, i * R.P + p, none⟩ (.slice none 0 0) = w5 at *
                have HW5 := Lib.hid hw5
                clear hw5
                have HS : Hid (∀ w', Chg (fun n => n = R.gp) w5 w' → w'.cell? ⟨k, 3, none⟩ = some (.slice (some ⟨R.gp, 0, none⟩) qs.length R.cp) ∧ w'.cell? ⟨h2, 2, none⟩ = some (.slice (some ⟨db, do_, none⟩) fl.length fc) ∧ w'.cell? ⟨db, do_ + p, none⟩ = some (vb y)) := Lib.hid (fun w' q => by
                  have := fil_sees (R := pgR R i (qs.set (i * R.P + p) nilP)) HN.out.1.at_ HN.out.2.1 HFN.out HN.out.2.2 hpl HYD.out q
                  rw [show (pgR R i (qs.set (i * R.P + p) nilP)).ps.length = qs.length from List.length_set ..] at this
                  exact this)
                by_cases hy1 : y = 1
                · subst hy1
                  obtain ⟨_, k2, hcell⟩ := HS.out w5 (Chg.refl _ _)
                  have c2 : w5.cell? ⟨k, 2, none⟩ = some (vi R.S) := HN.out.1.at_.chip.cell 2
                  have ST2 : Hid (OutSt base w' k R i (cutF (R.S + 32) fl) h2 #[vi fat, vi 2, .slice (some ⟨db, do_, none⟩) fl.length fc] (some ⟨db, do_, none⟩) fl (p + 1) (qs.set (i * R.P + p) nilP) w5) := Lib.hid (by rw [← HW5.out]; exact HST.out.out.nil_ hi hlt (fun l => by rw [cutF, HYD.out]; rfl))
                  go_wp2_with fail
                  go_loopw [10] (fun v wr => v = vi 0 ∧ wr = w5) (fun v _ => 0)
                  case atStart => exact ⟨rfl, rfl⟩
                  case round =>
                    obtain ⟨rfl, rfl⟩ := hrel
                    go_wp2_with fail
                    go_roundw
                    case rel => exact ⟨p + 1, _, by omega, by go_num, ST2⟩
                    case measure => simp [intOf]; omega
                · have hg2 : (1 : Int) < (y : Int) := by omega
                  have hg2n : 1 < y := by omega
                  go_wp2_with fail
                  go_loopw [10] (fun v wr => ∃ (n : Nat) (u : Value), n ≤ R.S + 32 ∧ v = vi n ∧ Hid (FilSt w5 (pgR R i (qs.set (i * R.P + p) nilP)) (i * R.P + p) y n u wr)) (fun v _ => R.S + 32 - (intOf v).toNat)
                  case atStart => exact ⟨0, _, Nat.zero_le _, rfl, HF0⟩
                  case round =>
                    clear HF0
                    obtain ⟨n, u, hn, rfl, fs⟩ := hrel
                    have c2 : wr.cell? ⟨k, 2, none⟩ = some (vi R.S) := (HN.out.1.at_.chip.chg fs.out.chg HN.out.1.at_.k_ne.1.symm).cell 2
                    obtain ⟨_, k2, hcell⟩ := HS.out wr fs.out.chg
                    by_cases hlt2 : n < R.S + 32
                    · have hgq : (n : Int) < (R.S : Int) + 32 := by omega
                      go_upto_region 23 with fail
                      have FD := Lib.hid fs.out.drew
                      obtain ⟨v6, w6, RA, fs6, hc6, -, ha6⟩ := FD.out.next hsm (by omega)
                      obtain ⟨ua, uc, hu⟩ := own_form FD.out.row
                      rw [List.length_replicate] at hu
                      subst hu
                      obtain ⟨v6a, v6c, hv6⟩ := own_form fs6.row
                      rw [List.length_replicate] at hv6
                      subst hv6
                      have hlen6 : (pgR R i (qs.set (i * R.P + p) nilP)).ps.length = qs.length := List.length_set ..
                      have d0 : wr.drew.cell? ⟨R.gp, i * R.P + p, none⟩ = some (.slice ua n uc) := by
                        have := FD.out.gp.cell (j := i * R.P + p) (by rw [hlen6]; omega)
                        rw [List.getElem?_set_self (by rw [List.length_map, hlen6]; exact hat)] at this
                        exact this
                      have d1 : w6.cell? ⟨R.gp, i * R.P + p, none⟩ = some (.slice ua n uc) := by
                        have := ha6.cell (j := i * R.P + p) (by rw [hlen6]; omega)
                        rw [List.getElem?_set_self (by rw [List.length_map, hlen6]; exact hat)] at this
                        exact this
                      have z1 : w6.frozen? ⟨R.gp, i * R.P + p, none⟩ = false := ha6.frozen _
                      have hgl : R.gp < wr.drew.heap.size := FD.out.gp.lt
                      have HC6 := Lib.hid hc6
                      have FS2 := Lib.hid fs6
                      clear fs6 hc6 ha6 hlen6 fs c2 k2 hcell
                      refine wp_region_held_drew (S := fun w' => w'.cell? ⟨k, 3, none⟩ = some (.slice (some ⟨R.gp, 0, none⟩) qs.length R.cp) ∧ w'.cell? ⟨h2, 2, none⟩ = some (.slice (some ⟨db, do_, none⟩) fl.length fc) ∧ w'.cell? ⟨db, do_ + p, none⟩ = some (vb y)) (by kernel_rfl) (HS.out _ FD.out.chg) (fun hHeld => ?_)
                      generalize wr.drew = wd at *
                      change wpAnyH _ _ _ _ _ 21 #[false, false, false, false, false, false, false, false, false, false, false, false, false, false, false, false, false, false, false, false, false] _ _
                      refine wpAnyH_take (i := 0) (oi := ⟨some 117, _, _, _, _, _⟩) (v := ?_) rfl (by kernel_rfl) (by kernel_rfl) (by kernel_rfl) (fun _ _ _ h => h) (Or.inl ⟨by rfl, ?_⟩) (by assumption) ?_
                      rotate_left
                      · intro w hSw; (try dsimp only at hSw); go_simp; (try with_reducible rfl)
                      simp only [Act.put, List.setIfInBounds_toArray, List.set_cons_zero, List.set_cons_succ]
                      refine wpAnyH_take (i := 1) (oi := ⟨some 118, _, _, _, _, _⟩) (v := ?_) rfl (by kernel_rfl) (by kernel_rfl) (by kernel_rfl) (fun _ _ _ h => h) (Or.inl ⟨by rfl, ?_⟩) (by assumption) ?_
                      rotate_left
                      · intro w hSw; (try dsimp only at hSw); go_simp; (try with_reducible rfl)
                      simp only [Act.put, List.setIfInBounds_toArray, List.set_cons_zero, List.set_cons_succ]
                      refine wpAnyH_take (i := 2) (oi := ⟨some 119, _, _, _, _, _⟩) (v := ?_) rfl (by kernel_rfl) (by kernel_rfl) (by kernel_rfl) (fun _ _ _ h => h) (Or.inl ⟨by rfl, ?_⟩) (by assumption) ?_
                      rotate_left
                      · intro w hSw; (try dsimp only at hSw); go_simp; (try with_reducible rfl)
                      simp only [Act.put, List.setIfInBounds_toArray, List.set_cons_zero, List.set_cons_succ]
                      refine wpAnyH_take (i := 3) (oi := ⟨some 120, _, _, _, _, _⟩) (v := ?_) rfl (by kernel_rfl) (by kernel_rfl) (by kernel_rfl) (fun _ _ _ h => h) (Or.inl ⟨by rfl, ?_⟩) (by assumption) ?_
                      rotate_left
                      · intro w hSw; (try dsimp only at hSw); go_simp; (try with_reducible rfl)
                      simp only [Act.put, List.setIfInBounds_toArray, List.set_cons_zero, List.set_cons_succ]
                      refine wpAnyH_take (i := 4) (oi := ⟨some 121, _, _, _, _, _⟩) (v := ?_) rfl (by kernel_rfl) (by kernel_rfl) (by kernel_rfl) (fun _ _ _ h => h) (Or.inl ⟨by rfl, ?_⟩) (by assumption) ?_
                      rotate_left
                      · intro w hSw; (try dsimp only at hSw); go_simp; (try with_reducible rfl)
                      simp only [Act.put, List.setIfInBounds_toArray, List.set_cons_zero, List.set_cons_succ]
                      refine wpAnyH_take (i := 5) (oi := ⟨some 122, _, _, _, _, _⟩) (v := ?_) rfl (by kernel_rfl) (by kernel_rfl) (by kernel_rfl) (fun _ _ _ h => h) (Or.inl ⟨by rfl, ?_⟩) (by assumption) ?_
                      rotate_left
                      · intro w hSw; (try dsimp only at hSw); go_simp; (try with_reducible rfl)
                      simp only [Act.put, List.setIfInBounds_toArray, List.set_cons_zero, List.set_cons_succ]
                      refine wpAnyH_take (i := 6) (oi := ⟨some 123, _, _, _, _, _⟩) (v := ?_) rfl (by kernel_rfl) (by kernel_rfl) (by kernel_rfl) (fun _ _ _ h => h) (Or.inl ⟨by rfl, ?_⟩) (by assumption) ?_
                      rotate_left
                      · intro w hSw; (try dsimp only at hSw); go_simp; (try with_reducible rfl)
                      simp only [Act.put, List.setIfInBounds_toArray, List.set_cons_zero, List.set_cons_succ]
                      refine wpAnyH_take (i := 7) (oi := ⟨some 124, _, _, _, _, _⟩) (v := ?_) rfl (by kernel_rfl) (by kernel_rfl) (by kernel_rfl) (fun _ _ _ h => h) (Or.inl ⟨by rfl, ?_⟩) (by assumption) ?_
                      rotate_left
                      · intro w hSw; (try dsimp only at hSw); go_simp; (try with_reducible rfl)
                      simp only [Act.put, List.setIfInBounds_toArray, List.set_cons_zero, List.set_cons_succ]
                      refine wpAnyH_take (i := 8) (oi := ⟨some 125, _, _, _, _, _⟩) (v := ?_) rfl (by kernel_rfl) (by kernel_rfl) (by kernel_rfl) (fun _ _ _ h => h) (Or.inl ⟨by rfl, ?_⟩) (by assumption) ?_
                      rotate_left
                      · intro w hSw; (try dsimp only at hSw); go_simp; (try with_reducible rfl)
                      simp only [Act.put, List.setIfInBounds_toArray, List.set_cons_zero, List.set_cons_succ]
                      refine wpAnyH_take (i := 9) (oi := ⟨some 126, _, _, _, _, _⟩) (v := ?_) rfl (by kernel_rfl) (by kernel_rfl) (by kernel_rfl) (fun _ _ _ h => h) (Or.inl ⟨by rfl, ?_⟩) (by assumption) ?_
                      rotate_left
                      · intro w hSw; (try dsimp only at hSw); go_simp; (try with_reducible rfl)
                      simp only [Act.put, List.setIfInBounds_toArray, List.set_cons_zero, List.set_cons_succ]
                      refine wpAnyH_take (i := 10) (oi := ⟨some 127, _, _, _, _, _⟩) (v := ?_) rfl (by kernel_rfl) (by kernel_rfl) (by kernel_rfl) (fun _ _ _ h => h) (Or.inl ⟨by rfl, ?_⟩) (by assumption) ?_
                      rotate_left
                      · intro w hSw; (try dsimp only at hSw); go_simp; (try with_reducible rfl)
                      simp only [Act.put, List.setIfInBounds_toArray, List.set_cons_zero, List.set_cons_succ]
                      refine wpAnyH_take (i := 12) (oi := ⟨some 129, _, _, _, _, _⟩) (v := ?_) rfl (by kernel_rfl) (by kernel_rfl) (by kernel_rfl) (fun _ _ _ h => h) (Or.inl ⟨by rfl, ?_⟩) (by assumption) ?_
                      rotate_left
                      · intro w hSw; (try dsimp only at hSw); go_simp; (try with_reducible rfl)
                      simp only [Act.put, List.setIfInBounds_toArray, List.set_cons_zero, List.set_cons_succ]
                      refine wpAnyH_take (i := 13) (oi := ⟨some 130, _, _, _, _, _⟩) (v := ?_) rfl (by kernel_rfl) (by kernel_rfl) (by kernel_rfl) (fun _ _ _ h => h) (Or.inl ⟨by rfl, ?_⟩) (by assumption) ?_
                      rotate_left
                      · intro w hSw; (try dsimp only at hSw); go_simp; (try with_reducible rfl)
                      simp only [Act.put, List.setIfInBounds_toArray, List.set_cons_zero, List.set_cons_succ]
                      refine wpAnyH_take (i := 14) (oi := ⟨some 131, _, _, _, _, _⟩) (v := ?_) rfl (by kernel_rfl) (by kernel_rfl) (by kernel_rfl) (fun _ _ _ h => h) (Or.inl ⟨by rfl, ?_⟩) (by assumption) ?_
                      rotate_left
                      · intro w hSw; (try dsimp only at hSw); go_simp; (try with_reducible rfl)
                      simp only [Act.put, List.setIfInBounds_toArray, List.set_cons_zero, List.set_cons_succ]
                      refine wpAnyH_take (i := 15) (oi := ⟨some 132, _, _, _, _, _⟩) (v := ?_) rfl (by kernel_rfl) (by kernel_rfl) (by kernel_rfl) (fun _ _ _ h => h) (Or.inl ⟨by rfl, ?_⟩) (by assumption) ?_
                      rotate_left
                      · intro w hSw; (try dsimp only at hSw); go_simp; (try with_reducible rfl)
                      simp only [Act.put, List.setIfInBounds_toArray, List.set_cons_zero, List.set_cons_succ]
                      refine wpAnyH_take (i := 16) (oi := ⟨some 133, _, _, _, _, _⟩) (v := ?_) rfl (by kernel_rfl) (by kernel_rfl) (by kernel_rfl) (fun _ _ _ h => h) (Or.inl ⟨by rfl, ?_⟩) (by assumption) ?_
                      rotate_left
                      · intro w hSw; (try dsimp only at hSw); go_simp; (try with_reducible rfl)
                      simp only [Act.put, List.setIfInBounds_toArray, List.set_cons_zero, List.set_cons_succ]
                      refine wpAnyH_ready (rs := [11, 17]) (by kernel_rfl) (by simp) ?_
                      refine AllReadyH.cons rfl (fun K hK => ?_) (AllReadyH.cons rfl (fun K hK => ?_) AllReadyH.nil)
                      · go_simp
                        refine hK.out _ _ hHeld (fun _ => ?_)
                        clear hK K
                        refine wpAnyH_ready (rs := [17]) (by kernel_rfl) (by simp) ?_
                        refine AllReadyH.cons rfl (fun K hK => ?_) AllReadyH.nil
                        go_simp
                        refine hK.out _ _ (HS.out _ (FD.out.chg.alloc _)) (fun _ => ?_)
                        clear hK K
                        refine wpAnyH_ready (rs := [18]) (by kernel_rfl) (by simp) ?_
                        refine AllReadyH.cons rfl (fun K hK => ?_) AllReadyH.nil
                        refine step_append_run rfl (.tmp 128) (.tmp 134) rfl rfl rfl RA.run ?_
                        refine hK.out _ _ (HS.out _ HC6.out) (fun _ => ?_)
                        clear hK K
                        simp only [Act.put, List.setIfInBounds_toArray, List.set_cons_zero, List.set_cons_succ]
                        refine wpAnyH_ready (rs := [19]) (by kernel_rfl) (by simp) ?_
                        refine AllReadyH.cons rfl (fun K hK => ?_) AllReadyH.nil
                        go_simp
                        refine hK.out _ _ (HS.out _ HC6.out) (fun _ => ?_)
                        clear hK K
                        refine wpAnyH_ready (rs := [20]) (by kernel_rfl) (by simp) ?_
                        refine AllReadyH.cons rfl (fun K hK => ?_) AllReadyH.nil
                        go_simp
                        refine hK.out _ _ (HS.out _ (HC6.out.setCell (.inl rfl) _)) (fun _ => ?_)
                        clear hK K
                        refine wpAnyH_done (by kernel_rfl) ?_ _
                        clear hHeld
                        go_wp2_with fail
                        go_roundw
                        case rel => exact ⟨n + 1, _, by omega, by go_num, FS2⟩
                        case measure => simp [intOf]; omega
                      · go_simp
                        refine hK.out _ _ (HS.out _ (FD.out.chg.alloc _)) (fun _ => ?_)
                        clear hK K
                        refine wpAnyH_ready (rs := [11]) (by kernel_rfl) (by simp) ?_
                        refine AllReadyH.cons rfl (fun K hK => ?_) AllReadyH.nil
                        go_simp
                        refine hK.out _ _ (HS.out _ (FD.out.chg.alloc _)) (fun _ => ?_)
                        clear hK K
                        refine wpAnyH_ready (rs := [18]) (by kernel_rfl) (by simp) ?_
                        refine AllReadyH.cons rfl (fun K hK => ?_) AllReadyH.nil
                        refine step_append_run rfl (.tmp 128) (.tmp 134) rfl rfl rfl RA.run ?_
                        refine hK.out _ _ (HS.out _ HC6.out) (fun _ => ?_)
                        clear hK K
                        simp only [Act.put, List.setIfInBounds_toArray, List.set_cons_zero, List.set_cons_succ]
                        refine wpAnyH_ready (rs := [19]) (by kernel_rfl) (by simp) ?_
                        refine AllReadyH.cons rfl (fun K hK => ?_) AllReadyH.nil
                        go_simp
                        refine hK.out _ _ (HS.out _ HC6.out) (fun _ => ?_)
                        clear hK K
                        refine wpAnyH_ready (rs := [20]) (by kernel_rfl) (by simp) ?_
                        refine AllReadyH.cons rfl (fun K hK => ?_) AllReadyH.nil
                        go_simp
                        refine hK.out _ _ (HS.out _ (HC6.out.setCell (.inl rfl) _)) (fun _ => ?_)
                        clear hK K
                        refine wpAnyH_done (by kernel_rfl) ?_ _
                        clear hHeld
                        go_wp2_with fail
                        go_roundw
                        case rel => exact ⟨n + 1, _, by omega, by go_num, FS2⟩
                        case measure => simp [intOf]; omega
                    · obtain rfl : n = R.S + 32 := by omega
                      have hf2 := fs.out
                      rw [← HW5.out] at hf2
                      obtain ⟨qs2, st2⟩ := HST.out.out.fill hi hlt hf2 hsm (by omega) (fun l => by rw [cutF, HYD.out, NP.cutOne, if_neg hy0, if_pos (by omega)])
                      have ST2 := Lib.hid st2
                      clear st2 hf2
                      go_wp2_with fail
                      go_roundw
                      case rel => exact ⟨p + 1, _, by omega, by go_num, ST2⟩
                      case measure => simp [intOf]; omega
            · have hg0 : fl.getD p 0 = 0 := by rw [List.getD_eq_getElem?_getD, List.getElem?_eq_none (by omega)]; rfl
              have ST2 := Lib.hid (st.out.stay (fun l => by rw [cutF, hg0]; rfl))
              clear d3 z3 c3 hg0
              go_wp2_with fail
              go_roundw
              case rel => exact ⟨p + 1, qs, by omega, by go_num, ST2⟩
              case measure => simp [intOf]; omega
          · obtain rfl : p = R.P := by omega
            have c5 : wr.cell? ⟨k, 5, none⟩ = some (.slice (some ⟨R.gb, 0, none⟩) R.br.length R.cb) := st.out.goes.at_.chip.cell 5
            have d5 : wr.cell? ⟨R.gb, i, none⟩ = some (.bool (R.br.getD i false)) := st.out.goes.at_.bcell (i := i) hib
            have z5 : wr.frozen? ⟨R.gb, i, none⟩ = false := st.out.goes.at_.br.frozen i
            have HB : Hid (RGoes base w' k R (wr.setCell ⟨R.gb, i, none⟩ (.bool true)) (cutR R i qs)) := Lib.hid (st.out.goes.trans (st.out.goes.at_.setB i true))
            have hfb : h2 ≠ R.gb := fun e => by have := HLOW.out _ (.inr (.inr (.inr (.inl rfl)))); omega
            have HF7 := Lib.hid (st.out.flt.far (p := ⟨R.gb, i, none⟩) hfb (.bool true))
            have HV : Hid ((cutR R i qs).view = NP.breakOff (NP.stroke R.view) i fl) := Lib.hid (cutR_view HAT.out hi st.out.turned)
            generalize R.br.getD i false = bb at *
            go_upto_region 25 with fail
            clear c1 c5 d5 z5
            generalize wr.setCell ⟨R.gb, i, none⟩ (.bool true) = w7 at *
            have k1 : w7.cell? ⟨h2, 1, none⟩ = some (vi 2) := HF7.out.cell 1
            have c10 : w7.cell? ⟨k, 10, none⟩ = some (.bool R.down) := HB.out.at_.chip.cell 10
            have z10 := HB.out.at_.chip.frozen 10
            go_wp2_with fail
            go_ret
            exact .mk HQ1.out (HB.out.trans (HB.out.at_.field (R' := downR (cutR R i qs) true) 10 (.bool true) rfl rfl)) (by
              show NP.downP (cutR R i qs).view = _
              rw [HV.out])
      by_cases hc3 : fk = 3
      · subst hc3
        have hQ := HQ.out
        rw [if_neg h1, if_neg hc2, if_pos rfl] at hQ
        have HQ1 := Lib.hid hQ
        have ST : Hid (OutSt base w' k R i (cutF (R.S + 32) fl) h2 #[vi fat, vi 3, .slice fa fl.length fc] fa fl 0 R.ps w4) := Lib.hid ⟨HW.out, Turned.nil (R := strokeR R), F10, HF3.out⟩
        clear hQ HQ F10 HW HF3
        go_wp2_with fail
        clear k1
        go_loopw [8] (fun v wr => ∃ (p : Nat) (qs : List PgM), p ≤ R.P ∧ v = vi p ∧ Hid (OutSt base w' k R i (cutF (R.S + 32) fl) h2 #[vi fat, vi 3, .slice fa fl.length fc] fa fl p qs wr)) (fun v _ => R.P - (intOf v).toNat)
        case atStart => exact ⟨0, R.ps, Nat.zero_le _, rfl, ST⟩
        case round =>
          clear ST
          obtain ⟨p, qs, hp, rfl, st⟩ := hrel
          have c1 : wr.cell? ⟨k, 1, none⟩ = some (vi R.P) := st.out.goes.at_.chip.cell 1
          by_cases hlt : p < R.P
          · have hat := st.out.lt hi hlt
            obtain ⟨hs1, hs2⟩ := at_small HOK.out hi hlt
            have q1 : IntKind.i64.wrap ((i : Int) * (R.P : Int)) = (i : Int) * (R.P : Int) := IntWalk.i64_in _ (by omega)
            have q2 : IntKind.i64.wrap ((i : Int) * (R.P : Int) + (p : Int)) = (i : Int) * (R.P : Int) + (p : Int) := IntWalk.i64_in _ (by omega)
            have q3 : (0 : Int) ≤ (i : Int) * (R.P : Int) + (p : Int) := by omega
            have q4 : (i : Int) * (R.P : Int) + (p : Int) < (qs.length : Int) := by omega
            have q5 : ((i : Int) * (R.P : Int) + (p : Int)).toNat = i * R.P + p := by omega
            have c3 : wr.cell? ⟨k, 3, none⟩ = some (.slice (some ⟨R.gp, 0, none⟩) qs.length R.cp) := st.out.goes.at_.chip.cell 3
            have d3 : wr.cell? ⟨R.gp, i * R.P + p, none⟩ = some ((qs.getD (i * R.P + p) default).v) := st.out.goes.at_.pcell (i := i * R.P + p) hat
            have z3 : wr.frozen? ⟨R.gp, i * R.P + p, none⟩ = false := st.out.goes.at_.ps.frozen (i * R.P + p)
            have k2 : wr.cell? ⟨h2, 2, none⟩ = some (.slice fa fl.length fc) := st.out.flt.cell 2
            generalize qs.getD (i * R.P + p) default = pg at *
            obtain ⟨pa, pl, pc⟩ := pg
            change wr.cell? ⟨R.gp, i * R.P + p, none⟩ = some (.slice pa pl.length pc) at d3
            by_cases hpl : p < fl.length
            · obtain ⟨db, do_, hfa, hcell, hsm⟩ := st.out.row.row.lookup hpl
              subst hfa
              obtain ⟨y, hy⟩ : ∃ y, fl.getD p 0 = y := ⟨_, rfl⟩
              rw [hy] at hcell hsm
              have HYD := Lib.hid hy
              clear hy
              by_cases hy0 : y = 0
              · subst hy0
                have ST2 := Lib.hid (st.out.stay (fun l => by rw [cutF, HYD.out]; rfl))
                clear d3 z3 c3
                go_wp2_with fail
                go_roundw
                case rel => exact ⟨p + 1, qs, by omega, by go_num, ST2⟩
                case measure => simp [intOf]; omega
              · have hg1 : (0 : Int) < (y : Int) := by omega
                have hg1n : 0 < y := by omega
                have HST := Lib.hid st
                have hN := st.out.nil1
                have HN := Lib.hid hN
                have HFN := Lib.hid st.out.f_ne
                have HF0 := Lib.hid (st.out.fill0 y)
                clear hN
                go_upto_region 20 with fail
                clear d3 z3 c3 k2 hcell c1
                generalize hw5 : wr.setCell ⟨R.gp, i * R.P + p, none⟩ (.slice none 0 0) = w5 at *
                have HW5 := Lib.hid hw5
                clear hw5
                have HS : Hid (∀ w', Chg (fun n => n = R.gp) w5 w' → w'.cell? ⟨k, 3, none⟩ = some (.slice (some ⟨R.gp, 0, none⟩) qs.length R.cp) ∧ w'.cell? ⟨h2, 2, none⟩ = some (.slice (some ⟨db, do_, none⟩) fl.length fc) ∧ w'.cell? ⟨db, do_ + p, none⟩ = some (vb y)) := Lib.hid (fun w' q => by
                  have := fil_sees (R := pgR R i (qs.set (i * R.P + p) nilP)) HN.out.1.at_ HN.out.2.1 HFN.out HN.out.2.2 hpl HYD.out q
                  rw [show (pgR R i (qs.set (i * R.P + p) nilP)).ps.length = qs.length from List.length_set ..] at this
                  exact this)
                by_cases hy1 : y = 1
                · subst hy1
                  obtain ⟨_, k2, hcell⟩ := HS.out w5 (Chg.refl _ _)
                  have c2 : w5.cell? ⟨k, 2, none⟩ = some (vi R.S) := HN.out.1.at_.chip.cell 2
                  have ST2 : Hid (OutSt base w' k R i (cutF (R.S + 32) fl) h2 #[vi fat, vi 3, .slice (some ⟨db, do_, none⟩) fl.length fc] (some ⟨db, do_, none⟩) fl (p + 1) (qs.set (i * R.P + p) nilP) w5) := Lib.hid (by rw [← HW5.out]; exact HST.out.out.nil_ hi hlt (fun l => by rw [cutF, HYD.out]; rfl))
                  go_wp2_with fail
                  go_loopw [10] (fun v wr => v = vi 0 ∧ wr = w5) (fun v _ => 0)
                  case atStart => exact ⟨rfl, rfl⟩
                  case round =>
                    obtain ⟨rfl, rfl⟩ := hrel
                    go_wp2_with fail
                    go_roundw
                    case rel => exact ⟨p + 1, _, by omega, by go_num, ST2⟩
                    case measure => simp [intOf]; omega
                · have hg2 : (1 : Int) < (y : Int) := by omega
                  have hg2n : 1 < y := by omega
                  go_wp2_with fail
                  go_loopw [10] (fun v wr => ∃ (n : Nat) (u : Value), n ≤ R.S + 32 ∧ v = vi n ∧ Hid (FilSt w5 (pgR R i (qs.set (i * R.P + p) nilP)) (i * R.P + p) y n u wr)) (fun v _ => R.S + 32 - (intOf v).toNat)
                  case atStart => exact ⟨0, _, Nat.zero_le _, rfl, HF0⟩
                  case round =>
                    clear HF0
                    obtain ⟨n, u, hn, rfl, fs⟩ := hrel
                    have c2 : wr.cell? ⟨k, 2, none⟩ = some (vi R.S) := (HN.out.1.at_.chip.chg fs.out.chg HN.out.1.at_.k_ne.1.symm).cell 2
                    obtain ⟨_, k2, hcell⟩ := HS.out wr fs.out.chg
                    by_cases hlt2 : n < R.S + 32
                    · have hgq : (n : Int) < (R.S : Int) + 32 := by omega
                      go_upto_region 23 with fail
                      have FD := Lib.hid fs.out.drew
                      obtain ⟨v6, w6, RA, fs6, hc6, -, ha6⟩ := FD.out.next hsm (by omega)
                      obtain ⟨ua, uc, hu⟩ := own_form FD.out.row
                      rw [List.length_replicate] at hu
                      subst hu
                      obtain ⟨v6a, v6c, hv6⟩ := own_form fs6.row
                      rw [List.length_replicate] at hv6
                      subst hv6
                      have hlen6 : (pgR R i (qs.set (i * R.P + p) nilP)).ps.length = qs.length := List.length_set ..
                      have d0 : wr.drew.cell? ⟨R.gp, i * R.P + p, none⟩ = some (.slice ua n uc) := by
                        have := FD.out.gp.cell (j := i * R.P + p) (by rw [hlen6]; omega)
                        rw [List.getElem?_set_self (by rw [List.length_map, hlen6]; exact hat)] at this
                        exact this
                      have d1 : w6.cell? ⟨R.gp, i * R.P + p, none⟩ = some (.slice ua n uc) := by
                        have := ha6.cell (j := i * R.P + p) (by rw [hlen6]; omega)
                        rw [List.getElem?_set_self (by rw [List.length_map, hlen6]; exact hat)] at this
                        exact this
                      have z1 : w6.frozen? ⟨R.gp, i * R.P + p, none⟩ = false := ha6.frozen _
                      have hgl : R.gp < wr.drew.heap.size := FD.out.gp.lt
                      have HC6 := Lib.hid hc6
                      have FS2 := Lib.hid fs6
                      clear fs6 hc6 ha6 hlen6 fs c2 k2 hcell
                      refine wp_region_held_drew (S := fun w' => w'.cell? ⟨k, 3, none⟩ = some (.slice (some ⟨R.gp, 0, none⟩) qs.length R.cp) ∧ w'.cell? ⟨h2, 2, none⟩ = some (.slice (some ⟨db, do_, none⟩) fl.length fc) ∧ w'.cell? ⟨db, do_ + p, none⟩ = some (vb y)) (by kernel_rfl) (HS.out _ FD.out.chg) (fun hHeld => ?_)
                      generalize wr.drew = wd at *
                      change wpAnyH _ _ _ _ _ 21 #[false, false, false, false, false, false, false, false, false, false, false, false, false, false, false, false, false, false, false, false, false] _ _
                      refine wpAnyH_take (i := 0) (oi := ⟨some 117, _, _, _, _, _⟩) (v := ?_) rfl (by kernel_rfl) (by kernel_rfl) (by kernel_rfl) (fun _ _ _ h => h) (Or.inl ⟨by rfl, ?_⟩) (by assumption) ?_
                      rotate_left
                      · intro w hSw; (try dsimp only at hSw); go_simp; (try with_reducible rfl)
                      simp only [Act.put, List.setIfInBounds_toArray, List.set_cons_zero, List.set_cons_succ]
                      refine wpAnyH_take (i := 1) (oi := ⟨some 118, _, _, _, _, _⟩) (v := ?_) rfl (by kernel_rfl) (by kernel_rfl) (by kernel_rfl) (fun _ _ _ h => h) (Or.inl ⟨by rfl, ?_⟩) (by assumption) ?_
                      rotate_left
                      · intro w hSw; (try dsimp only at hSw); go_simp; (try with_reducible rfl)
                      simp only [Act.put, List.setIfInBounds_toArray, List.set_cons_zero, List.set_cons_succ]
                      refine wpAnyH_take (i := 2) (oi := ⟨some 119, _, _, _, _, _⟩) (v := ?_) rfl (by kernel_rfl) (by kernel_rfl) (by kernel_rfl) (fun _ _ _ h => h) (Or.inl ⟨by rfl, ?_⟩) (by assumption) ?_
                      rotate_left
                      · intro w hSw; (try dsimp only at hSw); go_simp; (try with_reducible rfl)
                      simp only [Act.put, List.setIfInBounds_toArray, List.set_cons_zero, List.set_cons_succ]
                      refine wpAnyH_take (i := 3) (oi := ⟨some 120, _, _, _, _, _⟩) (v := ?_) rfl (by kernel_rfl) (by kernel_rfl) (by kernel_rfl) (fun _ _ _ h => h) (Or.inl ⟨by rfl, ?_⟩) (by assumption) ?_
                      rotate_left
                      · intro w hSw; (try dsimp only at hSw); go_simp; (try with_reducible rfl)
                      simp only [Act.put, List.setIfInBounds_toArray, List.set_cons_zero, List.set_cons_succ]
                      refine wpAnyH_take (i := 4) (oi := ⟨some 121, _, _, _, _, _⟩) (v := ?_) rfl (by kernel_rfl) (by kernel_rfl) (by kernel_rfl) (fun _ _ _ h => h) (Or.inl ⟨by rfl, ?_⟩) (by assumption) ?_
                      rotate_left
                      · intro w hSw; (try dsimp only at hSw); go_simp; (try with_reducible rfl)
                      simp only [Act.put, List.setIfInBounds_toArray, List.set_cons_zero, List.set_cons_succ]
                      refine wpAnyH_take (i := 5) (oi := ⟨some 122, _, _, _, _, _⟩) (v := ?_) rfl (by kernel_rfl) (by kernel_rfl) (by kernel_rfl) (fun _ _ _ h => h) (Or.inl ⟨by rfl, ?_⟩) (by assumption) ?_
                      rotate_left
                      · intro w hSw; (try dsimp only at hSw); go_simp; (try with_reducible rfl)
                      simp only [Act.put, List.setIfInBounds_toArray, List.set_cons_zero, List.set_cons_succ]
                      refine wpAnyH_take (i := 6) (oi := ⟨some 123, _, _, _, _, _⟩) (v := ?_) rfl (by kernel_rfl) (by kernel_rfl) (by kernel_rfl) (fun _ _ _ h => h) (Or.inl ⟨by rfl, ?_⟩) (by assumption) ?_
                      rotate_left
                      · intro w hSw; (try dsimp only at hSw); go_simp; (try with_reducible rfl)
                      simp only [Act.put, List.setIfInBounds_toArray, List.set_cons_zero, List.set_cons_succ]
                      refine wpAnyH_take (i := 7) (oi := ⟨some 124, _, _, _, _, _⟩) (v := ?_) rfl (by kernel_rfl) (by kernel_rfl) (by kernel_rfl) (fun _ _ _ h => h) (Or.inl ⟨by rfl, ?_⟩) (by assumption) ?_
                      rotate_left
                      · intro w hSw; (try dsimp only at hSw); go_simp; (try with_reducible rfl)
                      simp only [Act.put, List.setIfInBounds_toArray, List.set_cons_zero, List.set_cons_succ]
                      refine wpAnyH_take (i := 8) (oi := ⟨some 125, _, _, _, _, _⟩) (v := ?_) rfl (by kernel_rfl) (by kernel_rfl) (by kernel_rfl) (fun _ _ _ h => h) (Or.inl ⟨by rfl, ?_⟩) (by assumption) ?_
                      rotate_left
                      · intro w hSw; (try dsimp only at hSw); go_simp; (try with_reducible rfl)
                      simp only [Act.put, List.setIfInBounds_toArray, List.set_cons_zero, List.set_cons_succ]
                      refine wpAnyH_take (i := 9) (oi := ⟨some 126, _, _, _, _, _⟩) (v := ?_) rfl (by kernel_rfl) (by kernel_rfl) (by kernel_rfl) (fun _ _ _ h => h) (Or.inl ⟨by rfl, ?_⟩) (by assumption) ?_
                      rotate_left
                      · intro w hSw; (try dsimp only at hSw); go_simp; (try with_reducible rfl)
                      simp only [Act.put, List.setIfInBounds_toArray, List.set_cons_zero, List.set_cons_succ]
                      refine wpAnyH_take (i := 10) (oi := ⟨some 127, _, _, _, _, _⟩) (v := ?_) rfl (by kernel_rfl) (by kernel_rfl) (by kernel_rfl) (fun _ _ _ h => h) (Or.inl ⟨by rfl, ?_⟩) (by assumption) ?_
                      rotate_left
                      · intro w hSw; (try dsimp only at hSw); go_simp; (try with_reducible rfl)
                      simp only [Act.put, List.setIfInBounds_toArray, List.set_cons_zero, List.set_cons_succ]
                      refine wpAnyH_take (i := 12) (oi := ⟨some 129, _, _, _, _, _⟩) (v := ?_) rfl (by kernel_rfl) (by kernel_rfl) (by kernel_rfl) (fun _ _ _ h => h) (Or.inl ⟨by rfl, ?_⟩) (by assumption) ?_
                      rotate_left
                      · intro w hSw; (try dsimp only at hSw); go_simp; (try with_reducible rfl)
                      simp only [Act.put, List.setIfInBounds_toArray, List.set_cons_zero, List.set_cons_succ]
                      refine wpAnyH_take (i := 13) (oi := ⟨some 130, _, _, _, _, _⟩) (v := ?_) rfl (by kernel_rfl) (by kernel_rfl) (by kernel_rfl) (fun _ _ _ h => h) (Or.inl ⟨by rfl, ?_⟩) (by assumption) ?_
                      rotate_left
                      · intro w hSw; (try dsimp only at hSw); go_simp; (try with_reducible rfl)
                      simp only [Act.put, List.setIfInBounds_toArray, List.set_cons_zero, List.set_cons_succ]
                      refine wpAnyH_take (i := 14) (oi := ⟨some 131, _, _, _, _, _⟩) (v := ?_) rfl (by kernel_rfl) (by kernel_rfl) (by kernel_rfl) (fun _ _ _ h => h) (Or.inl ⟨by rfl, ?_⟩) (by assumption) ?_
                      rotate_left
                      · intro w hSw; (try dsimp only at hSw); go_simp; (try with_reducible rfl)
                      simp only [Act.put, List.setIfInBounds_toArray, List.set_cons_zero, List.set_cons_succ]
                      refine wpAnyH_take (i := 15) (oi := ⟨some 132, _, _, _, _, _⟩) (v := ?_) rfl (by kernel_rfl) (by kernel_rfl) (by kernel_rfl) (fun _ _ _ h => h) (Or.inl ⟨by rfl, ?_⟩) (by assumption) ?_
                      rotate_left
                      · intro w hSw; (try dsimp only at hSw); go_simp; (try with_reducible rfl)
                      simp only [Act.put, List.setIfInBounds_toArray, List.set_cons_zero, List.set_cons_succ]
                      refine wpAnyH_take (i := 16) (oi := ⟨some 133, _, _, _, _, _⟩) (v := ?_) rfl (by kernel_rfl) (by kernel_rfl) (by kernel_rfl) (fun _ _ _ h => h) (Or.inl ⟨by rfl, ?_⟩) (by assumption) ?_
                      rotate_left
                      · intro w hSw; (try dsimp only at hSw); go_simp; (try with_reducible rfl)
                      simp only [Act.put, List.setIfInBounds_toArray, List.set_cons_zero, List.set_cons_succ]
                      refine wpAnyH_ready (rs := [11, 17]) (by kernel_rfl) (by simp) ?_
                      refine AllReadyH.cons rfl (fun K hK => ?_) (AllReadyH.cons rfl (fun K hK => ?_) AllReadyH.nil)
                      · go_simp
                        refine hK.out _ _ hHeld (fun _ => ?_)
                        clear hK K
                        refine wpAnyH_ready (rs := [17]) (by kernel_rfl) (by simp) ?_
                        refine AllReadyH.cons rfl (fun K hK => ?_) AllReadyH.nil
                        go_simp
                        refine hK.out _ _ (HS.out _ (FD.out.chg.alloc _)) (fun _ => ?_)
                        clear hK K
                        refine wpAnyH_ready (rs := [18]) (by kernel_rfl) (by simp) ?_
                        refine AllReadyH.cons rfl (fun K hK => ?_) AllReadyH.nil
                        refine step_append_run rfl (.tmp 128) (.tmp 134) rfl rfl rfl RA.run ?_
                        refine hK.out _ _ (HS.out _ HC6.out) (fun _ => ?_)
                        clear hK K
                        simp only [Act.put, List.setIfInBounds_toArray, List.set_cons_zero, List.set_cons_succ]
                        refine wpAnyH_ready (rs := [19]) (by kernel_rfl) (by simp) ?_
                        refine AllReadyH.cons rfl (fun K hK => ?_) AllReadyH.nil
                        go_simp
                        refine hK.out _ _ (HS.out _ HC6.out) (fun _ => ?_)
                        clear hK K
                        refine wpAnyH_ready (rs := [20]) (by kernel_rfl) (by simp) ?_
                        refine AllReadyH.cons rfl (fun K hK => ?_) AllReadyH.nil
                        go_simp
                        refine hK.out _ _ (HS.out _ (HC6.out.setCell (.inl rfl) _)) (fun _ => ?_)
                        clear hK K
                        refine wpAnyH_done (by kernel_rfl) ?_ _
                        clear hHeld
                        go_wp2_with fail
                        go_roundw
                        case rel => exact ⟨n + 1, _, by omega, by go_num, FS2⟩
                        case measure => simp [intOf]; omega
                      · go_simp
                        refine hK.out _ _ (HS.out _ (FD.out.chg.alloc _)) (fun _ => ?_)
                        clear hK K
                        refine wpAnyH_ready (rs := [11]) (by kernel_rfl) (by simp) ?_
                        refine AllReadyH.cons rfl (fun K hK => ?_) AllReadyH.nil
                        go_simp
                        refine hK.out _ _ (HS.out _ (FD.out.chg.alloc _)) (fun _ => ?_)
                        clear hK K
                        refine wpAnyH_ready (rs := [18]) (by kernel_rfl) (by simp) ?_
                        refine AllReadyH.cons rfl (fun K hK => ?_) AllReadyH.nil
                        refine step_append_run rfl (.tmp 128) (.tmp 134) rfl rfl rfl RA.run ?_
                        refine hK.out _ _ (HS.out _ HC6.out) (fun _ => ?_)
                        clear hK K
                        simp only [Act.put, List.setIfInBounds_toArray, List.set_cons_zero, List.set_cons_succ]
                        refine wpAnyH_ready (rs := [19]) (by kernel_rfl) (by simp) ?_
                        refine AllReadyH.cons rfl (fun K hK => ?_) AllReadyH.nil
                        go_simp
                        refine hK.out _ _ (HS.out _ HC6.out) (fun _ => ?_)
                        clear hK K
                        refine wpAnyH_ready (rs := [20]) (by kernel_rfl) (by simp) ?_
                        refine AllReadyH.cons rfl (fun K hK => ?_) AllReadyH.nil
                        go_simp
                        refine hK.out _ _ (HS.out _ (HC6.out.setCell (.inl rfl) _)) (fun _ => ?_)
                        clear hK K
                        refine wpAnyH_done (by kernel_rfl) ?_ _
                        clear hHeld
                        go_wp2_with fail
                        go_roundw
                        case rel => exact ⟨n + 1, _, by omega, by go_num, FS2⟩
                        case measure => simp [intOf]; omega
                    · obtain rfl : n = R.S + 32 := by omega
                      have hf2 := fs.out
                      rw [← HW5.out] at hf2
                      obtain ⟨qs2, st2⟩ := HST.out.out.fill hi hlt hf2 hsm (by omega) (fun l => by rw [cutF, HYD.out, NP.cutOne, if_neg hy0, if_pos (by omega)])
                      have ST2 := Lib.hid st2
                      clear st2 hf2
                      go_wp2_with fail
                      go_roundw
                      case rel => exact ⟨p + 1, _, by omega, by go_num, ST2⟩
                      case measure => simp [intOf]; omega
            · have hg0 : fl.getD p 0 = 0 := by rw [List.getD_eq_getElem?_getD, List.getElem?_eq_none (by omega)]; rfl
              have ST2 := Lib.hid (st.out.stay (fun l => by rw [cutF, hg0]; rfl))
              clear d3 z3 c3 hg0
              go_wp2_with fail
              go_roundw
              case rel => exact ⟨p + 1, qs, by omega, by go_num, ST2⟩
              case measure => simp [intOf]; omega
          · obtain rfl : p = R.P := by omega
            have c5 : wr.cell? ⟨k, 5, none⟩ = some (.slice (some ⟨R.gb, 0, none⟩) R.br.length R.cb) := st.out.goes.at_.chip.cell 5
            have d5 : wr.cell? ⟨R.gb, i, none⟩ = some (.bool (R.br.getD i false)) := st.out.goes.at_.bcell (i := i) hib
            have z5 : wr.frozen? ⟨R.gb, i, none⟩ = false := st.out.goes.at_.br.frozen i
            have HB : Hid (RGoes base w' k R (wr.setCell ⟨R.gb, i, none⟩ (.bool true)) (cutR R i qs)) := Lib.hid (st.out.goes.trans (st.out.goes.at_.setB i true))
            have hfb : h2 ≠ R.gb := fun e => by have := HLOW.out _ (.inr (.inr (.inr (.inl rfl)))); omega
            have HF7 := Lib.hid (st.out.flt.far (p := ⟨R.gb, i, none⟩) hfb (.bool true))
            have HV : Hid ((cutR R i qs).view = NP.breakOff (NP.stroke R.view) i fl) := Lib.hid (cutR_view HAT.out hi st.out.turned)
            generalize R.br.getD i false = bb at *
            go_upto_region 25 with fail
            clear c1 c5 d5 z5
            generalize wr.setCell ⟨R.gb, i, none⟩ (.bool true) = w7 at *
            have k1 : w7.cell? ⟨h2, 1, none⟩ = some (vi 3) := HF7.out.cell 1
            go_wp2_with fail
            go_ret
            exact .mk HQ1.out HB.out HV.out
      · have hQ := HQ.out
        rw [if_neg h1, if_neg hc2, if_neg hc3] at hQ
        have hb2 : (fk == 2) = false := by simp [hc2]
        have hb3 : (fk == 3) = false := by simp [hc3]
        have HQ1 := Lib.hid hQ
        have ST : Hid (OutSt base w' k R i (fun _ _ => []) h2 #[vi fat, vi fk, .slice fa fl.length fc] fa fl 0 R.ps w4) := Lib.hid ⟨HW.out, Turned.nil (R := strokeR R), F10, HF3.out⟩
        clear hQ HQ F10 HW HF3
        go_wp2_with fail
        clear k1
        go_loopw [8] (fun v wr => ∃ (p : Nat) (qs : List PgM), p ≤ R.P ∧ v = vi p ∧ Hid (OutSt base w' k R i (fun _ _ => []) h2 #[vi fat, vi fk, .slice fa fl.length fc] fa fl p qs wr)) (fun v _ => R.P - (intOf v).toNat)
        case atStart => exact ⟨0, R.ps, Nat.zero_le _, rfl, ST⟩
        case round =>
          clear ST
          obtain ⟨p, qs, hp, rfl, st⟩ := hrel
          have c1 : wr.cell? ⟨k, 1, none⟩ = some (vi R.P) := st.out.goes.at_.chip.cell 1
          by_cases hlt : p < R.P
          · have hat := st.out.lt hi hlt
            obtain ⟨hs1, hs2⟩ := at_small HOK.out hi hlt
            have q1 : IntKind.i64.wrap ((i : Int) * (R.P : Int)) = (i : Int) * (R.P : Int) := IntWalk.i64_in _ (by omega)
            have q2 : IntKind.i64.wrap ((i : Int) * (R.P : Int) + (p : Int)) = (i : Int) * (R.P : Int) + (p : Int) := IntWalk.i64_in _ (by omega)
            have q3 : (0 : Int) ≤ (i : Int) * (R.P : Int) + (p : Int) := by omega
            have q4 : (i : Int) * (R.P : Int) + (p : Int) < (qs.length : Int) := by omega
            have q5 : ((i : Int) * (R.P : Int) + (p : Int)).toNat = i * R.P + p := by omega
            have c3 : wr.cell? ⟨k, 3, none⟩ = some (.slice (some ⟨R.gp, 0, none⟩) qs.length R.cp) := st.out.goes.at_.chip.cell 3
            have d3 : wr.cell? ⟨R.gp, i * R.P + p, none⟩ = some ((qs.getD (i * R.P + p) default).v) := st.out.goes.at_.pcell (i := i * R.P + p) hat
            have z3 : wr.frozen? ⟨R.gp, i * R.P + p, none⟩ = false := st.out.goes.at_.ps.frozen (i * R.P + p)
            generalize qs.getD (i * R.P + p) default = pg at *
            obtain ⟨pa, pl, pc⟩ := pg
            change wr.cell? ⟨R.gp, i * R.P + p, none⟩ = some (.slice pa pl.length pc) at d3
            have ST2 := Lib.hid (st.out.nil_ hi hlt (fun l => rfl))
            go_wp2_with fail
            go_roundw
            case rel => exact ⟨p + 1, _, by omega, by go_num, ST2⟩
            case measure => simp [intOf]; omega
          · obtain rfl : p = R.P := by omega
            have c5 : wr.cell? ⟨k, 5, none⟩ = some (.slice (some ⟨R.gb, 0, none⟩) R.br.length R.cb) := st.out.goes.at_.chip.cell 5
            have d5 : wr.cell? ⟨R.gb, i, none⟩ = some (.bool (R.br.getD i false)) := st.out.goes.at_.bcell (i := i) hib
            have z5 : wr.frozen? ⟨R.gb, i, none⟩ = false := st.out.goes.at_.br.frozen i
            have HB : Hid (RGoes base w' k R (wr.setCell ⟨R.gb, i, none⟩ (.bool false)) { pgR R i qs with br := R.br.set i false }) := Lib.hid (st.out.goes.trans (st.out.goes.at_.setB i false))
            have HV : Hid ((newR R i qs).view = NP.setBlk (NP.stroke R.view) i ⟨List.replicate R.P [], 0, false, false, NP.w64 (R.wr.getD i 0 + 1)⟩) := Lib.hid (newR_view HAT.out hi HBD.out st.out.turned)
            rw [HX.out] at HV
            generalize R.br.getD i false = bb at *
            go_upto_region 26 with fail
            clear c1 c5 d5 z5
            generalize wr.setCell ⟨R.gb, i, none⟩ (.bool false) = w7 at *
            have c4 : w7.cell? ⟨k, 4, none⟩ = some (.slice (some ⟨R.gn, 0, none⟩) R.nx.length R.cn) := HB.out.at_.chip.cell 4
            have d4 : w7.cell? ⟨R.gn, i, none⟩ = some (vi (R.nx.getD i 0 : Nat)) := HB.out.at_.ncell (i := i) hin
            have z4 : w7.frozen? ⟨R.gn, i, none⟩ = false := HB.out.at_.nx.frozen i
            have HN : Hid (RGoes base w' k R (w7.setCell ⟨R.gn, i, none⟩ (vi 0)) (newR R i qs)) := Lib.hid (HB.out.trans (HB.out.at_.setN i 0))
            generalize R.nx.getD i 0 = nn at *
            go_wp2_with fail
            go_ret
            exact .mk HQ1.out HN.out HV.out
    · rw [hbad] at HQ d6
      rw [if_pos rfl] at HQ
      clear hbad
      go_enter Try.func66, Try.ntmps66
      go_wp2_with fail
      refine (place_any HC.out _ _).mono ?_
      rintro e w' ⟨rfl, rfl⟩
      rw [HE.out]
      go_wp2_with fail
      go_ret
      exact .mk HQ.out (RGoes.refl HC.out) rfl
  · have HQ : Hid (NP.erase R.view j = (NP.asked R.view j 0, R.view)) := Lib.hid (by unfold NP.erase; dsimp only; rw [if_neg he])
    clear hok h
    go_enter Try.func66, Try.ntmps66
    go_wp2_with fail
    refine (place_any HC.out _ _).mono ?_
    rintro e w' ⟨rfl, rfl⟩
    generalize NP.asked R.view j 0 = n at *
    have hn : ((n : Int) != 0) = true := by simp [he]
    go_wp2_with fail
    go_ret
    exact .mk HQ.out (RGoes.refl HC.out) rfl
end

end Go.Proofs.Ytpggkehfbhffbaa

