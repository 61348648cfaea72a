/-
  A chip, loaded. Conditions: rows that can be read.
-/
import Derived.Test.YtpggkehfbhffbaaRT
import Derived.Deep.RegionHeld3
import Derived.BigRegion
namespace Go.Proofs.Ytpggkehfbhffbaa
open Go.RowKit

section
variable {base : Nat} {w wr w' w'' : World} {k : Nat} {M M' : ChM}
def pageX (x : BloM) (q : Nat) (pg : PgM) : BloM := { x with ps := x.ps.set q pg, next := q + 1 }
def pageM (M : ChM) (i q : Nat) (pg : PgM) : ChM := { M with bs := M.bs.set i (pageX (M.bs.getD i default) q pg) }
def markX (x : BloM) (b : Bool) (n : Int) : BloM := { x with bad := b, wear := n }
def loadM (M : ChM) (i : Nat) (b : Bool) (n : Int) : ChM := { M with bs := M.bs.set i (markX (M.bs.getD i default) b n) }
theorem getD_set_self {l : List BloM} {i : Nat} (hi : i < l.length) (y : BloM) : (l.set i y).getD i default = y := by
  rw [List.getD_eq_getElem?_getD, List.getElem?_set_self hi]; rfl
theorem pageM_goes (h : ChipAt base w k M) {i q : Nat} (hi : i < M.bs.length) (pg : PgM) (hq : pg.ok base w) : Goes base w k M ((w.setCell ⟨(M.bs.getD i default).g, q, none⟩ pg.v).setCell ⟨M.kb, i * 5 + 1, none⟩ (vi ((q : Int) + 1))) (pageM M i q pg) := by
  have h1 := h.page hi (p := q) pg hq
  have e1 := getD_set_self hi { M.bs.getD i default with ps := (M.bs.getD i default).ps.set q pg }
  have h2 := h1.at_.bfield (i := i) (j := 1) (by simpa using hi) (by decide) (vi ((q : Int) + 1)) (pageX (M.bs.getD i default) q pg) (by rw [e1]; rfl) (by rw [e1]; rfl) (by rw [e1]; rfl) (by rw [e1]; rfl)
  have h3 := h1.trans h2
  dsimp only at h3
  rw [List.set_set] at h3
  exact h3
theorem loadM_goes (h : ChipAt base w k M) {i : Nat} (hi : i < M.bs.length) (b : Bool) (n : Int) : Goes base w k M ((w.setCell ⟨M.kb, i * 5 + 3, none⟩ (.bool b)).setCell ⟨M.kb, i * 5 + 4, none⟩ (vi n)) (loadM M i b n) := by
  have h1 := h.bfield hi (j := 3) (by decide) (.bool b) { M.bs.getD i default with bad := b } rfl rfl rfl rfl
  have e1 := getD_set_self hi { M.bs.getD i default with bad := b }
  have h2 := h1.at_.bfield (i := i) (j := 4) (by simpa using hi) (by decide) (vi n) (markX (M.bs.getD i default) b n) (by rw [e1]; rfl) (by rw [e1]; rfl) (by rw [e1]; rfl) (by rw [e1]; rfl)
  have h3 := h1.trans h2
  dsimp only at h3
  rw [List.set_set] at h3
  exact h3
theorem pageM_view {i q : Nat} (h : i < M.bs.length) (pg : PgM) : (pageM M i q pg).view = NP.setBlk M.view i { M.view.blk i with ps := (M.view.blk i).ps.set q pg.l, next := q + 1 } := by
  unfold pageM NP.setBlk
  rw [view_blk h]
  simp [ChM.view, BloM.view, pageX, List.map_set]
theorem loadM_view {i : Nat} (h : i < M.bs.length) (b : Bool) (n : Int) : (loadM M i b n).view = NP.setBlk M.view i { M.view.blk i with bad := b, wear := n } := by
  unfold loadM NP.setBlk
  rw [view_blk h]
  simp [ChM.view, BloM.view, markX, List.map_set]
theorem chip_lens {D : LoadIn} {n m : Nat} (h : M.view = D.chip n m) : M.bs.length = D.B ∧ ∀ i, i < D.B → (M.bs.getD i default).ps.length = D.P := by
  have h1 : M.bs.length = D.B := by
    have := congrArg (fun c : NP.Chp => c.bs.length) h
    simpa [ChM.view, LoadIn.chip] using this
  refine ⟨h1, fun i hi => ?_⟩
  have h2 : M.view.blk i = (D.chip n m).blk i := by rw [h]
  rw [view_blk (by omega), LoadIn.blk hi] at h2
  have h3 := congrArg (fun x : NP.Blo => x.ps.length) h2
  simpa [BloM.view, LoadIn.blo] using h3
/-- What Load answers. -/
def LoadPost (base : Nat) (w : World) (D : LoadIn) (e : Ending) (w' : World) : Prop :=
  (D.fine ∧ ∃ k M, e = .returned (.tuple #[ptr k, vi 0]) ∧ MadeAt base w k M w' ∧ M.view = D.chip (D.B * D.P) D.B) ∨ (¬ D.fine ∧ e = .returned (.tuple #[.pointer none, vi 1]) ∧ Below w.heap.size w w')
theorem LoadPost.no {D : LoadIn} (h : ¬ D.fine) (hb : Below w.heap.size w w') : LoadPost base w D (.returned (.tuple #[.pointer none, vi 1])) w' := .inr ⟨h, rfl, hb⟩
theorem LoadPost.yes {D : LoadIn} (h : D.fine) (hm : MadeAt base w k M w') (hv : M.view = D.chip (D.B * D.P) D.B) : LoadPost base w D (.returned (.tuple #[ptr k, vi 0])) w' := .inl ⟨h, k, M, rfl, hm, hv⟩

set_option maxRecDepth 100000 in
set_option maxHeartbeats 8000000 in
theorem Load_wrong (b p s : Int) (hr : NP.rightB b p s = false) (v1 v2 v3 : Value) (w : World) : Calls Try.prog 30 #[.agg #[vi b, vi p, vi s], v1, v2, v3] w fun e w' => e = .returned (.tuple #[.pointer none, vi 1]) ∧ Below w.heap.size w w' := by
  have g0 := Lib.hid (Blk.new w 23 #[vi b, vi p, vi s])
  have HB : Hid (Below w.heap.size w (w.alloc (.cells #[vi b, vi p, vi s] 23))) := Lib.hid ((Below.refl _ _).alloc (Nat.le_refl _) _)
  have HR := Lib.hid hr
  clear hr
  go_enter Try.func30, Try.ntmps30
  go_upto_region 1 with fail
  generalize w.alloc (.cells #[vi b, vi p, vi s] 23) = w0 at *
  have c0 : w0.cell? ⟨w.heap.size, 0, none⟩ = some (vi b) := g0.out.cell 0
  have c1 : w0.cell? ⟨w.heap.size, 1, none⟩ = some (vi p) := g0.out.cell 1
  have c2 : w0.cell? ⟨w.heap.size, 2, none⟩ = some (vi s) := g0.out.cell 2
  go_wp2_with fail
  refine (Right_any b p s _).mono ?_
  rintro e w1 ⟨rfl, hb1⟩
  rw [HR.out]
  have HB1 := Lib.hid (HB.out.trans (hb1.mono HB.out.size))
  clear c0 c1 c2 hb1 g0 HB
  go_wp2_with fail
  go_ret2
  exact ⟨rfl, HB1.out⟩

set_option maxRecDepth 100000 in
set_option maxHeartbeats 16000000 in
theorem Load_any (base B P S : Nat) (hrt : NP.rightB B P S = true) (pa : Option Addr) (ps : List PgM) (pc : Nat) (ba : Option Addr) (bl : List Bool) (bc : Nat) (wa : Option Addr) (wl : List Int) (wc : Nat) (w : World)
    (hp : PRow w pa ps) (hbl : BoRow w ba bl) (hwl : IRow w wa wl) (hbn : bl.length ≤ 140737488355328) (_ : wl.length ≤ 140737488355328) (hb : base ≤ w.heap.size) :
    Calls Try.prog 30 #[.agg #[vi B, vi P, vi S], .slice pa ps.length pc, .slice ba bl.length bc, .slice wa wl.length wc] w (LoadPost base w (loadD B P S ps bl wl)) := by
  have HP := Lib.hid hp
  have HBO := Lib.hid hbl
  have HW := Lib.hid hwl
  have hpn := hp.len
  have g0 := Lib.hid (Blk.new w 23 #[vi B, vi P, vi S])
  have HB : Hid (Below w.heap.size w (w.alloc (.cells #[vi B, vi P, vi S] 23))) := Lib.hid ((Below.refl _ _).alloc (Nat.le_refl _) _)
  have hz1 : Hid ((w.alloc (.cells #[vi B, vi P, vi S] 23)).heap.size = w.heap.size + 1) := Lib.hid (size_alloc _ _)
  have hrt' := hrt
  simp only [NP.rightB, Bool.and_eq_true, decide_eq_true_eq, Bool.or_eq_true, beq_iff_eq] at hrt'
  have hBB : B ≤ 128 := by omega
  have hPP : P ≤ 32 := by omega
  have hP0 : 0 < P := by omega
  have hS : S ≤ 512 := by omega
  have hbp : B * P ≤ 4096 := Nat.le_trans (Nat.mul_le_mul hBB hPP) (by decide)
  have HRT := Lib.hid hrt
  have hbpc : (B : Int) * (P : Int) = ((B * P : Nat) : Int) := by rw [Int.natCast_mul]
  have hq : IntKind.i64.wrap ((B : Int) * (P : Int)) = (B : Int) * (P : Int) := IntWalk.i64_in _ (by rw [hbpc]; omega)
  have HBPC := Lib.hid hbpc
  clear hbpc
  clear hp hbl hwl hrt hrt'
  go_enter Try.func30, Try.ntmps30
  go_upto_region 1 with fail
  generalize w.alloc (.cells #[vi B, vi P, vi S] 23) = w0 at *
  have c0 : w0.cell? ⟨w.heap.size, 0, none⟩ = some (vi B) := g0.out.cell 0
  have c1 : w0.cell? ⟨w.heap.size, 1, none⟩ = some (vi P) := g0.out.cell 1
  have c2 : w0.cell? ⟨w.heap.size, 2, none⟩ = some (vi S) := g0.out.cell 2
  go_wp2_with fail
  refine (Right_any B P S _).mono ?_
  rintro e w1 ⟨rfl, hb1⟩
  rw [HRT.out]
  have g1 := Lib.hid (g0.out.old hb1)
  have HB1 := Lib.hid (HB.out.trans (hb1.mono HB.out.size))
  have HSZ : Hid (w.heap.size < w1.heap.size) := Lib.hid (by have := hz1.out; have := hb1.size; omega)
  clear c0 c1 c2 hb1 g0 HB hz1
  have c0 : w1.cell? ⟨w.heap.size, 0, none⟩ = some (vi B) := g1.out.cell 0
  have c1 : w1.cell? ⟨w.heap.size, 1, none⟩ = some (vi P) := g1.out.cell 1
  have c2 : w1.cell? ⟨w.heap.size, 2, none⟩ = some (vi S) := g1.out.cell 2
  by_cases l1 : ps.length = B * P
  case neg =>
    have e1 : ((ps.length : Int) != (B : Int) * (P : Int)) = true := by rw [HBPC.out]; simp only [bne_iff_ne, ne_eq]; omega
    have HN : Hid (¬ (loadD B P S ps bl wl).fine) := Lib.hid (fun h => l1 (by have := h.lp; simpa using this))
    go_wp2_with fail
    go_ret2
    exact .no HN.out HB1.out
  have e1 : ((ps.length : Int) != (B : Int) * (P : Int)) = false := by rw [l1]; simp
  have L1 := Lib.hid l1
  clear l1
  by_cases l2 : bl.length = B
  case neg =>
    have e2 : ((bl.length : Int) != (B : Int)) = true := by simp only [bne_iff_ne, ne_eq]; omega
    have HN : Hid (¬ (loadD B P S ps bl wl).fine) := Lib.hid (fun h => l2 h.lb)
    go_wp2_with fail
    go_ret2
    exact .no HN.out HB1.out
  have e2 : ((bl.length : Int) != (B : Int)) = false := by rw [l2]; simp
  have L2 := Lib.hid l2
  clear l2
  by_cases l3 : wl.length = B
  case neg =>
    have e3 : ((wl.length : Int) != (B : Int)) = true := by simp only [bne_iff_ne, ne_eq]; omega
    have HN : Hid (¬ (loadD B P S ps bl wl).fine) := Lib.hid (fun h => l3 h.lw)
    go_wp2_with fail
    go_ret2
    exact .no HN.out HB1.out
  have e3 : ((wl.length : Int) != (B : Int)) = false := by rw [l3]; simp
  have L3 := Lib.hid l3
  clear l3
  go_wp2_with fail
  clear e1 e2 e3 hq
  refine (blank_any base B P S _ hBB hPP (Nat.le_trans hb HB1.out.size)).mono ?_
  rintro e w2 ⟨k, M, rfl, hm, hv⟩
  have HM := Lib.hid hm
  have HP1 := Lib.hid (HP.out.old HB1.out)
  have HBO1 := Lib.hid (HBO.out.old HB1.out)
  have HW1 := Lib.hid (HW.out.old HB1.out)
  have HL : Hid (ps.length = B * P ∧ bl.length = B ∧ wl.length = B) := Lib.hid ⟨L1.out, L2.out, L3.out⟩
  have HLW : Hid (bl.length = wl.length) := Lib.hid (by have := HL.out; omega)
  have HV : Hid (M.view = (loadD B P S ps bl wl).chip 0 0) := Lib.hid (by rw [hv, LoadIn.chip_zero])
  clear c0 c1 c2 hm hv HP HBO HW L1 L2 L3
  generalize hD : loadD B P S ps bl wl = D at *
  have HD := Lib.hid hD
  clear hD
  go_wp2_with fail
  go_loopw [46] (fun v wr => ∃ (n : Nat) (M : ChM), n ≤ ps.length ∧ v = vi n ∧ Hid (MadeAt base w1 k M wr) ∧ Hid (M.view = D.chip n 0) ∧ Hid (∀ j, j < n → D.pageOk j)) (fun v _ => ps.length - (intOf v).toNat)
  case atStart => exact ⟨0, M, Nat.zero_le _, rfl, HM, HV, Lib.hid (fun j hj => absurd hj (Nat.not_lt_zero j))⟩
  case round =>
    clear HM HV M
    obtain ⟨n, M, hn, rfl, HM, HV, HPK⟩ := hrel
    have HLN : Hid (M.bs.length = B ∧ ∀ i, i < B → (M.bs.getD i default).ps.length = P) := Lib.hid (by have := chip_lens HV.out; rw [← HD.out] at this; exact this)
    by_cases hlt : n < ps.length
    · obtain ⟨pg, po, rfl, hx1, hr1⟩ := HP1.out.lookup hlt
      have hpo : Hid (D.pages.getD n [] = (ps.getD n default).l) := Lib.hid (by rw [← HD.out]; exact page_getD n)
      have HR1 := Lib.hid hr1
      generalize ps.getD n default = g at *
      obtain ⟨ga, gl, gc⟩ := g
      dsimp only at *
      have hx := cell_below hx1 HM.out.below
      change wr.cell? ⟨pg, po + n, none⟩ = some (.slice ga gl.length gc) at hx
      clear hx1 hr1
      have c2 : wr.cell? ⟨w.heap.size, 2, none⟩ = some (vi S) := (g1.out.below HM.out.below g1.out.lt).cell 2
      have hq0 : (0 : Int) ≤ (n : Int) := by omega
      have hq1 : (n : Int) < (ps.length : Int) := by omega
      have HNB : Hid (n < B * P) := Lib.hid (by have := HL.out; omega)
      by_cases hz : gl.length = 0
      · have e0 : ((gl.length : Int) != 0) = false := by rw [hz]; rfl
        have e1 : decide ((0 : Int) < (gl.length : Int)) = false := decide_eq_false (by omega)
        have e1n : decide (0 < gl.length) = false := decide_eq_false (by omega)
        have hnil : gl = [] := List.eq_nil_of_length_eq_zero hz
        have HV2 : Hid (M.view = D.chip (n + 1) 0) := Lib.hid (by rw [HV.out, LoadIn.skip (by rw [hpo.out, hnil])])
        have HPK2 : Hid (∀ j, j < n + 1 → D.pageOk j) := Lib.hid (fun j hj => by
          by_cases e : j = n
          · subst e; exact .inl (by rw [hpo.out, hnil])
          · exact HPK.out j (by omega))
        clear hnil
        go_wp2_with fail
        go_roundw
        case rel => exact ⟨n + 1, _, by omega, by go_num, HM, HV2, HPK2⟩
        case measure => simp [intOf]; omega
      · have e0 : ((gl.length : Int) != 0) = true := by simp only [bne_iff_ne, ne_eq]; omega
        have e1 : decide ((0 : Int) < (gl.length : Int)) = true := decide_eq_true (by omega)
        have e1n : decide (0 < gl.length) = true := decide_eq_true (by omega)
        have hne : gl ≠ [] := fun e => hz (by rw [e]; rfl)
        by_cases hs : gl.length = S + 32
        case neg =>
          have e2 : ((gl.length : Int) != (S : Int) + 32) = true := by simp only [bne_iff_ne, ne_eq]; omega
          have HN : Hid (¬ D.fine) := Lib.hid (fun h => by
            have h1 := h.pages n (by rw [← HD.out]; exact HNB.out)
            unfold LoadIn.pageOk at h1
            rw [hpo.out] at h1
            rcases h1 with h1 | h1
            · exact hne h1
            · exact hs (by rw [h1, ← HD.out]))
          clear hne hs
          go_wp2_with fail
          go_ret2
          exact .no HN.out (HB1.out.trans (HM.out.below.mono HB1.out.size))
        have e2 : ((gl.length : Int) != (S : Int) + 32) = false := by rw [hs]; simp
        have hdm : n / P * P + n % P = n := by rw [Nat.mul_comm]; exact Nat.div_add_mod n P
        have hqP : n % P < P := Nat.mod_lt _ hP0
        have hiB : n / P < B := (Nat.div_lt_iff_lt_mul hP0).2 HNB.out
        have t1 : (n : Int) / (P : Int) = ((n / P : Nat) : Int) := (Int.natCast_ediv n P).symm
        have t2 : (n : Int) % (P : Int) = ((n % P : Nat) : Int) := (Int.natCast_emod n P).symm
        have t3 : (n : Int).tmod (P : Int) = ((n % P : Nat) : Int) := (Int.ofNat_tmod n P).symm
        have HV2 : Hid (∀ M' : ChM, M'.view = NP.setBlk M.view (n / P) { M.view.blk (n / P) with ps := (M.view.blk (n / P)).ps.set (n % P) gl, next := n % P + 1 } → M'.view = D.chip (n + 1) 0) := Lib.hid (fun M' e => by
          have := LoadIn.page_step (d := D) (n := n) (m := 0) (by rw [← HD.out]; exact hP0) (by rw [← HD.out]; exact HNB.out) (by rw [hpo.out]; exact hne)
          rw [e, this, HV.out, hpo.out, ← HD.out])
        have HPK2 : Hid (∀ j, j < n + 1 → D.pageOk j) := Lib.hid (fun j hj => by
          by_cases e : j = n
          · subst e; exact .inr (by rw [hpo.out, hs, ← HD.out])
          · exact HPK.out j (by omega))
        have hgl : gl.length ≤ 544 := by omega
        have hgp : 0 < gl.length := by omega
        have hlen := HLN.out.1
        have hpl := HLN.out.2 (n / P) hiB
        have HGL := Lib.hid hgp
        generalize n / P = i at *
        generalize n % P = q at *
        clear hdm hs hz hne
        have hib : i < M.bs.length := by omega
        have hp1 : (1 : Int) ≤ (P : Int) := by omega
        have hp2 : (P : Int) ≤ 32 := by omega
        have hn2 : (n : Int) ≤ 4096 := by have := HNB.out; omega
        have hp3 : ¬ (P = 0) := by omega
        have qi : IntKind.i64.wrap (i : Int) = (i : Int) := IntWalk.i64_in _ (by omega)
        have qq : IntKind.i64.wrap (q : Int) = (q : Int) := IntWalk.i64_in _ (by omega)
        have qq1 : IntKind.i64.wrap ((q : Int) + 1) = (q : Int) + 1 := IntWalk.i64_in _ (by omega)
        have hi0 : (0 : Int) ≤ (i : Int) := by omega
        have hi1 : (i : Int) < (M.bs.length : Int) := by omega
        have c1 : wr.cell? ⟨w.heap.size, 1, none⟩ = some (vi P) := (g1.out.below HM.out.below g1.out.lt).cell 1
        have c3 : wr.cell? ⟨k, 3, none⟩ = some (.slice (some ⟨M.kb, 0, none⟩) M.bs.length M.kc) := HM.out.at_.chip.cell 3
        go_upto_region 10 with fail
        go_quiet (fail)
        have HM1 := Lib.hid (HM.out.goes (Goes.of_old HM.out.at_ (below_drewN (Below.refl _ wr) nq)))
        go_upto_region 11 with fail
        clear hx c1 c2 c3
        generalize wr.drewN nq = wd at *
        have d0 : wd.cell? ⟨M.kb, i * 5, none⟩ = some (.slice (some ⟨(M.bs.getD i default).g, 0, none⟩) (M.bs.getD i default).ps.length (M.bs.getD i default).c) := by
          have := HM1.out.at_.bcell hib (j := 0) (by decide)
          exact this
        rw [hpl] at d0
        have d1 : wd.cell? ⟨M.kb, i * 5 + 1, none⟩ = some (vi (M.bs.getD i default).next) := HM1.out.at_.bcell hib (j := 1) (by decide)
        have dq := HM1.out.at_.pcell hib (p := q) (by rw [hpl]; exact hqP)
        have Z1 := Lib.hid (HM1.out.at_.blocks.frozen (i * 5 + 1))
        have ZQ := Lib.hid ((HM1.out.at_.pages _ (getD_mem (d := default) hib)).frozen q)
        have c1 : wd.cell? ⟨w.heap.size, 1, none⟩ = some (vi P) := (g1.out.below HM1.out.below g1.out.lt).cell 1
        have hgne := HM1.out.at_.g_ne (getD_mem (d := default) hib)
        have hg1 : w1.heap.size ≤ (M.bs.getD i default).g := HM1.out.own _ (.inr (.inr (List.mem_map_of_mem (getD_mem (d := default) hib))))
        have hkb1 : w1.heap.size ≤ M.kb := HM1.out.own _ (.inr (.inl rfl))
        have hsz := HSZ.out
        have HFIN : Hid (∀ (w5 : World) (pg : PgM), Below wd.heap.size wd w5 → pg.ok base w5 → MadeAt base w1 k (pageM M i q pg) ((w5.setCell ⟨(M.bs.getD i default).g, q, none⟩ pg.v).setCell ⟨M.kb, i * 5 + 1, none⟩ (vi ((q : Int) + 1)))) := Lib.hid (fun w5 pg hb hp => (HM1.out.goes (Goes.of_old HM1.out.at_ hb)).goes (pageM_goes (HM1.out.at_.old hb) hib pg hp))
        have HV3 : Hid (∀ pg : PgM, pg.l = gl → (pageM M i q pg).view = D.chip (n + 1) 0) := Lib.hid (fun pg e => HV2.out _ (by rw [pageM_view hib, e]))
        generalize M.bs.getD i default = x at *
        generalize x.ps.getD q default = og at *
        generalize x.next = nx at *
        have HCL : Hid (Calls Try.prog 60 #[.slice ga gl.length gc] wd.drew fun e w' => ∃ pg : PgM, e = .returned pg.v ∧ pg.l = gl ∧ pg.ok base w' ∧ Below wd.heap.size wd w') := Lib.hid
          ((Clone_any ga gl gc wd.drew (HR1.out.below HM1.out.below.drew) (by omega)).mono (by
            rintro e w' ⟨v', rfl, ho, hb⟩
            obtain ⟨pg, rfl, h1, h2⟩ := Own.page (base := base) ho HR1.out.small HGL.out
            exact ⟨pg, rfl, h1, h2, (Below.refl _ _).drew.trans hb⟩))
        have n1 : Hid ((⟨x.g, q, none⟩ : Addr) ≠ ⟨M.kb, i * 5, none⟩) := Lib.hid (fun e => hgne.2 (by injection e))
        have n2 : Hid ((⟨x.g, q, none⟩ : Addr) ≠ ⟨w.heap.size, 1, none⟩) := Lib.hid (fun e => by injection e with e; omega)
        have n3 : Hid ((⟨M.kb, i * 5 + 1, none⟩ : Addr) ≠ ⟨M.kb, i * 5, none⟩) := Lib.hid (fun e => by injection e with _ e; omega)
        have n4 : Hid ((⟨M.kb, i * 5 + 1, none⟩ : Addr) ≠ ⟨w.heap.size, 1, none⟩) := Lib.hid (fun e => by injection e with e; omega)
        have n5 : Hid ((⟨x.g, q, none⟩ : Addr) ≠ ⟨M.kb, i * 5 + 1, none⟩) := Lib.hid (fun e => hgne.2 (by injection e))
        have D0 := Lib.hid d0
        have D1 := Lib.hid d1
        have DQ := Lib.hid dq
        have C1 := Lib.hid c1
        have LT1 := Lib.hid (cell_lt d1)
        have LTQ := Lib.hid (cell_lt dq)
        have HDD : Hid (wd.drew.cell? ⟨M.kb, i * 5, none⟩ = some (.slice (some ⟨x.g, 0, none⟩) P x.c) ∧ wd.drew.cell? ⟨w.heap.size, 1, none⟩ = some (vi P)) := Lib.hid ⟨d0, c1⟩
        have hqq0 : (0 : Int) ≤ (q : Int) := by omega
        have hqq2 : (q : Int) < (P : Int) := by omega
        clear d0 d1 dq c1 hgne hg1 hkb1 hsz hpl hlen
        go_region_held3 (fun w' => w'.cell? ⟨M.kb, i * 5, none⟩ = some (.slice (some ⟨x.g, 0, none⟩) P x.c) ∧ w'.cell? ⟨w.heap.size, 1, none⟩ = some (vi P))
          (first
            | exact HDD.out
            | exact ⟨cell_below D0.out hb5, cell_below C1.out hb5⟩
            | exact ⟨(World.cell?_setCell_other _ _ _ _ n1.out).trans (cell_below D0.out hb5), (World.cell?_setCell_other _ _ _ _ n2.out).trans (cell_below C1.out hb5)⟩
            | exact ⟨(World.cell?_setCell_other _ _ _ _ n3.out).trans ((World.cell?_setCell_other _ _ _ _ n1.out).trans (cell_below D0.out hb5)), (World.cell?_setCell_other _ _ _ _ n4.out).trans ((World.cell?_setCell_other _ _ _ _ n2.out).trans (cell_below C1.out hb5))⟩)
          (first | (go_at_call 60; refine (HCL.out).mono ?_; rintro e w5 ⟨pg, rfl, hq1, hq2, hb5⟩; have cnq := cell_below DQ.out hb5; have znq := (hb5.frozen LTQ.out).trans ZQ.out; have cn1 := (World.cell?_setCell_other _ _ _ pg.v n5.out).trans (cell_below D1.out hb5); have zn1 := (hb5.frozen LT1.out).trans Z1.out; have HQ5 := Lib.hid hq1; clear hq1))
        all_goals
          have HG5 := Lib.hid (HFIN.out w5 pg hb5 hq2)
          have HV5 := Lib.hid (HV3.out pg HQ5.out)
          go_wp2_with fail
          go_roundw
          case rel => exact ⟨n + 1, _, by omega, by go_num, HG5, HV5, HPK2⟩
          case measure => simp [intOf]; omega
    · obtain rfl : n = ps.length := by omega
      have hlen := HLN.out.1
      have HV0 : Hid (M.view = D.chip (B * P) 0) := Lib.hid (by rw [HV.out, HL.out.1])
      have HPK0 : Hid (∀ j, j < B * P → D.pageOk j) := Lib.hid (fun j hj => HPK.out j (by rw [HL.out.1]; exact hj))
      have c3 : wr.cell? ⟨k, 3, none⟩ = some (.slice (some ⟨M.kb, 0, none⟩) M.bs.length M.kc) := HM.out.at_.chip.cell 3
      rw [hlen] at c3
      clear HV HPK HP1 HLN hlen hlt hn
      go_wp2_with fail
      clear c3
      go_loopw [99] (fun v wr => ∃ (m : Nat) (M : ChM), m ≤ B ∧ v = vi m ∧ Hid (MadeAt base w1 k M wr) ∧ Hid (M.view = D.chip (B * P) m) ∧ Hid (∀ j, j < m → D.wearOk j)) (fun v _ => B - (intOf v).toNat)
      case atStart => exact ⟨0, M, Nat.zero_le _, rfl, HM, HV0, Lib.hid (fun j hj => absurd hj (Nat.not_lt_zero j))⟩
      case round =>
        clear HM HV0
        obtain ⟨m, M, hm, rfl, HM, HV, HWK⟩ := hrel
        have HLN : Hid (M.bs.length = B) := Lib.hid (by have := (chip_lens HV.out).1; rw [← HD.out] at this; exact this)
        by_cases hlt : m < B
        · obtain ⟨wg, wo, rfl, hx1⟩ := HW1.out.lookup (i := m) (by rw [HL.out.2.2]; exact hlt)
          obtain ⟨bg, bo, rfl, hy1⟩ := HBO1.out.lookup (i := m) (by rw [HL.out.2.1]; exact hlt)
          have hwo : Hid (D.wear.getD m 0 = wl.getD m 0 ∧ D.bad.getD m false = bl.getD m false) := Lib.hid (by rw [← HD.out]; exact ⟨rfl, rfl⟩)
          have hx := cell_below hx1 HM.out.below
          have hy := cell_below hy1 HM.out.below
          have hbg0 : bg < w1.heap.size := cell_lt hy1
          have hwg0 : wg < w1.heap.size := cell_lt hx1
          generalize wl.getD m 0 = x at *
          generalize bl.getD m false = y at *
          clear hx1 hy1
          have hq0 : (0 : Int) ≤ (m : Int) := by omega
          have hq1 : (m : Int) < (wl.length : Int) := by have := HL.out; omega
          have hq2 : (m : Int) < (bl.length : Int) := by have := HL.out; omega
          by_cases hx0 : 0 ≤ x
          case neg =>
            have hxd : decide (x < 0) = true := by simp; omega
            have HN : Hid (¬ D.fine) := Lib.hid (fun h => hx0 (by have := (h.wears m (by rw [← HD.out]; exact hlt)).1; rw [hwo.out.1] at this; exact this))
            go_wp2_with fail
            go_ret2
            exact .no HN.out (HB1.out.trans (HM.out.below.mono HB1.out.size))
          have hxd : decide (x < 0) = false := by simp; omega
          by_cases hx9 : x ≤ 1099511627776
          case neg =>
            have hxe : decide (1099511627776 < x) = true := by simp; omega
            have HN : Hid (¬ D.fine) := Lib.hid (fun h => hx9 (by have := (h.wears m (by rw [← HD.out]; exact hlt)).2; rw [hwo.out.1] at this; exact this))
            go_wp2_with fail
            go_ret2
            exact .no HN.out (HB1.out.trans (HM.out.below.mono HB1.out.size))
          have hxe : decide (1099511627776 < x) = false := by simp; omega
          have HWK2 : Hid (∀ j, j < m + 1 → D.wearOk j) := Lib.hid (fun j hj => by
            by_cases e : j = m
            · subst e; unfold LoadIn.wearOk; rw [hwo.out.1]; exact ⟨hx0, hx9⟩
            · exact HWK.out j (by omega))
          have hib : m < M.bs.length := by rw [HLN.out]; exact hlt
          have hi1 : (m : Int) < (M.bs.length : Int) := by omega
          have c3 : wr.cell? ⟨k, 3, none⟩ = some (.slice (some ⟨M.kb, 0, none⟩) M.bs.length M.kc) := HM.out.at_.chip.cell 3
          have d3 : wr.cell? ⟨M.kb, m * 5 + 3, none⟩ = some (.bool (M.bs.getD m default).bad) := HM.out.at_.bcell hib (j := 3) (by decide)
          have d4 : wr.cell? ⟨M.kb, m * 5 + 4, none⟩ = some (vi (M.bs.getD m default).wear) := HM.out.at_.bcell hib (j := 4) (by decide)
          have z3 := HM.out.at_.blocks.frozen (m * 5 + 3)
          have z4 := HM.out.at_.blocks.frozen (m * 5 + 4)
          have HM2 : Hid (MadeAt base w1 k (loadM M m y x) (((wr.setCell ⟨M.kb, m * 5 + 3, none⟩ (.bool y)).setCell ⟨M.kb, m * 5 + 4, none⟩ (vi x)).drew)) := Lib.hid (by
            have h1 := HM.out.goes (loadM_goes HM.out.at_ hib y x)
            exact h1.goes (Goes.of_old h1.at_ (Below.refl _ _).drew))
          have HV2 : Hid ((loadM M m y x).view = D.chip (B * P) (m + 1)) := Lib.hid (by
            rw [loadM_view hib, HV.out, LoadIn.mark_step (by rw [← HD.out]; exact hlt), hwo.out.1, hwo.out.2])
          generalize (M.bs.getD m default).bad = ob at *
          generalize (M.bs.getD m default).wear = ow at *
          go_upto_region 18 with fail
          have HDD : Hid (wr.drew.cell? ⟨k, 3, none⟩ = some (.slice (some ⟨M.kb, 0, none⟩) M.bs.length M.kc) ∧ wr.drew.cell? ⟨bg, bo + m, none⟩ = some (.bool y) ∧ wr.drew.cell? ⟨wg, wo + m, none⟩ = some (vi x)) := Lib.hid ⟨c3, hy, hx⟩
          have n1 : Hid ((⟨M.kb, m * 5 + 3, none⟩ : Addr) ≠ ⟨k, 3, none⟩) := Lib.hid (fun e => HM.out.at_.kb_ne (by injection e))
          have n2 : Hid ((⟨M.kb, m * 5 + 4, none⟩ : Addr) ≠ ⟨k, 3, none⟩) := Lib.hid (fun e => HM.out.at_.kb_ne (by injection e))
          have hkb1 : w1.heap.size ≤ M.kb := HM.out.own _ (.inr (.inl rfl))
          have n3 : Hid (∀ j, (⟨M.kb, m * 5 + j, none⟩ : Addr) ≠ ⟨bg, bo + m, none⟩) := Lib.hid (fun j e => by injection e with e; omega)
          have n4 : Hid (∀ j, (⟨M.kb, m * 5 + j, none⟩ : Addr) ≠ ⟨wg, wo + m, none⟩) := Lib.hid (fun j e => by injection e with e; omega)
          have n5 : Hid ((⟨M.kb, m * 5 + 3, none⟩ : Addr) ≠ ⟨M.kb, m * 5 + 4, none⟩) := Lib.hid (fun e => by injection e with _ e; omega)
          have s4 : (wr.drew.setCell ⟨M.kb, m * 5 + 3, none⟩ (.bool y)).cell? ⟨M.kb, m * 5 + 4, none⟩ = some (vi ow) := (World.cell?_setCell_other _ _ _ _ n5.out).trans d4
          clear hkb1 hbg0 hwg0 c3 hx hy
          go_region_held3 (fun w' => w'.cell? ⟨k, 3, none⟩ = some (.slice (some ⟨M.kb, 0, none⟩) M.bs.length M.kc) ∧ w'.cell? ⟨bg, bo + m, none⟩ = some (.bool y) ∧ w'.cell? ⟨wg, wo + m, none⟩ = some (vi x))
            (first
              | exact HDD.out
              | exact ⟨(World.cell?_setCell_other _ _ _ _ n1.out).trans HDD.out.1, (World.cell?_setCell_other _ _ _ _ (n3.out _)).trans HDD.out.2.1, (World.cell?_setCell_other _ _ _ _ (n4.out _)).trans HDD.out.2.2⟩
              | exact ⟨(World.cell?_setCell_other _ _ _ _ n2.out).trans ((World.cell?_setCell_other _ _ _ _ n1.out).trans HDD.out.1), (World.cell?_setCell_other _ _ _ _ (n3.out _)).trans ((World.cell?_setCell_other _ _ _ _ (n3.out _)).trans HDD.out.2.1), (World.cell?_setCell_other _ _ _ _ (n4.out _)).trans ((World.cell?_setCell_other _ _ _ _ (n4.out _)).trans HDD.out.2.2)⟩)
            (fail)
          all_goals
            go_wp2_with fail
            go_roundw
            case rel => exact ⟨m + 1, _, by omega, by go_num, HM2, HV2, HWK2⟩
            case measure => simp [intOf]; omega
        · obtain rfl : m = B := by omega
          have HF : Hid D.fine := Lib.hid (by
            have h0 := HL.out
            rw [← HD.out] at HPK0 HWK ⊢
            exact ⟨HRT.out, by show (ps.map _).length = m * P; rw [List.length_map]; exact h0.1, h0.2.1, h0.2.2, fun i hi => HPK0.out i hi, fun i hi => HWK.out i hi⟩)
          have HV2 : Hid (M.view = D.chip (D.B * D.P) D.B) := Lib.hid (by
            rw [HV.out]
            conv => rhs; rw [← HD.out]
            rw [← HD.out])
          go_wp2_with fail
          go_ret2
          exact .yes HF.out (HM.out.more HB1.out) HV2.out
end

end Go.Proofs.Ytpggkehfbhffbaa
