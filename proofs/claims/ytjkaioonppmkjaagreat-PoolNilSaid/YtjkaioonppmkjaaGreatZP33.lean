/-
  Lemmas for a law's proof, put together from several texts: each part says what it shows, and its conditions.
-/
import Derived.Test.YtjkaioonppmkjaaGreatZP32
import Derived.WalkMore
/-
  What is on a chip is scanned. Conditions: a chip told by ChipAt.
-/
namespace Go.Proofs.YtjkaioonppmkjaaGreat.ft
open Go.RowKit Go.Proofs.YtjkaioonppmkjaaGreat.mgr

/-- So much was scanned. -/
structure ScSt (base : Nat) (w : World) (k : Nat) (M : ChM) (fb gb : Nat) (s : FP.Scan) (fr : List Bool) (v : Value) (wr : World) (Mj : ChM) : Prop where
  goes : Goes base w k M wr Mj
  view : Mj.view = s.c
  arr : Arr wr 4 1 fb M.B M.B (fr.map Value.bool)
  geo : Blk wr gb 38 #[vi M.B, vi M.P, vi M.S]
  own : SnOwn wr w.heap.size v s.l
  young : w.heap.size ≤ fb ∧ base ≤ w.heap.size
section
variable {base : Nat} {w w' wr : World} {k fb gb : Nat} {M Mj : ChM} {s : FP.Scan} {fr : List Bool} {v : Value}
theorem ScSt.old (h : ScSt base w k M fb gb s fr v wr Mj) (q : Below wr.heap.size wr w') : ScSt base w k M fb gb s fr v w' Mj := ⟨h.goes.old q, h.view, h.arr.old q, h.geo.old q, h.own.old q, h.young⟩
theorem ScSt.fbk (h : ScSt base w k M fb gb s fr v wr Mj) : ∃ cur, Blk wr fb 4 cur := by
  obtain ⟨cur, hb, _⟩ := h.arr.blk
  exact ⟨cur, hb⟩
theorem ScSt.own_ne (h : ScSt base w k M fb gb s fr v wr Mj) {n : Nat} {t : TypeId} {cs : Array Value} (hb : Blk wr n t cs) (ht : t ≠ 112) : v.ownBlock ≠ some n := fun e => by
  obtain ⟨_, cur, hc⟩ := h.own.blk n e
  exact ht (blk_type hc hb)
theorem ScSt.set (h : ScSt base w k M fb gb s fr v wr Mj) (j : Nat) (b : Bool) : ScSt base w k M fb gb s (fr.set j b) v (wr.setCell ⟨fb, j, none⟩ (.bool b)) Mj := by
  obtain ⟨cur, hb⟩ := h.fbk
  refine ⟨Goes_fill h.goes hb h.young.1 (Nat.le_trans h.young.2 h.young.1) (by decide) (by decide) j _, h.view, ?_, h.geo.far (p := ⟨fb, j, none⟩) (fun e => ?_) _, h.own.grown (row := some fb) (set_grown wr fb j _) (.inr (h.own_ne hb (by decide))), h.young⟩
  · have := h.arr.set j (.bool b)
    rw [← List.map_set] at this
    exact this
  · have := h.geo
    rw [e] at this
    exact absurd (blk_type hb this) (by decide)
theorem ScSt.cell (h : ScSt base w k M fb gb s fr v wr Mj) {j : Nat} (hj : j < M.B) (hl : fr.length = M.B) : wr.cell? ⟨fb, j, none⟩ = some (.bool (fr.getD j false)) ∧ wr.frozen? ⟨fb, j, none⟩ = false := by
  refine ⟨?_, h.arr.frozen j⟩
  rw [h.arr.cell (by omega), List.getElem?_map, List.getElem?_eq_getElem (by omega), List.getD_eq_getElem?_getD, List.getElem?_eq_getElem (by omega)]
  rfl
theorem ScSt.read (h : ScSt base w k M fb gb s fr v wr Mj) {M' : ChM} {c' : NP.Chp} (q : Goes base wr k Mj w' M') (hv : M'.view = c') : ScSt base w k M fb gb { s with c := c' } fr v w' M' := by
  obtain ⟨cur, hb⟩ := h.fbk
  refine ⟨h.goes.trans q, hv, h.arr.chg q.chg (ChipAt_not h.goes.at_ hb (by decide)), h.geo.chg q.chg (ChipAt_not h.goes.at_ h.geo (by decide)), ?_, h.young⟩
  rcases h.own.2 with ⟨rfl, h0⟩ | ⟨g, cap, cur2, rfl, hg, hh, hrest⟩
  · have : s.l = [] := List.eq_nil_of_length_eq_zero h0
    show SnOwn w' _ _ s.l
    rw [this]
    exact SnOwn.nil _ _
  · have hn := ChipAt_not h.goes.at_ (n := g) hh (by decide)
    have e : w'.heap[g]? = wr.heap[g]? := q.chg.block g (Blk.lt hh) hn
    refine ⟨h.own.1, .inr ⟨g, cap, cur2, rfl, hg, ?_, hrest⟩⟩
    rw [e]; exact hh
theorem ScSt.app (h : ScSt base w k M fb gb s fr v wr Mj) {v' : Value} {x : FP.Sn} (ho : SnOwn w' w.heap.size v' (s.l ++ [x])) (q : wr.grownBy w' v.ownBlock) : ScSt base w k M fb gb { s with l := s.l ++ [x] } fr v' w' Mj := by
  obtain ⟨cur, hb⟩ := h.fbk
  have qc : Chg (fun n => v.ownBlock = some n) wr w' := (Chg.refl _ wr).grown q (fun b e => .inl e)
  have hl : ∀ n, v.ownBlock = some n → Loose base wr n := fun n e => by
    obtain ⟨h1, cur, hc⟩ := h.own.blk n e
    exact Loose.blk (Nat.le_trans h.young.2 h1) hc
  refine ⟨⟨h.goes.at_.chg' qc hl (fun n e e2 => ?_), h.goes.chg.grown q (fun b e => .inr (h.own.blk b e).1), h.goes.foot⟩, h.view, h.arr.chg qc (h.own_ne hb (by decide)), h.geo.chg qc (h.own_ne h.geo (by decide)), ho, h.young⟩
  obtain ⟨_, cur, hc⟩ := h.own.blk n e2
  exact ChipAt_not h.goes.at_ hc (by decide) e
end
theorem fresh_false (l : List Bool) {n : Nat} (h : 0 < n) : (l ++ [false]) ++ List.replicate (n - 1) false = l ++ List.replicate n false := by
  obtain ⟨m, rfl⟩ : ∃ m, n = m + 1 := ⟨n - 1, by omega⟩
  rw [Nat.add_sub_cancel, List.replicate_succ, List.append_assoc]
  rfl
theorem fresh_set (l : List Bool) {n : Nat} (h : 0 < n) (b : Bool) : (l ++ List.replicate n false).set l.length b = (l ++ [b]) ++ List.replicate (n - 1) false := by
  obtain ⟨m, rfl⟩ : ∃ m, n = m + 1 := ⟨n - 1, by omega⟩
  rw [List.set_append_right _ _ (Nat.le_refl _), Nat.sub_self, List.replicate_succ, List.set_cons_zero, Nat.add_sub_cancel, List.append_assoc]
  rfl
theorem fresh_set2 (l : List Bool) (n : Nat) (a b : Bool) : ((l ++ [a]) ++ List.replicate n false).set l.length b = (l ++ [b]) ++ List.replicate n false := by
  rw [List.append_assoc, List.append_assoc, List.set_append_right _ _ (Nat.le_refl _), Nat.sub_self]
  rfl
theorem readAct_good {c : NP.Chp} (h : Good6 c) (k p : Int) : Good6 (NP.readP c k p).2 := h.act (.read k p) trivial
theorem scanPage_good {k i : Nat} {s : FP.Scan × Bool} (h : Good6 s.1.c) : Good6 (FP.scanPage k i s).1.c ∧ (FP.scanPage k i s).1.fresh = s.1.fresh ∧ (FP.scanPage k i s).1.l.length ≤ s.1.l.length + 1 := by
  have h1 := readAct_good h k i
  unfold FP.scanPage
  dsimp only
  split
  · exact ⟨h1, rfl, Nat.le_succ _⟩
  · split
    · exact ⟨h1, rfl, Nat.le_succ _⟩
    · exact ⟨h1, rfl, by simp⟩
theorem scanPages_good {k : Nat} {s : FP.Scan × Bool} (h : Good6 s.1.c) : ∀ n, Good6 (FP.scanPages k n s).1.c ∧ (FP.scanPages k n s).1.fresh = s.1.fresh ∧ (FP.scanPages k n s).1.l.length ≤ s.1.l.length + n
  | 0 => ⟨h, rfl, Nat.le_refl _⟩
  | n + 1 => by
    have h1 := scanPages_good (k := k) h n
    have h2 := scanPage_good (k := k) (i := n) h1.1
    exact ⟨h2.1, h2.2.1.trans h1.2.1, by have := h2.2.2; have := h1.2.2; unfold FP.scanPages; omega⟩
theorem scanTo_good {c : NP.Chp} (h : Good6 c) (hP : c.P ≤ 32) : ∀ n, Good6 (FP.scanTo c n).c ∧ (FP.scanTo c n).c.P = c.P ∧ (FP.scanTo c n).fresh.length = n ∧ (FP.scanTo c n).l.length ≤ 32 * n
  | 0 => ⟨h, rfl, rfl, Nat.le_refl _⟩
  | n + 1 => by
    obtain ⟨h1, h2, h3, h4⟩ := scanTo_good h hP n
    have h5 := scanPages_good (k := n) (s := (FP.scanTo c n, true)) h1 (FP.scanTo c n).c.P
    have h6 : ∀ m, (FP.scanPages n m (FP.scanTo c n, true)).1.c.P = (FP.scanTo c n).c.P := by
      intro m
      induction m with
      | zero => rfl
      | succ m ih =>
        refine Eq.trans ?_ ih
        show (FP.scanPage n m (FP.scanPages n m (FP.scanTo c n, true))).1.c.P = _
        have := (act_dims6 (FP.scanPages n m (FP.scanTo c n, true)).1.c (.read n m)).2.1
        unfold FP.scanPage
        dsimp only
        split
        · exact this
        · split <;> exact this
    show Good6 (FP.scanBlock (FP.scanTo c n) n).c ∧ (FP.scanBlock (FP.scanTo c n) n).c.P = c.P ∧ (FP.scanBlock (FP.scanTo c n) n).fresh.length = n + 1 ∧ (FP.scanBlock (FP.scanTo c n) n).l.length ≤ 32 * (n + 1)
    unfold FP.scanBlock
    split
    · exact ⟨h1, h2, by simp [h3], by dsimp only; omega⟩
    · exact ⟨h5.1, (h6 _).trans h2, by dsimp only; rw [List.length_append, h5.2.1]; simp [h3], by dsimp only; have := h5.2.2; dsimp only at this; omega⟩
section
variable {base : Nat} {w : World} {k : Nat} {M : ChM}
set_option maxRecDepth 100000 in
set_option maxHeartbeats 8000000 in
theorem scan_any (h : ChipAt base w k M) (hg : Good6 M.view) (hbase : base ≤ w.heap.size) : Calls Tryz.prog 56 #[ptr k] w fun e w' => ∃ v fb gb Mj, e = .returned (.tuple #[v, .slice (some ⟨fb, 0, none⟩) M.B M.B, .bool (FP.scan M.view).good]) ∧
    ScSt base w k M fb gb (FP.scan M.view) (FP.scan M.view).fresh v w' Mj := by
  have hdim : 8 ≤ M.B ∧ M.B ≤ 128 ∧ M.P ≤ 32 ∧ 64 ≤ M.S ∧ M.S ≤ 512 := by
    have : NP.rightB M.B M.P M.S = true := hg.ok.right
    unfold NP.rightB at this
    simp only [Bool.and_eq_true, Bool.or_eq_true, beq_iff_eq, decide_eq_true_eq] at this
    omega
  have HDIM := Lib.hid hdim
  have H := Lib.hid h
  have HG := Lib.hid hg
  have hmk := make_bools M.B (by omega)
  clear h hg
  go_enter Tryz.func56, Tryz.ntmps56
  go_wp2_with fail
  go_step3
  go_wp2_with fail
  refine (Geo_any H.out).mono ?_
  rintro e w1 ⟨rfl, hb1⟩
  have HB1 := Lib.hid hb1
  clear hb1
  go_upto_region 2 with fail
  have HB2 := Lib.hid (HB1.out.alloc HB1.out.size (.cells #[vi M.B, vi M.P, vi M.S] 38))
  have G2 := Lib.hid (Blk.new w1 38 #[vi M.B, vi M.P, vi M.S])
  generalize w1.alloc (.cells #[vi M.B, vi M.P, vi M.S] 38) = w2 at *
  generalize w1.heap.size = gb at *
  have g0 : w2.cell? ⟨gb, 0, none⟩ = some (vi M.B) := G2.out.cell 0
  go_upto_region 4 with fail
  have G3 := Lib.hid (G2.out.alloc (.cells (madeCells #[.bool false] M.B) 4))
  have HA3 := Lib.hid (arr_bools w2 M.B (by omega))
  have HB3 := Lib.hid (HB2.out.alloc HB2.out.size (.cells (madeCells #[.bool false] M.B) 4))
  have HSZ := Lib.hid HB2.out.size
  clear hmk g0 G2 HB1 HB2
  generalize w2.alloc (.cells (madeCells #[.bool false] M.B) 4) = w3 at *
  generalize w2.heap.size = fb at *
  have g0 : w3.cell? ⟨gb, 0, none⟩ = some (vi M.B) := G3.out.cell 0
  have HS0 : Hid (ScSt base w k M fb gb (FP.scanTo M.view 0) (List.replicate M.B false) (.slice none 0 0) w3 M) := Lib.hid ⟨Goes.of_old H.out HB3.out, rfl, HA3.out, G3.out, SnOwn.nil _ _, HSZ.out, hbase⟩
  go_wp2_with fail
  go_step3
  go_wp2_with fail
  go_loopw [6, 8, 23] (fun v6 v8 i wr => ∃ (kk : Nat) (Mj : ChM) (av : Option Addr) (nv cv : Nat), kk ≤ M.B ∧ i = vi kk ∧ v6 = .slice av nv cv ∧ v8 = .bool (FP.scanTo M.view kk).good ∧ Hid (ScSt base w k M fb gb (FP.scanTo M.view kk) ((FP.scanTo M.view kk).fresh ++ List.replicate (M.B - kk) false) (.slice av nv cv) wr Mj)) (fun _ _ i _ => M.B - (intOf i).toNat)
  case atStart => exact ⟨0, M, none, 0, 0, Nat.zero_le _, rfl, rfl, rfl, HS0⟩
  case round =>
    clear HS0 HA3 G3 HB3 HSZ g0
    obtain ⟨kk, Mj, av, nv, cv, hkk, rfl, rfl, rfl, hst⟩ := hrel
    by_cases hlt : kk < M.B
    · have HSG := Lib.hid (scanTo_good HG.out HDIM.out.2.2.1 kk)
      have HBK : Hid (FP.scanTo M.view (kk + 1) = FP.scanBlock (FP.scanTo M.view kk) kk) := Lib.hid rfl
      have HOK : Hid Mj.view.ok := Lib.hid (by rw [hst.out.view]; exact HSG.out.1.ok)
      have HBM := Lib.hid (bad_view Mj kk (ok_len HOK.out))
      rw [hst.out.view] at HBM
      generalize FP.scanTo M.view kk = sc at *
      go_wp2_with fail
      go_step3
      go_wp2_with fail
      refine (Bad_any hst.out.goes.at_ kk).mono ?_
      rw [HBM.out]
      rintro e w6 ⟨rfl, rfl⟩
      have HSB : Hid (FP.scanBlock sc kk = if NP.badAt sc.c kk then { sc with fresh := sc.fresh ++ [false] } else { (FP.scanPages kk sc.c.P (sc, true)).1 with fresh := (FP.scanPages kk sc.c.P (sc, true)).1.fresh ++ [(FP.scanPages kk sc.c.P (sc, true)).2] }) := Lib.hid rfl
      generalize NP.badAt sc.c kk = q at *
      cases q
      · have HSN := Lib.hid (HSB.out.trans (if_neg (by simp)))
        clear HSB
        have hcell := hst.out.cell (j := kk) hlt (by simp [HSG.out.2.2.1]; omega)
        have HS1 := Lib.hid (hst.out.set kk true)
        have hfs := fresh_set sc.fresh (n := M.B - kk) (by omega) true
        rw [HSG.out.2.2.1] at hfs
        rw [hfs] at HS1
        obtain ⟨hc1, hc2⟩ := hcell
        clear hfs hst
        go_upto_region 10 with fail
        clear hc1 hc2
        generalize w6.setCell ⟨fb, kk, none⟩ (.bool true) = w7 at *
        have g1 : w7.cell? ⟨gb, 1, none⟩ = some (vi M.P) := HS1.out.geo.cell 1
        go_wp2_with fail
        go_step3
        go_wp2_with fail
        go_loopw [6, 8, 34] (fun v6 v8 v34 wx => ∃ (i : Nat) (Mi : ChM) (av : Option Addr) (nv cv : Nat), i ≤ M.P ∧ v34 = vi i ∧ v6 = .slice av nv cv ∧ v8 = .bool (FP.scanPages kk i (sc, true)).1.good ∧ Hid (ScSt base w k M fb gb (FP.scanPages kk i (sc, true)).1 ((sc.fresh ++ [(FP.scanPages kk i (sc, true)).2]) ++ List.replicate (M.B - kk - 1) false) (.slice av nv cv) wx Mi)) (fun _ _ i _ => M.P - (intOf i).toNat)
        case atStart => exact ⟨0, Mj, av, nv, cv, Nat.zero_le _, rfl, rfl, rfl, HS1⟩
        case round =>
          clear HS1 g1
          obtain ⟨i, Mi, av, nv, cv, hi, rfl, rfl, rfl, hst⟩ := hrel
          by_cases hli : i < M.P
          · have HPG := Lib.hid (scanPages_good (k := kk) (s := (sc, true)) HSG.out.1 i)
            have HSP : Hid (FP.scanPages kk (i + 1) (sc, true) = FP.scanPage kk i (FP.scanPages kk i (sc, true))) := Lib.hid rfl
            generalize FP.scanPages kk i (sc, true) = sp at *
            have HOKI : Hid Mi.view.ok := Lib.hid (by rw [hst.out.view]; exact HPG.out.1.ok)
            have HVI := Lib.hid hst.out.view
            go_wp2_with fail
            refine (_root_.Go.Proofs.YtjkaioonppmkjaaGreat.Read_any hst.out.goes.at_ HOKI.out kk i).mono ?_
            rw [HVI.out]
            rintro e w8 ⟨v8, M8, rfl, ho8, hg8, hv8⟩
            have HSM := Lib.hid (readP_small (c := sp.1.c) HPG.out.1.ok kk i)
            obtain ⟨a8, k8, rfl, hs8, hl8, hc8, _⟩ := ho8.srow (base := base) HSM.out
            have HR8 := Lib.hid hs8.row
            have HS8 := Lib.hid (hst.out.read hg8 hv8)
            clear hs8 ho8 hg8 hv8 hst
            go_wp2_with fail
            refine (tRead_any a8 _ k8 w8 HR8.out hl8 hc8).mono ?_
            rintro e w9 ⟨v9, rfl, ho9, hb9⟩
            have HS9 := Lib.hid (HS8.out.old hb9)
            clear ho9 hb9
            have HPD : Hid (FP.scanPage kk i sp = if (TP.read (NP.readP sp.1.c kk i).1.1).2.2 = 20 then ({ sp.1 with c := (NP.readP sp.1.c kk i).2 }, sp.2)
              else if (TP.read (NP.readP sp.1.c kk i).1.1).2.2 ≠ 0 ∨ (decide ((TP.read (NP.readP sp.1.c kk i).1.1).1.kind = 2) != decide ((TP.read (NP.readP sp.1.c kk i).1.1).1.page = 0)) = true then ({ sp.1 with c := (NP.readP sp.1.c kk i).2 }, false)
              else ({ sp.1 with c := (NP.readP sp.1.c kk i).2, good := sp.1.good && (decide ((TP.read (NP.readP sp.1.c kk i).1.1).1.seq ≤ 2305843009213693952) && decide ((TP.read (NP.readP sp.1.c kk i).1.1).1.epoch ≤ 2305843009213693952)), l := sp.1.l ++ [⟨(TP.read (NP.readP sp.1.c kk i).1.1).1, ⟨kk, i⟩⟩] }, false)) := Lib.hid rfl
            generalize hrd : NP.readP sp.1.c kk i = rd at *
            clear hrd
            obtain ⟨⟨rl, re⟩, rc⟩ := rd
            dsimp only at *
            generalize htr : TP.read rl = tr at *
            clear htr
            obtain ⟨⟨kd, pg, sq, ep⟩, pl, te⟩ := tr
            dsimp only at *
            go_upto_region 15 with fail
            have HS10 := Lib.hid (HS9.out.old ((Below.refl _ _).alloc (Nat.le_refl _) (.cells #[vi kd, vw pg, vq sq, vq ep] 96)))
            have T10 := Lib.hid (Blk.new w9 96 #[vi kd, vw pg, vq sq, vq ep])
            change Code.wp _ _ _ _ (w9.alloc (.cells #[vi kd, vw pg, vq sq, vq ep] 96))
            clear HS9 HS8 HR8 hl8 hc8
            generalize w9.alloc (.cells #[vi kd, vw pg, vq sq, vq ep] 96) = w10 at *
            generalize w9.heap.size = gt at *
            by_cases h20 : te = 20
            · have h20' : (te == 20) = true := by simp [h20]
              have HPN := Lib.hid (HSP.out.trans (HPD.out.trans (if_pos h20)))
              clear h20
              go_wp2_with fail
              go_roundw
              case rel => exact ⟨i + 1, M8, av, nv, cv, by omega, by go_num, rfl, by rw [HPN.out], by rw [HPN.out]; exact HS10⟩
              case measure => simp [intOf]; omega
            · have h20' : (te == 20) = false := by simp [h20]
              have HPD := Lib.hid (HPD.out.trans (if_neg h20))
              clear h20
              obtain ⟨hc1, hc2⟩ := HS10.out.cell (j := kk) hlt (by simp [HSG.out.2.2.1]; omega)
              have HS11 := Lib.hid (HS10.out.set kk false)
              have hfs := fresh_set2 sc.fresh (M.B - kk - 1) sp.2 false
              rw [HSG.out.2.2.1] at hfs
              rw [hfs] at HS11
              obtain ⟨cur, hbk⟩ := HS10.out.fbk
              have T11 := Lib.hid (T10.out.far (p := ⟨fb, kk, none⟩) (fun e => by
                have := T10.out
                rw [e] at this
                exact absurd (blk_type hbk this) (by decide)) (.bool false))
              clear hfs hbk HS10 T10
              go_upto_region 17 with fail
              clear hc1 hc2
              generalize w10.setCell ⟨fb, kk, none⟩ (.bool false) = w11 at *
              have t0 : w11.cell? ⟨gt, 0, none⟩ = some (vi kd) := T11.out.cell 0
              have t1 : w11.cell? ⟨gt, 1, none⟩ = some (vw pg) := T11.out.cell 1
              have t2 : w11.cell? ⟨gt, 2, none⟩ = some (vq sq) := T11.out.cell 2
              have t3 : w11.cell? ⟨gt, 3, none⟩ = some (vq ep) := T11.out.cell 3
              by_cases hbad : te ≠ 0 ∨ (decide (kd = 2) != decide (pg = 0)) = true
              · have HPN := Lib.hid (HSP.out.trans (HPD.out.trans (if_pos hbad)))
                have HRL : Hid (ScSt base w k M fb gb (FP.scanPages kk (i + 1) (sc, true)).1 ((sc.fresh ++ [(FP.scanPages kk (i + 1) (sc, true)).2]) ++ List.replicate (M.B - kk - 1) false) (.slice av nv cv) w11 M8) := Lib.hid (by rw [HPN.out]; exact HS11.out)
                have HGL : Hid ((FP.scanPages kk (i + 1) (sc, true)).1.good = sp.1.good) := Lib.hid (by rw [HPN.out])
                clear HPN HPD HSP
                by_cases h0 : te = 0
                · have h0' : (te != 0) = false := by simp [h0]
                  have hb : (decide (kd = 2) != decide (pg = 0)) = true := by
                    rcases hbad with h | h
                    · exact absurd h0 h
                    · exact h
                  clear hbad h0
                  by_cases hk : kd = 2
                  · have hk' : (kd == 2) = true := by simp [hk]
                    have hp : ¬ pg = 0 := by simpa [hk] using hb
                    have hp' : ((pg : Int) == 0) = false := by simp; omega
                    clear hb hk
                    go_wp2_with fail
                    go_roundw
                    case rel => exact ⟨i + 1, M8, av, nv, cv, by omega, by go_num, rfl, by rw [HGL.out], HRL⟩
                    case measure => simp [intOf]; omega
                  · have hk' : (kd == 2) = false := by simp [hk]
                    have hp : pg = 0 := by simpa [hk] using hb
                    have hp' : ((pg : Int) == 0) = true := by simp [hp]
                    clear hb hk
                    go_wp2_with fail
                    go_roundw
                    case rel => exact ⟨i + 1, M8, av, nv, cv, by omega, by go_num, rfl, by rw [HGL.out], HRL⟩
                    case measure => simp [intOf]; omega
                · have h0' : (te != 0) = true := by simp [h0]
                  clear hbad h0
                  go_wp2_with fail
                  go_roundw
                  case rel => exact ⟨i + 1, M8, av, nv, cv, by omega, by go_num, rfl, by rw [HGL.out], HRL⟩
                  case measure => simp [intOf]; omega
              · have HPN := Lib.hid (HSP.out.trans (HPD.out.trans (if_neg hbad)))
                have h0 : te = 0 := Classical.byContradiction (fun h => hbad (.inl h))
                have hb : (decide (kd = 2) != decide (pg = 0)) = false := by simpa [h0] using hbad
                have h0' : (te != 0) = false := by simp [h0]
                obtain ⟨bq, hk', hp'⟩ : ∃ bq : Bool, (kd == 2) = bq ∧ ((pg : Int) == 0) = bq := by
                  by_cases hk : kd = 2
                  · have hp : pg = 0 := by simpa [hk] using hb
                    exact ⟨true, by simp [hk], by simp [hp]⟩
                  · have hp : ¬ pg = 0 := by simpa [hk] using hb
                    exact ⟨false, by simp [hk], by simp [hp]⟩
                obtain ⟨v5, w5, hrun, ho5, hg5⟩ := append_seen HS11.out.own (⟨⟨kd, pg, sq, ep⟩, ⟨kk, i⟩⟩ : FP.Sn) (by have h1 := HPG.out.2.2; have h2 := HSG.out.2.2.2; have h3 := HDIM.out; dsimp only at h1 ⊢; omega) HS11.out.goes.size
                have HS12 := Lib.hid ((HS11.out.old ((Below.refl _ _).alloc (Nat.le_refl _) (.cells (snC (⟨⟨kd, pg, sq, ep⟩, ⟨kk, i⟩⟩ : FP.Sn)) 112))).app ho5 hg5)
                obtain ⟨a5, c5, hv5⟩ := ho5.form
                have RA := Lib.hid hrun
                rw [hv5] at RA HS12
                have HRL : Hid (ScSt base w k M fb gb (FP.scanPages kk (i + 1) (sc, true)).1 ((sc.fresh ++ [(FP.scanPages kk (i + 1) (sc, true)).2]) ++ List.replicate (M.B - kk - 1) false) (.slice a5 (sp.1.l ++ [(⟨⟨kd, pg, sq, ep⟩, ⟨kk, i⟩⟩ : FP.Sn)]).length c5) w5 M8) := Lib.hid (by
                  rw [HPN.out]
                  exact ⟨HS12.out.goes, HS12.out.view, HS12.out.arr, HS12.out.geo, HS12.out.own, HS12.out.young⟩)
                have HGL : Hid ((FP.scanPages kk (i + 1) (sc, true)).1.good = (sp.1.good && (decide (sq ≤ 2305843009213693952) && decide (ep ≤ 2305843009213693952)))) := Lib.hid (by rw [HPN.out])
                generalize (sp.1.l ++ [(⟨⟨kd, pg, sq, ep⟩, ⟨kk, i⟩⟩ : FP.Sn)]).length = n5 at *
                generalize sp.1.good = gd at *
                clear hbad h0 hb HPD HSP HPN hrun ho5 hg5 hv5 HS12
                cases gd
                · go_wp2_with (at_builtin; refine wpList_append_run rfl (.tmp 77) (.tmp 83) rfl rfl rfl RA.out.run ?_)
                  go_roundw
                  case rel => exact ⟨i + 1, M8, a5, n5, c5, by omega, by go_num, rfl, by rw [HGL.out]; rfl, HRL⟩
                  case measure => simp [intOf]; omega
                · go_wp2_with (at_builtin; refine wpList_append_run rfl (.tmp 77) (.tmp 83) rfl rfl rfl RA.out.run ?_)
                  all_goals
                    go_roundw
                    case rel => exact ⟨i + 1, M8, a5, n5, c5, by omega, by go_num, rfl, by rw [HGL.out]; exact congrArg Value.bool (by rw [Bool.eq_iff_iff]; simp; omega), HRL⟩
                    case measure => simp [intOf]; omega
          · obtain rfl : i = M.P := by omega
            have HPG := Lib.hid (scanPages_good (k := kk) (s := (sc, true)) HSG.out.1 M.P)
            have HPP : Hid (sc.c.P = M.P) := Lib.hid HSG.out.2.1
            have HS1 : Hid (ScSt base w k M fb gb (FP.scanTo M.view (kk + 1)) ((FP.scanTo M.view (kk + 1)).fresh ++ List.replicate (M.B - (kk + 1)) false) (.slice av nv cv) wr Mi) := Lib.hid (by
              rw [HBK.out, HSN.out, HPP.out]
              have h1 := hst.out
              rw [Nat.sub_sub] at h1
              dsimp only
              rw [HPG.out.2.1]
              exact ⟨h1.goes, h1.view, h1.arr, h1.geo, h1.own, h1.young⟩)
            have HGD : Hid ((FP.scanTo M.view (kk + 1)).good = (FP.scanPages kk M.P (sc, true)).1.good) := Lib.hid (by rw [HBK.out, HSN.out, HPP.out])
            clear hst
            generalize (FP.scanPages kk M.P (sc, true)).1.good = gg at *
            go_wp2_with fail
            go_roundw
            case rel => exact ⟨kk + 1, Mi, av, nv, cv, by omega, by go_num, rfl, by rw [HGD.out], HS1⟩
            case measure => simp [intOf]; omega
      · have HSB := Lib.hid (HSB.out.trans (if_pos rfl))
        have HS1 : Hid (ScSt base w k M fb gb (FP.scanTo M.view (kk + 1)) ((FP.scanTo M.view (kk + 1)).fresh ++ List.replicate (M.B - (kk + 1)) false) (.slice av nv cv) w6 Mj) := Lib.hid (by
          rw [HBK.out, HSB.out]
          have := fresh_false sc.fresh (n := M.B - kk) (by omega)
          rw [Nat.sub_sub] at this
          dsimp only
          rw [this]
          exact ⟨hst.out.goes, hst.out.view, hst.out.arr, hst.out.geo, hst.out.own, hst.out.young⟩)
        have HGD : Hid ((FP.scanTo M.view (kk + 1)).good = sc.good) := Lib.hid (by rw [HBK.out, HSB.out])
        clear hst
        go_wp2_with fail
        rw [Exit.noGoto_exit]
        go_wp2_with fail
        go_roundw
        case rel => exact ⟨kk + 1, Mj, av, nv, cv, by omega, by go_num, rfl, by rw [HGD.out], HS1⟩
        case measure => simp [intOf]; omega
    · obtain rfl : kk = M.B := by omega
      have HSF : Hid (ScSt base w k M fb gb (FP.scan M.view) (FP.scan M.view).fresh (.slice av nv cv) wr Mj) := Lib.hid (by
        have := hst.out
        rw [Nat.sub_self, List.replicate_zero, List.append_nil] at this
        exact this)
      have HGF : Hid ((FP.scanTo M.view M.B).good = (FP.scan M.view).good) := Lib.hid rfl
      clear hst
      generalize (FP.scanTo M.view M.B).good = gd at *
      go_wp2_with fail
      rw [Exit.noGoto_ret]
      go_ret3
      exact ⟨.slice av nv cv, fb, gb, Mj, by rw [← HGF.out]; rfl, HSF.out⟩
end
end Go.Proofs.YtjkaioonppmkjaaGreat.ft

