/-
  The reference's reader of operations. Conditions: fewer than 900000 bytes.
-/
import Derived.Test.YtneoeekhinlhgaaGreatHQ
namespace Go.Proofs.YtneoeekhinlhgaaGreat
open Go.RowKit

/-- A row of the reference's operations, of the call's own. -/
def ROwn (w : World) (base : Nat) (v : Value) (es : List OpE) : Prop := w.ownsRow base 48 7 v es.length (opCells es)
theorem ROwn.nil (w : World) (base : Nat) : ROwn w base (.slice none 0 0) [] := World.ownsRow_nil _ _ _ _
theorem ROwn.row {w : World} {base : Nat} {v : Value} {es : List OpE} (h : ROwn w base v es) (hb : ∀ e ∈ es, BRow w e.s e.o.bytes) (hf : ∀ e ∈ es, e.o.fits) (hl : ∀ e ∈ es, e.lens) : ∃ a c, v = .slice a es.length c ∧ ORow w a es := by
  have h' := h
  rcases h'.2 with ⟨rfl, h0⟩ | ⟨g, cap, cur, rfl, _, _, hnc, _⟩
  · have : es = [] := List.eq_nil_of_length_eq_zero h0
    subst this
    exact ⟨none, 0, rfl, .inl rfl, hb, hf, hl⟩
  · refine ⟨_, cap, rfl, .inr ⟨g, 0, rfl, fun i hi j u hu => ?_⟩, hb, hf, hl⟩
    have hj : j < 7 := by
      have := (Array.getElem?_eq_some_iff.1 hu).1
      simpa using this
    rw [Nat.zero_add, World.ownsRow.cellAt h (i * 7 + j) (by omega)]
    exact opCells_get es i j u hi hu
theorem ROwn.old {w w' : World} {base : Nat} {v : Value} {es : List OpE} (h : ROwn w base v es) (hb : Below w.heap.size w w') : ROwn w' base v es :=
  World.ownsRow.kept h (row := none) ⟨hb.os, hb.tape, hb.output, hb.size, fun k hk _ => hb.block k hk⟩ (by
    cases hv : v.ownBlock
    · exact .inl rfl
    · exact .inr (by simp))
theorem ROwn.form {w : World} {base : Nat} {v : Value} {es : List OpE} (h : ROwn w base v es) : ∃ a c, v = .slice a es.length c := by
  rcases h.2 with ⟨rfl, h0⟩ | ⟨g, cap, cur, rfl, _⟩
  · exact ⟨none, 0, by rw [h0]⟩
  · exact ⟨_, _, rfl⟩
theorem rop_info : (Tryz.prog.info? 48).map (fun i => (i.zero, i.size, i.bytes)) = some (some (.agg #[vi 0, .string (bs []), .string (bs []), vi 0, vi 0, vi 0, .slice none 0 0]), 7, 88) := by kernel_rfl
theorem append_rop {w : World} {base : Nat} {v : Value} {es : List OpE} (hown : ROwn w base v es) (e : OpE) {H : Nat} (hH : w.heap.size = H) (hn : es.length + 1 ≤ 1000000) (hb : base ≤ w.heap.size) :
    ∃ v' w', (Builtin.append_ #[22, 22] 22 #[v, .slice (some ⟨H, 0, none⟩) 1 1]).run Tryz.prog (w.alloc (.cells e.cs 48)) = .ok v' w' ∧ ROwn w' base v' (es ++ [e]) ∧ Below base w w' ∧ (w.alloc (.cells e.cs 48)).grownBy w' v.ownBlock := by
  subst hH
  obtain ⟨i0, hi, hz0, hz1, hz2⟩ := info_parts rop_info
  have hown' := hown.old ((Below.refl _ w).alloc (Nat.le_refl _) (.cells e.cs 48))
  obtain ⟨v', w', h1, h2, h3, _⟩ := run_append_own_at (P := Tryz.prog) (w.alloc (.cells e.cs 48)) base 22 22 48 i0 _ 7 88 Tryz.underlying22 hi hz0 hz1 hz2 rfl (by omega) v es.length (opCells es) hown'
    ⟨w.heap.size, 0, none⟩ 1 1 (opCells [e]) rfl (fun j u hu => by
      rw [add_plain, Nat.zero_add, (Blk.new w 48 e.cs).cell]
      simpa [opCells] using hu) (by intro u hu; simp [opCells] at hu; rcases hu with rfl | rfl | rfl | rfl | rfl | rfl | rfl <;> rfl)
      (by unfold maxLen; omega) (by omega) (by simp; omega)
  refine ⟨v', w', h1, ?_, (((Below.refl base w).alloc hb _).grown h3 (by simp; omega) (fun k hk => (hown'.lt k hk).1)), h3⟩
  unfold ROwn
  rw [List.length_append, opCells_append]
  exact h2

theorem decAll_len : ∀ (k : Nat) (b : List Nat) (os : List HP.HOp) (r : List Nat), HP.decAll k b = some (os, r) → os.length = k := by
  intro k
  induction k with
  | zero => intro b os r h; simp only [HP.decAll, Option.some.injEq, Prod.mk.injEq] at h; rw [← h.1]; rfl
  | succ k ih =>
    intro b os r h
    rw [HP.decAll] at h
    split at h
    · cases h
    · split at h
      · rw [Option.map_eq_some_iff] at h
        obtain ⟨⟨os', r2⟩, h1, h2⟩ := h
        simp only [Prod.mk.injEq] at h2
        obtain ⟨rfl, rfl⟩ := h2
        simp [ih _ _ _ h1]
      · cases h

/-- What holds at the head of the loop. -/
structure RRL (w : World) (bd : List Nat) (k p : Nat) (es : List OpE) (v : Value) (wr : World) : Prop where
  own : ROwn wr w.heap.size v es
  below : Below w.heap.size w wr
  rows : ∀ e ∈ es, BRow w e.s e.o.bytes
  say : HP.decAll k (bd.drop 8) = some (opsOf es, bd.drop p)
theorem RRL.orow {w wr : World} {bd : List Nat} {k p : Nat} {es : List OpE} {v : Value} (h : RRL w bd k p es v wr) (hs : ∀ x ∈ bd, x < 256) (hl : bd.length ≤ 900000) : ∃ a c, v = .slice a es.length c ∧ ORow wr a es := by
  obtain ⟨h1, _, _, h4⟩ := HP.decAll_some (fun x hx => hs x (List.mem_of_mem_drop hx)) h.say
  have hf : ∀ e ∈ es, e.o.fits := fun e he => h4 _ (List.mem_map_of_mem he)
  have hln : ∀ e ∈ es, e.lens := by
    intro e he
    have hle : (HP.enc e.o).length ≤ ((opsOf es).flatMap HP.enc).length := by
      have : ∀ (os : List HP.HOp), e.o ∈ os → (HP.enc e.o).length ≤ (os.flatMap HP.enc).length := by
        intro os
        induction os with
        | nil => intro h; cases h
        | cons x os ih =>
          intro h
          rw [List.flatMap_cons, List.length_append]
          rcases List.mem_cons.1 h with h | h
          · rw [h]; omega
          · have := ih h; omega
      exact this _ (List.mem_map_of_mem he)
    have h5 := congrArg List.length h1
    rw [List.length_append, List.length_drop] at h5
    have h6 := HP.enc_length e.o
    exact ⟨by omega, by omega, by omega⟩
  exact h.own.row (fun e he => (h.rows e he).below h.below) hf hln

theorem BRow.drewN {w : World} {a : Option Addr} {l : List Nat} (h : BRow w a l) (n : Nat) : BRow (w.drewN n) a l := ⟨h.small, h.at_⟩

set_option maxRecDepth 100000 in
set_option maxHeartbeats 4000000 in
theorem RRead_short (a : Option Addr) (l : List Nat) (c : Nat) (w : World) (hl : l.length < 12) :
    Calls Tryz.prog 16 #[.slice a l.length c] w (ReadPost l w) := by
  have hr := Lib.hid (show HP.readL l = ([], 21) by rw [HP.readL, if_neg (by omega), if_pos hl])
  have h8 : (l.length : Int) - 4 < 8 := by omega
  have h8' : decide ((l.length : Int) - 4 < 8) = true := by simp; omega
  go_enter Tryz.func16, Tryz.ntmps16
  go_wp2_with fail
  go_quiet (fail)
  go_wp2_with fail
  go_ret2
  exact ReadPost.no hr.out (below_drewN (Below.refl _ _) _)

set_option maxRecDepth 100000 in
set_option maxHeartbeats 4000000 in
theorem RRead_any (a : Option Addr) (l : List Nat) (c : Nat) (w : World) (h : BRow w a l) (h12 : 12 ≤ l.length) (hl : l.length ≤ 900000) (hc : l.length ≤ c) (hm : c ≤ maxLen) :
    Calls Tryz.prog 16 #[.slice a l.length c] w (ReadPost l w) := by
  have H := Lib.hid h
  have HM := Lib.hid hm
  have hm' : c ≤ 9223372036854775807 := by unfold maxLen at hm; omega
  clear h hm
  obtain ⟨b0, o0, rfl, -, -⟩ := H.out.lookup (k := 0) (by omega)
  have NF : Hid (∀ W', BRow W' (some ⟨b0, o0, none⟩) l → Calls Tryz.prog 34 #[.slice (some ⟨b0, o0 + (l.length - 4), none⟩) (l.length - (l.length - 4)) (c - (l.length - 4))] W' fun e w' => e = .returned (vq (HP.num (l.drop (l.length - 4)))) ∧ w' = W') := Lib.hid fun W' hW => by
    have := Num_any _ _ (c - (l.length - 4)) W' (hW.drop (l.length - 4)) (by rw [List.length_drop]; omega)
    rw [List.length_drop] at this
    exact this
  have SF : Hid (∀ W', BRow W' (some ⟨b0, o0, none⟩) l → Calls Tryz.prog 14 #[.slice (some ⟨b0, o0, none⟩) (l.length - 4) c] W' fun e w' => e = .returned (vw (HP.sum (l.take (l.length - 4)))) ∧ w' = W') := Lib.hid fun W' hW => by
    have := RSum_any _ _ c W' (hW.take (l.length - 4)) (by rw [List.length_take]; omega)
    rw [List.length_take, show min (l.length - 4) l.length = l.length - 4 by omega] at this
    exact this
  have MF : Hid (∀ W', BRow W' (some ⟨b0, o0, none⟩) l → Calls Tryz.prog 34 #[.slice (some ⟨b0, o0 + 4, none⟩) 4 (c - 4)] W' fun e w' => e = .returned (vq (HP.num ((l.drop 4).take 4))) ∧ w' = W') := Lib.hid fun W' hW => by
    have := Num_any _ _ (c - 4) W' ((hW.drop 4).take 4) (by rw [List.length_take, List.length_drop]; omega)
    rw [List.length_take, List.length_drop, show min 4 (l.length - 4) = 4 by omega] at this
    exact this
  have hnl : HP.num ((l.drop 4).take 4) < 4294967296 := by
    have := HP.num_lt ((l.drop 4).take 4) (fun x hx => H.out.small x (List.mem_of_mem_drop (List.mem_of_mem_take hx)))
    rw [List.length_take, List.length_drop, show min 4 (l.length - 4) = 4 by omega] at this
    exact this
  have hsl := HP.sum_lt (l.take (l.length - 4))
  have HRL := Lib.hid (readL_of h12 hl)
  have hx4 : (l.take 4).length = 4 := by rw [List.length_take]; omega
  have htx := fun (W : World) (hW : BRow W (some ⟨b0, o0, none⟩) l) => run_text (hW.take 4) c
  rw [hx4] at htx
  have HTX := Lib.hid htx
  have hgx := bs_head (x := l.take 4) (fun x hx => H.out.small x (List.mem_of_mem_take hx))
  have HH := Lib.hid (show headOk l = ((l.take 4 == [72, 73, 83, 84]) && decide (HP.num ((l.drop 4).take 4) ≤ 4096)) from rfl)
  have HGX := Lib.hid hgx
  have BD : Hid (BRow w (some ⟨b0, o0, none⟩) (l.take (l.length - 4))) := Lib.hid (H.out.take (l.length - 4))
  have BDL := Lib.hid (show (l.take (l.length - 4)).length = l.length - 4 by rw [List.length_take]; omega)
  clear hx4 htx hgx
  generalize l.take (l.length - 4) = bd at *
  generalize l.take 4 = x at *
  generalize HP.num (l.drop (l.length - 4)) = y at *
  generalize HP.sum bd = z at *
  generalize HP.num ((l.drop 4).take 4) = many at *
  generalize headOk l = ho at *
  generalize hm0 : l.length = m at *
  have HM0 := Lib.hid hm0
  clear hm0
  have h8 : ¬ (m : Int) - 4 < 8 := by omega
  have h8' : decide ((m : Int) - 4 < 8) = false := by simp; omega
  have hnc : ¬ c = m - 4 := by omega
  have HSL := Lib.hid hsl
  have HNL := Lib.hid hnl
  clear hsl hnl
  by_cases hsum : y = z
  · subst hsum
    have hr1 := HRL.out
    rw [if_neg (by simp)] at hr1
    have HR1 := Lib.hid hr1
    clear hr1 HRL
    go_enter Tryz.func16, Tryz.ntmps16
    go_wp2_with fail
    have hw64 : IntKind.u64.wrap (y : Int) = (y : Int) := by rw [IntKind.wrap_u64]; have := HSL.out; omega
    have hcmp : ((y : Int) != (y : Int)) = false := by simp
    have i1 : (0 : Int) ≤ (m : Int) - 4 := by omega
    have i2 : (m : Int) - 4 ≤ (m : Int) := by omega
    have i3 : (m : Int) - 4 ≤ (c : Int) := by omega
    have i4 : (m : Int) ≤ (c : Int) := by omega
    have i5 : ((m : Int) - 4).toNat = m - 4 := by omega
    go_quiet ((first | (go_at_call 34; exact Calls.quiet_of_same (NF.out _ (H.out.drewN _))) | (go_at_call 14; exact Calls.quiet_of_same (SF.out _ (H.out.drewN _)))))
    go_wp2_with fail
    refine (MF.out _ (H.out.drewN _)).mono ?_
    rintro e w1 ⟨rfl, rfl⟩
    clear hcmp hw64
    have htx : ∀ q, (convert 25 9 (.slice (some ⟨b0, o0, none⟩) 4 c)).run Tryz.prog (w.drewN q) = .ok (.string (bs x)) (w.drewN q) := fun q => HTX.out _ (H.out.drewN q)
    have hgx := HGX.out
    generalize hgb : (x == [72, 73, 83, 84]) = gb at *
    have HGB := Lib.hid hgb
    clear hgb
    cases gb
    · have hno : HP.readL l = ([], 50) := by
        rw [HR1.out, if_neg]
        rw [HH.out]
        simp
      have HNO := Lib.hid hno
      clear hno
      go_wp2_with fail
      go_ret2
      exact ReadPost.no HNO.out (below_drewN (Below.refl _ _) _)
    · by_cases hmn : many ≤ 4096
      · have hr2 := HR1.out
        rw [if_pos (by rw [HH.out]; simp; exact hmn)] at hr2
        have HR2 := Lib.hid hr2
        have R0 : ∀ q, RRL w bd 0 8 [] (.slice none 0 0) (w.drewN q) := fun q => ⟨ROwn.nil _ _, below_drewN (Below.refl _ _) _, by simp, rfl⟩
        have HR0 := Lib.hid R0
        have OPF : Hid (∀ (p : Nat) W', BRow W' (some ⟨b0, o0, none⟩) bd → p ≤ m - 4 → Calls Tryz.prog 35 #[.slice (some ⟨b0, o0, none⟩) (m - 4) c, vi p] W' (ROpPost (some ⟨b0, o0, none⟩) bd p W')) := Lib.hid fun p W' hW hp => by
          have hbd := BDL.out
          have := rop_any (some ⟨b0, o0, none⟩) bd c p W' hW (by omega) (by omega) HM.out (by omega)
          rw [hbd] at this
          exact this
        have HSM := Lib.hid BD.out.small
        clear hr2 R0 HR1 HH
        go_wp2_with fail
        clear htx hgx
        go_loopw [6, 7, 8] (fun lv av kv wr => ∃ (k p : Nat) (es : List OpE) (v : Value), v = lv ∧ kv = vq k ∧ av = vi p ∧ k ≤ many ∧ p ≤ m - 4 ∧ Hid (RRL w bd k p es v wr)) (fun _ _ kv _ => many - (intOf kv).toNat)
        case atStart => exact ⟨0, 8, [], _, rfl, rfl, rfl, Nat.zero_le _, by omega, Lib.hid (HR0.out _)⟩
        case round =>
          obtain ⟨k, p, es, v, rfl, rfl, rfl, hk, hp, hL⟩ := hrel
          by_cases hlt : k < many
          · go_wp2_with fail
            refine (OPF.out p _ (BD.out.below hL.out.below) hp).mono ?_
            rintro e w2 ⟨hb2, ⟨⟨xk, xp, xq, xh, xn, xf, xb⟩, xs, xc⟩, m', rfl, hpost⟩
            have HB2 := Lib.hid (hL.out.below.trans (hb2.mono hL.out.below.size))
            have HO2 := Lib.hid (hL.out.own.old hb2)
            have hsay := hL.out.say
            have hno : HP.decAll (k + 1) (bd.drop 8) = none → HP.readL l = ([], 50) := fun h => by
              rw [HR2.out, decAll_none h (by omega)]
            have hsn := decAll_snoc k (bd.drop 8)
            rw [hsay] at hsn
            dsimp only at hsn
            have hlen : es.length ≤ 4096 := by
              have := decAll_len _ _ _ _ hsay
              simp [opsOf] at this
              omega
            have HROWS := Lib.hid hL.out.rows
            have HNO := Lib.hid hno
            clear hb2 hL hsay hno
            cases hd : HP.dec (bd.drop p) with
            | none =>
              rw [hd] at hpost hsn
              dsimp only at hpost hsn
              subst hpost
              have HF := Lib.hid (HNO.out hsn)
              clear hsn hd
              go_wp2_with fail
              go_ret2
              exact ReadPost.no HF.out (HB2.out.alloc HB2.out.size _)
            | some y =>
              obtain ⟨o, r⟩ := y
              rw [hd] at hpost hsn
              dsimp only at hpost hsn
              cases hrb : HP.rightB o
              · rw [hrb] at hpost hsn
                simp only [Bool.false_eq_true, if_false] at hpost hsn
                subst hpost
                have HF := Lib.hid (HNO.out hsn)
                clear hsn hd hrb
                go_wp2_with fail
                go_ret2
                exact ReadPost.no HF.out (HB2.out.alloc HB2.out.size _)
              · rw [hrb] at hpost hsn
                simp only [if_true] at hpost hsn
                obtain ⟨p', rfl, rfl, hrw, hxl, hp1, hp2, rfl⟩ := hpost
                have HRW := Lib.hid (hrw _ BD.out)
                have hp3 : p' ≤ m - 4 := by have := BDL.out; omega
                have HSN := Lib.hid hsn
                clear hsn hd hrb hrw
                generalize hcs : (⟨⟨xk, xp, xq, xh, xn, xf, xb⟩, xs, xc⟩ : OpE) = x0 at *
                have hw3 : Blk (w2.alloc (.cells x0.cs 48)) w2.heap.size 48 x0.cs := Blk.new _ _ _
                obtain ⟨v4, w4, hrun4, ho4, hb4, -⟩ := append_rop (HO2.out.old ((Below.refl _ w2).alloc (Nat.le_refl _) (.cells x0.cs 48))) x0 (H := w2.heap.size + 1) (by simp) (by omega) (by simp; have := HB2.out.size; omega)
                have R4 : AppRun 22 22 22 v (.slice (some ⟨w2.heap.size + 1, 0, none⟩) 1 1) ((w2.alloc (.cells x0.cs 48)).alloc (.cells x0.cs 48)) v4 w4 := ⟨hrun4⟩
                have HB4 := Lib.hid ((HB2.out.alloc HB2.out.size (.cells x0.cs 48)).trans hb4)
                have HO4 := Lib.hid ho4
                obtain ⟨av, cv, hv⟩ := HO2.out.form
                obtain ⟨av4, cv4, hv4⟩ := ho4.form
                clear hrun4 ho4 hb4 hw3
                subst hcs
                subst hv hv4
                go_wp2_with (at_builtin; refine wpList_append_run rfl (.tmp 57) (.tmp 59) rfl rfl rfl R4.run ?_)
                go_roundw
                case rel => exact ⟨k + 1, p', es ++ [⟨⟨xk, xp, xq, xh, xn, xf, xb⟩, xs, xc⟩], _, rfl, by go_num, rfl, by omega, hp3, Lib.hid ⟨by have := HO4.out; rw [List.length_append] at this; exact this, HB4.out, fun e he => by
                  rcases List.mem_append.1 he with he | he
                  · exact HROWS.out e he
                  · rw [List.mem_singleton] at he
                    subst he
                    exact HRW.out, by rw [HSN.out]; simp [opsOf]⟩⟩
                case measure => simp [intOf]; omega
          · obtain rfl : k = many := by omega
            obtain ⟨av, cv, rfl, hrow⟩ := hL.out.orow HSM.out (by have := BDL.out; omega)
            have hr := HR2.out
            rw [hL.out.say] at hr
            have HROW := Lib.hid hrow
            have HB := Lib.hid hL.out.below
            clear hrow hL
            by_cases hpm : p = m - 4
            · have hz : bd.drop p = [] := List.drop_eq_nil_of_le (by have := BDL.out; omega)
              rw [hz] at hr
              have HF := Lib.hid hr
              have hpi : ((p : Int) != (m : Int) - 4) = false := by simp; omega
              clear hr hz hpm
              go_wp2_with fail
              go_ret2
              exact ⟨es, av, cv, by rw [HF.out]; rfl, HROW.out, by rw [HF.out], HB.out⟩
            · have HF : Hid (HP.readL l = ([], 50)) := Lib.hid (by
                rw [hr]
                cases hz : bd.drop p with
                | nil =>
                  have := congrArg List.length hz
                  rw [List.length_drop, BDL.out] at this
                  simp at this
                  omega
                | cons a b => rfl)
              have hpi : ((p : Int) != (m : Int) - 4) = true := by simp; omega
              clear hr hpm
              go_wp2_with fail
              go_ret2
              exact ReadPost.no HF.out HB.out
      · have hno : HP.readL l = ([], 50) := by
          rw [HR1.out, if_neg]
          rw [HH.out]
          simp
          omega
        have HNO := Lib.hid hno
        clear hno
        go_wp2_with fail
        go_ret2
        exact ReadPost.no HNO.out (below_drewN (Below.refl _ _) _)
  · have hr1 := HRL.out
    rw [if_pos hsum] at hr1
    have HR1 := Lib.hid hr1
    clear hr1 HRL
    go_enter Tryz.func16, Tryz.ntmps16
    go_wp2_with fail
    have hw64 : IntKind.u64.wrap (z : Int) = (z : Int) := by rw [IntKind.wrap_u64]; have := HSL.out; omega
    have hcmp : ((y : Int) != (z : Int)) = true := by simp; omega
    have i1 : (0 : Int) ≤ (m : Int) - 4 := by omega
    have i2 : (m : Int) - 4 ≤ (m : Int) := by omega
    have i3 : (m : Int) - 4 ≤ (c : Int) := by omega
    have i4 : (m : Int) ≤ (c : Int) := by omega
    have i5 : ((m : Int) - 4).toNat = m - 4 := by omega
    go_quiet ((first | (go_at_call 34; exact Calls.quiet_of_same (NF.out _ (H.out.drewN _))) | (go_at_call 14; exact Calls.quiet_of_same (SF.out _ (H.out.drewN _)))))
    go_wp2_with fail
    go_ret2
    exact ReadPost.no HR1.out (below_drewN (Below.refl _ _) _)

theorem RRead_all (a : Option Addr) (l : List Nat) (c : Nat) (w : World) (h : BRow w a l) (hl : l.length ≤ 900000) (hc : l.length ≤ c) (hm : c ≤ maxLen) :
    Calls Tryz.prog 16 #[.slice a l.length c] w (ReadPost l w) := by
  by_cases h12 : 12 ≤ l.length
  · exact RRead_any a l c w h h12 hl hc hm
  · exact RRead_short a l c w (by omega)

end Go.Proofs.YtneoeekhinlhgaaGreat
