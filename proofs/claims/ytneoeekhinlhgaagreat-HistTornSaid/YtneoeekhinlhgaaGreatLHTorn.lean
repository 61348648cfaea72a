/-
  HistTorn: what differs within four bytes from what was written is read as torn. No conditions.
-/
import Derived.Test.YtneoeekhinlhgaaGreatHL
import Derived.Test.YtneoeekhinlhgaaGreatHOpen
import Derived.Test.YtneoeekhinlhgaaGreatRows
import Derived.StillTailTactics
namespace Go.Proofs.YtneoeekhinlhgaaGreat.histTorn
open Go.ChangeShapes Go.WideShapes Go.ChangeAt Go.RowKit Go.Deep

theorem xor_u8 (a b : Nat) (ha : a < 256) (hb : b < 256) : bits .xor .u8 (a : Int) (b : Int) = ((a ^^^ b : Nat) : Int) := u8_xor_nat a b ha hb
theorem all_snoc {l : List Nat} {k : Nat} (h : k < l.length) : (l.take (k + 1)).all (· == 0) = ((l.take k).all (· == 0) && l.getD k 0 == 0) := by
  rw [List.take_succ_eq_append_getElem h, List.all_append, List.getD_eq_getElem?_getD, List.getElem?_eq_getElem h]
  simp
theorem write_cases (l : List HP.HOp) {b : List Nat} {x : Int} (h : HP.writeL l = (b, x)) (hx : x = 0) : b.length = (HP.bodyL l).length + 4 := by
  unfold HP.writeL at h
  split at h
  · injection h with _ h; omega
  · split at h
    · injection h with h _
      rw [← h]; simp [HP.le_length]
    · injection h with _ h; omega
theorem beq_cast (y : Nat) : ((y : Int) == 0) = (y == 0) := by
  rw [Bool.eq_iff_iff]
  simp
theorem own_form {w : World} {base : Nat} {v : Value} {l : List Nat} (h : Own w base v l) (hn : 0 < l.length) : ∃ g cap, v = .slice (some ⟨g, 0, none⟩) l.length cap ∧ base ≤ g ∧ l.length ≤ cap ∧ cap ≤ maxLen := by
  rcases h.2 with ⟨_, h0⟩ | ⟨g, cap, cur, hv, hb, _, hnc, hcm, _⟩
  · omega
  · exact ⟨g, cap, hv, hb, hnc, hcm⟩
/-- A byte stored into a row of the call's own. -/
theorem own_set {w : World} {base g n c : Nat} {l : List Nat} (h : Own w base (.slice (some ⟨g, 0, none⟩) n c) l) (hn : n = l.length) (j x : Nat) :
    Own (w.setCell ⟨g, j, none⟩ (vb x)) base (.slice (some ⟨g, 0, none⟩) n c) (l.set j x) := by
  subst hn
  have := (World.ownsRow.stored h j (vb x)).1
  unfold Own bv
  rw [List.length_set, List.map_set]
  exact this

set_option maxRecDepth 100000 in
set_option maxHeartbeats 4000000 in
theorem walk (a : Option Addr) (es : List OpE) (c : Nat) (k : Int) (s : Option Addr) (x : List Nat) (d : Nat) (w : World) (h : ORow w a es) (hl : es.length ≤ 9223372036854775807)
    (hx : BRow w s x) (_hd : x.length ≤ d) (_hm : d ≤ maxLen) :
    Calls Tryz.prog 6 #[.slice a es.length c, vi k, .slice s x.length d] w fun e w' => e = .returned (.bool true) ∧ Below w.heap.size w w' := by
  have HR := Lib.hid h
  have HX := Lib.hid hx
  clear h hx
  go_enter Tryz.func6, Tryz.ntmps6
  go_wp2_with fail
  refine (Size_any a es c _ HR.out hl).mono ?_
  rintro e w1 ⟨m, hk, hz, rfl, hb⟩
  have HB := Lib.hid hb
  clear hb
  by_cases h2 : 20000 < sizeTo es m
  · go_wp2_with fail
    refine (known_any _).mono ?_
    rintro e w2 ⟨rfl, hb2⟩
    go_wp2_with fail
    go_ret
    exact ⟨rfl, HB.out.trans (hb2.mono HB.out.size)⟩
  by_cases h4 : 4 < x.length
  · go_wp2_with fail
    refine (known_any _).mono ?_
    rintro e w2 ⟨rfl, hb2⟩
    go_wp2_with fail
    go_ret
    exact ⟨rfl, HB.out.trans (hb2.mono HB.out.size)⟩
  obtain rfl : m = es.length := by omega
  obtain ⟨hs, hbl⟩ := size_small (by omega : sizeTo es es.length ≤ 20000)
  go_wp2_with fail
  refine (owns_any a es c _ (HR.out.below HB.out) (by omega)).mono ?_
  rintro e w2 ⟨v2, rfl, ho2, hb2⟩
  have HR2 := Lib.hid ((HR.out.below HB.out).below hb2)
  obtain ⟨a2, c2, rfl, hr2⟩ := ho2.row HR2.out.bytes HR2.out.fits HR2.out.lens
  have HB2 := Lib.hid (HB.out.trans (hb2.mono HB.out.size))
  have HO := Lib.hid hr2
  clear hb2 hr2 ho2 HB
  go_wp2_with fail
  refine (Write_any a2 es c2 _ HO.out (by omega) (by omega)).mono ?_
  rintro e w3 ⟨v3, rfl, ho3, hb3⟩
  have HB3 := Lib.hid (HB2.out.trans (hb3.mono HB2.out.size))
  have HO3 := Lib.hid (ho3.more HB2.out.size)
  have hf := ops_fits HR2.out.fits
  have HS := Lib.hid (write_small _ hf)
  have hwl := write_len (opsOf es)
  clear hb3 ho3 HB2 HR2
  generalize hwr : HP.writeL (opsOf es) = wr at *
  obtain ⟨l, f⟩ := wr
  dsimp only at *
  by_cases hf0 : f = 0
  · subst hf0
    have hlen := write_cases _ hwr rfl
    have h8 := HP.body_length (opsOf es)
    obtain ⟨g, cap, rfl, hg, hnc, hcm⟩ := own_form HO3.out (by omega : 0 < l.length)
    have HT := Lib.hid (fun (k : Nat) (hk : k + x.length ≤ l.length) => HP.torn_read (k := k) hf (by omega) hwr HX.out.small (by omega) hk)
    clear hf hwr hwl HR HO
    have h12 : 12 ≤ l.length := by omega
    have hl3 : l.length ≤ 30000 := by omega
    clear hlen h8
    have hkm := Int.emod_nonneg k (show ((l.length : Int) - x.length + 1) ≠ 0 by omega)
    have hkl := Int.emod_lt_of_pos k (show (0 : Int) < (l.length : Int) - x.length + 1 by omega)
    obtain ⟨p, hp⟩ := Int.eq_ofNat_of_zero_le hkm
    rw [hp] at hkl
    have HO4 := HO3
    have HP4 := Lib.hid hp
    clear hp hkm
    go_wp2_with fail
    refine (Among_any k _ _ (by omega) (by omega)).mono ?_
    rintro e w4 ⟨rfl, rfl⟩
    rw [HP4.out]
    go_wp2_with fail
    go_loopw [10, 11] (fun q i wr => ∃ j : Nat, j ≤ x.length ∧ i = vi j ∧ q = .bool ((x.take j).all (· == 0)) ∧ Hid (Own wr w.heap.size (.slice (some ⟨g, 0, none⟩) l.length cap) (HP.xorAt l p (x.take j))) ∧ Hid (Below w.heap.size w wr)) (fun _ i _ => x.length - (intOf i).toNat)
    case atStart => exact ⟨0, Nat.zero_le _, rfl, by simp, Lib.hid (by rw [List.take_zero, HP.xorAt_nil]; exact HO4.out), HB3⟩
    case round =>
      obtain ⟨j, hj, rfl, rfl, ho, hb⟩ := hrel
      by_cases hlt : j < x.length
      · obtain ⟨b1, o1, rfl, hc1, hsm1⟩ := (HX.out.below hb.out).lookup hlt
        have hln : (HP.xorAt l p (x.take j)).length = l.length := HP.xorAt_length ..
        obtain ⟨hsn, hgd⟩ := HP.xorAt_snoc (b := l) (k := p) (i := j) (x := x) hlt (by omega)
        have hc2 := World.ownsRow.cellAt (by have := ho.out; unfold Own at this; rw [hln] at this; exact this) (p + j) (by omega)
        rw [bv_get (by omega), hgd] at hc2
        have hfz := World.ownsRow.frozenAt (by have := ho.out; unfold Own at this; rw [hln] at this; exact this) (p + j)
        have hsm2 : l.getD (p + j) 0 < 256 := HP.getD_small HS.out _
        have hx8 := xor_u8 (l.getD (p + j) 0) (x.getD j 0) hsm2 hsm1
        have HA := Lib.hid (all_snoc hlt)
        have HSN := Lib.hid hsn
        clear hsn hgd hln
        generalize hq : (x.take j).all (· == 0) = q at *
        generalize hy : x.getD j 0 = y at *
        generalize hz : l.getD (p + j) 0 = z at *
        clear hq hy hz
        cases q
        · go_wp2_with fail
          have hs2 : (0 : Int) ≤ (p : Int) + (j : Int) := by omega
          have hs3 : ((p : Int) + (j : Int)).toNat = p + j := by omega
          have hs4 : (p : Int) + (j : Int) < (l.length : Int) := by omega
          have hs1 : IntKind.i64.wrap ((p : Int) + (j : Int)) = (p : Int) + (j : Int) := IntWalk.i64_in _ (by omega)
          go_still_tail 15, (by kernel_rfl)
          change wpList _ _ _ _ _ wr.drew
          clear hs1 hs2 hs3 hs4
          have hc3 : wr.drew.cell? ⟨g, p + j, none⟩ = some (vb z) := hc2
          have hf3 : wr.drew.frozen? ⟨g, p + j, none⟩ = false := hfz
          have HO5 : Hid (Own wr.drew w.heap.size (.slice (some ⟨g, 0, none⟩) l.length cap) (HP.xorAt l p (x.take j))) := Lib.hid ho.out.drew
          have HB5 : Hid (Below w.heap.size w wr.drew) := Lib.hid hb.out.drew
          clear hc2 hfz ho hb hc1
          generalize wr.drew = w5 at *
          go_wp2_with fail
          go_roundw
          case rel => exact ⟨j + 1, by omega, by go_num, by rw [HA.out]; rfl, Lib.hid (by rw [HSN.out]; exact own_set HO5.out (HP.xorAt_length ..).symm _ _), Lib.hid (HB5.out.setCell hg _)⟩
          case measure => simp [intOf]; omega
        · go_wp2_with fail
          have hs2 : (0 : Int) ≤ (p : Int) + (j : Int) := by omega
          have hs3 : ((p : Int) + (j : Int)).toNat = p + j := by omega
          have hs4 : (p : Int) + (j : Int) < (l.length : Int) := by omega
          have hs1 : IntKind.i64.wrap ((p : Int) + (j : Int)) = (p : Int) + (j : Int) := IntWalk.i64_in _ (by omega)
          go_still_tail 15, (by kernel_rfl)
          change wpList _ _ _ _ _ wr.drew
          clear hs1 hs2 hs3 hs4
          have hc3 : wr.drew.cell? ⟨g, p + j, none⟩ = some (vb z) := hc2
          have hf3 : wr.drew.frozen? ⟨g, p + j, none⟩ = false := hfz
          have HO5 : Hid (Own wr.drew w.heap.size (.slice (some ⟨g, 0, none⟩) l.length cap) (HP.xorAt l p (x.take j))) := Lib.hid ho.out.drew
          have HB5 : Hid (Below w.heap.size w wr.drew) := Lib.hid hb.out.drew
          clear hc2 hfz ho hb hc1
          generalize wr.drew = w5 at *
          go_wp2_with fail
          go_roundw
          case rel => exact ⟨j + 1, by omega, by go_num, by rw [HA.out]; exact congrArg Value.bool (by rw [Bool.true_and]; exact beq_cast y), Lib.hid (by rw [HSN.out]; exact own_set HO5.out (HP.xorAt_length ..).symm _ _), Lib.hid (HB5.out.setCell hg _)⟩
          case measure => simp [intOf]; omega
      · obtain rfl : j = x.length := by omega
        have hO := ho.out
        rw [List.take_length] at hO
        have HB6 := hb
        have hall : (x.take x.length).all (· == 0) = x.all (· == 0) := by rw [List.take_length]
        rw [hall]
        have hT := HT.out p (by omega)
        have hln : (HP.xorAt l p x).length = l.length := HP.xorAt_length ..
        obtain ⟨a9, c9, he, hr, -⟩ := hO.row (HP.xorAt_small HS.out HX.out.small)
        rw [hln] at he
        injection he with h1 _ h3
        subst h1 h3
        have hRd := fun w (h : BRow w (some ⟨g, 0, none⟩) (HP.xorAt l p x)) => Read_any (some ⟨g, 0, none⟩) (HP.xorAt l p x) cap w h (by omega) (by omega) (by omega) hcm
        rw [hln] at hRd
        have HRd := Lib.hid hRd
        have HR9 := Lib.hid hr
        have HT9 := Lib.hid hT
        clear hRd hr hT hO ho hb hall hln
        go_wp2_with fail
        refine (HRd.out _ HR9.out).mono ?_
        rintro e w7 ⟨fs, s7, c7, rfl, -, -, hb7⟩
        rw [HT9.out]
        have HB7 := Lib.hid (HB6.out.trans (hb7.mono HB6.out.size))
        generalize x.all (· == 0) = q
        clear hb7
        cases q
        · go_wp2_with fail
          refine (known_any _).mono ?_
          rintro e w8 ⟨rfl, hb8⟩
          go_wp2_with fail
          go_ret
          exact ⟨rfl, HB7.out.trans (hb8.mono HB7.out.size)⟩
        · go_wp2_with fail
          refine (known_any _).mono ?_
          rintro e w8 ⟨rfl, hb8⟩
          go_wp2_with fail
          go_ret
          exact ⟨rfl, HB7.out.trans (hb8.mono HB7.out.size)⟩
  · go_wp2_with fail
    refine (known_any _).mono ?_
    rintro e w4 ⟨rfl, hb4⟩
    go_wp2_with fail
    go_ret
    exact ⟨by simp [hf0], HB3.out.trans (hb4.mono HB3.out.size)⟩

set_option maxRecDepth 100000 in
theorem lifted (os : Os) (started : os.Started) (H : Type) (enc : TypeId × Value → H) :
    ReturnsInHanded {} Tryz.checked os 6 .any (Rows.histTornSpec.pre6 enc Tryz.prog Tryz.f6 Rows.histTornRow.domain false) (Rows.histTornSpec.post enc Tryz.prog Tryz.f6 false true false false) := by
  refine returnsInHanded_of_change_sized (C := Tryz.checked) own started (by kernel_rfl) Tryz.func6
    (ChangeSpec.witness6 (enc := enc) (C := Tryz.checked) false ⟨#[], #[.slice none 0 0, .int .i64 0, .slice none 0 0], []⟩ 8 (by kernel_rfl) (by kernel_rfl) (by kernel_rfl) (by kernel_rfl)) ?_
  intro W base args ds gs before hval0 hW hcnd hwt _
  have hval : ∀ (j : Nat) t v, Tryz.f6.params[j]? = some t → args[j]? = some v → Value.okWide Tryz.prog W .any base t v := hval0
  have hW' := hW
  obtain ⟨p, q, hA0, hV, rfl, hfz, hnd⟩ := hW
  have hA : DataW.TrodAll enc Tryz.prog W 0 (fun _ => true) true Tryz.f6.params.toList args.toList ds p := hA0
  rw [Tryz.params6] at hA hval hwt
  obtain ⟨v0, vs0, d0, ds0, p0, q0, hargs, rfl, rfl, h0, r0⟩ := trodAll_cons hA
  obtain ⟨v1, vs1, d1, ds1, p1, q1, rfl, rfl, rfl, h1, r1⟩ := trodAll_cons r0
  obtain ⟨v2, vs2, d2, ds2, p2, q2, rfl, rfl, rfl, h2, r2⟩ := trodAll_cons r1
  obtain ⟨rfl, rfl, rfl⟩ := trodAll_nil r2
  obtain rfl : args = #[v0, v1, v2] := by cases args; simp_all
  obtain ⟨rfl, rfl⟩ := trodVars_none hV
  obtain ⟨s0, es0, c0, rfl, hrow0, hl0⟩ := open_ops h0 (hval 0 22 v0 rfl rfl) (weights_at hwt (j := 0) rfl rfl)
  obtain ⟨a1, rfl, rfl, rfl, w1⟩ := open_int Tryz.underlying3 (hval 1 3 v1 rfl rfl) h1
  obtain ⟨s2, l2, c2, rfl, hrow2, hc2, hm2⟩ := open_bytes h2 (hval 2 25 v2 rfl rfl)
  refine (walk s0 es0 c0 a1 s2 l2 c2 W hrow0 hl0 hrow2 hc2 hm2).mono fun e W' ⟨he, bel⟩ => ?_
  subst he
  exact ⟨_, rfl, law_close laidOut (by kernel_rfl) hW' rfl bel rfl Tryz.underlying4 rfl⟩

set_option maxRecDepth 100000 in
set_option maxHeartbeats 20000000 in
theorem facts : joinedFacts Tryz.pinned.checked.prog 6 Tryz.f6 Rows.histTornSpec Rows.histTornRow = true := by
  unfold joinedFacts
  simp only [Bool.and_eq_true]
  and_intros
  all_goals as_aux_lemma => kernel_rfl

theorem over : Rows.histTornRow.holds Tryz.pinned (OpenSpec.ofChange Rows.histTornSpec) :=
  OpenClaim.holds_of_wide 6 Tryz.f6 rfl rfl rfl rfl rfl rfl rfl ⟨rfl, rfl, rfl, rfl, rfl⟩ rfl rfl rfl rfl rfl (by kernel_rfl) Tryz.func6 facts
    (of_decide_eq_true (by kernel_rfl)) (by unfold Func.isWrapper; first | (rw [if_pos (by decide +kernel)]; kernel_rfl) | (rw [if_neg (by decide +kernel)]; exact ⟨rfl, rfl⟩))
    (fun os started H enc _ => lifted os started H enc)

theorem proved : Rows.HistTornSaid := over
#print axioms proved
end Go.Proofs.YtneoeekhinlhgaaGreat.histTorn
