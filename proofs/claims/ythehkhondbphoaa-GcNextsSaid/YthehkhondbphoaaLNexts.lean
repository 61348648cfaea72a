/-
  GcNexts: any row of blocks has the next action that the document says. No conditions.
-/
import Derived.Test.YthehkhondbphoaaGcK
import Derived.Test.YthehkhondbphoaaGcOpen
namespace Go.Proofs.Ythehkhondbphoaa.gcNexts
open Go.ChangeShapes Go.WideShapes Go.ChangeAt Go.RowKit Go.Deep

theorem bestTo_congr {P P' : Blk → Bool} {Q Q' : Blk → Blk → Bool} {bs : List Blk} (hP : ∀ x ∈ bs, P x = P' x) (hQ : ∀ x y, Q x y = Q' x y) : ∀ k, k ≤ bs.length → bestTo P Q bs k = bestTo P' Q' bs k
  | 0, _ => rfl
  | k + 1, hk => by
    rw [bestTo_step, bestTo_step, bestTo_congr hP hQ k (by omega), hP _ (getD_mem (by omega)), hQ]
theorem best_congr {P P' : Blk → Bool} {Q Q' : Blk → Blk → Bool} {bs : List Blk} (hP : ∀ x ∈ bs, P x = P' x) (hQ : ∀ x y, Q x y = Q' x y) : best P Q bs = best P' Q' bs := bestTo_congr hP hQ _ (Nat.le_refl _)

theorem firstTo_snoc (P : Blk → Bool) (x : Blk) : ∀ (l : List Blk) (k : Nat), firstTo P (l ++ [x]) k = if firstTo P l k < 0 then (if P x then ((k + l.length : Nat) : Int) else -1) else firstTo P l k
  | [], k => by simp [firstTo]
  | y :: l, k => by
    show (if P y then (k : Int) else firstTo P (l ++ [x]) (k + 1)) = if (if P y then (k : Int) else firstTo P l (k + 1)) < 0 then _ else (if P y then (k : Int) else firstTo P l (k + 1))
    cases hp : P y
    · simp only [Bool.false_eq_true, if_false]
      rw [firstTo_snoc P x l (k + 1), List.length_cons, show k + 1 + l.length = k + (l.length + 1) from by omega]
    · simp only [if_true]
      rw [if_neg (by omega)]
theorem bestTo_first (P : Blk → Bool) (bs : List Blk) : ∀ k, k ≤ bs.length → bestTo P (fun _ _ => false) bs k = firstTo P (bs.take k) 0
  | 0, _ => by simp [bestTo, firstTo]
  | k + 1, hk => by
    rw [bestTo_step, bestTo_first P bs k (by omega), List.take_succ_eq_append_getElem (by omega), firstTo_snoc, List.getD_eq_getElem?_getD, List.getElem?_eq_getElem (by omega)]
    simp only [Option.getD_some, Bool.or_false, List.length_take, Nat.zero_add, Nat.min_eq_left (show k ≤ bs.length by omega)]
    by_cases h : firstTo P (bs.take k) 0 < 0
    · have : firstTo P (bs.take k) 0 = -1 := by
        rcases firstTo_bd P (bs.take k) 0 with h' | h' <;> omega
      cases hp : P bs[k] <;> simp [this]
    · simp [h]
theorem best_first (P : Blk → Bool) (bs : List Blk) : best P (fun _ _ => false) bs = first P bs := by
  unfold best first
  rw [bestTo_first P bs _ (Nat.le_refl _), List.take_length]

theorem ahead1 (x y : Blk) : aheadB 1 x y = wornB x y := by simp [aheadB, wornB]
theorem ahead5 (x y : Blk) : aheadB 5 x y = wornB x y := by simp [aheadB, wornB]
theorem ahead3 (x y : Blk) : aheadB 3 x y = false := by simp [aheadB]
theorem aheadE (n : Int) (h : n = 2 ∨ n = 4 ∨ n = 6) (x y : Blk) : aheadB n x y = emptierB x y := by
  unfold aheadB emptierB
  have h3 : (n == 3) = false := by simp; omega
  have h4 : (n == 2 || n == 4 || n == 6) = true := by simp; omega
  rw [h3, h4]
  by_cases hl : x.l = y.l
  · simp [hl]
  · have : (x.l != y.l) = true := by simpa using hl
    have h5 : (x.l == y.l) = false := by simpa using hl
    simp [this, h5]

theorem pick4_ext {k kind : Int} {r r' : Int × Int} (h : k < 0 → r = r') : pick4 k kind r = pick4 k kind r' := by
  unfold pick4
  split
  · rfl
  · exact h (by omega)

/-- What the references answer is what gc answers. -/
theorem RNext_eq (bs : List Blk) (p : Int) (room : Bool) : RNextL bs p room = NextL bs p room := by
  unfold RNextL NextL
  by_cases hr : RightL p bs = true
  · rw [if_pos hr, if_pos hr]
    generalize leastL bs = least
    show pick4 (rbest least p room bs 1) 1 (pick4 (rbest least p room bs 2) 2 (pick4 (rbest least p room bs 3) 3 (pick4 (rbest least p room bs 4) 2 (pick4 (rbest least p room bs 5) 4 (pick4 (rbest least p room bs 6) 4 (0, -1)))))) = _
    have e1 : rbest least p room bs 1 = best (fun x => staleB x && mayB least x) wornB bs := by
      refine best_congr (fun x _ => ?_) ahead1
      show (rankB least p room x == 1) = _
      unfold rankB staleB
      cases h : (x.s == 3 && mayB least x)
      · simp only [Bool.false_eq_true, if_false]
        repeat' split
        all_goals rfl
      · rfl
    rw [e1]
    refine pick4_ext fun h1 => ?_
    have n1 := best_neg (P := fun x => staleB x && mayB least x) (Q := wornB) (bs := bs) h1
    have e2 : rbest least p room bs 2 = best (fun x => fullB room x && mayB least x && decide (x.l < p)) emptierB bs := by
      refine best_congr (fun x hx => ?_) (aheadE 2 (by omega))
      show (rankB least p room x == 2) = _
      have hn := n1 x hx
      simp only [staleB] at hn
      unfold rankB fullB
      rw [hn, Bool.and_comm room]
      cases h : (x.s == 2 && room && mayB least x && decide (x.l < p))
      · simp only [Bool.false_eq_true, if_false]
        repeat' split
        all_goals rfl
      · rfl
    rw [e2]
    refine pick4_ext fun h2 => ?_
    have n2 := best_neg (P := fun x => fullB room x && mayB least x && decide (x.l < p)) (Q := emptierB) (bs := bs) h2
    have r3 : ∀ x ∈ bs, rankB least p room x = if x.r == least && (x.s == 0 || x.s == 1 && x.n == 0) then 3 else if x.s == 2 && room && x.r == least then 4 else if x.s == 3 then 5 else if x.s == 2 && room && decide (x.l < p) then 6 else 0 := fun x hx => by
      have hn := n1 x hx
      have hm := n2 x hx
      simp only [staleB, fullB] at hn hm
      rw [Bool.and_comm room] at hm
      unfold rankB
      rw [hn, hm]
      rfl
    have e3 : rbest least p room bs 3 = first (burnB least) bs := by
      rw [← best_first]
      refine best_congr (fun x hx => ?_) ahead3
      show (rankB least p room x == 3) = _
      rw [r3 x hx]
      unfold burnB
      cases h : (x.r == least && (x.s == 0 || x.s == 1 && x.n == 0))
      · simp only [Bool.false_eq_true, if_false]
        repeat' split
        all_goals rfl
      · rfl
    rw [e3]
    refine pick4_ext fun h3 => ?_
    have n3 := first_neg (P := burnB least) (bs := bs) h3
    have r4 : ∀ x ∈ bs, rankB least p room x = if x.s == 2 && room && x.r == least then 4 else if x.s == 3 then 5 else if x.s == 2 && room && decide (x.l < p) then 6 else 0 := fun x hx => by
      have hn := n3 x hx
      unfold burnB at hn
      rw [r3 x hx, hn]
      rfl
    have e4 : rbest least p room bs 4 = best (fun x => fullB room x && x.r == least) emptierB bs := by
      refine best_congr (fun x hx => ?_) (aheadE 4 (by omega))
      show (rankB least p room x == 4) = _
      rw [r4 x hx]
      unfold fullB
      rw [Bool.and_comm room]
      cases h : (x.s == 2 && room && x.r == least)
      · simp only [Bool.false_eq_true, if_false]
        repeat' split
        all_goals rfl
      · rfl
    rw [e4]
    refine pick4_ext fun h4 => ?_
    have n4 := best_neg (P := fun x => fullB room x && x.r == least) (Q := emptierB) (bs := bs) h4
    have r5 : ∀ x ∈ bs, rankB least p room x = if x.s == 3 then 5 else if x.s == 2 && room && decide (x.l < p) then 6 else 0 := fun x hx => by
      have hn := n4 x hx
      simp only [fullB] at hn
      rw [Bool.and_comm room] at hn
      rw [r4 x hx, hn]
      rfl
    unfold forcedL
    have e5 : rbest least p room bs 5 = best staleB wornB bs := by
      refine best_congr (fun x hx => ?_) ahead5
      show (rankB least p room x == 5) = _
      rw [r5 x hx]
      unfold staleB
      cases h : (x.s == 3)
      · simp only [Bool.false_eq_true, if_false]
        repeat' split
        all_goals rfl
      · rfl
    rw [e5]
    refine pick4_ext fun h5 => ?_
    have n5 := best_neg (P := staleB) (Q := wornB) (bs := bs) h5
    have e6 : rbest least p room bs 6 = best (movedB room p) emptierB bs := by
      refine best_congr (fun x hx => ?_) (aheadE 6 (by omega))
      show (rankB least p room x == 6) = _
      have hn := n5 x hx
      simp only [staleB] at hn
      rw [r5 x hx, hn]
      unfold movedB fullB
      rw [Bool.and_comm room]
      cases h : (x.s == 2 && room && decide (x.l < p)) <;> rfl
    rw [e6]
  · rw [if_neg hr, if_neg hr]

set_option maxHeartbeats 4000000 in
theorem walk (v : Value) (bs : List Blk) (p : Int) (room : Bool) (w : World) (hrow : Row w v bs) :
    Calls Try.prog 3 #[v, vi p, .bool room] w fun e w' => e = .returned (.bool true) ∧ Below w.heap.size w w' := by
  have HR := Lib.hid hrow
  obtain ⟨hlen, a, cap, rfl, -⟩ := hrow
  go_enter Try.func3, Try.ntmps3
  go_wp2_with fail
  refine (long_any _ bs _ HR.out).mono ?_
  rintro e w1 ⟨rfl, hb1⟩
  have HB := Lib.hid hb1
  clear hb1
  by_cases hl : 150 < bs.length
  · go_wp2_with fail
    refine (known_any _).mono ?_
    rintro e w2 ⟨rfl, hb2⟩
    go_wp2_with fail
    go_ret
    exact ⟨rfl, HB.out.trans (hb2.mono HB.out.size)⟩
  have hl' : decide (150 < bs.length) = false := by simpa using hl
  rw [hl']
  clear hl'
  go_wp2_with fail
  refine (Next_any _ bs p room _ (HR.out.below HB.out)).mono ?_
  rintro e w2 ⟨rfl, hb2⟩
  have HB2 := Lib.hid (HB.out.trans (hb2.mono HB.out.size))
  clear hb2 HB
  have hE := RNext_eq bs p room
  generalize NextL bs p room = act at hE ⊢
  have HE := Lib.hid hE
  clear hE
  obtain ⟨kind, blk⟩ := act
  go_wp2_with fail
  refine (is_any (kind, blk) _).mono ?_
  rintro e w3 ⟨rfl, hb3⟩
  have HB3 := Lib.hid (HB2.out.trans (hb3.mono HB2.out.size))
  clear hb3 HB2
  go_wp2_with fail
  refine (RNext_any _ bs p room _ (HR.out.below HB3.out)).mono ?_
  rw [HE.out]
  rintro e w4 ⟨rfl, hb4⟩
  have HB4 := Lib.hid (HB3.out.trans (hb4.mono HB3.out.size))
  clear hb4 HB3
  go_wp2_with fail
  refine (known_any _).mono ?_
  rintro e w5 ⟨rfl, hb5⟩
  go_wp2_with fail
  go_ret
  exact ⟨rfl, HB4.out.trans (hb5.mono HB4.out.size)⟩

set_option maxRecDepth 100000 in
theorem lifted (os : Os) (started : os.Started) (H : Type) (enc : TypeId × Value → H) :
    ReturnsInHanded {} Try.checked os 3 .any (Rows.gcNextsSpec.pre6 enc Try.prog Try.f3 Rows.gcNextsRow.domain false) (Rows.gcNextsSpec.post enc Try.prog Try.f3 false true false false) := by
  refine returnsInHanded_of_change (C := Try.checked) own started (by kernel_rfl) Try.func3
    (ChangeSpec.witness6 (enc := enc) (C := Try.checked) false ⟨#[], #[.slice none 0 0, .int .i64 0, .bool false], []⟩ 8 (by kernel_rfl) (by kernel_rfl) (by kernel_rfl) (by kernel_rfl)) ?_
  intro W base args ds gs before hval0 hW hcnd _
  have hval : ∀ (j : Nat) t v, Try.f3.params[j]? = some t → args[j]? = some v → Value.okWide Try.prog W .any base t v := hval0
  have hW' := hW
  obtain ⟨p, q, hA0, hV, rfl, hfz, hnd⟩ := hW
  have hA : DataW.TrodAll enc Try.prog W 0 (fun _ => true) true Try.f3.params.toList args.toList ds p := hA0
  rw [Try.params3] at hA hval
  obtain ⟨v0, vs0, d0, ds0, p0, q0, hargs, rfl, rfl, h0, r0⟩ := trodAll_cons hA
  obtain ⟨v1, vs1, d1, ds1, p1, q1, rfl, rfl, rfl, h1, r1⟩ := trodAll_cons r0
  obtain ⟨v2, vs2, d2, ds2, p2, q2, rfl, rfl, rfl, h2, r2⟩ := trodAll_cons r1
  obtain ⟨rfl, rfl, rfl⟩ := trodAll_nil r2
  obtain rfl : args = #[v0, v1, v2] := by cases args; simp_all
  obtain ⟨rfl, rfl⟩ := trodVars_none hV
  obtain ⟨bs0, hrow0⟩ := open_row h0 (hval 0 22 v0 rfl rfl)
  obtain ⟨a1, rfl, rfl, rfl, w1⟩ := open_int Try.underlying3 (hval 1 3 v1 rfl rfl) h1
  obtain ⟨a2, rfl, rfl, rfl⟩ := open_bool Try.underlying4 (hval 2 4 v2 rfl rfl) h2
  refine (walk v0 bs0 a1 a2 W hrow0).mono fun e W' ⟨he, bel⟩ => ?_
  subst he
  exact ⟨_, rfl, law_close laidOut (by kernel_rfl) hW' rfl bel rfl Try.underlying4 rfl⟩

theorem over : Rows.gcNextsRow.holds Try.pinned (OpenSpec.ofChange Rows.gcNextsSpec) :=
  OpenClaim.holds_of_wide 3 Try.f3 rfl rfl rfl rfl rfl rfl rfl ⟨rfl, rfl, rfl, rfl, rfl⟩ rfl rfl rfl rfl rfl (by kernel_rfl) Try.func3 (by kernel_rfl)
    (of_decide_eq_true (by kernel_rfl)) (by unfold Func.isWrapper; first | (rw [if_pos (by decide +kernel)]; kernel_rfl) | (rw [if_neg (by decide +kernel)]; exact ⟨rfl, rfl⟩))
    (fun os started H enc _ => lifted os started H enc)

theorem proved : Rows.GcNextsSaid := over
#print axioms proved
end Go.Proofs.Ythehkhondbphoaa.gcNexts
