/-
  Slices of operations and of bytes that came in, opened: for every such slice.
-/
import Derived.Test.YtneoeekhinlhgaaGreatHFrame
import Derived.Test.YtneoeekhinlhgaaGreatHG
import Derived.SizedLaws
namespace Go.Proofs.YtneoeekhinlhgaaGreat
open Go.ChangeShapes Go.WideShapes Go.ChangeAt Go.RowKit Go.Deep

section
variable {H : Type} {enc : TypeId × Value → H}

theorem weights_at {P : Program} {ts us : List TypeId} {ds gs : List (DataW H)} (h : (DataW.weightsEach P (ts ++ us) (ds ++ gs)).all (· ≤ reachBytes) = true) {j : Nat} {t : TypeId} {d : DataW H} (ht : ts[j]? = some t) (hd : ds[j]? = some d) :
    ∀ n ∈ d.weights P t, n ≤ reachBytes := by
  intro n hn
  have h1 : (ts ++ us)[j]? = some t := by rw [List.getElem?_append_left ((List.getElem?_eq_some_iff.1 ht).1)]; exact ht
  have h2 : (ds ++ gs)[j]? = some d := by rw [List.getElem?_append_left ((List.getElem?_eq_some_iff.1 hd).1)]; exact hd
  have := List.all_eq_true.1 h n (DataW.weights_mem_each h1 h2 n hn)
  simpa using this
theorem weightsAll_mem {P : Program} {e : TypeId} : ∀ {l : List (DataW H)} {d : DataW H}, d ∈ l → ∀ n ∈ d.weights P e, n ∈ DataW.weightsAll P e l
  | x :: l, d, h, n, hn => by
    simp only [DataW.weightsAll, List.mem_append]
    rcases List.mem_cons.1 h with rfl | h
    · exact Or.inl hn
    · exact Or.inr (weightsAll_mem h n hn)
theorem reach_le : reachBytes ≤ 140737488355328 := by decide

theorem cellsByte : Tryz.prog.cellsOf 5 = 1 := by kernel_rfl
theorem bytesByte : Tryz.prog.bytesOf 5 = 1 := by kernel_rfl
theorem cellsROp : Tryz.prog.cellsOf 48 = 7 := by kernel_rfl
theorem cellsInt : Tryz.prog.cellsOf 3 = 1 := by kernel_rfl
theorem cellsLong : Tryz.prog.cellsOf 2 = 1 := by kernel_rfl
theorem cellsText : Tryz.prog.cellsOf 9 = 1 := by kernel_rfl
theorem cellsBytes : Tryz.prog.cellsOf 25 = 1 := by kernel_rfl

/-- A cell that reads as a slice of bytes. -/
theorem bytes_cell {W : World} {fuel : Nat} {cs : List Value} {x : DataW H × List MemPlace} (h : DataW.trod enc Tryz.prog W 0 (fun _ => true) true fuel 25 cs = some x) :
    ∃ s l c, cs = [.slice s l.length c] ∧ BRow W s l ∧ l.length ≤ c ∧ c ≤ maxLen ∧ ((∀ n ∈ x.1.weights Tryz.prog 25, n ≤ reachBytes) → l.length ≤ reachBytes) := by
  rcases open_slice1 Tryz.underlying25 cellsByte h with ⟨rfl, _⟩ | ⟨a, len, cap, m, n, V, D, Pl, rfl, _, hl, hm, hmm, rfl, hi⟩
  · exact ⟨none, [], 0, rfl, BRow.nil _ _, Nat.le_refl _, Nat.zero_le _, fun _ => Nat.zero_le _⟩
  · simp only [if_true] at hmm
    subst hmm
    obtain ⟨B, hB⟩ := choose_lt (α := Nat) (n := len) (p := fun i x => W.cell? (a.add i) = some (vb x) ∧ x < 256) (fun i hlt => by
      obtain ⟨hc, ht⟩ := hi i (by omega)
      obtain ⟨k, hk, _, hwf⟩ := DataW.trod_int Tryz.underlying5 ht
      injection hk with hk _
      have hr : 0 ≤ k ∧ k ≤ 255 := by simpa [Lit.wf, IntKind.min, IntKind.max, IntKind.signed, IntKind.bits] using hwf
      refine ⟨k.toNat, ?_, by omega⟩
      rw [hc, hk, show vb k.toNat = .int .u8 k by unfold vb; rw [Int.toNat_of_nonneg hr.1]])
    have hL : ((List.range len).map B).length = len := by simp
    refine ⟨some a, (List.range len).map B, m, by rw [hL], ⟨?_, ?_⟩, by rw [hL]; exact hl, hm, fun hw => ?_⟩
    · intro x hx
      obtain ⟨i, hi', rfl⟩ := List.mem_map.1 hx
      exact (hB i (List.mem_range.1 hi')).2
    · rcases Nat.eq_zero_or_pos len with h0 | h0
      · exact .inl (by simp [h0])
      · have hsp : a.spot = none := by
          have := (hB 0 h0).1
          cases hh : a.spot with
          | none => rfl
          | some q => exact absurd (World.cell?_spot this) (by simp [Addr.add, hh])
        obtain ⟨b', o', s'⟩ := a
        dsimp only at hsp
        subst hsp
        refine .inr ⟨b', o', rfl, fun i hlt => ?_⟩
        have hlt' : i < len := by simpa using hlt
        have := (hB i hlt').1
        rw [add_plain] at this
        have hg : ((List.range len).map B).getD i 0 = B i := by simp [List.getD, hlt']
        rw [hg]
        exact this
    · rw [hL]
      have := hw ((((List.range len).map D).length + ((List.range (m - len)).map fun j => D (len + j)).length) * Tryz.prog.bytesOf 5) (by simp [DataW.weights, Tryz.underlying25])
      rw [bytesByte] at this
      simp at this
      omega

set_option maxRecDepth 100000 in
theorem open_bytes {W : World} {v : Value} {d : DataW H} {p : List MemPlace} (h : DataW.Trod enc Tryz.prog W 0 (fun _ => true) true 25 v d p) {r : Reach} {b : Nat} (hv : Value.okWide Tryz.prog W r b 25 v) :
    ∃ s l c, v = .slice s l.length c ∧ BRow W s l ∧ l.length ≤ c ∧ c ≤ maxLen := by
  obtain ⟨a, len, cap, rfl⟩ := okWide_slice Tryz.underlying25 hv
  obtain ⟨fuel, hf⟩ := h
  obtain ⟨s, l, c, hcs, hr, hc, hm, -⟩ := bytes_cell hf
  simp [Value.cells] at hcs
  obtain ⟨rfl, rfl, rfl⟩ := hcs
  exact ⟨_, l, _, rfl, hr, hc, hm⟩

set_option maxRecDepth 100000 in
theorem op_fields : ∃ f0 f1 f2 f3 f4 f5 f6 : Field, Tryz.prog.underlying 48 = some (.struct #[f0, f1, f2, f3, f4, f5, f6]) ∧ (f0.type = 3 ∧ f0.offset = 0) ∧ (f1.type = 9 ∧ f1.offset = 1) ∧ (f2.type = 9 ∧ f2.offset = 2) ∧ (f3.type = 3 ∧ f3.offset = 3) ∧ (f4.type = 3 ∧ f4.offset = 4) ∧ (f5.type = 2 ∧ f5.offset = 5) ∧ (f6.type = 25 ∧ f6.offset = 6) :=
  ⟨_, _, _, _, _, _, _, Tryz.underlying48, ⟨rfl, rfl⟩, ⟨rfl, rfl⟩, ⟨rfl, rfl⟩, ⟨rfl, rfl⟩, ⟨rfl, rfl⟩, ⟨rfl, rfl⟩, ⟨rfl, rfl⟩⟩

theorem cells7 {w : World} {base : Nat} {a : Addr} {cs : List Value} (h : w.cells? base a 7 = some cs) :
    ∃ c0 c1 c2 c3 c4 c5 c6, cs = [c0, c1, c2, c3, c4, c5, c6] ∧ ∀ j u, #[c0, c1, c2, c3, c4, c5, c6][j]? = some u → w.cell? (a.add j) = some u := by
  obtain ⟨_, hl, hat⟩ := World.cells?_some h
  match cs, hl with
  | [c0, c1, c2, c3, c4, c5, c6], _ =>
    refine ⟨c0, c1, c2, c3, c4, c5, c6, rfl, fun j u hu => ?_⟩
    have hj : j < 7 := by
      have := (Array.getElem?_eq_some_iff.1 hu).1
      simpa using this
    have := hat j hj
    rw [this]
    simpa using hu

set_option maxRecDepth 100000 in
/-- Seven cells that read as an operation. -/
theorem op_cells {W : World} {fuel : Nat} {c0 c1 c2 c3 c4 c5 c6 : Value} {x : DataW H × List MemPlace} (h : DataW.trod enc Tryz.prog W 0 (fun _ => true) true fuel 48 [c0, c1, c2, c3, c4, c5, c6] = some x)
    (hw : ∀ n ∈ x.1.weights Tryz.prog 48, n ≤ reachBytes) : ∃ e : OpE, #[c0, c1, c2, c3, c4, c5, c6] = e.cs ∧ BRow W e.s e.o.bytes ∧ e.o.fits ∧ e.lens := by
  obtain ⟨f0, f1, f2, f3, f4, f5, f6, hs, t0, t1, t2, t3, t4, t5, t6⟩ := op_fields
  obtain ⟨xs, n', _, hx, _, hxl, hg⟩ := DataW.trod_struct hs h
  subst hx
  simp at hxl
  match xs, hxl with
  | [y0, y1, y2, y3, y4, y5, y6], _ =>
    have q0 := hg 0 f0 rfl
    have q1 := hg 1 f1 rfl
    have q2 := hg 2 f2 rfl
    have q3 := hg 3 f3 rfl
    have q4 := hg 4 f4 rfl
    have q5 := hg 5 f5 rfl
    have q6 := hg 6 f6 rfl
    rw [t0.1, t0.2, cellsInt] at q0
    rw [t1.1, t1.2, cellsText] at q1
    rw [t2.1, t2.2, cellsText] at q2
    rw [t3.1, t3.2, cellsInt] at q3
    rw [t4.1, t4.2, cellsInt] at q4
    rw [t5.1, t5.2, cellsLong] at q5
    rw [t6.1, t6.2, cellsBytes] at q6
    obtain ⟨k, hk, r0, w0⟩ := DataW.trod_int Tryz.underlying3 q0
    obtain ⟨p, hp, r1, w1⟩ := DataW.trod_string Tryz.underlying9 q1
    obtain ⟨q, hq, r2, w2⟩ := DataW.trod_string Tryz.underlying9 q2
    obtain ⟨hh, hhh, r3, w3⟩ := DataW.trod_int Tryz.underlying3 q3
    obtain ⟨nn, hnn, r4, w4⟩ := DataW.trod_int Tryz.underlying3 q4
    obtain ⟨ff, hff, r5, w5⟩ := DataW.trod_int Tryz.underlying2 q5
    obtain ⟨s, l, c, hl, hrow, _, _, hlw⟩ := bytes_cell q6
    injection hk with hk _
    injection hp with hp _
    injection hq with hq _
    injection hhh with hhh _
    injection hnn with hnn _
    injection hff with hff _
    injection hl with hl _
    subst hk hp hq hhh hnn hff hl
    have hr5 : -9223372036854775808 ≤ ff ∧ ff ≤ 9223372036854775807 := by simpa [Lit.wf, IntKind.min, IntKind.max, IntKind.signed, IntKind.bits] using w5
    have hty : f0.type = 3 ∧ f1.type = 9 ∧ f2.type = 9 ∧ f6.type = 25 := ⟨t0.1, t1.1, t2.1, t6.1⟩
    have hlp : p.size ≤ reachBytes := hw _ (by simp [DataW.weights, hs, DataW.weightsEach, r0, r1, hty])
    have hlq : q.size ≤ reachBytes := hw _ (by simp [DataW.weights, hs, DataW.weightsEach, r0, r1, r2, hty])
    have hll : l.length ≤ reachBytes := hlw fun n hn => hw _ (by simp [DataW.weights, hs, DataW.weightsEach, r0, r1, r2, r3, r4, r5, hty, t3.1, t4.1, t5.1]; exact .inr (.inr hn))
    have hre := reach_le
    refine ⟨⟨⟨k, sb p, sb q, hh, nn, ff, l⟩, s, c⟩, by simp only [OpE.cs, bs_sb], hrow, ⟨sb_small p, sb_small q, hrow.small, hr5.1, hr5.2⟩, ⟨?_, ?_, ?_⟩⟩
    · show (sb p).length ≤ _
      rw [sb_length]; omega
    · show (sb q).length ≤ _
      rw [sb_length]; omega
    · show l.length ≤ _
      omega

set_option maxRecDepth 100000 in
theorem open_ops {W : World} {v : Value} {d : DataW H} {p : List MemPlace} (h : DataW.Trod enc Tryz.prog W 0 (fun _ => true) true 22 v d p) {r : Reach} {b : Nat} (hv : Value.okWide Tryz.prog W r b 22 v)
    (hw : ∀ n ∈ d.weights Tryz.prog 22, n ≤ reachBytes) : ∃ s es c, v = .slice s es.length c ∧ ORow W s es ∧ es.length ≤ 9223372036854775807 := by
  obtain ⟨a, len, cap, rfl⟩ := okWide_slice Tryz.underlying22 hv
  obtain ⟨fuel, hf⟩ := h
  rcases open_slice Tryz.underlying22 hf with ⟨hcs, _⟩ | ⟨a', len', cap', m, n, D, Pl, hcs, _, hl, hm, hmm, hd, hi⟩
  · simp [Value.cells] at hcs
    obtain ⟨rfl, rfl, rfl⟩ := hcs
    exact ⟨none, [], 0, rfl, ⟨.inl rfl, by simp, by simp, by simp⟩, by decide⟩
  · simp [Value.cells] at hcs
    obtain ⟨rfl, rfl, rfl⟩ := hcs
    simp only [if_true] at hmm
    subst hmm
    injection hd with hd _
    subst hd
    obtain ⟨B, hB⟩ := choose_lt (α := OpE) (n := len) (p := fun i x => (∀ j u, x.cs[j]? = some u → W.cell? ((a'.add (i * 7)).add j) = some u) ∧ BRow W x.s x.o.bytes ∧ x.o.fits ∧ x.lens) (fun i hlt => by
      obtain ⟨cs, hc, ht⟩ := hi i (by omega)
      rw [cellsROp] at hc
      obtain ⟨c0, c1, c2, c3, c4, c5, c6, rfl, hcell⟩ := cells7 hc
      obtain ⟨e, he, h1, h2, h3⟩ := op_cells ht (fun n hn => hw n (by
        simp only [DataW.weights, Tryz.underlying22, List.mem_cons, List.mem_append]
        exact .inr (.inl (weightsAll_mem (List.mem_map.2 ⟨i, List.mem_range.2 hlt, rfl⟩) n hn))))
      exact ⟨e, fun j u hu => hcell j u (by rw [he]; exact hu), h1, h2, h3⟩)
    have hL : ((List.range len).map B).length = len := by simp
    have hmem : ∀ e ∈ (List.range len).map B, ∃ i, i < len ∧ e = B i := fun e he => by
      obtain ⟨i, hi', rfl⟩ := List.mem_map.1 he
      exact ⟨i, List.mem_range.1 hi', rfl⟩
    refine ⟨some a', (List.range len).map B, m, by rw [hL], ⟨?_, fun e he => ?_, fun e he => ?_, fun e he => ?_⟩, by rw [hL]; simp [maxLen] at hm; omega⟩
    · rcases Nat.eq_zero_or_pos len with h0 | h0
      · exact .inl (by simp [h0])
      · have hsp : a'.spot = none := by
          have := (hB 0 h0).1 0 _ rfl
          cases hh : a'.spot with
          | none => rfl
          | some q => exact absurd (World.cell?_spot this) (by simp [Addr.add, hh])
        obtain ⟨b', o', s'⟩ := a'
        dsimp only at hsp
        subst hsp
        refine .inr ⟨b', o', rfl, fun i hlt j u hu => ?_⟩
        have hlt' : i < len := by simpa using hlt
        have hg : ((List.range len).map B).getD i default = B i := by simp [List.getD, hlt']
        rw [hg] at hu
        have := (hB i hlt').1 j u hu
        rw [add_plain, add_plain] at this
        exact this
    · obtain ⟨i, hi', rfl⟩ := hmem e he
      exact (hB i hi').2.1
    · obtain ⟨i, hi', rfl⟩ := hmem e he
      exact (hB i hi').2.2.1
    · obtain ⟨i, hi', rfl⟩ := hmem e he
      exact (hB i hi').2.2.2
end

end Go.Proofs.YtneoeekhinlhgaaGreat
