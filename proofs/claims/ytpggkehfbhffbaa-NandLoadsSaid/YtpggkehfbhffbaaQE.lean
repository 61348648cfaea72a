/-
  What a law of chapter 2 is given, opened: a geometry, numbers, operations. No conditions of its own.
-/
import Derived.Test.YtpggkehfbhffbaaOpenTwo
import Derived.Test.YtpggkehfbhffbaaQA
namespace Go.Proofs.Ytpggkehfbhffbaa
open Go.ChangeShapes Go.WideShapes Go.ChangeAt Go.RowKit Go.Deep

section
variable {H : Type} {enc : TypeId × Value → H} {W : World}
set_option maxRecDepth 100000 in
theorem opens_int : Opens enc Try.prog W 3 1 (fun n : Int => [vi n]) (fun n => -9223372036854775808 ≤ n ∧ n ≤ 9223372036854775807) := Opens.int Try.underlying3 (by kernel_rfl)
theorem opens_byte : Opens enc Try.prog W 5 1 (fun n : Nat => [vb n]) (fun n => n < 256) := Opens.byte Try.underlying5 (by kernel_rfl)
theorem opens_bool : Opens enc Try.prog W 4 1 (fun b : Bool => [.bool b]) (fun _ => True) := Opens.bool Try.underlying4 (by kernel_rfl)
/-- What is good of a row that came in. -/
def RowGood (W : World) (m : Nat) {E : Type} [Inhabited E] (cs : E → List Value) (good : E → Prop) (bytes : Nat) (r : RowE E) : Prop := RowOf W m cs good r ∧ r.l.length * bytes ≤ reachBytes
theorem opens_ints : Opens enc Try.prog W 24 1 (fun r : RowE Int => [r.v]) (RowGood W 1 (fun n : Int => [vi n]) (fun n => -9223372036854775808 ≤ n ∧ n ≤ 9223372036854775807) 8) := Opens.row opens_int (by decide) Try.underlying24 (by kernel_rfl) (bytes := 8) (by kernel_rfl)
theorem opens_bytes : Opens enc Try.prog W 32 1 (fun r : RowE Nat => [r.v]) (RowGood W 1 (fun n : Nat => [vb n]) (fun n => n < 256) 1) := Opens.row opens_byte (by decide) Try.underlying32 (by kernel_rfl) (bytes := 1) (by kernel_rfl)
theorem opens_bools : Opens enc Try.prog W 52 1 (fun r : RowE Bool => [r.v]) (RowGood W 1 (fun b : Bool => [.bool b]) (fun _ => True) 1) := Opens.row opens_bool (by decide) Try.underlying52 (by kernel_rfl) (bytes := 1) (by kernel_rfl)

theorem irow_of {good : Int → Prop} {r : RowE Int} (h : RowOf W 1 (fun n : Int => [vi n]) good r) : IRow W r.a r.l := by
  rcases h.at_ with h0 | ⟨b, o, ha, _, hc⟩
  · exact .inl h0
  · refine .inr ⟨b, o, ha, fun i hi => ?_⟩
    have := hc i hi 0 (vi (r.l.getD i default)) rfl
    simpa using this
theorem srow_of {good : Nat → Prop} {r : RowE Nat} (h : RowOf W 1 (fun n : Nat => [vb n]) good r) (hs : ∀ x ∈ r.l, x < 256) : SRow W.heap.size W r.a r.l := by
  rcases h.at_ with h0 | ⟨b, o, ha, hb, hc⟩
  · rw [h0]; exact SRow.nil _ _ _
  · refine ⟨⟨hs, .inr ⟨b, o, ha, fun i hi => ?_⟩⟩, .inr ⟨b, o, ha, .inl hb⟩⟩
    have := hc i hi 0 (vb (r.l.getD i default)) rfl
    simpa using this
/-- What is good of a fault that came in. -/
def fltGood (W : World) (f : FltM) : Prop := SRow W.heap.size W f.a f.l ∧ f.l.length ≤ f.c ∧ f.c ≤ maxLen ∧ f.l.length ≤ 140737488355328
set_option maxRecDepth 100000 in
theorem fault_fields : ∃ f0 f1 f2 : Field, Try.prog.underlying 96 = some (.struct #[f0, f1, f2]) ∧ (f0.type = 3 ∧ f0.offset = 0) ∧ (f1.type = 3 ∧ f1.offset = 1) ∧ (f2.type = 32 ∧ f2.offset = 2) :=
  ⟨_, _, _, Try.underlying96, ⟨rfl, rfl⟩, ⟨rfl, rfl⟩, ⟨rfl, rfl⟩⟩
set_option maxRecDepth 100000 in
theorem op_fields : ∃ f0 f1 f2 f3 f4 : Field, Try.prog.underlying 43 = some (.struct #[f0, f1, f2, f3, f4]) ∧ (f0.type = 3 ∧ f0.offset = 0) ∧ (f1.type = 3 ∧ f1.offset = 1) ∧ (f2.type = 3 ∧ f2.offset = 2) ∧ (f3.type = 32 ∧ f3.offset = 3) ∧ (f4.type = 41 ∧ f4.offset = 4) :=
  ⟨_, _, _, _, _, Try.underlying43, ⟨rfl, rfl⟩, ⟨rfl, rfl⟩, ⟨rfl, rfl⟩, ⟨rfl, rfl⟩, ⟨rfl, rfl⟩⟩
set_option maxRecDepth 100000 in
theorem geo_fields : ∃ f0 f1 f2 : Field, Try.prog.underlying 23 = some (.struct #[f0, f1, f2]) ∧ (f0.type = 3 ∧ f0.offset = 0) ∧ (f1.type = 3 ∧ f1.offset = 1) ∧ (f2.type = 3 ∧ f2.offset = 2) :=
  ⟨_, _, _, Try.underlying23, ⟨rfl, rfl⟩, ⟨rfl, rfl⟩, ⟨rfl, rfl⟩⟩
set_option maxRecDepth 100000 in
theorem opens_fault : Opens enc Try.prog W 96 3 (fun f : FltM => [vi f.at_, vi f.kind, .slice f.a f.l.length f.c]) (fltGood W) := by
  obtain ⟨f0, f1, f2, hs, t0, t1, t2⟩ := fault_fields
  have h := Opens.agg3 (enc := enc) (P := Try.prog) (W := W) (T := 96) hs (by kernel_rfl) (by rw [t0.1]; exact opens_int) t0.2 (by rw [t1.1]; exact opens_int) t1.2 (by rw [t2.1]; exact opens_bytes) t2.2
  refine h.map (fun e => ⟨e.1, e.2.1, e.2.2.a, e.2.2.l, e.2.2.c⟩) (fun _ => rfl) (fun _ => rfl) ?_
  rintro ⟨x, y, r⟩ ⟨_, _, hr, hl⟩
  refine ⟨srow_of hr hr.good, hr.len, hr.cap, ?_⟩
  have := reach_le
  dsimp only at hl ⊢
  omega
theorem opens_faults : Opens enc Try.prog W 41 1 (fun r : RowE FltM => [r.v]) (RowGood W 3 (fun f : FltM => [vi f.at_, vi f.kind, .slice f.a f.l.length f.c]) (fltGood W) 40) := Opens.row opens_fault (by decide) Try.underlying41 (by kernel_rfl) (bytes := 40) (by kernel_rfl)
theorem frow_of {r : RowE FltM} (h : RowOf W 3 (fun f : FltM => [vi f.at_, vi f.kind, .slice f.a f.l.length f.c]) (fltGood W) r) : FRow W.heap.size W r.a r.l := by
  refine ⟨?_, fun f hf => ⟨(h.good f hf).1, (h.good f hf).2.1, (h.good f hf).2.2.1⟩, Nat.le_trans h.len h.cap⟩
  rcases h.at_ with h0 | ⟨b, o, ha, hb, hc⟩
  · exact .inl h0
  · refine .inr ⟨b, o, ha, .inl hb, fun i hi j u hu => hc i hi j u ?_⟩
    simpa using hu
set_option maxRecDepth 100000 in
theorem opens_op : Opens enc Try.prog W 43 5 (fun o : OpM => [vi o.kind, vi o.block, vi o.page, .slice o.ba o.b.length o.bc, .slice o.fa o.fs.length o.fc]) (fun o => o.ok W.heap.size W) := by
  obtain ⟨f0, f1, f2, f3, f4, hs, t0, t1, t2, t3, t4⟩ := op_fields
  have h := Opens.agg5 (enc := enc) (P := Try.prog) (W := W) (T := 43) hs (by kernel_rfl) (by rw [t0.1]; exact opens_int) t0.2 (by rw [t1.1]; exact opens_int) t1.2 (by rw [t2.1]; exact opens_int) t2.2 (by rw [t3.1]; exact opens_bytes) t3.2 (by rw [t4.1]; exact opens_faults) t4.2
  refine h.map (fun e => ⟨e.1, e.2.1, e.2.2.1, e.2.2.2.1.a, e.2.2.2.1.l, e.2.2.2.1.c, e.2.2.2.2.a, e.2.2.2.2.l, e.2.2.2.2.c⟩) (fun _ => rfl) (fun _ => rfl) ?_
  rintro ⟨x, y, z, r, q⟩ ⟨_, _, _, ⟨hr, hl⟩, hq, hl2⟩
  have := reach_le
  dsimp only at hl hl2 hr hq ⊢
  exact ⟨srow_of hr hr.good, ⟨hr.len, hr.cap⟩, frow_of hq, by show r.l.length ≤ _; omega, by show q.l.length ≤ _; omega, fun f hf => (hq.good f hf).2.2.2⟩
theorem opens_ops : Opens enc Try.prog W 25 1 (fun r : RowE OpM => [r.v]) (RowGood W 5 (fun o : OpM => [vi o.kind, vi o.block, vi o.page, .slice o.ba o.b.length o.bc, .slice o.fa o.fs.length o.fc]) (fun o => o.ok W.heap.size W) 72) := Opens.row opens_op (by decide) Try.underlying25 (by kernel_rfl) (bytes := 72) (by kernel_rfl)
theorem oprow_of {r : RowE OpM} (h : RowGood W 5 (fun o : OpM => [vi o.kind, vi o.block, vi o.page, .slice o.ba o.b.length o.bc, .slice o.fa o.fs.length o.fc]) (fun o => o.ok W.heap.size W) 72 r) : OpRow W.heap.size W r.a r.l := by
  obtain ⟨h, hl⟩ := h
  have := reach_le
  refine ⟨?_, h.good, by omega⟩
  rcases h.at_ with h0 | ⟨b, o, ha, hb, hc⟩
  · exact .inl h0
  · refine .inr ⟨b, o, ha, hb, fun i hi j u hu => hc i hi j u ?_⟩
    simpa using hu
set_option maxRecDepth 100000 in
theorem opens_geo : Opens enc Try.prog W 23 3 (fun e : Int × Int × Int => [vi e.1, vi e.2.1, vi e.2.2]) (fun _ => True) := by
  obtain ⟨f0, f1, f2, hs, t0, t1, t2⟩ := geo_fields
  have h := Opens.agg3 (enc := enc) (P := Try.prog) (W := W) (T := 23) hs (by kernel_rfl) (by rw [t0.1]; exact opens_int) t0.2 (by rw [t1.1]; exact opens_int) t1.2 (by rw [t2.1]; exact opens_int) t2.2
  exact h.map id (fun _ => rfl) (fun _ => rfl) (fun _ _ => trivial)

/-! Arguments. -/
variable {r : Reach} {n : Nat} {v : Value} {d : DataW H} {p : List MemPlace}
set_option maxRecDepth 100000 in
theorem arg_geo (h : DataW.Trod enc Try.prog W 0 (fun _ => true) true 23 v d p) (hv : Value.okWide Try.prog W r n 23 v) (hw : ∀ n ∈ d.weights Try.prog 23, n ≤ reachBytes) : ∃ b p s, v = .agg #[vi b, vi p, vi s] := by
  obtain ⟨f0, f1, f2, hs, _⟩ := geo_fields
  obtain ⟨cs, rfl, _⟩ := okWide_struct hs hv
  obtain ⟨fuel, hf⟩ := h
  obtain ⟨e, he, _⟩ := opens_geo.elem _ _ _ hf hw
  refine ⟨e.1, e.2.1, e.2.2, ?_⟩
  have : cs.toList = [vi e.1, vi e.2.1, vi e.2.2] := he
  rw [← Array.toArray_toList (xs := cs), this]
set_option maxRecDepth 100000 in
theorem arg_op (h : DataW.Trod enc Try.prog W 0 (fun _ => true) true 43 v d p) (hv : Value.okWide Try.prog W r n 43 v) (hw : ∀ n ∈ d.weights Try.prog 43, n ≤ reachBytes) : ∃ o : OpM, v = .agg o.cs ∧ o.ok W.heap.size W := by
  obtain ⟨f0, f1, f2, f3, f4, hs, _⟩ := op_fields
  obtain ⟨cs, rfl, _⟩ := okWide_struct hs hv
  obtain ⟨fuel, hf⟩ := h
  obtain ⟨o, he, ho⟩ := opens_op.elem _ _ _ hf hw
  refine ⟨o, ?_, ho⟩
  have : cs.toList = [vi o.kind, vi o.block, vi o.page, .slice o.ba o.b.length o.bc, .slice o.fa o.fs.length o.fc] := he
  rw [← Array.toArray_toList (xs := cs), this]
set_option maxRecDepth 100000 in
theorem arg_ints (h : DataW.Trod enc Try.prog W 0 (fun _ => true) true 24 v d p) (hv : Value.okWide Try.prog W r n 24 v) (hw : ∀ n ∈ d.weights Try.prog 24, n ≤ reachBytes) : ∃ (x : RowE Int), v = x.v ∧ IRow W x.a x.l ∧ x.l.length ≤ 140737488355328 := by
  obtain ⟨a, len, cap, rfl⟩ := okWide_slice Try.underlying24 hv
  obtain ⟨fuel, hf⟩ := h
  obtain ⟨x, he, hx, hl⟩ := opens_ints.elem _ _ _ hf hw
  have := reach_le
  refine ⟨x, ?_, irow_of hx, by omega⟩
  simpa [Value.cells] using he
set_option maxRecDepth 100000 in
theorem arg_ops (h : DataW.Trod enc Try.prog W 0 (fun _ => true) true 25 v d p) (hv : Value.okWide Try.prog W r n 25 v) (hw : ∀ n ∈ d.weights Try.prog 25, n ≤ reachBytes) : ∃ (x : RowE OpM), v = x.v ∧ OpRow W.heap.size W x.a x.l := by
  obtain ⟨a, len, cap, rfl⟩ := okWide_slice Try.underlying25 hv
  obtain ⟨fuel, hf⟩ := h
  obtain ⟨x, he, hx⟩ := opens_ops.elem _ _ _ hf hw
  refine ⟨x, ?_, oprow_of hx⟩
  simpa [Value.cells] using he
end

end Go.Proofs.Ytpggkehfbhffbaa
