/-
  Lemmas for a law's proof, put together from several texts: each part says what it shows, and its conditions.
-/
import Derived.Test.YtpggkehfbhffbaaZC21
import Derived.Test.YtpggkehfbhffbaaZC15
import Derived.Test.YtpggkehfbhffbaaZC12
import Derived.Test.YtpggkehfbhffbaaZC04
/-
  What a law of chapter 6 is given, opened: a setup, operations. No conditions of its own.
-/
namespace Go.Proofs.Ytpggkehfbhffbaa.mgr
open Go.ChangeShapes Go.WideShapes Go.ChangeAt Go.RowKit Go.Deep

section
variable {H : Type} {enc : TypeId × Value → H} {P : Program} {W : World}
theorem split7 {α : Type} {c : List α} {a b d e f g h : Nat} (hl : c.length = a + b + d + e + f + g + h) : c = (c.drop 0).take a ++ ((c.drop a).take b ++ ((c.drop (a + b)).take d ++ ((c.drop (a + b + d)).take e ++ ((c.drop (a + b + d + e)).take f ++ ((c.drop (a + b + d + e + f)).take g ++ (c.drop (a + b + d + e + f + g)).take h))))) := by
  rw [List.drop_zero]
  have h1 : (c.drop (a + b + d + e + f + g)).take h = c.drop (a + b + d + e + f + g) := List.take_of_length_le (by rw [List.length_drop]; omega)
  rw [h1, ← List.drop_drop (i := g), List.take_append_drop, ← List.drop_drop (i := f), List.take_append_drop, ← List.drop_drop (i := e), List.take_append_drop, ← List.drop_drop (i := d), List.take_append_drop, ← List.drop_drop (i := b), List.take_append_drop, List.take_append_drop]
variable {T : TypeId} {f0 f1 f2 f3 f4 f5 f6 : Field} {m0 m1 m2 m3 m4 m5 m6 : Nat} {E0 E1 E2 E3 E4 E5 E6 : Type} {c0 : E0 → List Value} {c1 : E1 → List Value} {c2 : E2 → List Value} {c3 : E3 → List Value} {c4 : E4 → List Value} {c5 : E5 → List Value} {c6 : E6 → List Value}
  {g0 : E0 → Prop} {g1 : E1 → Prop} {g2 : E2 → Prop} {g3 : E3 → Prop} {g4 : E4 → Prop} {g5 : E5 → Prop} {g6 : E6 → Prop}
theorem opens_agg7 (hS : P.underlying T = some (.struct #[f0, f1, f2, f3, f4, f5, f6])) (hC : P.cellsOf T = m0 + m1 + m2 + m3 + m4 + m5 + m6) (h0 : Opens enc P W f0.type m0 c0 g0) (o0 : f0.offset = 0) (h1 : Opens enc P W f1.type m1 c1 g1) (o1 : f1.offset = m0)
    (h2 : Opens enc P W f2.type m2 c2 g2) (o2 : f2.offset = m0 + m1) (h3 : Opens enc P W f3.type m3 c3 g3) (o3 : f3.offset = m0 + m1 + m2) (h4 : Opens enc P W f4.type m4 c4 g4) (o4 : f4.offset = m0 + m1 + m2 + m3)
    (h5 : Opens enc P W f5.type m5 c5 g5) (o5 : f5.offset = m0 + m1 + m2 + m3 + m4) (h6 : Opens enc P W f6.type m6 c6 g6) (o6 : f6.offset = m0 + m1 + m2 + m3 + m4 + m5) :
    Opens enc P W T (m0 + m1 + m2 + m3 + m4 + m5 + m6) (fun e : E0 × E1 × E2 × E3 × E4 × E5 × E6 => c0 e.1 ++ (c1 e.2.1 ++ (c2 e.2.2.1 ++ (c3 e.2.2.2.1 ++ (c4 e.2.2.2.2.1 ++ (c5 e.2.2.2.2.2.1 ++ c6 e.2.2.2.2.2.2))))))
      (fun e => g0 e.1 ∧ g1 e.2.1 ∧ g2 e.2.2.1 ∧ g3 e.2.2.2.1 ∧ g4 e.2.2.2.2.1 ∧ g5 e.2.2.2.2.2.1 ∧ g6 e.2.2.2.2.2.2) := by
  refine ⟨hC, fun e => by simp [h0.len, h1.len, h2.len, h3.len, h4.len, h5.len, h6.len, Nat.add_assoc], fun fuel c x hx hw => ?_⟩
  obtain ⟨xs, n, _, rfl, hl, hlen, hf⟩ := DataW.trod_struct hS hx
  obtain ⟨e0, p0, q0⟩ := field_opens (W := W) (j := 0) hS (c := c) (f := f0) rfl (by simpa using hlen) hf hw h0 o0
  obtain ⟨e1, p1, q1⟩ := field_opens (W := W) (j := 1) hS (c := c) (f := f1) rfl (by simpa using hlen) hf hw h1 o1
  obtain ⟨e2, p2, q2⟩ := field_opens (W := W) (j := 2) hS (c := c) (f := f2) rfl (by simpa using hlen) hf hw h2 o2
  obtain ⟨e3, p3, q3⟩ := field_opens (W := W) (j := 3) hS (c := c) (f := f3) rfl (by simpa using hlen) hf hw h3 o3
  obtain ⟨e4, p4, q4⟩ := field_opens (W := W) (j := 4) hS (c := c) (f := f4) rfl (by simpa using hlen) hf hw h4 o4
  obtain ⟨e5, p5, q5⟩ := field_opens (W := W) (j := 5) hS (c := c) (f := f5) rfl (by simpa using hlen) hf hw h5 o5
  obtain ⟨e6, p6, q6⟩ := field_opens (W := W) (j := 6) hS (c := c) (f := f6) rfl (by simpa using hlen) hf hw h6 o6
  refine ⟨(e0, e1, e2, e3, e4, e5, e6), ?_, q0, q1, q2, q3, q4, q5, q6⟩
  dsimp only
  rw [← p0, ← p1, ← p2, ← p3, ← p4, ← p5, ← p6]
  exact split7 (by rw [hl, hC])
end

/-- An operation, and where its bytes lie. -/
structure Op6 where
  kind : Int
  block : Int
  ba : Option Addr
  b : List Nat
  bc : Nat
instance : Inhabited Op6 := ⟨⟨0, 0, none, [], 0⟩⟩
abbrev Op6.cs (o : Op6) : Array Value := #[vi o.kind, vi o.block, .slice o.ba o.b.length o.bc]
structure Op6.ok (o : Op6) (base : Nat) (w : World) : Prop where
  row : SRow base w o.ba o.b
  len : o.b.length ≤ o.bc
  cap : o.bc ≤ maxLen
  most : o.b.length ≤ 140737488355328
/-- Operations that are read. -/
structure Ops6 (base : Nat) (w : World) (a : Option Addr) (l : List Op6) : Prop where
  at_ : l = [] ∨ ∃ b o, a = some ⟨b, o, none⟩ ∧ b < base ∧ ∀ i, i < l.length → ∀ j u, (l.getD i default).cs[j]? = some u → w.cell? ⟨b, o + i * 3 + j, none⟩ = some u
  good : ∀ o ∈ l, o.ok base w
  len : l.length ≤ 140737488355328
/-- A setup. -/
structure Set6 where
  b : Int
  p : Int
  s : Int
  xa : Option Addr
  x : List Int
  xc : Nat
  fa : Option Addr
  f : List FltM
  fc : Nat
  na : Option Addr
  n : List Bool
  nc : Nat
  la : Option Addr
  l : List Int
  lc : Nat
  reserve : Int
  first : Int
abbrev Set6.cs (x : Set6) : Array Value := #[vi x.b, vi x.p, vi x.s, .slice x.xa x.x.length x.xc, .slice x.fa x.f.length x.fc, .slice x.na x.n.length x.nc, .slice x.la x.l.length x.lc, vi x.reserve, vi x.first]
structure Set6.ok (x : Set6) (base : Nat) (w : World) : Prop where
  bad : IRow w x.xa x.x
  lx : x.x.length ≤ 140737488355328
  faults : FRow base w x.fa x.f
  lf : x.f.length ≤ 140737488355328
  ld : ∀ g ∈ x.f, g.l.length ≤ 140737488355328
  fresh : BoRow w x.na x.n
  ln : x.n.length ≤ 140737488355328
  live : IRow w x.la x.l
  ll : x.l.length ≤ 140737488355328
section
variable {base : Nat} {w w' : World} {F : Nat → Prop}
theorem Op6.ok.chg {o : Op6} (h : o.ok base w) (q : Chg F w w') (hF : ∀ k, F k → Mine base w k) : o.ok base w' := ⟨h.row.chg q hF, h.len, h.cap, h.most⟩
theorem Ops6.chg {a : Option Addr} {l : List Op6} (h : Ops6 base w a l) (q : Chg F w w') (hF : ∀ k, F k → Mine base w k) : Ops6 base w' a l := by
  refine ⟨?_, fun o ho => (h.good o ho).chg q hF, h.len⟩
  rcases h.at_ with h0 | ⟨b, o, rfl, hb, hc⟩
  · exact .inl h0
  · exact .inr ⟨b, o, rfl, hb, fun i hi j u hu => q.cell (hc i hi j u hu) (fun e => by have := (hF b e).1; omega)⟩
theorem Ops6.old {a : Option Addr} {l : List Op6} (h : Ops6 base w a l) (q : Below w.heap.size w w') : Ops6 base w' a l := h.chg (F := fun _ => False) (Chg.of_below q) (fun _ e => e.elim)
theorem Set6.ok.old {x : Set6} (h : x.ok base w) (q : Below w.heap.size w w') : x.ok base w' :=
  ⟨h.bad.below q, h.lx, h.faults.old q, h.lf, h.ld, h.fresh.old q, h.ln, h.live.below q, h.ll⟩
end

section
variable {H : Type} {enc : TypeId × Value → H} {W : World}
set_option maxRecDepth 100000 in
theorem op6_fields : ∃ f0 f1 f2 : Field, Try.prog.underlying 88 = some (.struct #[f0, f1, f2]) ∧ (f0.type = 3 ∧ f0.offset = 0) ∧ (f1.type = 3 ∧ f1.offset = 1) ∧ (f2.type = 32 ∧ f2.offset = 2) :=
  ⟨_, _, _, Try.underlying88, ⟨rfl, rfl⟩, ⟨rfl, rfl⟩, ⟨rfl, rfl⟩⟩
set_option maxRecDepth 100000 in
theorem set6_fields : ∃ f0 f1 f2 f3 f4 f5 f6 : Field, Try.prog.underlying 80 = some (.struct #[f0, f1, f2, f3, f4, f5, f6]) ∧ (f0.type = 23 ∧ f0.offset = 0) ∧ (f1.type = 24 ∧ f1.offset = 3) ∧ (f2.type = 41 ∧ f2.offset = 4) ∧ (f3.type = 52 ∧ f3.offset = 5) ∧ (f4.type = 24 ∧ f4.offset = 6) ∧ (f5.type = 3 ∧ f5.offset = 7) ∧ (f6.type = 3 ∧ f6.offset = 8) :=
  ⟨_, _, _, _, _, _, _, Try.underlying80, ⟨rfl, rfl⟩, ⟨rfl, rfl⟩, ⟨rfl, rfl⟩, ⟨rfl, rfl⟩, ⟨rfl, rfl⟩, ⟨rfl, rfl⟩, ⟨rfl, rfl⟩⟩
set_option maxRecDepth 100000 in
theorem opens_op6 : Opens enc Try.prog W 88 3 (fun o : Op6 => [vi o.kind, vi o.block, .slice o.ba o.b.length o.bc]) (fun o => o.ok W.heap.size W) := by
  obtain ⟨f0, f1, f2, hs, t0, t1, t2⟩ := op6_fields
  have h := Opens.agg3 (enc := enc) (P := Try.prog) (W := W) (T := 88) hs (by kernel_rfl) (by rw [t0.1]; exact opens_int) t0.2 (by rw [t1.1]; exact opens_int) t1.2 (by rw [t2.1]; exact opens_bytes) t2.2
  refine h.map (fun e => ⟨e.1, e.2.1, e.2.2.a, e.2.2.l, e.2.2.c⟩) (fun _ => rfl) (fun _ => rfl) ?_
  rintro ⟨x, y, r⟩ ⟨_, _, hr, hl⟩
  have := reach_le
  dsimp only at hl hr ⊢
  exact ⟨srow_of hr hr.good, hr.len, hr.cap, by show r.l.length ≤ _; omega⟩
theorem opens_ops6 : Opens enc Try.prog W 81 1 (fun r : RowE Op6 => [r.v]) (RowGood W 3 (fun o : Op6 => [vi o.kind, vi o.block, .slice o.ba o.b.length o.bc]) (fun o => o.ok W.heap.size W) 40) := Opens.row opens_op6 (by decide) Try.underlying81 (by kernel_rfl) (bytes := 40) (by kernel_rfl)
theorem ops6_of {r : RowE Op6} (h : RowGood W 3 (fun o : Op6 => [vi o.kind, vi o.block, .slice o.ba o.b.length o.bc]) (fun o => o.ok W.heap.size W) 40 r) : Ops6 W.heap.size W r.a r.l := by
  obtain ⟨h, hl⟩ := h
  have := reach_le
  refine ⟨?_, h.good, by omega⟩
  rcases h.at_ with h0 | ⟨b, o, ha, hb, hc⟩
  · exact .inl h0
  · refine .inr ⟨b, o, ha, hb, fun i hi j u hu => hc i hi j u ?_⟩
    simpa using hu
theorem borow_of6 {good : Bool → Prop} {r : RowE Bool} (h : RowOf W 1 (fun b : Bool => [.bool b]) good r) : BoRow W r.a r.l := by
  rcases h.at_ with h0 | ⟨b, o, ha, _, hc⟩
  · exact .inl h0
  · refine .inr ⟨b, o, ha, fun i hi => ?_⟩
    have := hc i hi 0 (.bool (r.l.getD i default)) rfl
    simpa using this
set_option maxRecDepth 100000 in
theorem opens_set6 : Opens enc Try.prog W 80 9 (fun x : Set6 => x.cs.toList) (fun x => x.ok W.heap.size W) := by
  obtain ⟨f0, f1, f2, f3, f4, f5, f6, hs, t0, t1, t2, t3, t4, t5, t6⟩ := set6_fields
  have h := opens_agg7 (enc := enc) (P := Try.prog) (W := W) (T := 80) hs (by kernel_rfl) (by rw [t0.1]; exact opens_geo) t0.2 (by rw [t1.1]; exact opens_ints) t1.2 (by rw [t2.1]; exact opens_faults) t2.2 (by rw [t3.1]; exact opens_bools) t3.2 (by rw [t4.1]; exact opens_ints) t4.2 (by rw [t5.1]; exact opens_int) t5.2 (by rw [t6.1]; exact opens_int) t6.2
  refine h.map (fun e => ⟨e.1.1, e.1.2.1, e.1.2.2, e.2.1.a, e.2.1.l, e.2.1.c, e.2.2.1.a, e.2.2.1.l, e.2.2.1.c, e.2.2.2.1.a, e.2.2.2.1.l, e.2.2.2.1.c, e.2.2.2.2.1.a, e.2.2.2.2.1.l, e.2.2.2.2.1.c, e.2.2.2.2.2.1, e.2.2.2.2.2.2⟩) (fun _ => rfl) (fun _ => rfl) ?_
  rintro ⟨x, r1, r2, r3, r4, y, z⟩ ⟨_, ⟨h1, l1⟩, ⟨h2, l2⟩, ⟨h3, l3⟩, ⟨h4, l4⟩, _, _⟩
  have := reach_le
  dsimp only at h1 h2 h3 h4 l1 l2 l3 l4 ⊢
  exact ⟨irow_of h1, by show r1.l.length ≤ _; omega, frow_of h2, by show r2.l.length ≤ _; omega, fun g hg => (h2.good g hg).2.2.2, borow_of6 h3, by show r3.l.length ≤ _; omega, irow_of h4, by show r4.l.length ≤ _; omega⟩
variable {r : Reach} {n : Nat} {v : Value} {d : DataW H} {p : List MemPlace}
set_option maxRecDepth 100000 in
theorem arg_set6 (h : DataW.Trod enc Try.prog W 0 (fun _ => true) true 80 v d p) (hv : Value.okWide Try.prog W r n 80 v) (hw : ∀ n ∈ d.weights Try.prog 80, n ≤ reachBytes) : ∃ x : Set6, v = .agg x.cs ∧ x.ok W.heap.size W := by
  obtain ⟨f0, f1, f2, f3, f4, f5, f6, hs, _⟩ := set6_fields
  obtain ⟨cs, rfl, _⟩ := okWide_struct hs hv
  obtain ⟨fuel, hf⟩ := h
  obtain ⟨o, he, ho⟩ := opens_set6.elem _ _ _ hf hw
  refine ⟨o, ?_, ho⟩
  have : cs.toList = o.cs.toList := he
  rw [← Array.toArray_toList (xs := cs), this]
set_option maxRecDepth 100000 in
theorem arg_ops6 (h : DataW.Trod enc Try.prog W 0 (fun _ => true) true 81 v d p) (hv : Value.okWide Try.prog W r n 81 v) (hw : ∀ n ∈ d.weights Try.prog 81, n ≤ reachBytes) : ∃ (x : RowE Op6), v = x.v ∧ Ops6 W.heap.size W x.a x.l := by
  obtain ⟨a, len, cap, rfl⟩ := okWide_slice Try.underlying81 hv
  obtain ⟨fuel, hf⟩ := h
  obtain ⟨x, he, hx⟩ := opens_ops6.elem _ _ _ hf hw
  refine ⟨x, ?_, ops6_of hx⟩
  simpa [Value.cells] using he
end

end Go.Proofs.Ytpggkehfbhffbaa.mgr

/-
  What the laws of chapter 6 look at no more. Conditions: a setup and operations that are read.
-/
namespace Go.Proofs.Ytpggkehfbhffbaa.mgr
open Go.RowKit

/-- How much operations are. -/
def owt6 : List Op6 → Nat
  | [] => 0
  | o :: l => 1 + o.b.length + owt6 l
theorem owt6_append : ∀ (l m : List Op6), owt6 (l ++ m) = owt6 l + owt6 m
  | [], m => by simp [owt6]
  | f :: l, m => by simp only [List.cons_append, owt6, owt6_append l m]; omega
theorem owt6_take {l : List Op6} {i : Nat} (h : i < l.length) : owt6 (l.take (i + 1)) = owt6 (l.take i) + (1 + (l.getD i default).b.length) := by
  rw [List.take_succ_eq_append_getElem h, owt6_append, List.getD_eq_getElem?_getD, List.getElem?_eq_getElem h]
  simp [owt6]
theorem Ops6.lookup {base : Nat} {w : World} {a : Option Addr} {l : List Op6} (h : Ops6 base w a l) {i : Nat} (hi : i < l.length) : ∃ b o, a = some ⟨b, o, none⟩ ∧ b < base ∧ (∀ j u, (l.getD i default).cs[j]? = some u → w.cell? ⟨b, o + i * 3 + j, none⟩ = some u) ∧ (l.getD i default).ok base w := by
  rcases h.at_ with rfl | ⟨b, o, rfl, hb, h1⟩
  · simp at hi
  · exact ⟨b, o, rfl, hb, h1 i hi, h.good _ (getD_mem hi)⟩
def wt6 (x : Set6) (l : List Op6) : Nat := x.x.length + x.n.length + x.l.length + owt6 l + fwt x.f
/-- What is told of a setup and operations. -/
def Long6 (x : Set6) (l : List Op6) (w : World) (e : Ending) (w' : World) : Prop := ∃ t, e = .returned (.bool t) ∧ Below w.heap.size w w' ∧ (t = false → wt6 x l ≤ 9000)
section
variable {base : Nat} {w : World} {a : Option Addr} {l : List Op6} {x : Set6}
set_option maxRecDepth 100000 in
set_option maxHeartbeats 4000000 in
theorem long6_any (c : Nat) (hx : x.ok base w) (h : Ops6 base w a l) : Calls Try.prog 48 #[.agg x.cs, .slice a l.length c] w (Long6 x l w) := by
  have HX := Lib.hid hx
  have HR := Lib.hid h
  have hll := h.len
  have l1 := hx.lx
  have l2 := hx.ln
  have l3 := hx.ll
  have l4 := hx.lf
  obtain ⟨wt, hwe⟩ : ∃ wt, wt6 x l = wt := ⟨_, rfl⟩
  have hwt : wt = x.x.length + x.n.length + x.l.length + owt6 l + fwt x.f := hwe ▸ rfl
  have HWT := Lib.hid hwt
  have HWE := Lib.hid hwe
  clear h hx hwt hwe
  obtain ⟨xb, xp, xs, xa, xx, xc, fa, xf, fc, na, xn, nc, la, xl, lc, reserve, first⟩ := x
  dsimp only at l1 l2 l3 l4 HWT
  change Calls Try.prog 48 #[.agg #[vi xb, vi xp, vi xs, .slice xa xx.length xc, .slice fa xf.length fc, .slice na xn.length nc, .slice la xl.length lc, vi reserve, vi first], .slice a l.length c] w _
  have F0 := Blk.new w 80 #[vi xb, vi xp, vi xs, .slice xa xx.length xc, .slice fa xf.length fc, .slice na xn.length nc, .slice la xl.length lc, vi reserve, vi first]
  have HB := Lib.hid (alloc_box w #[vi xb, vi xp, vi xs, .slice xa xx.length xc, .slice fa xf.length fc, .slice na xn.length nc, .slice la xl.length lc, vi reserve, vi first] 80)
  go_enter Try.func48, Try.ntmps48
  go_upto_region 1 with fail
  have HX1 := Lib.hid (HX.out.old HB.out)
  have HR1 := Lib.hid (HR.out.old HB.out)
  generalize w.alloc (.cells #[vi xb, vi xp, vi xs, .slice xa xx.length xc, .slice fa xf.length fc, .slice na xn.length nc, .slice la xl.length lc, vi reserve, vi first] 80) = w1 at *
  generalize hgx : w.heap.size = gx at F0 ⊢
  have c0 : w1.cell? ⟨gx, 0, none⟩ = some (vi xb) := F0.cell 0
  have c1 : w1.cell? ⟨gx, 1, none⟩ = some (vi xp) := F0.cell 1
  have c2 : w1.cell? ⟨gx, 2, none⟩ = some (vi xs) := F0.cell 2
  have c3 : w1.cell? ⟨gx, 3, none⟩ = some (.slice xa xx.length xc) := F0.cell 3
  have c4 : w1.cell? ⟨gx, 4, none⟩ = some (.slice fa xf.length fc) := F0.cell 4
  have c5 : w1.cell? ⟨gx, 5, none⟩ = some (.slice na xn.length nc) := F0.cell 5
  have c6 : w1.cell? ⟨gx, 6, none⟩ = some (.slice la xl.length lc) := F0.cell 6
  clear F0 HX HR
  obtain ⟨n0, hn0⟩ : ∃ n0, n0 = xx.length + xn.length + xl.length := ⟨_, rfl⟩
  have HN0 := Lib.hid hn0
  have HGX := Lib.hid hgx
  clear hgx
  go_upto_region 2 with fail
  go_wp2_with fail
  go_loopw [5, 6] (fun vn v wr => ∃ (n i : Nat), vn = vi n ∧ v = vi i ∧ i ≤ l.length ∧ n ≤ 2305843009213693952 ∧ wr = w1 ∧ Hid (n ≤ 9000 → n = n0 + owt6 (l.take i))) (fun _ v _ => l.length - (intOf v).toNat)
  case atStart => exact ⟨xx.length + xn.length + xl.length, 0, by go_num, rfl, Nat.zero_le _, by omega, rfl, Lib.hid (fun _ => by rw [HN0.out]; rfl)⟩
  case round =>
    obtain ⟨n, i, rfl, rfl, hi, hnb, rfl, hn⟩ := hrel
    clear hn0
    by_cases hc : i < l.length ∧ n ≤ 9000
    · obtain ⟨hlt, h9⟩ := hc
      obtain ⟨b, o, rfl, -, hcell, hok⟩ := HR1.out.lookup hlt
      have HW := Lib.hid (owt6_take hlt)
      have HN := Lib.hid (hn.out h9)
      generalize l.getD i default = q at *
      have e3 : wr.cell? ⟨b, o + i * 3 + 2, none⟩ = some (.slice q.ba q.b.length q.bc) := hcell 2 _ rfl
      have hbl := hok.most
      clear hcell hok hn
      go_wp2_with fail
      go_roundw
      case rel => exact ⟨n + 1 + q.b.length, i + 1, by go_num, by go_num, by omega, by omega, by first | rfl | trivial, Lib.hid (fun _ => by rw [HW.out, HN.out]; omega)⟩
      case measure => simp [intOf]; omega
    · have hq : (¬ i < l.length) ∨ (i < l.length ∧ ¬ n ≤ 9000) := by omega
      have HN : Hid (n ≤ 9000 → n = n0 + owt6 l) := Lib.hid (fun h => by
        have h1 := hn.out h
        rwa [List.take_of_length_le (by omega)] at h1)
      clear hc hn
      rcases hq with hq | ⟨hq, hq2⟩
      all_goals
        go_wp2_with fail
        go_loopw [5, 7] (fun vn v w2 => ∃ (m j : Nat), vn = vi m ∧ v = vi j ∧ j ≤ xf.length ∧ m ≤ 2305843009213693952 ∧ w2 = wr ∧ Hid (m ≤ 9000 → m = n0 + owt6 l + fwt (xf.take j))) (fun _ v _ => xf.length - (intOf v).toNat)
        case atStart => exact ⟨n, 0, rfl, rfl, Nat.zero_le _, by omega, rfl, HN⟩
        case round =>
          clear HN
          obtain ⟨m, j, rfl, rfl, hj, hmb, rfl, hm⟩ := hrel
          by_cases hc : j < xf.length ∧ m ≤ 9000
          · obtain ⟨hlt, h9⟩ := hc
            obtain ⟨b2, o2, hfa, hcell, -, hlc, hcm⟩ := HX1.out.faults.lookup hlt
            have HW2 := Lib.hid (fwt_take hlt)
            have HM2 := Lib.hid (hm.out h9)
            have hfl2 := HX1.out.ld _ (getD_mem (d := default) hlt)
            generalize xf.getD j default = f at *
            have g2 : wr.cell? ⟨b2, o2 + j * 3 + 2, none⟩ = some (.slice f.a f.l.length f.c) := hcell 2 _ rfl
            dsimp only at hfa
            subst hfa
            clear hcell hlc hcm hm
            go_wp2_with fail
            go_roundw
            case rel => exact ⟨m + 1 + f.l.length, j + 1, by go_num, by go_num, by omega, by omega, by first | rfl | trivial, Lib.hid (fun _ => by rw [HW2.out, HM2.out]; omega)⟩
            case measure => simp [intOf]; omega
          · have hq3 : (¬ j < xf.length) ∨ (j < xf.length ∧ ¬ m ≤ 9000) := by omega
            have HM2 : Hid (m ≤ 9000 → wt ≤ 9000) := Lib.hid (fun h => by
              have h1 := hm.out h
              rw [List.take_of_length_le (by omega)] at h1
              rw [HN0.out] at h1
              rw [HWT.out]
              omega)
            clear hc hm
            rcases hq3 with hq3 | ⟨hq3, hq4⟩
            · by_cases h9 : m ≤ 9000
              · have HT := Lib.hid (HM2.out h9)
                cases hr : NP.rightB xb xp xs
                · go_wp2_with fail
                  refine (rRight_any xb xp xs wr).mono ?_
                  rw [hr]
                  rintro e w3 ⟨rfl, hb3⟩
                  have HB3 := Lib.hid (HB.out.trans (hb3.mono HB.out.size))
                  clear hb3
                  go_wp2_with fail
                  go_ret
                  exact ⟨_, rfl, HB3.out, fun _ => by rw [HWE.out]; exact HT.out⟩
                · have HRR := Lib.hid hr
                  go_wp2_with fail
                  refine (rRight_any xb xp xs wr).mono ?_
                  rw [hr]
                  rintro e w3 ⟨rfl, hb3⟩
                  have HB3 := Lib.hid (HB.out.trans (hb3.mono HB.out.size))
                  have d0 := cell_below c0 hb3
                  have d1 := cell_below c1 hb3
                  have d2 := cell_below c2 hb3
                  clear hb3 hr
                  go_wp2_with fail
                  go_ret
                  exact ⟨_, rfl, HB3.out, fun _ => by rw [HWE.out]; exact HT.out⟩
              · go_wp2_with fail
                go_ret
                exact ⟨_, rfl, HB.out, fun e => by simp at e <;> omega⟩
            · go_wp2_with fail
              go_ret
              exact ⟨_, rfl, HB.out, fun e => by simp at e <;> omega⟩
end

end Go.Proofs.Ytpggkehfbhffbaa.mgr

/-
  A chip that is not there: what each method answers. No conditions.
-/
namespace Go.Proofs.Ytpggkehfbhffbaa
open Go.RowKit

abbrev nilp : Value := .pointer none
section
variable {w : World}
theorem Start_nil : Calls Try.prog 13 #[nilp] w fun e w' => e = .returned (.tuple #[]) ∧ w' = w := by
  go_enter Try.func13, Try.ntmps13
  go_wp2
  go_end0
  exact ⟨rfl, rfl⟩
theorem Lose_nil : Calls Try.prog 33 #[nilp] w fun e w' => e = .returned (.tuple #[]) ∧ w' = w := by
  go_enter Try.func33, Try.ntmps33
  go_wp2
  go_end0
  exact ⟨rfl, rfl⟩
theorem Up_nil : Calls Try.prog 20 #[nilp] w fun e w' => e = .returned (.bool false) ∧ w' = w := by
  go_enter Try.func20, Try.ntmps20
  go_wp2
  go_ret
  exact ⟨rfl, rfl⟩
theorem Strokes_nil : Calls Try.prog 28 #[nilp] w fun e w' => e = .returned (vi 0) ∧ w' = w := by
  go_enter Try.func28, Try.ntmps28
  go_wp2
  go_ret
  exact ⟨rfl, rfl⟩
theorem Reads_nil : Calls Try.prog 35 #[nilp] w fun e w' => e = .returned (vi 0) ∧ w' = w := by
  go_enter Try.func35, Try.ntmps35
  go_wp2
  go_ret
  exact ⟨rfl, rfl⟩
theorem Geo_nil : Calls Try.prog 36 #[nilp] w fun e w' => e = .returned (.agg #[vi 0, vi 0, vi 0]) ∧ Below w.heap.size w w' := by
  go_enter Try.func36, Try.ntmps36
  go_wp2
  exact bodyPost_ret (v := .agg #[vi 0, vi 0, vi 0]) (by simp [results, Try.results36, go_sem]) rfl ⟨rfl, (Below.refl _ _).alloc (Nat.le_refl _) _⟩
theorem there_nil (j : Int) : Calls Try.prog 62 #[nilp, vi j] w fun e w' => e = .returned (.bool false) ∧ w' = w := by
  go_enter Try.func62, Try.ntmps62
  go_wp2
  go_ret
  exact ⟨rfl, rfl⟩
theorem asked_nil (j p : Int) : Calls Try.prog 57 #[nilp, vi j, vi p] w fun e w' => e = .returned (vi 3) ∧ w' = w := by
  go_enter Try.func57, Try.ntmps57
  go_wp2_with fail
  go_ret
  exact ⟨rfl, rfl⟩
theorem Bad_nil (j : Int) : Calls Try.prog 26 #[nilp, vi j] w fun e w' => e = .returned (.bool true) ∧ w' = w := by
  go_enter Try.func26, Try.ntmps26
  go_wp2_with fail
  refine (there_nil j).mono ?_
  rintro e w' ⟨rfl, rfl⟩
  go_wp2_with fail
  go_ret
  exact ⟨rfl, rfl⟩
theorem Wear_nil (j : Int) : Calls Try.prog 34 #[nilp, vi j] w fun e w' => e = .returned (vi 0) ∧ w' = w := by
  go_enter Try.func34, Try.ntmps34
  go_wp2_with fail
  refine (there_nil j).mono ?_
  rintro e w' ⟨rfl, rfl⟩
  go_wp2_with fail
  go_ret
  exact ⟨rfl, rfl⟩
theorem Read_nil (j p : Int) : Calls Try.prog 14 #[nilp, vi j, vi p] w fun e w' => e = .returned (.tuple #[.slice none 0 0, vi 3]) ∧ w' = w := by
  go_enter Try.func14, Try.ntmps14
  go_wp2_with fail
  refine (asked_nil j p).mono ?_
  rintro e w' ⟨rfl, rfl⟩
  go_wp2_with fail
  go_ret2
  exact ⟨rfl, rfl⟩
theorem Program_nil (j p : Int) (v : Value) : Calls Try.prog 21 #[nilp, vi j, vi p, v] w fun e w' => e = .returned (vi 3) ∧ w' = w := by
  go_enter Try.func21, Try.ntmps21
  go_wp2_with fail
  refine (asked_nil j p).mono ?_
  rintro e w' ⟨rfl, rfl⟩
  go_wp2_with fail
  go_ret
  exact ⟨rfl, rfl⟩
theorem Erase_nil (j : Int) : Calls Try.prog 22 #[nilp, vi j] w fun e w' => e = .returned (vi 3) ∧ w' = w := by
  go_enter Try.func22, Try.ntmps22
  go_wp2_with fail
  refine (asked_nil j 0).mono ?_
  rintro e w' ⟨rfl, rfl⟩
  go_wp2_with fail
  go_ret
  exact ⟨rfl, rfl⟩
theorem Mark_nil (j : Int) : Calls Try.prog 23 #[nilp, vi j] w fun e w' => e = .returned (vi 3) ∧ w' = w := by
  go_enter Try.func23, Try.ntmps23
  go_wp2_with fail
  refine (asked_nil j 0).mono ?_
  rintro e w' ⟨rfl, rfl⟩
  go_wp2_with fail
  go_ret
  exact ⟨rfl, rfl⟩
theorem Script_nil (v : Value) : Calls Try.prog 24 #[nilp, v] w fun e w' => e = .returned (vi 3) ∧ w' = w := by
  go_enter Try.func24, Try.ntmps24
  go_wp2_with fail
  go_ret
  exact ⟨rfl, rfl⟩
theorem Copy_nil : Calls Try.prog 19 #[nilp] w fun e w' => e = .returned nilp ∧ w' = w := by
  go_enter Try.func19, Try.ntmps19
  go_wp2_with fail
  go_ret
  exact ⟨rfl, rfl⟩
theorem Dump_nil : Calls Try.prog 25 #[nilp] w fun e w' => e = .returned (.tuple #[.slice none 0 0, .slice none 0 0, .slice none 0 0]) ∧ w' = w := by
  go_enter Try.func25, Try.ntmps25
  go_wp2_with fail
  go_ret3
  exact ⟨rfl, rfl⟩
end

end Go.Proofs.Ytpggkehfbhffbaa

