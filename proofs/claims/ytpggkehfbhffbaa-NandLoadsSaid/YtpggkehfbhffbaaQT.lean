/-
  What comes in to be loaded, opened. No conditions.
-/
import Derived.Test.YtpggkehfbhffbaaQE
import Derived.Test.YtpggkehfbhffbaaRT
namespace Go.Proofs.Ytpggkehfbhffbaa
open Go.ChangeShapes Go.WideShapes Go.ChangeAt Go.RowKit Go.Deep

section
variable {H : Type} {enc : TypeId × Value → H} {W : World}
theorem opens_pages : Opens enc Try.prog W 51 1 (fun r : RowE (RowE Nat) => [r.v]) (RowGood W 1 (fun r : RowE Nat => [r.v]) (RowGood W 1 (fun n : Nat => [vb n]) (fun n => n < 256) 1) 24) := Opens.row opens_bytes (by decide) Try.underlying51 (by kernel_rfl) (bytes := 24) (by kernel_rfl)
def toPg (r : RowE Nat) : PgM := ⟨r.a, r.l, r.c⟩
theorem toPg_getD (l : List (RowE Nat)) (i : Nat) : (l.map toPg).getD i default = toPg (l.getD i default) := by
  rw [List.getD_eq_getElem?_getD, List.getElem?_map, List.getD_eq_getElem?_getD]
  cases l[i]? <;> rfl
theorem grow_of {r : RowE (RowE Nat)} (h : RowGood W 1 (fun r : RowE Nat => [r.v]) (RowGood W 1 (fun n : Nat => [vb n]) (fun n => n < 256) 1) 24 r) : GRow W.heap.size W r.a (r.l.map toPg) := by
  obtain ⟨h, hl⟩ := h
  have := reach_le
  have hg : ∀ p ∈ r.l.map toPg, SRow W.heap.size W p.a p.l ∧ p.l.length ≤ p.c ∧ p.c ≤ maxLen := by
    intro p hp
    obtain ⟨e, he, rfl⟩ := List.mem_map.1 hp
    obtain ⟨h1, _⟩ := h.good e he
    exact ⟨srow_of h1 h1.good, h1.len, h1.cap⟩
  refine ⟨⟨?_, fun p hp => (hg p hp).1.row, by rw [List.length_map]; omega⟩, hg⟩
  rcases h.at_ with h0 | ⟨b, o, ha, _, hc⟩
  · exact .inl (by rw [h0]; rfl)
  · refine .inr ⟨b, o, ha, fun i hi => ?_⟩
    rw [List.length_map] at hi
    rw [toPg_getD]
    show W.cell? ⟨b, o + i, none⟩ = some (r.l.getD i default).v
    have := hc i hi 0 (r.l.getD i default).v rfl
    simpa using this
theorem borow_of {good : Bool → Prop} {r : RowE Bool} (h : RowOf W 1 (fun b : Bool => [.bool b]) good r) : BoRow W r.a r.l := by
  rcases h.at_ with h0 | ⟨b, o, ha, _, hc⟩
  · exact .inl h0
  · refine .inr ⟨b, o, ha, fun i hi => ?_⟩
    have := hc i hi 0 (.bool (r.l.getD i default)) rfl
    simpa using this
variable {r : Reach} {n : Nat} {v : Value} {d : DataW H} {p : List MemPlace}
set_option maxRecDepth 100000 in
theorem arg_pages (h : DataW.Trod enc Try.prog W 0 (fun _ => true) true 51 v d p) (hv : Value.okWide Try.prog W r n 51 v) (hw : ∀ n ∈ d.weights Try.prog 51, n ≤ reachBytes) : ∃ (a : Option Addr) (ps : List PgM) (c : Nat), v = .slice a ps.length c ∧ GRow W.heap.size W a ps := by
  obtain ⟨a, len, cap, rfl⟩ := okWide_slice Try.underlying51 hv
  obtain ⟨fuel, hf⟩ := h
  obtain ⟨x, he, hx⟩ := opens_pages.elem _ _ _ hf hw
  refine ⟨x.a, x.l.map toPg, x.c, ?_, grow_of hx⟩
  rw [List.length_map]
  simpa [Value.cells] using he
set_option maxRecDepth 100000 in
theorem arg_bools (h : DataW.Trod enc Try.prog W 0 (fun _ => true) true 52 v d p) (hv : Value.okWide Try.prog W r n 52 v) (hw : ∀ n ∈ d.weights Try.prog 52, n ≤ reachBytes) : ∃ (x : RowE Bool), v = x.v ∧ BoRow W x.a x.l ∧ x.l.length ≤ 140737488355328 := by
  obtain ⟨a, len, cap, rfl⟩ := okWide_slice Try.underlying52 hv
  obtain ⟨fuel, hf⟩ := h
  obtain ⟨x, he, hx, hl⟩ := opens_bools.elem _ _ _ hf hw
  have := reach_le
  refine ⟨x, ?_, borow_of hx, by omega⟩
  simpa [Value.cells] using he
end

end Go.Proofs.Ytpggkehfbhffbaa
