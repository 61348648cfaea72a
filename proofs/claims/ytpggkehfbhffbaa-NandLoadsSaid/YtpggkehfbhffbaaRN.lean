/-
  The document's chip: a block erased. Conditions: a chip that is told by RefAt, and right.
-/
import Derived.Test.YtpggkehfbhffbaaRM
import Derived.Test.YtpggkehfbhffbaaRF
import Derived.StillTailTactics
namespace Go.Proofs.Ytpggkehfbhffbaa
open Go.RowKit

section
variable {base : Nat} {w wr w' w'' : World} {k : Nat} {R R' : RefM}
theorem Chg.over {F : Nat → Prop} (h : Chg F w w') (q : Below w.heap.size w' w'') : Chg F w w'' :=
  ⟨q.os.trans h.os, q.tape.trans h.tape, q.output.trans h.output, Nat.le_trans h.size q.size, fun k hk hn => (q.block k hk).trans (h.block k hk hn)⟩
theorem RefAt.setP' (h : RefAt base w k R) (q : Chg (fun n => n = R.gp) w w') (i : Nat) (pg : PgM) (ha : Arr w' 32 1 R.gp R.ps.length R.cp ((R.ps.set i pg).map (·.v))) (hp : pg.ok base w') : RGoes base w k R w' { R with ps := R.ps.set i pg } := by
  have hF : ∀ n, n = R.gp → Mine base w n := fun n e => h.mine n (.inr (.inl e))
  obtain ⟨h1, h2, h3, h4, h5⟩ := h.k_ne
  refine ⟨⟨?_, ?_, h.nx.chg q (h.nx.ne h.ps (by decide)), h.br.chg q (h.br.ne h.ps (by decide)), h.bd.chg q (h.bd.ne h.ps (by decide)), h.wr.chg q (h.wr.ne h.ps (by decide)), h.ne1, h.ne2, ?_, h.faults.chg q hF, h.low, by simpa using h.lp, h.ln, h.lb, h.ld, h.lw⟩, q.mono (fun n _ e => .inr (.inl e)), fun n hn => .inl hn⟩
  · have := h.chip.chg q h1.symm
    simpa [RefM.cs] using this
  · dsimp only
    rw [List.length_set]
    exact ha
  · intro p hpm
    rcases List.mem_or_eq_of_mem_set hpm with hpm | rfl
    · exact (h.rows p hpm).chg q hF
    · exact hp
/-- The state while a page is filled with one byte. -/
structure FilSt (w0 : World) (R : RefM) (at_ y n : Nat) (v : Value) (wr : World) : Prop where
  chg : Chg (fun n => n = R.gp) w0 wr
  row : Own wr w0.heap.size v (List.replicate n y)
  gp : Arr wr 32 1 R.gp R.ps.length R.cp ((R.ps.map (·.v)).set at_ v)
theorem FilSt.size {w0 : World} {at_ y n : Nat} {v : Value} (h : FilSt w0 R at_ y n v wr) : w0.heap.size ≤ wr.heap.size := h.chg.size
theorem FilSt.next {w0 : World} {at_ y n : Nat} {v : Value} (h : FilSt w0 R at_ y n v wr) (hy : y < 256) (hn : n + 1 ≤ 1000000) :
    ∃ v' w', AppRun 32 32 32 v (.slice (some ⟨wr.heap.size, 0, none⟩) 1 1) (wr.alloc (.cells #[vb y] 5)) v' w' ∧ FilSt w0 R at_ y (n + 1) v' (w'.setCell ⟨R.gp, at_, none⟩ v') ∧ Chg (fun n => n = R.gp) w0 w' ∧
      (∀ g t cs, t ≠ 5 → Blk wr g t cs → Blk w' g t cs) ∧ Arr w' 32 1 R.gp R.ps.length R.cp ((R.ps.map (·.v)).set at_ v) := by
  obtain ⟨v', w', hrun, ho, hs⟩ := append_new h.row [y] (by simpa using hy) (n := 1) rfl rfl (cs := #[vb y]) rfl (by rw [List.length_replicate]; exact hn) h.chg.size
  rw [← List.replicate_succ'] at ho
  have hc := h.chg.over hs.below
  have hga : Arr w' 32 1 R.gp R.ps.length R.cp ((R.ps.map (·.v)).set at_ v) := by
    obtain ⟨cur, hb, h1, h2, h3, h4⟩ := h.gp.blk
    exact ⟨h.gp.1, .inr ⟨R.gp, R.cp, cur, rfl, Nat.zero_le _, hs.blk _ _ _ (by decide) hb, h1, h2, h3, h4⟩⟩
  refine ⟨v', w', ⟨hrun⟩, ⟨hc.setCell (.inl rfl) _, ?_, ?_⟩, hc, hs.blk, hga⟩
  · obtain ⟨cur, hb, _⟩ := hga.blk
    have hb' := hb
    refine World.ownsRow.kept ho (row := some R.gp) ?_ (.inr (own_blk_ne ho hb (by decide)).symm)
    exact ⟨rfl, rfl, rfl, by simp [World.setCell], fun k _ hk => Below.heap_setCell w' ⟨R.gp, at_, none⟩ v' k (fun e => hk (by rw [e]))⟩
  · have := hga.set at_ v'
    rwa [List.set_set] at this
theorem FilSt.done {w0 : World} {at_ y n : Nat} {v : Value} (hR : RefAt base w0 k R) (h : FilSt w0 R at_ y n v wr) (hy : y < 256) (hn : 0 < n) : ∃ pg : PgM, pg.l = List.replicate n y ∧ RGoes base w0 k R wr { R with ps := R.ps.set at_ pg } := by
  obtain ⟨pg, rfl, hp1, hp2⟩ := Own.page (base := base) h.row (by intro x hx; rw [(List.mem_replicate.1 hx).2]; exact hy) (by rw [List.length_replicate]; exact hn)
  refine ⟨pg, hp1, hR.setP' h.chg at_ pg ?_ hp2⟩
  rw [List.map_set]
  exact h.gp
end

end Go.Proofs.Ytpggkehfbhffbaa
