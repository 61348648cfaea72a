/-
  A row of blocks copied. Conditions: a row that can be read.
-/
import Derived.Test.YtpggkehfbhffbaaNL
import Derived.Test.YtpggkehfbhffbaaKA
namespace Go.Proofs.Ytpggkehfbhffbaa.mgr
open Go.RowKit

theorem row_info : (Try.prog.info? 121).map (fun i => (i.zero, i.size, i.bytes)) = some (some (.agg #[vi 0, vi 0, vi 0, vi 0]), 4, 32) := by kernel_rfl
set_option maxHeartbeats 1000000 in
theorem CloneR_any (a : Option Addr) (n c : Nat) (xs : List Value) (w : World) (hx : xs.length = n * 4) (hc : ∀ ad, a = some ad → ∀ j u, xs[j]? = some u → w.cell? (ad.add j) = some u) (h1 : ∀ u ∈ xs, u.oneCell' = true) (hz : a = none → n = 0) (hn : n ≤ 100000) :
    Calls Try.prog 85 #[.slice a n c] w fun e w' => ∃ v', e = .returned v' ∧ w'.ownsRow w.heap.size 121 4 v' n xs ∧ Below w.heap.size w w' := by
  have hen := fun (w : World) (a : Option Addr) (n c : Nat) => Lib.run_eql_slice_nil (P := Try.prog) w 76 121 a n c 0 0 Try.underlying76
  cases a with
  | none =>
    have h0 := hz rfl
    subst h0
    have hx0 : xs = [] := List.eq_nil_of_length_eq_zero (by omega)
    subst hx0
    clear hx hc h1 hz hn
    go_enter Try.func85, Try.ntmps85
    go_wp2_with fail
    go_ret
    exact ⟨_, rfl, World.ownsRow_nil _ _ _ _, Below.refl _ _⟩
  | some ad =>
    obtain ⟨i0, hi, hz0, hz1, hz2⟩ := info_parts row_info
    have hown : (w.alloc (.cells #[] 121)).ownsRow w.heap.size 121 4 (.slice (some ⟨w.heap.size, 0, none⟩) 0 0) 0 [] := World.ownsRow_lit w #[] 0 (Nat.le_refl _) (Nat.zero_le _) rfl
    have hb := (Below.refl w.heap.size w).alloc (Nat.le_refl _) (.cells #[] 121)
    obtain ⟨v', w', hrun, ho, hg, _⟩ := run_append_own_at (P := Try.prog) (w.alloc (.cells #[] 121)) w.heap.size 76 76 121 i0 _ 4 32 Try.underlying76 hi hz0 hz1 hz2 rfl (by omega) _ 0 [] hown
      ad n c xs (by omega) (fun j u hu => cell_below (hc ad rfl j u hu) hb) h1 (by unfold maxLen; omega) (by omega) (by simp)
    have R : AppRun 76 76 76 (.slice (some ⟨w.heap.size, 0, none⟩) 0 0) (.slice (some ad) n c) (w.alloc (.cells #[] 121)) v' w' := ⟨hrun⟩
    have HB := Lib.hid (hb.grown hg (by simp) (fun k hk => (hown.lt k hk).1))
    rw [Nat.zero_add, List.nil_append] at ho
    have HO := Lib.hid ho
    clear hrun ho hg hown hi hz0 hz1 hz2 hx hc h1 hz hb
    go_enter Try.func85, Try.ntmps85
    go_wp2_with (at_builtin; refine wpList_append_run rfl (.tmp 5) (.tmp 6) rfl rfl rfl R.run ?_)
    go_ret
    exact ⟨_, rfl, HO.out, HB.out⟩


end Go.Proofs.Ytpggkehfbhffbaa.mgr
