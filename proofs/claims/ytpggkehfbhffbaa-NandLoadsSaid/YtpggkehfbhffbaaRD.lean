/-
  The document's chip: a page read. Conditions: a chip that is told by RefAt, and right.
-/
import Derived.Test.YtpggkehfbhffbaaRC
namespace Go.Proofs.Ytpggkehfbhffbaa
open Go.RowKit

section
variable {base : Nat} {w wr w' : World} {k : Nat} {R R' : RefM}
theorem rok_S (hok : R.view.ok) : R.S ≤ 512 ∧ R.P ≤ 32 ∧ R.B ≤ 128 := by
  have : NP.rightB R.B R.P R.S = true := hok.right
  simp only [NP.rightB, Bool.and_eq_true, decide_eq_true_eq, Bool.or_eq_true, beq_iff_eq] at this
  omega
theorem rok_mem (_hok : R.view.ok) {i : Nat} (hi : i < R.B) : R.blo i ∈ R.view.bs := List.mem_map_of_mem (List.mem_range.2 hi)
theorem rok_next (hok : R.view.ok) {i : Nat} (hi : i < R.B) : R.nx.getD i 0 ≤ R.P := hok.next _ (rok_mem hok hi)
theorem rok_full (hok : R.view.ok) {i p : Nat} (hi : i < R.B) (hp : p < R.P) : (R.ps.getD (i * R.P + p) default).l = [] ∨ (R.ps.getD (i * R.P + p) default).l.length = R.S + 32 :=
  hok.full _ (rok_mem hok hi) _ (List.mem_map_of_mem (f := fun p => (R.ps.getD (i * R.P + p) default).l) (List.mem_range.2 hp))
theorem at_small (hok : R.view.ok) {i p : Nat} (hi : i < R.B) (hp : p < R.P) : i * R.P ≤ 4096 ∧ i * R.P + p ≤ 4128 := by
  obtain ⟨_, h1, h2⟩ := rok_S hok
  have : i * R.P ≤ 128 * 32 := Nat.mul_le_mul (by omega) h1
  omega
theorem torn_read {n : Nat} {l : List Nat} (h : l = [] ∨ l.length = n) : NP.torn n l = if l = [] then List.replicate n 255 else l := by
  rcases h with rfl | h
  · simp [NP.torn]
  · split
    · rename_i e; subst e; simp [NP.torn]
    · exact NP.torn_whole h

/-- What Read leaves. -/
def RReadPost (base : Nat) (w : World) (k : Nat) (R : RefM) (r : (List Nat × Int) × NP.Chp) (e : Ending) (w' : World) : Prop :=
  ∃ v' R', e = .returned (.tuple #[v', vi r.1.2]) ∧ Own w' w.heap.size v' r.1.1 ∧ RGoes base w k R w' R' ∧ R'.view = r.2
def readR (R : RefM) : RefM := { R with reads := NP.w64 (R.reads + 1) }
set_option maxRecDepth 100000 in
set_option maxHeartbeats 2000000 in
theorem rRead_any (h : RefAt base w k R) (hok : R.view.ok) (j p : Int) : Calls Try.prog 68 #[ptr k, vi j, vi p] w (RReadPost base w k R (NP.readP R.view j p)) := by
  have HC := Lib.hid h
  by_cases he : NP.asked R.view j p = 0
  · obtain ⟨hd, hj0, hj1, hp0, hp1⟩ := NP.asked_zero he
    change j < R.B at hj1
    change p < R.P at hp1
    obtain ⟨i, rfl⟩ : ∃ i : Nat, j = i := ⟨j.toNat, by omega⟩
    obtain ⟨q, rfl⟩ : ∃ q : Nat, p = q := ⟨p.toNat, by omega⟩
    have hi : i < R.B := by omega
    have hq : q < R.P := by omega
    have HE := Lib.hid he
    have hS := (rok_S hok).1
    have hfl := rok_full hok hi hq
    obtain ⟨hs1, hs2⟩ := at_small hok hi hq
    have hat : i * R.P + q < R.ps.length := by rw [h.lp]; exact at_lt hi hq
    have HQ : Hid (NP.readP R.view i q = ((NP.torn (R.S + 32) (R.ps.getD (i * R.P + q) default).l, 0), (readR R).view)) := Lib.hid (by
      unfold NP.readP
      dsimp only
      rw [if_pos he, Int.toNat_natCast, Int.toNat_natCast, R.page hi hq, torn_read hfl]
      rfl)
    have G := h.field (R' := readR R) 12 (vi (wrap64 (R.reads + 1))) (by rw [← w64_eq]; rfl) rfl
    have HG := Lib.hid G
    have c12 : w.cell? ⟨k, 12, none⟩ = some (vi R.reads) := h.chip.cell 12
    have z12 := h.chip.frozen 12
    have hln : (R.ps.getD (i * R.P + q) default).l.length ≤ maxLen := by unfold maxLen; rcases hfl with e | e; rw [e]; simp; omega
    clear hd he G hok h hfl
    go_enter Try.func68, Try.ntmps68
    go_wp2_with fail
    refine (place_any HC.out _ _).mono ?_
    rintro e w' ⟨rfl, rfl⟩
    rw [HE.out]
    go_upto_region 5 with fail
    generalize w'.setCell ⟨k, 12, none⟩ (vi (wrap64 (R.reads + 1))) = w1 at *
    have c1 : w1.cell? ⟨k, 1, none⟩ = some (vi R.P) := HG.out.at_.chip.cell 1
    have c3 : w1.cell? ⟨k, 3, none⟩ = some (.slice (some ⟨R.gp, 0, none⟩) R.ps.length R.cp) := HG.out.at_.chip.cell 3
    have d1 : w1.cell? ⟨R.gp, i * R.P + q, none⟩ = some (R.ps.getD (i * R.P + q) default).v := HG.out.at_.pcell (i := i * R.P + q) hat
    have hpg : (R.ps.getD (i * R.P + q) default).ok base w1 := HG.out.at_.rows (R.ps.getD (i * R.P + q) default) (getD_mem hat)
    clear c12 z12
    generalize R.ps.getD (i * R.P + q) default = pg at *
    obtain ⟨pa, pl, pc⟩ := pg
    dsimp only at *
    have HFU : Hid (Calls Try.prog 101 #[ptr k, .slice pa pl.length pc] w1.drew fun e w' => ∃ v', e = .returned v' ∧ Own w' w1.heap.size v' (NP.torn (R.S + 32) pl) ∧ Below w1.heap.size w1 w') := Lib.hid
      ((rfull_any (HG.out.at_.old (Below.refl _ _).drew) hS pa pl pc (hpg.row.row.below (Below.refl _ _).drew) hln).mono (by
        rintro e w' ⟨v', rfl, ho, hb⟩
        exact ⟨v', rfl, ho, (Below.refl _ _).drew.trans hb⟩))
    have q1 : IntKind.i64.wrap ((i : Int) * (R.P : Int)) = (i : Int) * (R.P : Int) := IntWalk.i64_in _ (by omega)
    have q2 : IntKind.i64.wrap ((i : Int) * (R.P : Int) + (q : Int)) = (i : Int) * (R.P : Int) + (q : Int) := IntWalk.i64_in _ (by omega)
    have q3 : (0 : Int) ≤ (i : Int) * (R.P : Int) + (q : Int) := by omega
    have q4 : (i : Int) * (R.P : Int) + (q : Int) < (R.ps.length : Int) := by omega
    have q5 : ((i : Int) * (R.P : Int) + (q : Int)).toNat = i * R.P + q := by omega
    have HD : Hid (w1.drew.cell? ⟨k, 1, none⟩ = some (vi R.P) ∧ w1.drew.cell? ⟨k, 3, none⟩ = some (.slice (some ⟨R.gp, 0, none⟩) R.ps.length R.cp) ∧ w1.drew.cell? ⟨R.gp, i * R.P + q, none⟩ = some (.slice pa pl.length pc)) := Lib.hid ⟨c1, c3, d1⟩
    have C1 := Lib.hid c1
    have C3 := Lib.hid c3
    have D1 := Lib.hid d1
    clear c1 c3 d1 hpg hln
    go_region_held3 (fun w' => w'.cell? ⟨k, 1, none⟩ = some (vi R.P) ∧ w'.cell? ⟨k, 3, none⟩ = some (.slice (some ⟨R.gp, 0, none⟩) R.ps.length R.cp) ∧ w'.cell? ⟨R.gp, i * R.P + q, none⟩ = some (.slice pa pl.length pc))
      (first
        | exact HD.out
        | exact ⟨cell_below C1.out hb3, cell_below C3.out hb3, cell_below D1.out hb3⟩)
      (first | (go_at_call 101; refine (HFU.out).mono ?_; rintro e w3 ⟨v3, rfl, ho3, hb3⟩; have HO3 := Lib.hid ho3; clear ho3))
    all_goals
      have HG3 := Lib.hid (HG.out.old hb3)
      have HO4 := Lib.hid (HO3.out.more HG.out.size)
      go_wp2_with fail
      go_ret2
      exact ⟨v3, readR R, by rw [HQ.out]; rfl, by rw [HQ.out]; exact HO4.out, HG3.out, by rw [HQ.out]⟩
  · have HQ : Hid (NP.readP R.view j p = (([], NP.asked R.view j p), R.view)) := Lib.hid (by unfold NP.readP; dsimp only; rw [if_neg he])
    clear hok h
    go_enter Try.func68, Try.ntmps68
    go_wp2_with fail
    refine (place_any HC.out _ _).mono ?_
    rintro e w' ⟨rfl, rfl⟩
    generalize NP.asked R.view j p = n at *
    have hn : ((n : Int) != 0) = true := by simp [he]
    go_wp2_with fail
    go_ret2
    exact ⟨_, R, by rw [HQ.out]; rfl, by rw [HQ.out]; exact Own.nil _ _, RGoes.refl HC.out, by rw [HQ.out]⟩
end

end Go.Proofs.Ytpggkehfbhffbaa
