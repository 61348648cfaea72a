/-
  Lemmas for a law's proof, put together from several texts: each part says what it shows, and its conditions.
-/
import Derived.Test.YtnfhlocflpdlcaaGreatZT33
import Derived.Test.YtnfhlocflpdlcaaGreatZT19
import Derived.Test.YtnfhlocflpdlcaaGreatZT42
/-
  A pool that is not there: what each method answers; how many of its pages are dirty. No conditions of its own.
-/
namespace Go.Proofs.YtnfhlocflpdlcaaGreat.pl
open Go.RowKit Go.Proofs.YtnfhlocflpdlcaaGreat.mgr Go.Proofs.YtnfhlocflpdlcaaGreat.ft

section
variable {w : World}
theorem asked_nil (n : Value) : Calls Tryz.prog 74 #[nilp, n] w fun e w' => e = .returned (vi 3) ∧ w' = w := by
  go_enter Tryz.func74, Tryz.ntmps74
  go_wp2_with fail
  go_ret
  exact ⟨rfl, rfl⟩
theorem Get_nil (n : Value) : Calls Tryz.prog 33 #[nilp, n] w fun e w' => e = .returned (.tuple #[.slice none 0 0, vi 3]) ∧ w' = w := by
  go_enter Tryz.func33, Tryz.ntmps33
  go_wp2_with fail
  refine (asked_nil n).mono ?_
  rintro e w' ⟨rfl, rfl⟩
  go_wp2_with fail
  go_ret2
  exact ⟨rfl, rfl⟩
theorem Put_nil (n b : Value) : Calls Tryz.prog 39 #[nilp, n, b] w fun e w' => e = .returned (vi 3) ∧ w' = w := by
  go_enter Tryz.func39, Tryz.ntmps39
  go_wp2_with fail
  refine (asked_nil n).mono ?_
  rintro e w' ⟨rfl, rfl⟩
  go_wp2_with fail
  go_ret
  exact ⟨rfl, rfl⟩
theorem Alloc_nil : Calls Tryz.prog 138 #[nilp] w fun e w' => e = .returned (.tuple #[vi 0, vi 3]) ∧ w' = w := by
  go_enter Tryz.func138, Tryz.ntmps138
  go_wp2_with fail
  go_ret2
  exact ⟨rfl, rfl⟩
theorem Free_nil (n : Value) : Calls Tryz.prog 83 #[nilp, n] w fun e w' => e = .returned (vi 3) ∧ w' = w := by
  go_enter Tryz.func83, Tryz.ntmps83
  go_wp2_with fail
  refine (asked_nil n).mono ?_
  rintro e w' ⟨rfl, rfl⟩
  go_wp2_with fail
  go_ret
  exact ⟨rfl, rfl⟩
theorem Room_nil : Calls Tryz.prog 56 #[nilp] w fun e w' => e = .returned (vi 0) ∧ w' = w := by
  go_enter Tryz.func56, Tryz.ntmps56
  go_wp2_with fail
  go_ret
  exact ⟨rfl, rfl⟩
theorem Size_nil : Calls Tryz.prog 73 #[nilp] w fun e w' => e = .returned (vi 0) ∧ w' = w := by
  go_enter Tryz.func73, Tryz.ntmps73
  go_wp2_with fail
  go_ret
  exact ⟨rfl, rfl⟩
theorem Layout_nil : Calls Tryz.prog 45 #[nilp] w fun e w' => e = .returned (.agg #[vi 0, vi 0, vi 0, vi 0]) ∧ Below w.heap.size w w' := by
  go_enter Tryz.func45, Tryz.ntmps45
  go_wp2_with fail
  exact bodyPost_ret (v := .agg #[vi 0, vi 0, vi 0, vi 0]) (by simp [results, Tryz.results45, go_sem]) rfl ⟨rfl, (Below.refl _ _).alloc (Nat.le_refl _) _⟩
theorem Open_nil (a b c d : Int) (u : Value) : Calls Tryz.prog 67 #[nilp, .agg #[vi a, vi b, vi c, vi d], u] w fun e w' => e = .returned (.tuple #[nilp, vi 3]) ∧ Below w.heap.size w w' := by
  go_enter Tryz.func67, Tryz.ntmps67
  go_wp2_with fail
  go_ret2
  exact ⟨rfl, (Below.refl _ _).alloc (Nat.le_refl _) _⟩
theorem eql_lay (w : World) : (binOp .eql 99 (.agg #[vi 0, vi 0, vi 0, vi 0]) (.agg #[vi 0, vi 0, vi 0, vi 0])).run Tryz.prog w = .ok (.bool true) w := by kernel_rfl
end
section
variable {w : World} {q : Nat} {Y : PlM}
end
end Go.Proofs.YtnfhlocflpdlcaaGreat.pl

/-
  What must come of fixed calls of a pool. No conditions.
-/
namespace Go.Proofs.YtnfhlocflpdlcaaGreat.FP
open Go.Proofs.YtnfhlocflpdlcaaGreat.mgr
def pC0 : NP.Chp := NP.blank 8 8 64
def pF0 : Ft := (formatN pC0 1 z56).getD dummy
theorem p_format : formatN pC0 1 z56 = some pF0 := by kernel_rfl
theorem p_cap : pF0.cap = 46 := by kernel_rfl
theorem p_text : pF0.text.length = 56 := by kernel_rfl
theorem p_read : pF0.read 1 = (([], 60), pF0) := by kernel_rfl
end Go.Proofs.YtnfhlocflpdlcaaGreat.FP
namespace Go.Proofs.YtnfhlocflpdlcaaGreat.pl
open Go.RowKit Go.Proofs.YtnfhlocflpdlcaaGreat.mgr Go.Proofs.YtnfhlocflpdlcaaGreat.ft
section
variable {base : Nat} {w w' : World} {f k q : Nat} {M : ChM} {X : FtM} {Y : PlM}
theorem SameBytes_any (a a' : Option Addr) (l : List Nat) (c c' : Nat) (w : World) (h : BRow w a l) (h' : BRow w a' l) :
    Calls Tryz.prog 61 #[.slice a l.length c, .slice a' l.length c'] w fun e w' => e = .returned (.bool true) ∧ w' = w := by
  have h1 := run_text h c
  have h2 := run_text h' c'
  clear h h'
  go_enter Tryz.func61, Tryz.ntmps61
  go_wp2_with fail
  go_ret
  exact ⟨rfl, rfl⟩
theorem pC0_good : Good6 FP.pC0 := new_good6 (b := 8) (p := 8) (s := 64) (bad := []) rfl
theorem pformat (h : ChipAt base w k M) (hv : M.view = FP.pC0) (hbase : base ≤ w.heap.size) (a : Option Addr) (hr : SRow base w a FP.z56) :
    Calls Tryz.prog 66 #[ptr k, .int .i64 1, .slice a 56 56] w fun e w' => ∃ f X, e = .returned (.tuple #[ptr f, vi 0]) ∧ FtNew base w k M w' f X ∧ X.view = FP.pF0 ∧ X.Fit := by
  have h1 := Format_new h (by rw [hv]; exact pC0_good) hbase 1 a FP.z56 56 hr FP.pF0 (by rw [hv]; exact FP.p_format)
  refine h1.mono ?_
  rintro e w' ⟨f, X, rfl, hn, hx⟩
  refine ⟨f, X, rfl, hn, hx, ?_⟩
  show Fit X.view
  rw [hx]
  exact format_fit pC0_good (by intro y hy; rw [List.eq_of_mem_replicate hy]; decide) FP.p_format
/-- A translation and a pool on it. -/
structure Both (base : Nat) (w0 w : World) (f : Nat) (X : FtM) (q : Nat) (Y : PlM) : Prop where
  ft : FtAt base w f X
  pl : PlAt w q Y
  dis : ∀ n, Y.foot q n → ¬ X.foot f n
  low : base ≤ Y.bu ∧ base ≤ Y.bd
  below : Below base w0 w
theorem Both.old (h : Both base w w' f X q Y) {w'' : World} (g : Below w'.heap.size w' w'') (hb : base ≤ w'.heap.size) : Both base w w'' f X q Y := ⟨h.ft.old g, h.pl.old g, h.dis, h.low, h.below.trans (g.mono hb)⟩
theorem Both.go (h : Both base w w' f X q Y) {w'' : World} {Y' : PlM} (g : Chg (fun n => n = Y.bu ∨ n = Y.bd) w' w'') (hp : PlAt w'' q Y') (e : Y'.bu = Y.bu ∧ Y'.bd = Y.bd) (hb : base ≤ w'.heap.size) : Both base w w'' f X q Y' := by
  refine ⟨h.ft.chg g (fun n e => ?_) (fun n e e2 => ?_), hp, fun n e2 => h.dis n ?_, by rw [e.1, e.2]; exact h.low, h.below.trans (g.to_below (fun n _ e => ?_) hb)⟩
  · rcases e with e | e
    · rw [e]; exact Loose.map h.low.1 h.pl.used
    · rw [e]; exact Loose.map h.low.2 h.pl.dirty
  · rcases e2 with e2 | e2
    · exact h.dis n (.inr (.inl e2)) e
    · exact h.dis n (.inr (.inr e2)) e
  · rcases e2 with e2 | e2 | e2
    · exact .inl e2
    · exact .inr (.inl (e2.trans e.1))
    · exact .inr (.inr (e2.trans e.2))
  · rcases e with e | e
    · rw [e]; exact h.low.1
    · rw [e]; exact h.low.2
end
end Go.Proofs.YtnfhlocflpdlcaaGreat.pl

/-
  What must come of fixed calls of a tree. No conditions.
-/
namespace Go.Proofs.YtnfhlocflpdlcaaGreat.FP
open Go.Proofs.YtnfhlocflpdlcaaGreat.mgr
def tC0 : NP.Chp := NP.blank 16 8 64
def tF0 : Ft := (formatN tC0 1 z56).getD dummy
theorem t_format : formatN tC0 1 z56 = some tF0 := by kernel_rfl
theorem t_cap : (decide (15 ≤ tF0.cap) && decide (tF0.cap ≤ 100000)) = true := by kernel_rfl
theorem t_text : tF0.text.length = 56 := by kernel_rfl
theorem t_read1 : tF0.read 1 = (([], 60), tF0) := by kernel_rfl
theorem t_read2 : tF0.read 2 = (([], 60), tF0) := by kernel_rfl
theorem t_read3 : tF0.read 3 = (([], 60), tF0) := by kernel_rfl
theorem t_read4 : tF0.read 4 = (([], 60), tF0) := by kernel_rfl
end Go.Proofs.YtnfhlocflpdlcaaGreat.FP
namespace Go.Proofs.YtnfhlocflpdlcaaGreat.pl
open Go.RowKit Go.Proofs.YtnfhlocflpdlcaaGreat.nd
def tP0 : Pl := ⟨10, [], []⟩
def tP1 : Pl := tP0.setIno 1 (tr.emptyIno 2)
def tP2 : Pl := tP1.setIno 2 (tr.emptyIno 1)
def tP3 : Pl := (tP2.first di.sl).setIno 1 (one 2 0 16 5)
def Pl.fine (p : Pl) : Bool := p.right 1 && p.right 2 && p.right 3 && p.right 4 && p.right 5 && p.right 6 && p.right 7 && p.right 8
theorem Pl.fine_all {p : Pl} (h : p.fine = true) (n : Nat) (hn : 1 ≤ n ∧ n ≤ 8) : p.right n = true := by
  unfold Pl.fine at h
  simp only [Bool.and_eq_true] at h
  rcases (by omega : n = 1 ∨ n = 2 ∨ n = 3 ∨ n = 4 ∨ n = 5 ∨ n = 6 ∨ n = 7 ∨ n = 8) with rfl | rfl | rfl | rfl | rfl | rfl | rfl | rfl
  · exact h.1.1.1.1.1.1.1
  · exact h.1.1.1.1.1.1.2
  · exact h.1.1.1.1.1.2
  · exact h.1.1.1.1.2
  · exact h.1.1.1.2
  · exact h.1.1.2
  · exact h.1.2
  · exact h.2
theorem tf0 : tP0.fine = true := by kernel_rfl
theorem tf1 : tP1.fine = true := by kernel_rfl
theorem tf2 : tP2.fine = true := by kernel_rfl
theorem tf3 : tP3.fine = true := by kernel_rfl
theorem ti01 : tP0.ino 1 = one 0 0 0 0 := by kernel_rfl
theorem ti11 : (tP1.ino 1).kind = 2 := by kernel_rfl
theorem ti12 : (tP1.ino 2).kind = 0 := by kernel_rfl
theorem ti21 : tP2.ino 1 = one 2 0 0 0 := by kernel_rfl
theorem tu2 : MP.has tP2.U 5 = false := by kernel_rfl
theorem ti31 : tP3.ino 1 = one 2 0 16 5 := by kernel_rfl
theorem ti32 : (tP3.ino 2).kind = 1 := by kernel_rfl
theorem tt3 : tP3.there 5 = true := by kernel_rfl
theorem tg3 : (tP3.get 5).take 16 = di.sl := by kernel_rfl
theorem tu3 : tP3.usedTo 8 = 2 := by kernel_rfl
end Go.Proofs.YtnfhlocflpdlcaaGreat.pl
namespace Go.Proofs.YtnfhlocflpdlcaaGreat.tr
open Go.RowKit Go.Proofs.YtnfhlocflpdlcaaGreat.mgr Go.Proofs.YtnfhlocflpdlcaaGreat.ft Go.Proofs.YtnfhlocflpdlcaaGreat.pl Go.Proofs.YtnfhlocflpdlcaaGreat.ino Go.Proofs.YtnfhlocflpdlcaaGreat.nd Go.Proofs.YtnfhlocflpdlcaaGreat.di
section
variable {base : Nat} {w w' w'' : World} {t q g : Nat} {p p' p'' : Pl} {K K' K'' : Nat → Prop}
theorem tC0_good : Good6 FP.tC0 := new_good6 (b := 16) (p := 8) (s := 64) (bad := []) rfl
theorem tformat {k : Nat} {M : ChM} (h : ChipAt base w k M) (hv : M.view = FP.tC0) (hbase : base ≤ w.heap.size) (a : Option Addr) (hr : SRow base w a FP.z56) :
    Calls Tryz.prog 66 #[ptr k, .int .i64 1, .slice a 56 56] w fun e w' => ∃ f X, e = .returned (.tuple #[ptr f, vi 0]) ∧ FtNew base w k M w' f X ∧ X.view = FP.tF0 ∧ X.Fit := by
  have h1 := Format_new h (by rw [hv]; exact tC0_good) hbase 1 a FP.z56 56 hr FP.tF0 (by rw [hv]; exact FP.t_format)
  refine h1.mono ?_
  rintro e w' ⟨f, X, rfl, hn, hx⟩
  refine ⟨f, X, rfl, hn, hx, ?_⟩
  show Fit X.view
  rw [hx]
  exact format_fit tC0_good (by intro y hy; rw [List.eq_of_mem_replicate hy]; decide) FP.t_format
set_option maxRecDepth 100000 in
set_option maxHeartbeats 4000000 in
theorem fresh_any (w : World) : Calls Tryz.prog 30 #[vi 10] w fun e w' => ∃ t q K, e = .returned (ptr t) ∧ TrAt w.heap.size w' t q K tP0 ∧ Below w.heap.size w w' := by
  have hm56 : ∀ w : World, (Instr.makeSlice 56 (.int .i64 56) (.int .i64 56)).run Tryz.prog w = .ok (.slice (some ⟨w.heap.size, 0, none⟩) 56 56) (w.alloc (.cells (madeCells #[vb 0] 56) 5)) := fun w => make_bytes 56 (by omega) w
  go_enter Tryz.func30, Tryz.ntmps30
  go_wp2_with fail
  refine (New_any w.heap.size 16 8 64 none [] 0 _ (.inl rfl) (Nat.zero_le _) (Nat.le_refl _)).mono ?_
  rintro e w1 hn
  rw [show NP.new 16 8 64 [] = some FP.tC0 from rfl] at hn
  obtain ⟨k, M, rfl, hm, hv⟩ := hn
  have HM := Lib.hid hm
  have HV := Lib.hid hv
  clear hm hv
  go_wp2_with fail
  have HB2 : Hid (Below w1.heap.size w1 (w1.alloc (.cells (madeCells #[vb 0] 56) 5))) := Lib.hid ((Below.refl _ _).alloc (Nat.le_refl _) _)
  have HF := Lib.hid (tformat (HM.out.at_.old HB2.out) HV.out (Nat.le_trans HM.out.below.size HB2.out.size) _ (zero_row w1 56))
  have HW2 := Lib.hid (HM.out.below.trans (HB2.out.mono HM.out.below.size))
  have HMO := Lib.hid HM.out.own
  clear hm56 HM HB2
  generalize w1.alloc (.cells (madeCells #[vb 0] 56) 5) = w2 at *
  refine HF.out.mono ?_
  rintro e w3 ⟨f, X, rfl, hnew, hxv, hxf⟩
  have HN := Lib.hid hnew.at_
  have HXV := Lib.hid hxv
  have HXF := Lib.hid hxf
  have HB3 : Hid (Below w.heap.size w w3) := Lib.hid (HW2.out.trans (hnew.chg.to_below (fun n _ e => HMO.out n e) HW2.out.size))
  have HTX : Hid (X.tx.length = 56) := Lib.hid (by rw [show X.tx = FP.tF0.text from congrArg FP.Ft.text hxv]; exact FP.t_text)
  clear hnew hxv hxf HF HMO HW2 HV
  go_wp2_with fail
  have hcp : 15 ≤ X.view.cap ∧ X.view.cap ≤ 100000 := by
    have := FP.t_cap
    rw [← HXV.out] at this
    simpa using this
  have HOP : Hid (Calls Tryz.prog 67 #[ptr f, .agg #[.int .i64 4, .int .i64 5, .int .i64 10, .int .i64 8], .slice none 0 0] w3 (OpPost w3 f 4 5 10 8 64)) := Lib.hid (by
    have h := pl.Open_any HN.out HXF.out 4 5 10 8 (by omega) rfl (by omega) (by omega)
    rw [HTX.out] at h
    exact h)
  clear hcp
  refine HOP.out.mono ?_
  rintro e w4 ⟨q, bu, bd, rfl, hpl, hsz, hb4⟩
  have HPQ : Hid (PQ w.heap.size w4 q (pl.foot ⟨f, 4, 5, 10, 8, 64, bu, bd, [], []⟩ X) tP0) := Lib.hid ⟨⟨f, 4, 5, 10, 8, 64, bu, bd, [], []⟩, X, ⟨hpl, HN.out.old hb4, HXF.out, fun n e e2 => by
    have := HN.out.lt n e2
    rcases e with e | e | e
    · omega
    · dsimp only at e; omega
    · dsimp only at e; omega, ⟨by have := HB3.out.size; dsimp only; omega, by have := HB3.out.size; dsimp only; omega, by have := HB3.out.size; omega⟩, ⟨rfl, rfl, rfl, rfl, rfl⟩, rfl, fun n => .inl ⟨rfl, rfl⟩, fun n h1 h2 => by
      rw [HXV.out]
      rcases (by omega : n = 1 ∨ n = 2 ∨ n = 3 ∨ n = 4) with rfl | rfl | rfl | rfl
      · exact FP.t_read1
      · exact FP.t_read2
      · exact FP.t_read3
      · exact FP.t_read4, fun n h => by simp [tP0, MP.has, MP.get] at h⟩, rfl⟩
  have HB4 : Hid (Below w.heap.size w w4) := Lib.hid (HB3.out.trans (hb4.mono HB3.out.size))
  clear hpl hsz hb4 HOP HN HB3 HTX HXV HXF
  go_wp2_with fail
  refine (Open_any HPQ.out).mono ?_
  rintro e w5 ⟨t, rfl, ht, hb5, hta⟩
  have HT := Lib.hid hta
  have HB5 := Lib.hid (HB4.out.trans (hb5.mono HB4.out.size))
  clear hta hb5 ht
  go_wp2_with fail
  go_ret
  exact ⟨t, q, _, rfl, HT.out, HB5.out⟩
theorem find_a (h : TrAt base w t q K tP3) : Calls Tryz.prog 16 #[ptr t, vi 1, sa] w fun e w' => e = .returned (.tuple #[vi 2, vi 0]) ∧ ∃ K', TrGo base w t q K w' K' tP3 := by
  refine Find_ok (P := fun v W => ∃ K' g c, v = .slice (some ⟨g, 0, none⟩) 16 c ∧ 16 ≤ c ∧ BRow W (some ⟨g, 0, none⟩) sl ∧ TrGo base w t q K W K' tP3) (Q := fun W => ∃ K', TrGo base w t q K W K' tP3) (ptr t) (vi 1) _ 0 2 (by decide) ?_ ?_
  · refine (Bytes_of (P := fun v k W => k = 0 ∧ ∃ K' g c, v = .slice (some ⟨g, 0, none⟩) 16 c ∧ 16 ≤ c ∧ BRow W (some ⟨g, 0, none⟩) sl ∧ TrGo base w t q K W K' tP3) (ptr t) (vi 1) ?_).mono ?_
    · refine (dir_any h 1 (by omega) (Pl.fine_all tf3 1 (by omega)) 0 16 5 ti31 (by omega) (fun _ => ⟨by omega, by omega, tt3⟩)).mono ?_
      rintro e w' ⟨K', a, c, rfl, hsr, hlc, hac, hgo⟩
      rw [show (tP3.get ((5 : Nat) : Int)).take 16 = sl from tg3] at hsr hlc hac ⊢
      rcases hac with ⟨h0, _⟩ | ⟨_, g, rfl⟩
      · exact absurd h0 (by decide)
      · exact ⟨2, 0, 16, 5, 0, 0, 0, 0, 0, 0, 0, _, _, _, 0, rfl, fun W hb => ⟨rfl, K', g, c, rfl, hlc, (hsr.old hb).row, hgo.old hb⟩⟩
    · rintro e w' ⟨s, l, c, k, rfl, rfl, hp⟩
      exact ⟨_, rfl, hp⟩
  · rintro v W ⟨K', g, c, rfl, hc, hr, hgo⟩
    refine (Find_one g 0 c hc hr).mono ?_
    rintro e w' ⟨rfl, hb⟩
    exact ⟨rfl, K', hgo.old hb⟩
theorem find_b (h : TrAt base w t q K tP3) (s : ByteArray) : Calls Tryz.prog 16 #[ptr t, vi 2, .string s] w fun e w' => e = .returned (.tuple #[vi 0, vi 62]) ∧ ∃ K', TrGo base w t q K w' K' tP3 := by
  refine Find_err (P := fun W => ∃ K', TrGo base w t q K W K' tP3) (ptr t) (vi 2) s 62 (by decide) ?_
  refine (Bytes_of (P := fun v k W => k = 62 ∧ ∃ K', TrGo base w t q K W K' tP3) (ptr t) (vi 2) ?_).mono ?_
  · refine (dir_not h 2 (by omega) (Pl.fine_all tf3 2 (by omega)) (by rw [ti32]; decide)).mono ?_
    rintro e w' ⟨K', rfl, hgo⟩
    exact ⟨0, 0, 0, 0, 0, 0, 0, 0, 0, 0, 0, _, _, _, 62, rfl, fun W hb => ⟨rfl, K', hgo.old hb⟩⟩
  · rintro e w' ⟨s, l, c, k, rfl, rfl, hp⟩
    exact ⟨_, rfl, hp⟩
/-- A tree that went on, with a block of the caller's, and one more. -/
structure KnB (base : Nat) (w : World) (t q : Nat) (K : Nat → Prop) (p : Pl) (x : Nat) (wr : World) (K' : Nat → Prop) : Prop where
  go : TrGo base w t q K wr K' p
  ino : Blk wr x 50 #[vi 0, vi 0, vi 0, vi 0, vi 0, vi 0, vi 0, vi 0, vi 0, vi 0, vi 0]
  nino : ¬ K' x
theorem KnB.on {wr : World} {x : Nat} (h : KnB base w t q K p x wr K') (g : TrGo base wr t q K' w' K'' p'') : KnB base w t q K p'' x w' K'' :=
  ⟨h.go.trans g, (g.go.keep h.ino h.nino).1, (g.go.keep h.ino h.nino).2⟩
theorem KnB.old {wr : World} {x : Nat} (h : KnB base w t q K p x wr K') (g : Below wr.heap.size wr w') : KnB base w t q K p x w' K' :=
  ⟨h.go.old g, h.ino.old g, h.nino⟩
/-- A walk by one name, or by two. -/
theorem walk_a {b c : Nat} (h : TrAt base w t q K tP3) (hb : Blk w b 9 #[sa]) (hn : ¬ K b) : Calls Tryz.prog 17 #[ptr t, .slice (some ⟨b, 0, none⟩) 1 c] w fun e w' => e = .returned (.tuple #[vi 2, vi 0]) ∧ ∃ K', TrGo base w t q K w' K' tP3 := by
  refine (Walk_of (S := fun _ W => ∃ K', TrGo base w t q K W K' tP3 ∧ Blk W b 9 #[sa] ∧ ¬ K' b) t b 0 c 1 (fun _ => ⟨#[97]⟩) (fun k => if k = 0 then 1 else 2) 0 rfl ⟨K, TrGo.refl h, hb, hn⟩ (by omega) ?_ ?_).mono ?_
  · rintro k W hk ⟨K', hg, hb', _⟩
    obtain rfl : k = 0 := by omega
    exact hb'.cell 0
  · rintro k W hk ⟨K', hg, hb', hn'⟩
    obtain rfl : k = 0 := by omega
    refine (find_a hg.at_).mono ?_
    rintro e w' ⟨rfl, K2, hg2⟩
    exact ⟨rfl, K2, hg.trans hg2, (hg2.go.keep hb' hn').1, (hg2.go.keep hb' hn').2⟩
  · rintro e w' ⟨rfl, K2, hg2, _⟩
    exact ⟨rfl, K2, hg2⟩
theorem walk_ab {b c : Nat} (s : ByteArray) (h : TrAt base w t q K tP3) (hb : Blk w b 9 #[sa, .string s]) (hn : ¬ K b) : Calls Tryz.prog 17 #[ptr t, .slice (some ⟨b, 0, none⟩) 2 c] w fun e w' => e = .returned (.tuple #[vi 0, vi 62]) ∧ ∃ K', TrGo base w t q K w' K' tP3 := by
  refine (Walk_of (S := fun _ W => ∃ K', TrGo base w t q K W K' tP3 ∧ Blk W b 9 #[sa, .string s] ∧ ¬ K' b) t b 0 c 2 (fun k => if k = 0 then ⟨#[97]⟩ else s) (fun k => if k = 0 then 1 else if k = 1 then 2 else 0) 62 rfl ⟨K, TrGo.refl h, hb, hn⟩ (by omega) ?_ ?_).mono ?_
  · rintro k W hk ⟨K', hg, hb', _⟩
    rcases (by omega : k = 0 ∨ k = 1) with rfl | rfl
    · exact hb'.cell 0
    · exact hb'.cell 1
  · rintro k W hk ⟨K', hg, hb', hn'⟩
    rcases (by omega : k = 0 ∨ k = 1) with rfl | rfl
    · refine (find_a hg.at_).mono ?_
      rintro e w' ⟨rfl, K2, hg2⟩
      exact ⟨rfl, K2, hg.trans hg2, (hg2.go.keep hb' hn').1, (hg2.go.keep hb' hn').2⟩
    · refine (find_b hg.at_ s).mono ?_
      rintro e w' ⟨rfl, K2, hg2⟩
      exact ⟨rfl, K2, hg.trans hg2, (hg2.go.keep hb' hn').1, (hg2.go.keep hb' hn').2⟩
  · rintro e w' ⟨rfl, K2, hg2, _⟩
    exact ⟨rfl, K2, hg2⟩
theorem eql_ino (w : World) : (binOp .eql 50 (.agg #[vi 0, vi 0, vi 0, vi 0, vi 0, vi 0, vi 0, vi 0, vi 0, vi 0, vi 0]) (.agg #[vi 0, vi 0, vi 0, vi 0, vi 0, vi 0, vi 0, vi 0, vi 0, vi 0, vi 0])).run Tryz.prog w = .ok (.bool true) w := by kernel_rfl
set_option maxRecDepth 100000 in
set_option maxHeartbeats 8000000 in
theorem known13_any (w : World) : Calls Tryz.prog 8 #[] w fun e w' => e = .returned (.bool true) ∧ Below w.heap.size w w' := by
  go_enter Tryz.func8, Tryz.ntmps8
  go_wp2_with fail
  refine (fresh_any w).mono ?_
  rintro e w1 ⟨t, q, K, rfl, ht, hb1⟩
  have HT := Lib.hid ht
  have HB1 := Lib.hid hb1
  clear ht hb1
  go_wp2_with fail
  have HIN : Hid (Calls Tryz.prog 13 #[ptr t, vi 1] w1 fun e w' => ∃ K', e = .returned (.tuple #[.agg #[vi 0, vi 0, vi 0, vi 0, vi 0, vi 0, vi 0, vi 0, vi 0, vi 0, vi 0], vi 0]) ∧ TrGo w.heap.size w1 t q K w' K' tP0) := Lib.hid (by
    refine (Inode_any HT.out 1 (by omega) (Pl.fine_all tf0 1 (by omega))).mono ?_
    rintro e w' ⟨K', rfl, hg⟩
    exact ⟨K', by rw [ti01]; rfl, hg⟩)
  refine HIN.out.mono ?_
  rintro e w2 ⟨K2, rfl, hg2⟩
  have HG2 := Lib.hid hg2
  clear hg2 HIN
  go_upto_region 5 with fail
  have HB3 : Hid (Below w2.heap.size w2 (w2.alloc (.cells #[vi 0, vi 0, vi 0, vi 0, vi 0, vi 0, vi 0, vi 0, vi 0, vi 0, vi 0] 50))) := Lib.hid ((Below.refl _ _).alloc (Nat.le_refl _) _)
  have HX3 := Lib.hid (Blk.new w2 50 #[vi 0, vi 0, vi 0, vi 0, vi 0, vi 0, vi 0, vi 0, vi 0, vi 0, vi 0])
  change Code.wp _ _ _ _ (w2.alloc (.cells #[vi 0, vi 0, vi 0, vi 0, vi 0, vi 0, vi 0, vi 0, vi 0, vi 0, vi 0] 50))
  have HK3 : Hid (KnB w.heap.size w1 t q K tP0 w2.heap.size (w2.alloc (.cells #[vi 0, vi 0, vi 0, vi 0, vi 0, vi 0, vi 0, vi 0, vi 0, vi 0, vi 0] 50)) K2) :=
    Lib.hid ⟨HG2.out.old HB3.out, HX3.out, fun e => by have := HG2.out.at_.pool.lt _ e; omega⟩
  generalize w2.alloc (.cells #[vi 0, vi 0, vi 0, vi 0, vi 0, vi 0, vi 0, vi 0, vi 0, vi 0, vi 0] 50) = w3 at *
  generalize w2.heap.size = x at *
  clear HG2 HB3 HX3
  have HM1 : Hid (Calls Tryz.prog 14 #[ptr t, vi 2] w3 fun e w' => ∃ K', e = .returned (.tuple #[vi 1, vi 0]) ∧ TrGo w.heap.size w3 t q K2 w' K' tP1) :=
    Lib.hid (Make_any HK3.out.go.at_ (Pl.fine_all tf0) 1 (by omega) (fun n hn => by omega) (by rw [ti01]) 2 (.inr rfl))
  go_wp2_with fail
  refine HM1.out.mono ?_
  rintro e w4 ⟨K4, rfl, hg4⟩
  have HK4 := Lib.hid (HK3.out.on hg4)
  clear hg4 HM1 HK3
  have HM2 : Hid (Calls Tryz.prog 14 #[ptr t, vi 1] w4 fun e w' => ∃ K', e = .returned (.tuple #[vi 2, vi 0]) ∧ TrGo w.heap.size w4 t q K4 w' K' tP2) :=
    Lib.hid (Make_any HK4.out.go.at_ (Pl.fine_all tf1) 2 (by omega) (fun n hn => by
      obtain rfl : n = 1 := by omega
      rw [ti11]; decide) ti12 1 (.inl rfl))
  go_wp2_with fail
  refine HM2.out.mono ?_
  rintro e w5 ⟨K5, rfl, hg5⟩
  have HK5 := Lib.hid (HK4.out.on hg5)
  clear hg5 HM2 HK4
  have HAD : Hid (Calls Tryz.prog 21 #[ptr t, vi 1, sa, vi 2] w5 fun e w' => ∃ K', e = .returned (vi 0) ∧ TrGo w.heap.size w5 t q K5 w' K' tP3) :=
    Lib.hid (Add_first HK5.out.go.at_ 1 (by omega) (Pl.fine_all tf2 1 (by omega)) 0 ti21 (by decide) tu2 (by decide) (by decide))
  go_wp2_with fail
  refine HAD.out.mono ?_
  rintro e w6 ⟨K6, rfl, hg6⟩
  have HK6 := Lib.hid (HK5.out.on hg6)
  clear hg6 HAD HK5
  go_wp2_with fail
  have HB7 : Hid (Below w6.heap.size w6 (w6.alloc (.cells #[sa] 9))) := Lib.hid ((Below.refl _ _).alloc (Nat.le_refl _) _)
  have HX7 := Lib.hid (Blk.new w6 9 #[sa])
  have HN7 : Hid (¬ K6 w6.heap.size) := Lib.hid (fun e => by have := HK6.out.go.at_.pool.lt _ e; omega)
  have HK7 := Lib.hid (HK6.out.old HB7.out)
  change Calls _ _ _ (w6.alloc (.cells #[sa] 9)) _
  generalize w6.alloc (.cells #[sa] 9) = w7 at *
  generalize w6.heap.size = b7 at *
  clear HB7 HK6
  refine (walk_a HK7.out.go.at_ HX7.out HN7.out).mono ?_
  rintro e w8 ⟨rfl, K8, hg8⟩
  have HK8 := Lib.hid (HK7.out.on hg8)
  clear hg8 HK7 HX7 HN7
  go_wp2_with fail
  have HB9 : Hid (Below w8.heap.size w8 (w8.alloc (.cells #[sa, .string ⟨#[98]⟩] 9))) := Lib.hid ((Below.refl _ _).alloc (Nat.le_refl _) _)
  have HX9 := Lib.hid (Blk.new w8 9 #[sa, .string ⟨#[98]⟩])
  have HN9 : Hid (¬ K8 w8.heap.size) := Lib.hid (fun e => by have := HK8.out.go.at_.pool.lt _ e; omega)
  have HK9 := Lib.hid (HK8.out.old HB9.out)
  change Calls _ _ _ (w8.alloc (.cells #[sa, .string ⟨#[98]⟩] 9)) _
  generalize w8.alloc (.cells #[sa, .string ⟨#[98]⟩] 9) = w9 at *
  generalize w8.heap.size = b9 at *
  clear HB9 HK8
  refine (walk_ab _ HK9.out.go.at_ HX9.out HN9.out).mono ?_
  rintro e w10 ⟨rfl, K10, hg10⟩
  have HK10 := Lib.hid (HK9.out.on hg10)
  clear hg10 HK9 HX9 HN9
  have x0 : w10.cell? ⟨x, 0, none⟩ = some (vi 0) := HK10.out.ino.cell 0
  have x1 : w10.cell? ⟨x, 1, none⟩ = some (vi 0) := HK10.out.ino.cell 1
  have x2 : w10.cell? ⟨x, 2, none⟩ = some (vi 0) := HK10.out.ino.cell 2
  have x3 : w10.cell? ⟨x, 3, none⟩ = some (vi 0) := HK10.out.ino.cell 3
  have x4 : w10.cell? ⟨x, 4, none⟩ = some (vi 0) := HK10.out.ino.cell 4
  have x5 : w10.cell? ⟨x, 5, none⟩ = some (vi 0) := HK10.out.ino.cell 5
  have x6 : w10.cell? ⟨x, 6, none⟩ = some (vi 0) := HK10.out.ino.cell 6
  have x7 : w10.cell? ⟨x, 7, none⟩ = some (vi 0) := HK10.out.ino.cell 7
  have x8 : w10.cell? ⟨x, 8, none⟩ = some (vi 0) := HK10.out.ino.cell 8
  have x9 : w10.cell? ⟨x, 9, none⟩ = some (vi 0) := HK10.out.ino.cell 9
  have x10 : w10.cell? ⟨x, 10, none⟩ = some (vi 0) := HK10.out.ino.cell 10
  have hel := eql_ino
  have HUS : Hid (Calls Tryz.prog 24 #[ptr t] w10 fun e w' => ∃ K', e = .returned (vi 2) ∧ TrGo w.heap.size w10 t q K10 w' K' tP3) := Lib.hid (by
    refine (Used_any HK10.out.go.at_ (Pl.fine_all tf3)).mono ?_
    rintro e w' ⟨K', rfl, hg⟩
    exact ⟨K', by rw [tu3]; rfl, hg⟩)
  go_wp2_with fail
  refine HUS.out.mono ?_
  rintro e w11 ⟨K11, rfl, hg11⟩
  have HK11 := Lib.hid (HK10.out.on hg11)
  clear hg11 HUS HK10 x0 x1 x2 x3 x4 x5 x6 x7 x8 x9 x10 hel
  go_wp2_with fail
  go_ret
  exact ⟨rfl, HB1.out.trans (HK11.out.go.go.chg.to_below (fun k _ e => (HT.out.pool.loose k e).1) HB1.out.size)⟩
end
end Go.Proofs.YtnfhlocflpdlcaaGreat.tr

