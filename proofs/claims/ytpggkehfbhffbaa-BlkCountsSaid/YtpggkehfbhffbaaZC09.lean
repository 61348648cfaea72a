/-
  Lemmas for a law's proof, put together from several texts: each part says what it shows, and its conditions.
-/
import Derived.Test.YtpggkehfbhffbaaZC08
import Derived.Deep.RegionHeld3
/-
  Rows copied; a chip copied. Conditions: a chip that is told by ChipAt.
-/
namespace Go.Proofs.Ytpggkehfbhffbaa
open Go.RowKit

set_option maxHeartbeats 1000000 in
theorem CloneB_any (a : Option Addr) (n c : Nat) (xs : List Value) (w : World) (hx : xs.length = n * 5) (hc : ∀ ad, a = some ad → ∀ j u, xs[j]? = some u → w.cell? (ad.add j) = some u) (h1 : ∀ u ∈ xs, u.oneCell' = true) (hz : a = none → n = 0) (hn : n ≤ 100000) :
    Calls Try.prog 70 #[.slice a n c] w fun e w' => ∃ v', e = .returned v' ∧ w'.ownsRow w.heap.size 102 5 v' n xs ∧ Below w.heap.size w w' := by
  have hen := fun (w : World) (a : Option Addr) (n c : Nat) => Lib.run_eql_slice_nil (P := Try.prog) w 97 102 a n c 0 0 Try.underlying97
  cases a with
  | none =>
    have h0 := hz rfl
    subst h0
    have hx0 : xs = [] := List.eq_nil_of_length_eq_zero (by omega)
    subst hx0
    clear hx hc h1 hz hn
    go_enter Try.func70, Try.ntmps70
    go_wp2_with fail
    go_ret
    exact ⟨_, rfl, World.ownsRow_nil _ _ _ _, Below.refl _ _⟩
  | some ad =>
    obtain ⟨i0, hi, hz0, hz1, hz2⟩ := info_parts blo_info
    have hown : (w.alloc (.cells #[] 102)).ownsRow w.heap.size 102 5 (.slice (some ⟨w.heap.size, 0, none⟩) 0 0) 0 [] := World.ownsRow_lit w #[] 0 (Nat.le_refl _) (Nat.zero_le _) rfl
    have hb := (Below.refl w.heap.size w).alloc (Nat.le_refl _) (.cells #[] 102)
    obtain ⟨v', w', hrun, ho, hg, _⟩ := run_append_own_at (P := Try.prog) (w.alloc (.cells #[] 102)) w.heap.size 97 97 102 i0 _ 5 48 Try.underlying97 hi hz0 hz1 hz2 rfl (by omega) _ 0 [] hown
      ad n c xs (by omega) (fun j u hu => cell_below (hc ad rfl j u hu) hb) h1 (by unfold maxLen; omega) (by omega) (by simp)
    have R : AppRun 97 97 97 (.slice (some ⟨w.heap.size, 0, none⟩) 0 0) (.slice (some ad) n c) (w.alloc (.cells #[] 102)) v' w' := ⟨hrun⟩
    have HB := Lib.hid (hb.grown hg (by simp) (fun k hk => (hown.lt k hk).1))
    rw [Nat.zero_add, List.nil_append] at ho
    have HO := Lib.hid ho
    clear hrun ho hg hown hi hz0 hz1 hz2 hx hc h1 hz hb
    go_enter Try.func70, Try.ntmps70
    go_wp2_with (at_builtin; refine wpList_append_run rfl (.tmp 5) (.tmp 6) rfl rfl rfl R.run ?_)
    go_ret
    exact ⟨_, rfl, HO.out, HB.out⟩

set_option maxHeartbeats 1000000 in
theorem CloneP_any (a : Option Addr) (n c : Nat) (xs : List Value) (w : World) (hx : xs.length = n * 1) (hc : ∀ ad, a = some ad → ∀ j u, xs[j]? = some u → w.cell? (ad.add j) = some u) (h1 : ∀ u ∈ xs, u.oneCell' = true) (hz : a = none → n = 0) (hn : n ≤ 100000) :
    Calls Try.prog 71 #[.slice a n c] w fun e w' => ∃ v', e = .returned v' ∧ w'.ownsRow w.heap.size 32 1 v' n xs ∧ Below w.heap.size w w' := by
  have hen := fun (w : World) (a : Option Addr) (n c : Nat) => Lib.run_eql_slice_nil (P := Try.prog) w 51 32 a n c 0 0 Try.underlying51
  cases a with
  | none =>
    have h0 := hz rfl
    subst h0
    have hx0 : xs = [] := List.eq_nil_of_length_eq_zero (by omega)
    subst hx0
    clear hx hc h1 hz hn
    go_enter Try.func71, Try.ntmps71
    go_wp2_with fail
    go_ret
    exact ⟨_, rfl, World.ownsRow_nil _ _ _ _, Below.refl _ _⟩
  | some ad =>
    obtain ⟨i0, hi, hz0, hz1, hz2⟩ := info_parts pages_info
    have hown : (w.alloc (.cells #[] 32)).ownsRow w.heap.size 32 1 (.slice (some ⟨w.heap.size, 0, none⟩) 0 0) 0 [] := World.ownsRow_lit w #[] 0 (Nat.le_refl _) (Nat.zero_le _) rfl
    have hb := (Below.refl w.heap.size w).alloc (Nat.le_refl _) (.cells #[] 32)
    obtain ⟨v', w', hrun, ho, hg, _⟩ := run_append_own_at (P := Try.prog) (w.alloc (.cells #[] 32)) w.heap.size 51 51 32 i0 _ 1 24 Try.underlying51 hi hz0 hz1 hz2 rfl (by omega) _ 0 [] hown
      ad n c xs (by omega) (fun j u hu => cell_below (hc ad rfl j u hu) hb) h1 (by unfold maxLen; omega) (by omega) (by simp)
    have R : AppRun 51 51 51 (.slice (some ⟨w.heap.size, 0, none⟩) 0 0) (.slice (some ad) n c) (w.alloc (.cells #[] 32)) v' w' := ⟨hrun⟩
    have HB := Lib.hid (hb.grown hg (by simp) (fun k hk => (hown.lt k hk).1))
    rw [Nat.zero_add, List.nil_append] at ho
    have HO := Lib.hid ho
    clear hrun ho hg hown hi hz0 hz1 hz2 hx hc h1 hz hb
    go_enter Try.func71, Try.ntmps71
    go_wp2_with (at_builtin; refine wpList_append_run rfl (.tmp 5) (.tmp 6) rfl rfl rfl R.run ?_)
    go_ret
    exact ⟨_, rfl, HO.out, HB.out⟩

set_option maxHeartbeats 1000000 in
theorem CloneF_any (a : Option Addr) (n c : Nat) (xs : List Value) (w : World) (hx : xs.length = n * 3) (hc : ∀ ad, a = some ad → ∀ j u, xs[j]? = some u → w.cell? (ad.add j) = some u) (h1 : ∀ u ∈ xs, u.oneCell' = true) (hz : a = none → n = 0) (hn : n ≤ 100000) :
    Calls Try.prog 72 #[.slice a n c] w fun e w' => ∃ v', e = .returned v' ∧ w'.ownsRow w.heap.size 96 3 v' n xs ∧ Below w.heap.size w w' := by
  have hen := fun (w : World) (a : Option Addr) (n c : Nat) => Lib.run_eql_slice_nil (P := Try.prog) w 41 96 a n c 0 0 Try.underlying41
  cases a with
  | none =>
    have h0 := hz rfl
    subst h0
    have hx0 : xs = [] := List.eq_nil_of_length_eq_zero (by omega)
    subst hx0
    clear hx hc h1 hz hn
    go_enter Try.func72, Try.ntmps72
    go_wp2_with fail
    go_ret
    exact ⟨_, rfl, World.ownsRow_nil _ _ _ _, Below.refl _ _⟩
  | some ad =>
    obtain ⟨i0, hi, hz0, hz1, hz2⟩ := info_parts flt_info
    have hown : (w.alloc (.cells #[] 96)).ownsRow w.heap.size 96 3 (.slice (some ⟨w.heap.size, 0, none⟩) 0 0) 0 [] := World.ownsRow_lit w #[] 0 (Nat.le_refl _) (Nat.zero_le _) rfl
    have hb := (Below.refl w.heap.size w).alloc (Nat.le_refl _) (.cells #[] 96)
    obtain ⟨v', w', hrun, ho, hg, _⟩ := run_append_own_at (P := Try.prog) (w.alloc (.cells #[] 96)) w.heap.size 41 41 96 i0 _ 3 40 Try.underlying41 hi hz0 hz1 hz2 rfl (by omega) _ 0 [] hown
      ad n c xs (by omega) (fun j u hu => cell_below (hc ad rfl j u hu) hb) h1 (by unfold maxLen; omega) (by omega) (by simp)
    have R : AppRun 41 41 41 (.slice (some ⟨w.heap.size, 0, none⟩) 0 0) (.slice (some ad) n c) (w.alloc (.cells #[] 96)) v' w' := ⟨hrun⟩
    have HB := Lib.hid (hb.grown hg (by simp) (fun k hk => (hown.lt k hk).1))
    rw [Nat.zero_add, List.nil_append] at ho
    have HO := Lib.hid ho
    clear hrun ho hg hown hi hz0 hz1 hz2 hx hc h1 hz hb
    go_enter Try.func72, Try.ntmps72
    go_wp2_with (at_builtin; refine wpList_append_run rfl (.tmp 5) (.tmp 6) rfl rfl rfl R.run ?_)
    go_ret
    exact ⟨_, rfl, HO.out, HB.out⟩

section
variable {base : Nat} {w wr : World} {k : Nat} {M : ChM}
theorem flt_cells {a : Option Addr} {fs : List FltM} (h : FRow base w a fs) : ∀ ad, a = some ad → ∀ j u, (fltCells fs)[j]? = some u → w.cell? (ad.add j) = some u := by
  rintro ad rfl j u hu
  have hj : j < fs.length * 3 := by
    have := (List.getElem?_eq_some_iff.1 hu).1
    rwa [fltCells, flat_length (f := fun f : FltM => f.cs.toList) flt_len] at this
  rcases h.at_ with rfl | ⟨b, o, he, _, h1⟩
  · simp at hj
  · injection he with he
    subst he
    have h2 := flat_get (f := fun f : FltM => f.cs.toList) flt_len default fs (j / 3) (j % 3) (by omega) (by omega)
    rw [show j / 3 * 3 + j % 3 = j by omega] at h2
    have hu' : (fs.flatMap fun f : FltM => f.cs.toList)[j]? = some u := hu
    rw [h2] at hu'
    have := h1 (j / 3) (by omega) (j % 3) u (by simpa using hu')
    rw [add_plain, show o + j = o + j / 3 * 3 + j % 3 by omega]
    exact this
theorem flt_one (fs : List FltM) : ∀ u ∈ fltCells fs, u.oneCell' = true := by
  intro u hu
  obtain ⟨f, _, hf⟩ := List.mem_flatMap.1 hu
  simp at hf
  rcases hf with rfl | rfl | rfl <;> rfl
theorem flt_length (fs : List FltM) : (fltCells fs).length = fs.length * 3 := flat_length (f := fun f : FltM => f.cs.toList) flt_len fs
theorem arr_cells {t : TypeId} {size g n c : Nat} {xs : List Value} (h : Arr w t size g n c xs) : ∀ ad, some (⟨g, 0, none⟩ : Addr) = some ad → ∀ j u, xs[j]? = some u → w.cell? (ad.add j) = some u := by
  intro ad e j u hu
  injection e with e
  subst e
  have hj : j < n * size := by
    have := (List.getElem?_eq_some_iff.1 hu).1
    rwa [h.length] at this
  rw [add_plain, Nat.zero_add, h.cell hj]
  exact hu
theorem blo_one (bs : List BloM) : ∀ u ∈ bs.flatMap BloM.cells, u.oneCell' = true := by
  intro u hu
  obtain ⟨f, _, hf⟩ := List.mem_flatMap.1 hu
  simp at hf
  rcases hf with rfl | rfl | rfl | rfl | rfl <;> rfl
theorem pg_one (ps : List PgM) : ∀ u ∈ ps.map (·.v), u.oneCell' = true := by
  intro u hu
  obtain ⟨p, _, rfl⟩ := List.mem_map.1 hu
  rfl

/-- The state while a chip is copied. -/
structure CpSt (base : Nat) (w : World) (q kb c : Nat) (M : ChM) (i : Nat) (ds : List BloM) (wr : World) : Prop where
  below : Below w.heap.size w wr
  chip : Blk wr q 99 #[vi M.B, vi M.P, vi M.S, .slice (some ⟨kb, 0, none⟩) M.bs.length c, .slice M.fa M.fs.length M.fc, vi M.since, .bool M.down, vi M.strokes, vi M.reads]
  blocks : Arr wr 102 5 kb M.bs.length c ((ds ++ M.bs.drop i).flatMap BloM.cells)
  len : ds.length = i
  same : ds.map (·.view) = (M.bs.take i).map (·.view)
  from_ : ∀ x ∈ ds, ∃ y ∈ M.bs, x.ps = y.ps
  pages : ∀ x ∈ ds, Arr wr 32 1 x.g x.ps.length x.c (x.ps.map (·.v))
  nodup : (ds.map (·.g)).Nodup
  low : w.heap.size ≤ q ∧ w.heap.size ≤ kb ∧ ∀ x ∈ ds, w.heap.size ≤ x.g
theorem CpSt.old {q kb c i : Nat} {ds : List BloM} {w2 : World} (h : CpSt base w q kb c M i ds wr) (b : Below wr.heap.size wr w2) : CpSt base w q kb c M i ds w2 :=
  ⟨h.below.trans (b.mono h.below.size), h.chip.old b, h.blocks.old b, h.len, h.same, h.from_, fun x hx => (h.pages x hx).old b, h.nodup, h.low⟩
theorem CpSt.next {q kb c i : Nat} {ds : List BloM} {w3 : World} {g' c' : Nat} (h : CpSt base w q kb c M i ds wr) (hi : i < M.bs.length) (b : Below wr.heap.size wr w3)
    (ha : Arr w3 32 1 g' (M.bs.getD i default).ps.length c' ((M.bs.getD i default).ps.map (·.v))) (hg : wr.heap.size ≤ g') :
    CpSt base w q kb c M (i + 1) (ds ++ [{ M.bs.getD i default with g := g', c := c' }]) (w3.setCell ⟨kb, i * 5, none⟩ (.slice (some ⟨g', 0, none⟩) (M.bs.getD i default).ps.length c')) := by
  have h3 := h.old b
  have hx : M.bs.drop i = M.bs.getD i default :: M.bs.drop (i + 1) := by
    rw [List.drop_eq_getElem_cons hi, List.getD_eq_getElem?_getD, List.getElem?_eq_getElem hi]
    rfl
  have hkb : q ≠ kb := fun e => (h3.blocks.ne_blk h3.chip (by decide)) e.symm
  have hwg : w.heap.size ≤ g' := Nat.le_trans h.below.size hg
  refine ⟨h3.below.setCell h.low.2.1 _, h3.chip.far (p := ⟨kb, i * 5, none⟩) hkb _, ?_, by simp [h.len], ?_, ?_, ?_, ?_, ⟨h.low.1, h.low.2.1, ?_⟩⟩
  · have h4 := h3.blocks.set (i * 5) (.slice (some ⟨g', 0, none⟩) (M.bs.getD i default).ps.length c')
    have h5 := flat_set BloM.cells_len default (ds ++ M.bs.drop i) i 0 { M.bs.getD i default with g := g', c := c' } (.slice (some ⟨g', 0, none⟩) (M.bs.getD i default).ps.length c') (by rw [List.length_append, h.len, List.length_drop]; omega) (by decide) (by
      have : (ds ++ M.bs.drop i).getD i default = M.bs.getD i default := by
        rw [List.getD_eq_getElem?_getD, List.getElem?_append_right (Nat.le_of_eq h.len), h.len, Nat.sub_self, hx]
        rfl
      rw [this]
      rfl)
    rw [Nat.add_zero] at h5
    rw [h5, List.set_append_right _ _ (Nat.le_of_eq h.len), h.len, Nat.sub_self, hx, List.set_cons_zero] at h4
    rw [List.append_assoc]
    exact h4
  · rw [List.map_append, h.same, List.take_succ_eq_append_getElem hi, List.map_append]
    simp only [List.map_cons, List.map_nil]
    rw [show M.bs.getD i default = M.bs[i] by rw [List.getD_eq_getElem?_getD, List.getElem?_eq_getElem hi]; rfl]
    rfl
  · intro x hxm
    rcases List.mem_append.1 hxm with hxm | hxm
    · exact h.from_ x hxm
    · rw [List.mem_singleton] at hxm
      subst hxm
      exact ⟨_, getD_mem hi, rfl⟩
  · intro x hxm
    rcases List.mem_append.1 hxm with hxm | hxm
    · exact (h3.pages x hxm).far (p := ⟨kb, i * 5, none⟩) ((h3.pages x hxm).ne h3.blocks (by decide)) _
    · rw [List.mem_singleton] at hxm
      subst hxm
      exact ha.far (p := ⟨kb, i * 5, none⟩) (ha.ne h3.blocks (by decide)) _
  · rw [List.map_append]
    refine List.nodup_append.2 ⟨h.nodup, by simp, ?_⟩
    intro a1 ha1 b1 hb1 e
    simp only [List.map_cons, List.map_nil, List.mem_singleton] at hb1
    obtain ⟨x, hxm, rfl⟩ := List.mem_map.1 ha1
    have := (h.pages x hxm).lt
    omega
  · intro x hxm
    rcases List.mem_append.1 hxm with hxm | hxm
    · exact h.low.2.2 x hxm
    · rw [List.mem_singleton] at hxm
      subst hxm
      exact hwg
theorem CpSt.done {q kb c : Nat} {ds : List BloM} {w3 : World} {b0 : Nat} {v : Value} (hC : ChipAt base w k M) (hbase : base ≤ w.heap.size) (h : CpSt base w q kb c M M.bs.length ds wr) (b : Below wr.heap.size wr w3)
    (ho : FOwn w3 b0 v M.fs) : ∃ M', MadeAt base w q M' (w3.setCell ⟨q, 4, none⟩ v) ∧ M'.view = M.view := by
  have h3 := h.old b
  have hB : Below w.heap.size w w3 := h3.below
  have hne : some q ≠ v.ownBlock := own_blk_ne ho h3.chip (by decide)
  have ho' : FOwn (w3.setCell ⟨q, 4, none⟩ v) b0 v M.fs := ho.grown (row := some q) (set_grown _ _ _ _) (.inr (fun e => hne e.symm))
  have hB' : Below w.heap.size w (w3.setCell ⟨q, 4, none⟩ v) := hB.setCell h.low.1 _
  obtain ⟨a', c', rfl, hf⟩ := ho'.frow (base := base) (fun f hf => ⟨((hC.faults.data f hf).1.old hB'), (hC.faults.data f hf).2⟩) hC.faults.len
  have hkb : kb ≠ q := h3.blocks.ne_blk h3.chip (by decide)
  have hlow : ∀ n, ChM.foot { M with kb := kb, kc := c, bs := ds, fa := a', fc := c' } q n → w.heap.size ≤ n := by
    rintro n (rfl | rfl | hn)
    · exact h.low.1
    · exact h.low.2.1
    · obtain ⟨x, hx, rfl⟩ := List.mem_map.1 hn
      exact h.low.2.2 x hx
  have hdl : ds.length = M.bs.length := h.len
  refine ⟨{ M with kb := kb, kc := c, bs := ds, fa := a', fc := c' }, ⟨⟨?_, ?_, ?_, h.nodup, ?_, hf, fun n hn => Nat.le_trans hbase (hlow n hn)⟩, hB', hlow⟩, ?_⟩
  · have := h3.chip.set_ 4 (.slice a' M.fs.length c')
    simp only [ChM.cs, hdl]
    exact this
  · dsimp only
    rw [hdl]
    have := h3.blocks.far (p := ⟨q, 4, none⟩) hkb (.slice a' M.fs.length c')
    rw [List.drop_length, List.append_nil] at this
    exact this
  · exact fun x hx => (h3.pages x hx).far (p := ⟨q, 4, none⟩) ((h3.pages x hx).ne_blk h3.chip (by decide)) _
  · intro x hx p hp
    obtain ⟨y, hy, e⟩ := h.from_ x hx
    rw [e] at hp
    exact (hC.rows y hy p hp).chg (F := fun _ => False) (Chg.of_below hB') (fun _ e => e.elim)
  · have := h.same
    rw [List.take_length] at this
    simp only [ChM.view, this]

set_option maxRecDepth 100000 in
set_option maxHeartbeats 4000000 in
theorem Copy_any (h : ChipAt base w k M) (hok : M.view.ok) (hbase : base ≤ w.heap.size) (hfs : M.fs.length ≤ 100000) : Calls Try.prog 19 #[ptr k] w fun e w' => ∃ q M', e = .returned (ptr q) ∧ MadeAt base w q M' w' ∧ M'.view = M.view := by
  have HC := Lib.hid h
  have hB := ok_len hok
  have hS := ok_S hok
  have HPS := Lib.hid (fun i (hi : i < M.bs.length) => ok_ps hok hi)
  have HP4 : Hid (4 ≤ M.P ∧ 8 ≤ M.B) := Lib.hid (by
    have : NP.rightB M.B M.P M.S = true := hok.right
    simp only [NP.rightB, Bool.and_eq_true, decide_eq_true_eq, Bool.or_eq_true, beq_iff_eq] at this
    omega)
  obtain ⟨c0, c1, c2, c3, c4, c5, c6, c7, c8⟩ := h.cells
  have HB1 : Hid (Below w.heap.size w (w.alloc (.cells M.cs 99))) := Lib.hid ((Below.refl _ _).alloc (Nat.le_refl _) _)
  have g0 := Lib.hid (Blk.new w 99 M.cs)
  have hk := h.chip.lt
  have HBB := Lib.hid hB
  have HS := Lib.hid hS
  have hMB : M.bs.length ≤ 128 := by omega
  clear h hok hB hS
  go_enter Try.func19, Try.ntmps19
  go_upto_region 4 with fail
  clear c0 c1 c2 c3 c4 c5 c6 c7 c8
  generalize w.alloc (.cells M.cs 99) = w1 at *
  have c3 : w1.cell? ⟨k, 3, none⟩ = some (.slice (some ⟨M.kb, 0, none⟩) M.bs.length M.kc) := (HC.out.chip.below HB1.out hk).cell 3
  go_wp2_with fail
  refine (CloneB_any (some ⟨M.kb, 0, none⟩) M.bs.length M.kc (M.bs.flatMap BloM.cells) _ (flat_length BloM.cells_len _) (arr_cells (HC.out.blocks.chg (F := fun _ => False) (Chg.of_below HB1.out) (fun e => e))) (blo_one _) (by simp) (by omega)).mono ?_
  rintro e w2 ⟨v2, rfl, ho2, hb2⟩
  obtain ⟨kb', c', rfl, ha2, hkb2⟩ := Arr.of_own ho2 (by have := HP4.out; have := HBB.out; omega)
  have q3 : w2.cell? ⟨w.heap.size, 3, none⟩ = some (.slice (some ⟨M.kb, 0, none⟩) M.bs.length M.kc) := (g0.out.old hb2).cell 3
  have y3 := (g0.out.old hb2).frozen 3
  have ST : Hid (CpSt base w w.heap.size kb' c' M 0 [] (w2.setCell ⟨w.heap.size, 3, none⟩ (.slice (some ⟨kb', 0, none⟩) M.bs.length c'))) := Lib.hid
    ⟨(HB1.out.trans (hb2.mono HB1.out.size)).setCell (Nat.le_refl _) _, (g0.out.old hb2).set_ 3 _, by
      rw [List.nil_append, List.drop_zero]
      exact ha2.far (p := ⟨w.heap.size, 3, none⟩) (ha2.ne_blk (g0.out.old hb2) (by decide)) _, rfl, by simp, by simp, by simp, by simp, ⟨Nat.le_refl _, Nat.le_trans HB1.out.size hkb2, by simp⟩⟩
  clear c3 ho2 hb2 ha2 hkb2 HB1 g0
  go_upto_region 5 with fail
  generalize w2.setCell ⟨w.heap.size, 3, none⟩ (.slice (some ⟨kb', 0, none⟩) M.bs.length c') = w3 at *
  clear q3 y3
  have q3 : w3.cell? ⟨w.heap.size, 3, none⟩ = some (.slice (some ⟨kb', 0, none⟩) M.bs.length c') := ST.out.chip.cell 3
  go_wp2_with fail
  clear q3
  go_loopw [19] (fun v wr => ∃ (i : Nat) (ds : List BloM), i ≤ M.bs.length ∧ v = vi i ∧ Hid (CpSt base w w.heap.size kb' c' M i ds wr)) (fun v _ => M.bs.length - (intOf v).toNat)
  case atStart => exact ⟨0, [], Nat.zero_le _, rfl, ST⟩
  case round =>
    clear ST
    obtain ⟨i, ds, hi, rfl, st⟩ := hrel
    by_cases hlt : i < M.bs.length
    · have ho := st.out.low
      have h3q : wr.cell? ⟨w.heap.size, 3, none⟩ = some (.slice (some ⟨kb', 0, none⟩) M.bs.length c') := st.out.chip.cell 3
      have h3k : wr.cell? ⟨k, 3, none⟩ = some (.slice (some ⟨M.kb, 0, none⟩) M.bs.length M.kc) := (HC.out.chip.below st.out.below hk).cell 3
      have hpl := HPS.out i hlt
      have h5k : wr.cell? ⟨M.kb, i * 5, none⟩ = some (.slice (some ⟨(M.bs.getD i default).g, 0, none⟩) (M.bs.getD i default).ps.length (M.bs.getD i default).c) := by
        have := (HC.out.chg (F := fun _ => False) (Chg.of_below st.out.below) (fun _ e => e.elim) (fun _ _ e => e)).bcell hlt (j := 0) (by decide)
        exact this
      have HAP := Lib.hid (((HC.out.pages _ (getD_mem (d := default) hlt)).chg (F := fun _ => False) (Chg.of_below st.out.below) (fun e => e)))
      have h5n : wr.cell? ⟨kb', i * 5, none⟩ = some (.slice (some ⟨(M.bs.getD i default).g, 0, none⟩) (M.bs.getD i default).ps.length (M.bs.getD i default).c) := by
        have h1 := st.out.blocks.cell (j := i * 5 + 0) (by omega)
        rw [flat_get BloM.cells_len default _ _ _ (by rw [List.length_append, st.out.len, List.length_drop]; omega) (by decide)] at h1
        have h2 : (ds ++ M.bs.drop i).getD i default = M.bs.getD i default := by
          rw [List.getD_eq_getElem?_getD, List.getElem?_append_right (Nat.le_of_eq st.out.len), st.out.len, Nat.sub_self, List.drop_eq_getElem_cons hlt, List.getD_eq_getElem?_getD, List.getElem?_eq_getElem hlt]
          rfl
        rw [h2] at h1
        exact h1
      have z5n := st.out.blocks.frozen (i * 5)
      have hkb' : w.heap.size ≤ kb' := ho.2.1
      have hqk : w.heap.size ≠ kb' := fun e => (st.out.blocks.ne_blk st.out.chip (by decide)) e.symm
      have hmk : M.kb < w.heap.size := HC.out.blocks.lt
      have HNX := Lib.hid (fun (w3 : World) (g' c'' : Nat) (b : Below wr.heap.size wr w3) (ha : Arr w3 32 1 g' (M.bs.getD i default).ps.length c'' ((M.bs.getD i default).ps.map (·.v))) (hg : wr.heap.size ≤ g') => st.out.next hlt b ha hg)
      have HLT := Lib.hid (cell_lt h5n)
      have HQ := Lib.hid h3q
      have HK := Lib.hid h3k
      have H5 := Lib.hid h5k
      have H5N := Lib.hid h5n
      have Z5N := Lib.hid z5n
      generalize M.bs.getD i default = x at *
      have HCL : Hid (Calls Try.prog 71 #[.slice (some ⟨x.g, 0, none⟩) x.ps.length x.c] wr.drew fun e w' => ∃ g' c'', e = .returned (.slice (some ⟨g', 0, none⟩) x.ps.length c'') ∧ Arr w' 32 1 g' x.ps.length c'' (x.ps.map (·.v)) ∧ wr.heap.size ≤ g' ∧ Below wr.heap.size wr w') := Lib.hid
        ((CloneP_any (some ⟨x.g, 0, none⟩) x.ps.length x.c (x.ps.map (·.v)) wr.drew (by simp) (arr_cells (HAP.out.old (Below.refl _ _).drew)) (pg_one _) (by simp) (by have := HS.out; omega)).mono (by
          rintro e w' ⟨v', rfl, ho, hb⟩
          obtain ⟨g', c'', rfl, ha, hg⟩ := Arr.of_own ho (by have := HP4.out; omega)
          exact ⟨g', c'', rfl, ha, hg, (Below.refl _ _).drew.trans hb⟩))
      have q0 : (0 : Int) ≤ (i : Int) := by omega
      have q1 : (i : Int) < (M.bs.length : Int) := by omega
      have hd : wr.drew.cell? ⟨w.heap.size, 3, none⟩ = some (.slice (some ⟨kb', 0, none⟩) M.bs.length c') ∧ wr.drew.cell? ⟨k, 3, none⟩ = some (.slice (some ⟨M.kb, 0, none⟩) M.bs.length M.kc) ∧ wr.drew.cell? ⟨M.kb, i * 5, none⟩ = some (.slice (some ⟨x.g, 0, none⟩) x.ps.length x.c) := ⟨h3q, h3k, h5k⟩
      have HD := Lib.hid hd
      have n1 : Hid ((⟨kb', i * 5, none⟩ : Addr) ≠ ⟨w.heap.size, 3, none⟩) := Lib.hid (fun e => hqk (by injection e with e; exact e.symm))
      have n2 : Hid ((⟨kb', i * 5, none⟩ : Addr) ≠ ⟨k, 3, none⟩) := Lib.hid (fun e => by injection e with e; omega)
      have n3 : Hid ((⟨kb', i * 5, none⟩ : Addr) ≠ ⟨M.kb, i * 5, none⟩) := Lib.hid (fun e => by injection e with e; omega)
      clear ho h3q h3k h5k h5n z5n hd st hpl
      go_upto_region 8 with fail
      go_region_held3 (fun w' => w'.cell? ⟨w.heap.size, 3, none⟩ = some (.slice (some ⟨kb', 0, none⟩) M.bs.length c') ∧ w'.cell? ⟨k, 3, none⟩ = some (.slice (some ⟨M.kb, 0, none⟩) M.bs.length M.kc) ∧ w'.cell? ⟨M.kb, i * 5, none⟩ = some (.slice (some ⟨x.g, 0, none⟩) x.ps.length x.c))
        (first
          | exact HD.out
          | exact ⟨cell_below HQ.out hb3, cell_below HK.out hb3, cell_below H5.out hb3⟩
          | exact ⟨(World.cell?_setCell_other _ _ _ _ n1.out).trans (cell_below HQ.out hb3), (World.cell?_setCell_other _ _ _ _ n2.out).trans (cell_below HK.out hb3), (World.cell?_setCell_other _ _ _ _ n3.out).trans (cell_below H5.out hb3)⟩)
        (first | (go_at_call 71; refine (HCL.out).mono ?_; rintro e w3 ⟨g', c'', rfl, ha3, hg3, hb3⟩; have cn3 := cell_below H5N.out hb3; have zn3 := (hb3.frozen HLT.out).trans Z5N.out; have HA3 := Lib.hid ha3; clear ha3))
      all_goals
        have ST' := Lib.hid (HNX.out w3 g' c'' hb3 HA3.out hg3)
        go_wp2_with fail
        go_roundw
        case rel => exact ⟨i + 1, _, by omega, by go_num, ST'⟩
        case measure => simp [intOf]; omega
    · obtain rfl : i = M.bs.length := by omega
      have c4 : wr.cell? ⟨k, 4, none⟩ = some (.slice M.fa M.fs.length M.fc) := (HC.out.chip.below st.out.below hk).cell 4
      go_wp2_with fail
      refine (CloneF_any M.fa M.fs.length M.fc (fltCells M.fs) _ (flt_length _) (flt_cells (HC.out.faults.old st.out.below)) (flt_one _) (by
        intro e
        rcases HC.out.faults.at_ with h0 | ⟨b, o, h0, _⟩
        · rw [h0]; rfl
        · rw [h0] at e; cases e) hfs).mono ?_
      rintro e w5 ⟨v5, rfl, ho5, hb5⟩
      obtain ⟨M', hm, hv⟩ := st.out.done HC.out hbase hb5 ho5
      have q4 : w5.cell? ⟨w.heap.size, 4, none⟩ = some (.slice M.fa M.fs.length M.fc) := (st.out.chip.old hb5).cell 4
      have y4 := (st.out.chip.old hb5).frozen 4
      obtain ⟨av, cv, hvv⟩ := FOwn.form ho5
      subst hvv
      have HM := Lib.hid hm
      have HV := Lib.hid hv
      clear ho5 hb5 hm hv c4 st
      go_wp2_with fail
      go_ret
      exact ⟨_, M', rfl, HM.out, HV.out⟩
end

end Go.Proofs.Ytpggkehfbhffbaa

