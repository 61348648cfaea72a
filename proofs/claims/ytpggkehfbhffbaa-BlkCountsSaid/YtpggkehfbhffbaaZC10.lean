/-
  Lemmas for a law's proof, put together from several texts: each part says what it shows, and its conditions.
-/
import Derived.Test.YtpggkehfbhffbaaZC09
/-
  What a chip tells of its pages, its bad blocks, its wear. Conditions: a chip that is told by ChipAt.
-/
namespace Go.Proofs.Ytpggkehfbhffbaa
open Go.RowKit

theorem bool_info : (Try.prog.info? 4).map (fun i => (i.zero, i.size, i.bytes)) = some (some (.bool false), 1, 1) := by kernel_rfl
theorem int_info : (Try.prog.info? 3).map (fun i => (i.zero, i.size, i.bytes)) = some (some (.int .i64 0), 1, 8) := by kernel_rfl
/-- One element appended to a row of the call's own. -/
theorem append_one {T t : TypeId} {z : Value} {bytes : Nat} (hT : Try.prog.underlying T = some (.slice t)) (hinfo : (Try.prog.info? t).map (fun i => (i.zero, i.size, i.bytes)) = some (some z, 1, bytes)) (hz : z.cells.size = 1) (hby : bytes ≤ 100)
    {w : World} {base n h : Nat} {v : Value} {xs : List Value} (hown : w.ownsRow base t 1 v n xs) (u : Value) (h1 : u.oneCell' = true) (hc : w.cell? ⟨h, 0, none⟩ = some u) (hn : n + 1 ≤ 1000000) (hb : base ≤ w.heap.size) :
    ∃ v' w', AppRun T T T v (.slice (some ⟨h, 0, none⟩) 1 1) w v' w' ∧ w'.ownsRow base t 1 v' (n + 1) (xs ++ [u]) ∧ w.grownBy w' v.ownBlock := by
  obtain ⟨i0, hi, hz0, hz1, hz2⟩ := info_parts hinfo
  obtain ⟨v', w', h2, h3, h4, _⟩ := run_append_own_at (P := Try.prog) w base T T t i0 z 1 bytes hT hi hz0 hz1 hz2 hz (by omega) v n xs hown ⟨h, 0, none⟩ 1 1 [u] rfl (fun j u' hu => by
      have hj : j = 0 := by
        have := (List.getElem?_eq_some_iff.1 hu).1
        simpa using this
      subst hj
      rw [add_plain]
      rw [hc]
      exact hu) (by simpa using h1) (by unfold maxLen; omega) (Nat.le_trans (Nat.mul_le_mul_left _ hby) (by omega)) hb
  exact ⟨v', w', ⟨h2⟩, h3, h4⟩
theorem own_row {w : World} {base size n : Nat} {t : TypeId} {v : Value} {xs : List Value} (h : w.ownsRow base t size v n xs) : ∀ b, v.ownBlock = some b → base ≤ b ∧ ∃ cur, Blk w b t cur := by
  intro b hb
  rcases h.2 with ⟨rfl, _⟩ | ⟨g, cap, cur, rfl, hg, hh, _⟩
  · simp [Value.ownBlock] at hb
  · simp [Value.ownBlock] at hb
    subst hb
    exact ⟨hg, cur, hh⟩
theorem own_ne {w : World} {base base' size size' n n' : Nat} {t t' : TypeId} {v v' : Value} {xs xs' : List Value} (h : w.ownsRow base t size v n xs) (h' : w.ownsRow base' t' size' v' n' xs') (ht : t ≠ t') : v.ownBlock = none ∨ v.ownBlock ≠ v'.ownBlock := by
  cases hv : v.ownBlock with
  | none => exact .inl rfl
  | some b =>
    obtain ⟨_, cur, hb⟩ := own_row h b hv
    exact .inr (own_blk_ne h' hb ht)
theorem own_old {w w' : World} {base size n : Nat} {t : TypeId} {v : Value} {xs : List Value} (h : w.ownsRow base t size v n xs) (hb : Below w.heap.size w w') : w'.ownsRow base t size v n xs :=
  World.ownsRow.kept h (row := none) ⟨hb.os, hb.tape, hb.output, hb.size, fun k hk _ => hb.block k hk⟩ (by cases hv : v.ownBlock <;> simp)
/-- A row of bytes stays where a row of another type grows. -/
theorem SRow.grown' {base : Nat} {w w' : World} {a : Option Addr} {l : List Nat} {row : Option Nat} (h : SRow base w a l) (q : w.grownBy w' row) (hrow : ∀ b, row = some b → base ≤ b ∧ ∃ t cur, t ≠ 5 ∧ Blk w b t cur) : SRow base w' a l := by
  rcases h.safe with rfl | ⟨b, o, rfl, hs⟩
  · exact SRow.nil _ _ _
  · have hne : some b ≠ row := by
      intro e
      obtain ⟨h1, t, cur, ht, h2⟩ := hrow b e.symm
      rcases hs with hs | ⟨cur', hs⟩
      · omega
      · unfold Blk at h2 hs
        rw [h2] at hs
        injection hs with hs
        injection hs with _ hs
        exact ht hs
    refine ⟨h.row.grown q hne, .inr ⟨b, o, rfl, ?_⟩⟩
    rcases hs with hs | ⟨cur', hs⟩
    · exact .inl hs
    · exact .inr ⟨cur', hs.grown q hne⟩

section
variable {base : Nat} {w wr : World} {k : Nat} {M : ChM} {vp vb vw : Value} {ps : List PgM} {bl : List Bool} {wl : List Int}
/-- The rows that Dump makes. -/
structure DmpSt (base : Nat) (w : World) (vp : Value) (ps : List PgM) (vb : Value) (bl : List Bool) (vw : Value) (wl : List Int) (wr : World) : Prop where
  below : Below w.heap.size w wr
  rp : wr.ownsRow w.heap.size 32 1 vp ps.length (ps.map (·.v))
  rb : wr.ownsRow w.heap.size 4 1 vb bl.length (bl.map Value.bool)
  rw_ : wr.ownsRow w.heap.size 3 1 vw wl.length (wl.map vi)
  data : ∀ p ∈ ps, SRow base wr p.a p.l ∧ p.l.length ≤ p.c ∧ p.c ≤ maxLen
theorem DmpSt.old {w2 : World} (h : DmpSt base w vp ps vb bl vw wl wr) (b : Below wr.heap.size wr w2) : DmpSt base w vp ps vb bl vw wl w2 :=
  ⟨h.below.trans (b.mono h.below.size), own_old h.rp b, own_old h.rb b, own_old h.rw_ b, fun p hp => ⟨(h.data p hp).1.old b, (h.data p hp).2⟩⟩
theorem DmpSt.addP (hbase : base ≤ w.heap.size) (h : DmpSt base w vp ps vb bl vw wl wr) {q : PgM} (hq : SRow base wr q.a q.l ∧ q.l.length ≤ q.c ∧ q.c ≤ maxLen) {b : Nat} (hc : wr.cell? ⟨b, 0, none⟩ = some q.v) (hn : ps.length + 1 ≤ 1000000) :
    ∃ v' w', AppRun 51 51 51 vp (.slice (some ⟨b, 0, none⟩) 1 1) wr v' w' ∧ DmpSt base w v' (ps ++ [q]) vb bl vw wl w' ∧ wr.grownBy w' vp.ownBlock := by
  obtain ⟨v', w', hr, ho, hg⟩ := append_one Try.underlying51 pages_info rfl (by omega) h.rp q.v rfl hc hn h.below.size
  have hrow : ∀ b, vp.ownBlock = some b → base ≤ b ∧ ∃ t cur, t ≠ 5 ∧ Blk wr b t cur := fun b e => ⟨Nat.le_trans hbase (own_row h.rp b e).1, _, (own_row h.rp b e).2.choose, by decide, (own_row h.rp b e).2.choose_spec⟩
  refine ⟨v', w', hr, ⟨h.below.grown hg h.below.size (fun b e => (own_row h.rp b e).1), by rw [List.length_append, List.map_append]; exact ho, World.ownsRow.kept h.rb hg (own_ne h.rb h.rp (by decide)), World.ownsRow.kept h.rw_ hg (own_ne h.rw_ h.rp (by decide)), fun p hp => ?_⟩, hg⟩
  rcases List.mem_append.1 hp with hp | hp
  · exact ⟨(h.data p hp).1.grown' hg hrow, (h.data p hp).2⟩
  · rw [List.mem_singleton] at hp
    subst hp
    exact ⟨hq.1.grown' hg hrow, hq.2⟩
theorem DmpSt.addB (hbase : base ≤ w.heap.size) (h : DmpSt base w vp ps vb bl vw wl wr) {q : Bool} {b : Nat} (hc : wr.cell? ⟨b, 0, none⟩ = some (.bool q)) (hn : bl.length + 1 ≤ 1000000) :
    ∃ v' w', AppRun 52 52 52 vb (.slice (some ⟨b, 0, none⟩) 1 1) wr v' w' ∧ DmpSt base w vp ps v' (bl ++ [q]) vw wl w' ∧ wr.grownBy w' vb.ownBlock := by
  obtain ⟨v', w', hr, ho, hg⟩ := append_one Try.underlying52 bool_info rfl (by omega) h.rb (.bool q) rfl hc hn h.below.size
  have hrow : ∀ b, vb.ownBlock = some b → base ≤ b ∧ ∃ t cur, t ≠ 5 ∧ Blk wr b t cur := fun b e => ⟨Nat.le_trans hbase (own_row h.rb b e).1, _, (own_row h.rb b e).2.choose, by decide, (own_row h.rb b e).2.choose_spec⟩
  exact ⟨v', w', hr, ⟨h.below.grown hg h.below.size (fun b e => (own_row h.rb b e).1), World.ownsRow.kept h.rp hg (own_ne h.rp h.rb (by decide)), by rw [List.length_append, List.map_append]; exact ho, World.ownsRow.kept h.rw_ hg (own_ne h.rw_ h.rb (by decide)), fun p hp => ⟨(h.data p hp).1.grown' hg hrow, (h.data p hp).2⟩⟩, hg⟩
theorem DmpSt.addW (hbase : base ≤ w.heap.size) (h : DmpSt base w vp ps vb bl vw wl wr) {q : Int} {b : Nat} (hc : wr.cell? ⟨b, 0, none⟩ = some (vi q)) (hn : wl.length + 1 ≤ 1000000) :
    ∃ v' w', AppRun 24 24 24 vw (.slice (some ⟨b, 0, none⟩) 1 1) wr v' w' ∧ DmpSt base w vp ps vb bl v' (wl ++ [q]) w' ∧ wr.grownBy w' vw.ownBlock := by
  obtain ⟨v', w', hr, ho, hg⟩ := append_one Try.underlying24 int_info rfl (by omega) h.rw_ (vi q) rfl hc hn h.below.size
  have hrow : ∀ b, vw.ownBlock = some b → base ≤ b ∧ ∃ t cur, t ≠ 5 ∧ Blk wr b t cur := fun b e => ⟨Nat.le_trans hbase (own_row h.rw_ b e).1, _, (own_row h.rw_ b e).2.choose, by decide, (own_row h.rw_ b e).2.choose_spec⟩
  exact ⟨v', w', hr, ⟨h.below.grown hg h.below.size (fun b e => (own_row h.rw_ b e).1), World.ownsRow.kept h.rp hg (own_ne h.rp h.rw_ (by decide)), World.ownsRow.kept h.rb hg (own_ne h.rb h.rw_ (by decide)), by rw [List.length_append, List.map_append]; exact ho, fun p hp => ⟨(h.data p hp).1.grown' hg hrow, (h.data p hp).2⟩⟩, hg⟩
theorem DmpSt.nil (w : World) : DmpSt base w (.slice none 0 0) [] (.slice none 0 0) [] (.slice none 0 0) [] w :=
  ⟨Below.refl _ _, World.ownsRow_nil _ _ _ _, World.ownsRow_nil _ _ _ _, World.ownsRow_nil _ _ _ _, by simp⟩
theorem own_form {w : World} {base size n : Nat} {t : TypeId} {v : Value} {xs : List Value} (h : w.ownsRow base t size v n xs) : ∃ a c, v = .slice a n c := by
  rcases h.2 with ⟨rfl, h0⟩ | ⟨g, cap, cur, rfl, _⟩
  · exact ⟨none, 0, by rw [h0]⟩
  · exact ⟨_, _, rfl⟩

/-- What Dump answers. -/
def DumpPost (base : Nat) (w : World) (c : NP.Chp) (e : Ending) (w' : World) : Prop :=
  ∃ vp ps vb vw, e = .returned (.tuple #[vp, vb, vw]) ∧ DmpSt base w vp ps vb (c.bs.map (·.bad)) vw (c.bs.map (·.wear)) w' ∧ ps.map (·.l) = c.bs.flatMap (·.ps)
set_option maxRecDepth 100000 in
set_option maxHeartbeats 4000000 in
theorem Dump_any (h : ChipAt base w k M) (hok : M.view.ok) (hbase : base ≤ w.heap.size) : Calls Try.prog 25 #[ptr k] w (DumpPost base w M.view) := by
  have HC := Lib.hid h
  have hB := ok_len hok
  have hS := ok_S hok
  have HPS := Lib.hid (fun i (hi : i < M.bs.length) => ok_ps hok hi)
  have HFL := Lib.hid (fun i (hi : i < M.bs.length) (p : PgM) (hp : p ∈ (M.bs.getD i default).ps) => ok_full hok hi hp)
  obtain ⟨c0, c1, c2, c3, c4, c5, c6, c7, c8⟩ := h.cells
  have hk := h.chip.lt
  have HBB := Lib.hid hB
  have HS := Lib.hid hS
  have hMB : M.bs.length ≤ 128 := by omega
  have HD0 := Lib.hid (DmpSt.nil (base := base) w)
  clear h hok hB hS c0 c1 c2 c4 c5 c6 c7 c8
  go_enter Try.func25, Try.ntmps25
  go_wp2_with fail
  go_loopw [5, 6, 7, 19] (fun vp vb vw v wr => ∃ (i : Nat) (p b q : Value) (ps : List PgM), p = vp ∧ b = vb ∧ q = vw ∧ i ≤ M.bs.length ∧ v = vi i ∧ ps.length ≤ i * 32 ∧ Hid (ps.map (·.l) = ((M.bs.take i).map (·.view)).flatMap (·.ps)) ∧ Hid (DmpSt base w p ps b (((M.bs.take i).map (·.view)).map (·.bad)) q (((M.bs.take i).map (·.view)).map (·.wear)) wr)) (fun _ _ _ v _ => M.bs.length - (intOf v).toNat)
  case atStart => exact ⟨0, _, _, _, [], rfl, rfl, rfl, Nat.zero_le _, rfl, by simp, Lib.hid rfl, HD0⟩
  case round =>
    clear HD0
    obtain ⟨i, vp, vb, vw, ps, rfl, rfl, rfl, hi, rfl, hpl, hp, hd⟩ := hrel
    by_cases hlt : i < M.bs.length
    · have hpl2 : (M.bs.getD i default).ps.length ≤ 32 := by rw [HPS.out i hlt]; exact HS.out.2.1
      have hfl2 := HFL.out i hlt
      have htk : (M.bs.take (i + 1)).map (·.view) = (M.bs.take i).map (·.view) ++ [(M.bs.getD i default).view] := by
        rw [List.take_succ_eq_append_getElem hlt, List.map_append, List.getD_eq_getElem?_getD, List.getElem?_eq_getElem hlt]
        rfl
      have HTK := Lib.hid htk
      have HCH := Lib.hid (fun (w' : World) (b : Below w.heap.size w w') => HC.out.chg (F := fun _ => False) (Chg.of_below b) (fun _ e => e.elim) (fun _ _ e => e))
      have e0 : wr.cell? ⟨M.kb, i * 5, none⟩ = some (.slice (some ⟨(M.bs.getD i default).g, 0, none⟩) (M.bs.getD i default).ps.length (M.bs.getD i default).c) := (HCH.out _ hd.out.below).bcell hlt (j := 0) (by decide)
      have e1 : wr.cell? ⟨M.kb, i * 5 + 1, none⟩ = some (vi (M.bs.getD i default).next) := (HCH.out _ hd.out.below).bcell hlt (j := 1) (by decide)
      have e2 : wr.cell? ⟨M.kb, i * 5 + 2, none⟩ = some (.bool (M.bs.getD i default).broken) := (HCH.out _ hd.out.below).bcell hlt (j := 2) (by decide)
      have e3 : wr.cell? ⟨M.kb, i * 5 + 3, none⟩ = some (.bool (M.bs.getD i default).bad) := (HCH.out _ hd.out.below).bcell hlt (j := 3) (by decide)
      have e4 : wr.cell? ⟨M.kb, i * 5 + 4, none⟩ = some (vi (M.bs.getD i default).wear) := (HCH.out _ hd.out.below).bcell hlt (j := 4) (by decide)
      have HPG := Lib.hid (fun (w' : World) (b : Below w.heap.size w w') (j : Nat) (hj : j < (M.bs.getD i default).ps.length) => (HCH.out w' b).pcell hlt hj)
      have HRW := Lib.hid (fun (w' : World) (b : Below w.heap.size w w') (j : Nat) (hj : j < (M.bs.getD i default).ps.length) => (HCH.out w' b).rows _ (getD_mem (d := default) hlt) _ (getD_mem (d := default) hj))
      have HF2 := Lib.hid hfl2
      generalize M.bs.getD i default = x at *
      have HXB := Lib.hid (Blk.new wr 102 #[.slice (some ⟨x.g, 0, none⟩) x.ps.length x.c, vi x.next, .bool x.broken, .bool x.bad, vi x.wear])
      have HD1 := Lib.hid (hd.out.old ((Below.refl _ _).alloc (Nat.le_refl _) (.cells #[.slice (some ⟨x.g, 0, none⟩) x.ps.length x.c, vi x.next, .bool x.broken, .bool x.bad, vi x.wear] 102)))
      have hwl : w.heap.size ≤ wr.heap.size := hd.out.below.size
      have HP0 := hp
      clear hd hp htk hfl2
      go_upto_region 9 with fail
      generalize wr.alloc (.cells #[.slice (some ⟨x.g, 0, none⟩) x.ps.length x.c, vi x.next, .bool x.broken, .bool x.bad, vi x.wear] 102) = w1 at *
      generalize wr.heap.size = hx at *
      clear e0 e1 e2 e3 e4
      have e0 : w1.cell? ⟨hx, 0, none⟩ = some (.slice (some ⟨x.g, 0, none⟩) x.ps.length x.c) := HXB.out.cell 0
      go_wp2_with fail
      clear e0
      go_loopw [5, 26] (fun vq v wr => ∃ (j : Nat) (q : Value) (qs : List PgM), q = vq ∧ j ≤ x.ps.length ∧ v = vi j ∧ qs.length ≤ ps.length + j ∧ Hid (qs.map (·.l) = ps.map (·.l) ++ (x.ps.take j).map (·.l)) ∧ Hid (Blk wr hx 102 #[.slice (some ⟨x.g, 0, none⟩) x.ps.length x.c, vi x.next, .bool x.broken, .bool x.bad, vi x.wear]) ∧ Hid (DmpSt base w q qs vb (((M.bs.take i).map (·.view)).map (·.bad)) vw (((M.bs.take i).map (·.view)).map (·.wear)) wr)) (fun _ v _ => x.ps.length - (intOf v).toNat)
      case atStart => exact ⟨0, _, ps, rfl, Nat.zero_le _, rfl, by omega, Lib.hid (by simp), HXB, HD1⟩
      case round =>
        clear HXB HD1
        obtain ⟨j, vq, qs, rfl, hj, rfl, hql, hqp, hxb, hd⟩ := hrel
        by_cases hlt2 : j < x.ps.length
        · have cj := HPG.out wr hd.out.below j hlt2
          have hok2 := HRW.out wr hd.out.below j hlt2
          have hfl3 := HF2.out (x.ps.getD j default) (getD_mem hlt2)
          have htk2 : (x.ps.take (j + 1)).map (·.l) = (x.ps.take j).map (·.l) ++ [(x.ps.getD j default).l] := by
            rw [List.take_succ_eq_append_getElem hlt2, List.map_append, List.getD_eq_getElem?_getD, List.getElem?_eq_getElem hlt2]
            rfl
          have HTK2 := Lib.hid htk2
          clear htk2
          generalize x.ps.getD j default = pg at *
          obtain ⟨pa, pl, pc⟩ := pg
          change wr.cell? ⟨x.g, j, none⟩ = some (.slice pa pl.length pc) at cj
          have HRR := Lib.hid hok2.row.row
          have hpl3 : pl.length ≤ 900000 := by
            have := HS.out
            rcases hfl3 with h | h
            · dsimp only at h; rw [h]; simp
            · dsimp only at h; omega
          clear hok2 hfl3
          go_wp2_with fail
          refine (Clone_any pa pl pc _ HRR.out hpl3).mono ?_
          rintro e w3 ⟨v3, rfl, ho3, hb3⟩
          obtain ⟨a3, c3', rfl, hs3, hl3, hc3, -⟩ := ho3.srow (base := base) HRR.out.small
          have HD3 := hd.out.old (hb3.trans (((Below.refl _ w3).alloc (Nat.le_refl _) (.cells #[.slice a3 pl.length c3'] 32)).mono hb3.size))
          obtain ⟨v4, w4, hrun4, hd4, hg4⟩ := HD3.addP hbase (q := ⟨a3, pl, c3'⟩) (b := w3.heap.size) ⟨hs3.old ((Below.refl _ w3).alloc (Nat.le_refl _) _), hl3, hc3⟩ (by
            have := (Blk.new w3 32 #[.slice a3 pl.length c3']).cell 0
            exact this) (by omega)
          have RA : AppRun 51 51 51 vq (.slice (some ⟨w3.heap.size, 0, none⟩) 1 1) (w3.alloc (.cells #[.slice a3 pl.length c3'] 32)) v4 w4 := hrun4
          have HX4 := Lib.hid (((hxb.out.old hb3).alloc (.cells #[.slice a3 pl.length c3'] 32)).grown hg4 (own_blk_ne HD3.rp ((hxb.out.old hb3).alloc (.cells #[.slice a3 pl.length c3'] 32)) (by decide)))
          have HD4 := Lib.hid hd4
          obtain ⟨vqa, vqc, hvq⟩ := own_form hd.out.rp
          obtain ⟨v4a, v4c, hv4⟩ := own_form hd4.rp
          subst hvq hv4
          have HQP := Lib.hid (show (qs ++ [(⟨a3, pl, c3'⟩ : PgM)]).map (·.l) = ps.map (·.l) ++ (x.ps.take (j + 1)).map (·.l) by rw [List.map_append, hqp.out, HTK2.out, List.append_assoc]; rfl)
          clear hrun4 hd4 hg4 HD3 ho3 hs3 hb3 hd hxb hqp cj
          go_wp2_with (at_builtin; refine wpList_append_run rfl (.tmp 30) (.tmp 33) rfl rfl rfl RA.run ?_)
          go_roundw
          case rel => exact ⟨j + 1, _, qs ++ [⟨a3, pl, c3'⟩], rfl, by omega, by go_num, by simp; omega, HQP, HX4, Lib.hid (by have := HD4.out; rw [List.length_append] at this; exact this)⟩
          case measure => simp [intOf]; omega
        · obtain rfl : j = x.ps.length := by omega
          have D0 := hd.out.old (Below.refl _ _).drew
          have B1 := fun (w' : World) => (Below.refl w'.heap.size w').alloc (Nat.le_refl _) (.cells #[.bool x.bad] 4)
          have B2 := fun (w' : World) => (Below.refl w'.heap.size w').alloc (Nat.le_refl _) (.cells #[vi x.wear] 3)
          have hlb : (((M.bs.take i).map (·.view)).map (·.bad)).length ≤ 128 := by simp; omega
          have hlw : (((M.bs.take i).map (·.view)).map (·.wear)).length ≤ 128 := by simp; omega
          have X0 : Blk wr.drew hx 102 #[.slice (some ⟨x.g, 0, none⟩) x.ps.length x.c, vi x.next, .bool x.broken, .bool x.bad, vi x.wear] := hxb.out.drew
          generalize hlbb : ((M.bs.take i).map (·.view)).map (·.bad) = bl at *
          generalize hlww : ((M.bs.take i).map (·.view)).map (·.wear) = wl at *
          -- first the bools' row, whole
          obtain ⟨va1, wa1, ra1, da1, ga1⟩ := (D0.old (B1 _)).addB hbase (q := x.bad) (b := wr.heap.size) ((Blk.new wr.drew 4 #[.bool x.bad]).cell 0) (by omega)
          have xa1 := (X0.old (B1 _)).grown ga1 (own_blk_ne (D0.old (B1 _)).rb (X0.old (B1 _)) (by decide))
          obtain ⟨va2, wa2, ra2, da2, -⟩ := (da1.old (B2 _)).addW hbase (q := x.wear) (b := wa1.heap.size) ((Blk.new wa1 3 #[vi x.wear]).cell 0) (by omega)
          -- first the numbers' row, whole
          obtain ⟨vz1, wz1, rz1, dz1, gz1⟩ := (D0.old (B2 _)).addW hbase (q := x.wear) (b := wr.heap.size) ((Blk.new wr.drew 3 #[vi x.wear]).cell 0) (by omega)
          have xz1 := (X0.old (B2 _)).grown gz1 (own_blk_ne (D0.old (B2 _)).rw_ (X0.old (B2 _)) (by decide))
          obtain ⟨vz2, wz2, rz2, dz2, -⟩ := (dz1.old (B1 _)).addB hbase (q := x.bad) (b := wz1.heap.size) ((Blk.new wz1 4 #[.bool x.bad]).cell 0) (by omega)
          -- both are laid first, the bool's ahead
          have D12 := (D0.old (B1 _)).old (B2 _)
          have n1 : Blk ((wr.drew.alloc (.cells #[.bool x.bad] 4)).alloc (.cells #[vi x.wear] 3)) wr.heap.size 4 #[.bool x.bad] := (Blk.new wr.drew 4 #[.bool x.bad]).alloc _
          have n2 : Blk ((wr.drew.alloc (.cells #[.bool x.bad] 4)).alloc (.cells #[vi x.wear] 3)) (wr.heap.size + 1) 3 #[vi x.wear] := by
            have := Blk.new (wr.drew.alloc (.cells #[.bool x.bad] 4)) 3 #[vi x.wear]
            rw [size_alloc] at this
            exact this
          obtain ⟨vb1, wb1, rb1, db1, gb1⟩ := D12.addB hbase (q := x.bad) (b := wr.heap.size) (n1.cell 0) (by omega)
          obtain ⟨vb2, wb2, rb2, db2, -⟩ := db1.addW hbase (q := x.wear) (b := wr.heap.size + 1) ((n2.grown gb1 (own_blk_ne D12.rb n2 (by decide))).cell 0) (by omega)
          obtain ⟨vc1, wc1, rc1, dc1, gc1⟩ := D12.addW hbase (q := x.wear) (b := wr.heap.size + 1) (n2.cell 0) (by omega)
          obtain ⟨vc2, wc2, rc2, dc2, -⟩ := dc1.addB hbase (q := x.bad) (b := wr.heap.size) ((n1.grown gc1 (own_blk_ne D12.rw_ n1 (by decide))).cell 0) (by omega)
          -- the number's ahead
          have D21 := (D0.old (B2 _)).old (B1 _)
          have m2 : Blk ((wr.drew.alloc (.cells #[vi x.wear] 3)).alloc (.cells #[.bool x.bad] 4)) wr.heap.size 3 #[vi x.wear] := (Blk.new wr.drew 3 #[vi x.wear]).alloc _
          have m1 : Blk ((wr.drew.alloc (.cells #[vi x.wear] 3)).alloc (.cells #[.bool x.bad] 4)) (wr.heap.size + 1) 4 #[.bool x.bad] := by
            have := Blk.new (wr.drew.alloc (.cells #[vi x.wear] 3)) 4 #[.bool x.bad]
            rw [size_alloc] at this
            exact this
          obtain ⟨vd1, wd1, rd1, dd1, gd1⟩ := D21.addB hbase (q := x.bad) (b := wr.heap.size + 1) (m1.cell 0) (by omega)
          obtain ⟨vd2, wd2, rd2, dd2, -⟩ := dd1.addW hbase (q := x.wear) (b := wr.heap.size) ((m2.grown gd1 (own_blk_ne D21.rb m2 (by decide))).cell 0) (by omega)
          obtain ⟨ve1, we1, re1, de1, ge1⟩ := D21.addW hbase (q := x.wear) (b := wr.heap.size) (m2.cell 0) (by omega)
          obtain ⟨ve2, we2, re2, de2, -⟩ := de1.addB hbase (q := x.bad) (b := wr.heap.size + 1) ((m1.grown ge1 (own_blk_ne D21.rw_ m1 (by decide))).cell 0) (by omega)
          have k3 : wr.cell? ⟨hx, 3, none⟩ = some (.bool x.bad) := hxb.out.cell 3
          have k4 : wr.cell? ⟨hx, 4, none⟩ = some (vi x.wear) := hxb.out.cell 4
          have ka4 : wa1.cell? ⟨hx, 4, none⟩ = some (vi x.wear) := xa1.cell 4
          have kz3 : wz1.cell? ⟨hx, 3, none⟩ = some (.bool x.bad) := xz1.cell 3
          have hxl : hx < wr.heap.size := hxb.out.lt
          have hxa : hx < wa1.heap.size := xa1.lt
          have hxz : hx < wz1.heap.size := xz1.lt
          have RA1 : AppRun 52 52 52 vb (.slice (some ⟨wr.heap.size, 0, none⟩) 1 1) (wr.alloc (.cells #[.bool x.bad] 4)).drew va1 wa1 := ra1
          have RZ1 : AppRun 24 24 24 vw (.slice (some ⟨wr.heap.size, 0, none⟩) 1 1) (wr.alloc (.cells #[vi x.wear] 3)).drew vz1 wz1 := rz1
          have RB1 : AppRun 52 52 52 vb (.slice (some ⟨wr.heap.size, 0, none⟩) 1 1) ((wr.alloc (.cells #[.bool x.bad] 4)).alloc (.cells #[vi x.wear] 3)).drew vb1 wb1 := rb1
          have RC1 : AppRun 24 24 24 vw (.slice (some ⟨wr.heap.size + 1, 0, none⟩) 1 1) ((wr.alloc (.cells #[.bool x.bad] 4)).alloc (.cells #[vi x.wear] 3)).drew vc1 wc1 := rc1
          have RD1 : AppRun 52 52 52 vb (.slice (some ⟨wr.heap.size + 1, 0, none⟩) 1 1) ((wr.alloc (.cells #[vi x.wear] 3)).alloc (.cells #[.bool x.bad] 4)).drew vd1 wd1 := rd1
          have RE1 : AppRun 24 24 24 vw (.slice (some ⟨wr.heap.size, 0, none⟩) 1 1) ((wr.alloc (.cells #[vi x.wear] 3)).alloc (.cells #[.bool x.bad] 4)).drew ve1 we1 := re1
          have CL : ∀ (vb' vw' : Value) (w' : World), DmpSt base w vq qs vb' (bl ++ [x.bad]) vw' (wl ++ [x.wear]) w' → ∃ (i0 : Nat) (p b q : Value) (ps0 : List PgM), p = vq ∧ b = vb' ∧ q = vw' ∧ i0 ≤ M.bs.length ∧ vi (i + 1) = vi i0 ∧ ps0.length ≤ i0 * 32 ∧ Hid (ps0.map (·.l) = ((M.bs.take i0).map (·.view)).flatMap (·.ps)) ∧ Hid (DmpSt base w p ps0 b (((M.bs.take i0).map (·.view)).map (·.bad)) q (((M.bs.take i0).map (·.view)).map (·.wear)) w') := by
            intro vb' vw' w' hD
            refine ⟨i + 1, vq, vb', vw', qs, rfl, rfl, rfl, by omega, by go_num, by omega, Lib.hid ?_, Lib.hid ?_⟩
            · rw [hqp.out, HP0.out, HTK.out, List.flatMap_append, List.take_length]
              simp [BloM.view]
            · rw [HTK.out, List.map_append, List.map_append, hlbb, hlww]
              exact hD
          have HCL := Lib.hid CL
          obtain ⟨_, _, hf1⟩ := own_form da2.rb
          obtain ⟨_, _, hf2⟩ := own_form da2.rw_
          obtain ⟨_, _, hf3⟩ := own_form dz2.rb
          obtain ⟨_, _, hf4⟩ := own_form dz2.rw_
          obtain ⟨_, _, hf5⟩ := own_form db2.rb
          obtain ⟨_, _, hf6⟩ := own_form db2.rw_
          obtain ⟨_, _, hf7⟩ := own_form dc2.rb
          obtain ⟨_, _, hf8⟩ := own_form dc2.rw_
          obtain ⟨_, _, hf9⟩ := own_form dd2.rb
          obtain ⟨_, _, hf10⟩ := own_form dd2.rw_
          obtain ⟨_, _, hf11⟩ := own_form de2.rb
          obtain ⟨_, _, hf12⟩ := own_form de2.rw_
          obtain ⟨_, _, hf13⟩ := own_form D0.rb
          obtain ⟨_, _, hf14⟩ := own_form D0.rw_
          obtain ⟨_, _, hf15⟩ := own_form D0.rp
          subst hf1 hf2 hf3 hf4 hf5 hf6 hf7 hf8 hf9 hf10 hf11 hf12 hf13 hf14 hf15
          have PA := Lib.hid da2
          have PZ := Lib.hid dz2
          have PB := Lib.hid db2
          have PC := Lib.hid dc2
          have PD := Lib.hid dd2
          have PE := Lib.hid de2
          have HBL := Lib.hid hlbb
          have HWL := Lib.hid hlww
          clear CL D0 B1 B2 X0 da1 ga1 xa1 da2 dz1 gz1 xz1 dz2 D12 n1 n2 db1 gb1 db2 dc1 gc1 dc2 D21 m1 m2 dd1 gd1 dd2 de1 ge1 de2 ra1 rz1 rb1 rc1 rd1 re1 hlbb hlww hd
          go_upto_region 14 with fail
          go_region_law
            (first
              | refine step_app (.tmp 36) (.tmp 39) RA1 (by rfl) (by rfl) (by go_simp) (by go_simp) ?_
              | refine step_app (.tmp 36) (.tmp 39) RB1 (by rfl) (by rfl) (by go_simp) (by go_simp) ?_
              | refine step_app (.tmp 36) (.tmp 39) RD1 (by rfl) (by rfl) (by go_simp) (by go_simp) ?_
              | refine step_app (.tmp 41) (.tmp 44) RZ1 (by rfl) (by rfl) (by go_simp) (by go_simp) ?_
              | refine step_app (.tmp 41) (.tmp 44) RC1 (by rfl) (by rfl) (by go_simp) (by go_simp) ?_
              | refine step_app (.tmp 41) (.tmp 44) RE1 (by rfl) (by rfl) (by go_simp) (by go_simp) ?_
              | refine step_app (.tmp 41) (.tmp 44) ra2 (by rfl) (by rfl) (by go_simp) (by go_simp) ?_
              | refine step_app (.tmp 36) (.tmp 39) rz2 (by rfl) (by rfl) (by go_simp) (by go_simp) ?_
              | refine step_app (.tmp 41) (.tmp 44) rb2 (by rfl) (by rfl) (by go_simp) (by go_simp) ?_
              | refine step_app (.tmp 36) (.tmp 39) rc2 (by rfl) (by rfl) (by go_simp) (by go_simp) ?_
              | refine step_app (.tmp 41) (.tmp 44) rd2 (by rfl) (by rfl) (by go_simp) (by go_simp) ?_
              | refine step_app (.tmp 36) (.tmp 39) re2 (by rfl) (by rfl) (by go_simp) (by go_simp) ?_)
          all_goals go_wp2_with fail
          all_goals go_roundw
          all_goals
            first
              | exact HCL.out _ _ _ (by have := PA.out; simp only [List.length_append, List.length_singleton] at this; exact this)
              | exact HCL.out _ _ _ (by have := PZ.out; simp only [List.length_append, List.length_singleton] at this; exact this)
              | exact HCL.out _ _ _ (by have := PB.out; simp only [List.length_append, List.length_singleton] at this; exact this)
              | exact HCL.out _ _ _ (by have := PC.out; simp only [List.length_append, List.length_singleton] at this; exact this)
              | exact HCL.out _ _ _ (by have := PD.out; simp only [List.length_append, List.length_singleton] at this; exact this)
              | exact HCL.out _ _ _ (by have := PE.out; simp only [List.length_append, List.length_singleton] at this; exact this)
              | (simp [intOf]; omega)
    · obtain rfl : i = M.bs.length := by omega
      have HF : Hid (DumpPost base w M.view (.returned (.tuple #[vp, vb, vw])) wr) := Lib.hid (by
        have h1 := hd.out
        have h2 := hp.out
        rw [List.take_length] at h1 h2
        exact ⟨vp, ps, vb, vw, rfl, h1, h2⟩)
      go_wp2_with fail
      go_ret3
      exact HF.out
end

end Go.Proofs.Ytpggkehfbhffbaa

/-
  The document's chip in memory: what it holds, which blocks of memory are its own, what a step may change. No conditions of its own.
-/
namespace Go.Proofs.Ytpggkehfbhffbaa
open Go.RowKit

/-- The document's chip. -/
structure RefM where
  B : Nat
  P : Nat
  S : Nat
  gp : Nat
  cp : Nat
  ps : List PgM
  gn : Nat
  cn : Nat
  nx : List Nat
  gb : Nat
  cb : Nat
  br : List Bool
  gd : Nat
  cd : Nat
  bd : List Bool
  gw : Nat
  cw : Nat
  wr : List Int
  fa : Option Addr
  fs : List FltM
  fc : Nat
  since : Int
  down : Bool
  strokes : Int
  reads : Int
abbrev RefM.cs (R : RefM) : Array Value := #[vi R.B, vi R.P, vi R.S, .slice (some ⟨R.gp, 0, none⟩) R.ps.length R.cp, .slice (some ⟨R.gn, 0, none⟩) R.nx.length R.cn, .slice (some ⟨R.gb, 0, none⟩) R.br.length R.cb, .slice (some ⟨R.gd, 0, none⟩) R.bd.length R.cd, .slice (some ⟨R.gw, 0, none⟩) R.wr.length R.cw, .slice R.fa R.fs.length R.fc, vi R.since, .bool R.down, vi R.strokes, vi R.reads]
/-- One block of it. -/
def RefM.blo (R : RefM) (i : Nat) : NP.Blo := ⟨(List.range R.P).map (fun p => (R.ps.getD (i * R.P + p) default).l), R.nx.getD i 0, R.br.getD i false, R.bd.getD i false, R.wr.getD i 0⟩
def RefM.view (R : RefM) : NP.Chp := ⟨R.B, R.P, R.S, (List.range R.B).map R.blo, R.fs.map (·.view), R.since, R.down, R.strokes, R.reads⟩
/-- The blocks of memory that are its own. -/
def RefM.foot (R : RefM) (k n : Nat) : Prop := n = k ∨ n = R.gp ∨ n = R.gn ∨ n = R.gb ∨ n = R.gd ∨ n = R.gw
structure RefAt (base : Nat) (w : World) (k : Nat) (R : RefM) : Prop where
  chip : Blk w k 107 R.cs
  ps : Arr w 32 1 R.gp R.ps.length R.cp (R.ps.map (·.v))
  nx : Arr w 3 1 R.gn R.nx.length R.cn (R.nx.map (fun (n : Nat) => vi n))
  br : Arr w 4 1 R.gb R.br.length R.cb (R.br.map Value.bool)
  bd : Arr w 4 1 R.gd R.bd.length R.cd (R.bd.map Value.bool)
  wr : Arr w 3 1 R.gw R.wr.length R.cw (R.wr.map vi)
  ne1 : R.gb ≠ R.gd
  ne2 : R.gn ≠ R.gw
  rows : ∀ p ∈ R.ps, p.ok base w
  faults : FRow base w R.fa R.fs
  low : ∀ n, R.foot k n → base ≤ n
  lp : R.ps.length = R.B * R.P
  ln : R.nx.length = R.B
  lb : R.br.length = R.B
  ld : R.bd.length = R.B
  lw : R.wr.length = R.B

section
variable {base : Nat} {w w' : World} {k : Nat} {R R' : RefM}
theorem RefAt.mine (h : RefAt base w k R) : ∀ n, R.foot k n → Mine base w n := by
  intro n hn
  refine ⟨h.low n hn, ?_⟩
  rcases hn with rfl | rfl | rfl | rfl | rfl | rfl
  · exact ⟨_, _, by decide, h.chip⟩
  · obtain ⟨cur, hb, _⟩ := h.ps.blk; exact ⟨_, cur, by decide, hb⟩
  · obtain ⟨cur, hb, _⟩ := h.nx.blk; exact ⟨_, cur, by decide, hb⟩
  · obtain ⟨cur, hb, _⟩ := h.br.blk; exact ⟨_, cur, by decide, hb⟩
  · obtain ⟨cur, hb, _⟩ := h.bd.blk; exact ⟨_, cur, by decide, hb⟩
  · obtain ⟨cur, hb, _⟩ := h.wr.blk; exact ⟨_, cur, by decide, hb⟩
theorem RefAt.lt (h : RefAt base w k R) : ∀ n, R.foot k n → n < w.heap.size := by
  intro n hn
  obtain ⟨_, t, cur, _, hb⟩ := h.mine n hn
  exact hb.lt
/-- It stands where none of its own blocks changes. -/
theorem RefAt.chg {F : Nat → Prop} (h : RefAt base w k R) (q : Chg F w w') (hF : ∀ n, F n → Mine base w n) (hn : ∀ n, R.foot k n → ¬ F n) : RefAt base w' k R :=
  ⟨h.chip.chg q (hn _ (.inl rfl)), h.ps.chg q (hn _ (.inr (.inl rfl))), h.nx.chg q (hn _ (.inr (.inr (.inl rfl)))), h.br.chg q (hn _ (.inr (.inr (.inr (.inl rfl))))), h.bd.chg q (hn _ (.inr (.inr (.inr (.inr (.inl rfl)))))), h.wr.chg q (hn _ (.inr (.inr (.inr (.inr (.inr rfl)))))),
    h.ne1, h.ne2, fun p hp => (h.rows p hp).chg q hF, h.faults.chg q hF, h.low, h.lp, h.ln, h.lb, h.ld, h.lw⟩
theorem RefAt.old (h : RefAt base w k R) (q : Below w.heap.size w w') : RefAt base w' k R := h.chg (F := fun _ => False) (Chg.of_below q) (fun _ e => e.elim) (fun _ _ e => e)

/-- From a chip to what it is behind a step. -/
structure RGoes (base : Nat) (w : World) (k : Nat) (R : RefM) (w' : World) (R' : RefM) : Prop where
  at_ : RefAt base w' k R'
  chg : Chg (R.foot k) w w'
  foot : ∀ n, R'.foot k n → R.foot k n ∨ w.heap.size ≤ n
theorem RGoes.refl (h : RefAt base w k R) : RGoes base w k R w R := ⟨h, Chg.refl _ _, fun _ h => .inl h⟩
theorem RGoes.trans {w'' : World} {R' R'' : RefM} (h : RGoes base w k R w' R') (q : RGoes base w' k R' w'' R'') : RGoes base w k R w'' R'' := by
  refine ⟨q.at_, h.chg.trans q.chg fun n hn e => ?_, fun n hn => ?_⟩
  · rcases h.foot n e with h1 | h1
    · exact h1
    · omega
  · rcases q.foot n hn with h1 | h1
    · exact h.foot n h1
    · exact .inr (Nat.le_trans h.chg.size h1)
theorem RGoes.old {w'' : World} (h : RGoes base w k R w' R') (q : Below w'.heap.size w' w'') : RGoes base w k R w'' R' := ⟨h.at_.old q, h.chg.below q, h.foot⟩
theorem RGoes.of_old (h : RefAt base w k R) (q : Below w.heap.size w w') : RGoes base w k R w' R := (RGoes.refl h).old q
theorem RGoes.size (h : RGoes base w k R w' R') : w.heap.size ≤ w'.heap.size := h.chg.size

theorem RefAt.k_ne (h : RefAt base w k R) : R.gp ≠ k ∧ R.gn ≠ k ∧ R.gb ≠ k ∧ R.gd ≠ k ∧ R.gw ≠ k :=
  ⟨h.ps.ne_blk h.chip (by decide), h.nx.ne_blk h.chip (by decide), h.br.ne_blk h.chip (by decide), h.bd.ne_blk h.chip (by decide), h.wr.ne_blk h.chip (by decide)⟩
/-- Fields of the chip are laid, and memory is made: told from the world at first. -/
theorem RefAt.fields (h : RefAt base w k R) (q : Chg (fun n => n = k) w w') (hb : Blk w' k 107 R'.cs)
    (he : R' = { R with since := R'.since, down := R'.down, strokes := R'.strokes, reads := R'.reads }) : RGoes base w k R w' R' := by
  have hF : ∀ n, n = k → Mine base w n := fun n e => h.mine n (.inl e)
  obtain ⟨h1, h2, h3, h4, h5⟩ := h.k_ne
  rw [he] at hb ⊢
  exact ⟨⟨hb, h.ps.chg q h1, h.nx.chg q h2, h.br.chg q h3, h.bd.chg q h4, h.wr.chg q h5, h.ne1, h.ne2, fun p hp => (h.rows p hp).chg q hF, h.faults.chg q hF, h.low, h.lp, h.ln, h.lb, h.ld, h.lw⟩, q.mono (fun n _ e => .inl e), fun n hn => .inl hn⟩
theorem RefAt.field (h : RefAt base w k R) (j : Nat) (v : Value) (hc : R'.cs = R.cs.setIfInBounds j v) (he : R' = { R with since := R'.since, down := R'.down, strokes := R'.strokes, reads := R'.reads }) : RGoes base w k R (w.setCell ⟨k, j, none⟩ v) R' :=
  h.fields (Chg.set (F := fun n => n = k) w (p := ⟨k, j, none⟩) rfl v) (by rw [hc]; exact h.chip.set_ j v) he
theorem RefAt.pcell (h : RefAt base w k R) {i : Nat} (hi : i < R.ps.length) : w.cell? ⟨R.gp, i, none⟩ = some (R.ps.getD i default).v := by
  rw [h.ps.cell (by omega), List.getElem?_map, List.getD_eq_getElem?_getD, List.getElem?_eq_getElem hi]; rfl
theorem RefAt.ncell (h : RefAt base w k R) {i : Nat} (hi : i < R.nx.length) : w.cell? ⟨R.gn, i, none⟩ = some (vi (R.nx.getD i 0 : Nat)) := by
  rw [h.nx.cell (by omega), List.getElem?_map, List.getD_eq_getElem?_getD, List.getElem?_eq_getElem hi]; rfl
theorem RefAt.bcell (h : RefAt base w k R) {i : Nat} (hi : i < R.br.length) : w.cell? ⟨R.gb, i, none⟩ = some (.bool (R.br.getD i false)) := by
  rw [h.br.cell (by omega), List.getElem?_map, List.getD_eq_getElem?_getD, List.getElem?_eq_getElem hi]; rfl
theorem RefAt.dcell (h : RefAt base w k R) {i : Nat} (hi : i < R.bd.length) : w.cell? ⟨R.gd, i, none⟩ = some (.bool (R.bd.getD i false)) := by
  rw [h.bd.cell (by omega), List.getElem?_map, List.getD_eq_getElem?_getD, List.getElem?_eq_getElem hi]; rfl
theorem RefAt.wcell (h : RefAt base w k R) {i : Nat} (hi : i < R.wr.length) : w.cell? ⟨R.gw, i, none⟩ = some (vi (R.wr.getD i 0)) := by
  rw [h.wr.cell (by omega), List.getElem?_map, List.getD_eq_getElem?_getD, List.getElem?_eq_getElem hi]; rfl

/-! A row's element is laid. -/
theorem RefAt.setP (h : RefAt base w k R) (i : Nat) (q : PgM) (hq : q.ok base w) : RGoes base w k R (w.setCell ⟨R.gp, i, none⟩ q.v) { R with ps := R.ps.set i q } := by
  have hc : Chg (R.foot k) w (w.setCell ⟨R.gp, i, none⟩ q.v) := Chg.set w (p := ⟨R.gp, i, none⟩) (.inr (.inl rfl)) _
  obtain ⟨h1, h2, h3, h4, h5⟩ := h.k_ne
  refine ⟨⟨?_, ?_, h.nx.far (p := ⟨R.gp, i, none⟩) (h.nx.ne h.ps (by decide)) _, h.br.far (p := ⟨R.gp, i, none⟩) (h.br.ne h.ps (by decide)) _, h.bd.far (p := ⟨R.gp, i, none⟩) (h.bd.ne h.ps (by decide)) _, h.wr.far (p := ⟨R.gp, i, none⟩) (h.wr.ne h.ps (by decide)) _, h.ne1, h.ne2, ?_, h.faults.chg hc h.mine, h.low, by simpa using h.lp, h.ln, h.lb, h.ld, h.lw⟩, hc, fun n hn => .inl hn⟩
  · have := h.chip.far (p := ⟨R.gp, i, none⟩) h1.symm q.v
    simpa [RefM.cs] using this
  · dsimp only
    rw [List.length_set, List.map_set]
    exact h.ps.set i q.v
  · intro p hp
    rcases List.mem_or_eq_of_mem_set hp with hp | rfl
    · exact (h.rows p hp).chg hc h.mine
    · exact hq.chg hc h.mine
theorem RefAt.setN (h : RefAt base w k R) (i n : Nat) : RGoes base w k R (w.setCell ⟨R.gn, i, none⟩ (vi n)) { R with nx := R.nx.set i n } := by
  have hc : Chg (R.foot k) w (w.setCell ⟨R.gn, i, none⟩ (vi n)) := Chg.set w (p := ⟨R.gn, i, none⟩) (.inr (.inr (.inl rfl))) _
  obtain ⟨h1, h2, h3, h4, h5⟩ := h.k_ne
  refine ⟨⟨?_, h.ps.far (p := ⟨R.gn, i, none⟩) (h.ps.ne h.nx (by decide)) _, ?_, h.br.far (p := ⟨R.gn, i, none⟩) (h.br.ne h.nx (by decide)) _, h.bd.far (p := ⟨R.gn, i, none⟩) (h.bd.ne h.nx (by decide)) _, h.wr.far (p := ⟨R.gn, i, none⟩) h.ne2.symm _, h.ne1, h.ne2, fun p hp => (h.rows p hp).chg hc h.mine, h.faults.chg hc h.mine, h.low, h.lp, by simpa using h.ln, h.lb, h.ld, h.lw⟩, hc, fun n hn => .inl hn⟩
  · have := h.chip.far (p := ⟨R.gn, i, none⟩) h2.symm (vi n)
    simpa [RefM.cs] using this
  · dsimp only
    rw [List.length_set, List.map_set]
    exact h.nx.set i (vi n)
theorem RefAt.setB (h : RefAt base w k R) (i : Nat) (b : Bool) : RGoes base w k R (w.setCell ⟨R.gb, i, none⟩ (.bool b)) { R with br := R.br.set i b } := by
  have hc : Chg (R.foot k) w (w.setCell ⟨R.gb, i, none⟩ (.bool b)) := Chg.set w (p := ⟨R.gb, i, none⟩) (.inr (.inr (.inr (.inl rfl)))) _
  obtain ⟨h1, h2, h3, h4, h5⟩ := h.k_ne
  refine ⟨⟨?_, h.ps.far (p := ⟨R.gb, i, none⟩) (h.ps.ne h.br (by decide)) _, h.nx.far (p := ⟨R.gb, i, none⟩) (h.nx.ne h.br (by decide)) _, ?_, h.bd.far (p := ⟨R.gb, i, none⟩) h.ne1.symm _, h.wr.far (p := ⟨R.gb, i, none⟩) (h.wr.ne h.br (by decide)) _, h.ne1, h.ne2, fun p hp => (h.rows p hp).chg hc h.mine, h.faults.chg hc h.mine, h.low, h.lp, h.ln, by simpa using h.lb, h.ld, h.lw⟩, hc, fun n hn => .inl hn⟩
  · have := h.chip.far (p := ⟨R.gb, i, none⟩) h3.symm (.bool b)
    simpa [RefM.cs] using this
  · dsimp only
    rw [List.length_set, List.map_set]
    exact h.br.set i (.bool b)
theorem RefAt.setD (h : RefAt base w k R) (i : Nat) (b : Bool) : RGoes base w k R (w.setCell ⟨R.gd, i, none⟩ (.bool b)) { R with bd := R.bd.set i b } := by
  have hc : Chg (R.foot k) w (w.setCell ⟨R.gd, i, none⟩ (.bool b)) := Chg.set w (p := ⟨R.gd, i, none⟩) (.inr (.inr (.inr (.inr (.inl rfl))))) _
  obtain ⟨h1, h2, h3, h4, h5⟩ := h.k_ne
  refine ⟨⟨?_, h.ps.far (p := ⟨R.gd, i, none⟩) (h.ps.ne h.bd (by decide)) _, h.nx.far (p := ⟨R.gd, i, none⟩) (h.nx.ne h.bd (by decide)) _, h.br.far (p := ⟨R.gd, i, none⟩) h.ne1 _, ?_, h.wr.far (p := ⟨R.gd, i, none⟩) (h.wr.ne h.bd (by decide)) _, h.ne1, h.ne2, fun p hp => (h.rows p hp).chg hc h.mine, h.faults.chg hc h.mine, h.low, h.lp, h.ln, h.lb, by simpa using h.ld, h.lw⟩, hc, fun n hn => .inl hn⟩
  · have := h.chip.far (p := ⟨R.gd, i, none⟩) h4.symm (.bool b)
    simpa [RefM.cs] using this
  · dsimp only
    rw [List.length_set, List.map_set]
    exact h.bd.set i (.bool b)
theorem RefAt.setW (h : RefAt base w k R) (i : Nat) (n : Int) : RGoes base w k R (w.setCell ⟨R.gw, i, none⟩ (vi n)) { R with wr := R.wr.set i n } := by
  have hc : Chg (R.foot k) w (w.setCell ⟨R.gw, i, none⟩ (vi n)) := Chg.set w (p := ⟨R.gw, i, none⟩) (.inr (.inr (.inr (.inr (.inr rfl))))) _
  obtain ⟨h1, h2, h3, h4, h5⟩ := h.k_ne
  refine ⟨⟨?_, h.ps.far (p := ⟨R.gw, i, none⟩) (h.ps.ne h.wr (by decide)) _, h.nx.far (p := ⟨R.gw, i, none⟩) h.ne2 _, h.br.far (p := ⟨R.gw, i, none⟩) (h.br.ne h.wr (by decide)) _, h.bd.far (p := ⟨R.gw, i, none⟩) (h.bd.ne h.wr (by decide)) _, ?_, h.ne1, h.ne2, fun p hp => (h.rows p hp).chg hc h.mine, h.faults.chg hc h.mine, h.low, h.lp, h.ln, h.lb, h.ld, by simpa using h.lw⟩, hc, fun n hn => .inl hn⟩
  · have := h.chip.far (p := ⟨R.gw, i, none⟩) h5.symm (vi n)
    simpa [RefM.cs] using this
  · dsimp only
    rw [List.length_set, List.map_set]
    exact h.wr.set i (vi n)

/-! What it is, in plain words. -/
theorem range_map_getD {α : Type} (n : Nat) (f : Nat → α) (d : α) {i : Nat} (hi : i < n) : ((List.range n).map f).getD i d = f i := by
  rw [List.getD_eq_getElem?_getD, List.getElem?_map, List.getElem?_range hi]; rfl
theorem range_map_set {α : Type} (n : Nat) (f g : Nat → α) (i : Nat) (y : α) (hg : ∀ j, j < n → g j = if j = i then y else f j) : ((List.range n).map f).set i y = (List.range n).map g := by
  apply List.ext_getElem?
  intro j
  rw [List.getElem?_set]
  by_cases hj : j < n
  · rw [List.getElem?_map, List.getElem?_map, List.getElem?_range hj]
    simp only [List.length_map, List.length_range, Option.map_some]
    rw [hg j hj]
    by_cases e : i = j
    · subst e; simp [hj]
    · rw [if_neg e, if_neg (fun h => e h.symm)]
  · rw [List.getElem?_eq_none (by simp; omega), List.getElem?_eq_none (by simp; omega)]
    simp only [List.length_map, List.length_range]
    split
    · rename_i e; subst e; rw [if_neg hj]
    · rfl
theorem RefM.blk (R : RefM) {i : Nat} (hi : i < R.B) : R.view.blk i = R.blo i := range_map_getD _ _ _ hi
theorem RefM.page (R : RefM) {i p : Nat} (hi : i < R.B) (hp : p < R.P) : (R.view.blk i).page p = (R.ps.getD (i * R.P + p) default).l := by
  rw [R.blk hi]
  exact range_map_getD _ _ _ hp
/-- A block of it turned. -/
theorem RefM.view_set (R R' : RefM) {i : Nat} (y : NP.Blo) (h : ∀ j, j < R.B → R'.blo j = if j = i then y else R.blo j) (hB : R'.B = R.B) : (List.range R'.B).map R'.blo = ((List.range R.B).map R.blo).set i y := by
  rw [hB]
  exact (range_map_set _ _ _ _ _ h).symm
theorem getD_set' {α : Type} (l : List α) (d x : α) (i j : Nat) (hi : i < l.length) : (l.set i x).getD j d = if j = i then x else l.getD j d := by
  rw [NP.getD_set l d x i j hi]
  by_cases e : i = j
  · rw [if_pos e, if_pos e.symm]
  · rw [if_neg e, if_neg (fun h => e h.symm)]
theorem at_inj {P i j p q : Nat} (hp : p < P) (hq : q < P) : i * P + p = j * P + q ↔ i = j ∧ p = q := by
  constructor
  · intro h
    have h1 : (i * P + p) / P = i := by rw [Nat.mul_comm, Nat.mul_add_div (by omega), Nat.div_eq_of_lt hp]; omega
    have h2 : (j * P + q) / P = j := by rw [Nat.mul_comm, Nat.mul_add_div (by omega), Nat.div_eq_of_lt hq]; omega
    rw [h] at h1
    have : i = j := h1.symm.trans h2
    subst this
    exact ⟨rfl, by omega⟩
  · rintro ⟨rfl, rfl⟩; rfl
theorem at_lt {B P i p : Nat} (hi : i < B) (hp : p < P) : i * P + p < B * P := by
  have := Nat.mul_le_mul_right P (show i + 1 ≤ B by omega)
  rw [Nat.add_mul] at this
  omega
end

end Go.Proofs.Ytpggkehfbhffbaa

