/-
  Are two rows of pages the same? Conditions: rows that are told by PRow.
-/
import Derived.Test.YtpggkehfbhffbaaRJ
import Derived.Deep.RegionHeld3
namespace Go.Proofs.Ytpggkehfbhffbaa
open Go.RowKit

/-- Pages that a slice reads as. -/
structure PRow (w : World) (a : Option Addr) (ps : List PgM) : Prop where
  at_ : ps = [] ∨ ∃ b o, a = some ⟨b, o, none⟩ ∧ ∀ i, i < ps.length → w.cell? ⟨b, o + i, none⟩ = some (ps.getD i default).v
  rows : ∀ p ∈ ps, BRow w p.a p.l
  len : ps.length ≤ 140737488355328
theorem PRow.lookup {w : World} {a : Option Addr} {ps : List PgM} (h : PRow w a ps) {i : Nat} (hi : i < ps.length) : ∃ b o, a = some ⟨b, o, none⟩ ∧ w.cell? ⟨b, o + i, none⟩ = some (ps.getD i default).v ∧ BRow w (ps.getD i default).a (ps.getD i default).l := by
  rcases h.at_ with rfl | ⟨b, o, rfl, h1⟩
  · simp at hi
  · exact ⟨b, o, rfl, h1 i hi, h.rows _ (getD_mem hi)⟩
theorem bs_inj {l m : List Nat} (hl : ∀ x ∈ l, x < 256) (hm : ∀ x ∈ m, x < 256) (h : bs l = bs m) : l = m := by
  rw [← sb_bs l hl, ← sb_bs m hm, h]
theorem bs_toList (l : List Nat) : (bs l).toList = l.map UInt8.ofNat := by
  rw [ByteArray.toList_eq]
  rfl
theorem map_take_l {ps : List PgM} {i : Nat} (h : i < ps.length) : (ps.take (i + 1)).map (·.l) = (ps.take i).map (·.l) ++ [(ps.getD i default).l] := by
  rw [List.take_succ_eq_append_getElem h, List.map_append, List.getD_eq_getElem?_getD, List.getElem?_eq_getElem h]
  rfl
theorem map_getD_l {ps qs : List PgM} {i : Nat} (h : i < ps.length) (h2 : i < qs.length) (e : ps.map (·.l) = qs.map (·.l)) : (ps.getD i default).l = (qs.getD i default).l := by
  have := congrArg (fun l => l[i]?) e
  simp only [List.getElem?_map, List.getElem?_eq_getElem h, List.getElem?_eq_getElem h2, Option.map_some] at this
  rw [List.getD_eq_getElem?_getD, List.getD_eq_getElem?_getD, List.getElem?_eq_getElem h, List.getElem?_eq_getElem h2]
  exact Option.some.inj this

set_option maxRecDepth 100000 in
set_option maxHeartbeats 4000000 in
theorem rSame_any {w : World} {a a' : Option Addr} {ps qs : List PgM} (c c' : Nat) (hp : PRow w a ps) (hq : PRow w a' qs) :
    Calls Try.prog 27 #[.slice a ps.length c, .slice a' qs.length c'] w fun e w' => e = .returned (.bool (decide (ps.map (·.l) = qs.map (·.l)))) ∧ Below w.heap.size w w' := by
  have HP := Lib.hid hp
  have HQ := Lib.hid hq
  have hl1 := hp.len
  have hl2 := hq.len
  clear hp hq
  by_cases hlen : ps.length = qs.length
  · have HL := Lib.hid hlen
    have hne : ((ps.length : Int) != (qs.length : Int)) = false := by simp [hlen]
    clear hlen
    go_enter Try.func27, Try.ntmps27
    go_wp2_with fail
    clear hne
    go_loopw [5] (fun v wr => ∃ i : Nat, i ≤ ps.length ∧ v = vi i ∧ Hid (Below w.heap.size w wr) ∧ Hid ((ps.take i).map (·.l) = (qs.take i).map (·.l))) (fun v _ => ps.length - (intOf v).toNat)
    case atStart => exact ⟨0, Nat.zero_le _, rfl, Lib.hid (Below.refl _ _), Lib.hid rfl⟩
    case round =>
      obtain ⟨i, hi, rfl, hb, he⟩ := hrel
      by_cases hlt : i < ps.length
      · have hlt2 : i < qs.length := by have := HL.out; omega
        obtain ⟨b, o, rfl, d1, r1⟩ := HP.out.lookup hlt
        obtain ⟨b', o', rfl, d2, r2⟩ := HQ.out.lookup hlt2
        have HT1 := Lib.hid (map_take_l hlt)
        have HT2 := Lib.hid (map_take_l hlt2)
        have HG := Lib.hid (fun e => map_getD_l hlt hlt2 e)
        generalize ps.getD i default = x at *
        generalize qs.getD i default = y at *
        obtain ⟨xa, xl, xc⟩ := x
        obtain ⟨ya, yl, yc⟩ := y
        dsimp only at *
        have HS1 := Lib.hid r1.small
        have HS2 := Lib.hid r2.small
        have HD : Hid (wr.drew.cell? ⟨b, o + i, none⟩ = some (.slice xa xl.length xc) ∧ wr.drew.cell? ⟨b', o' + i, none⟩ = some (.slice ya yl.length yc) ∧
          (convert 32 9 (.slice xa xl.length xc)).run Try.prog wr.drew = .ok (.string (bs xl)) wr.drew ∧ (convert 32 9 (.slice ya yl.length yc)).run Try.prog wr.drew = .ok (.string (bs yl)) wr.drew) := Lib.hid
          ⟨cell_below d1 hb.out.drew, cell_below d2 hb.out.drew, run_text ((r1.below hb.out).below (Below.refl _ _).drew) _, run_text ((r2.below hb.out).below (Below.refl _ _).drew) _⟩
        clear d1 d2 r1 r2
        go_upto_region 6 with fail
        go_region_held3 (fun w' => w'.cell? ⟨b, o + i, none⟩ = some (.slice xa xl.length xc) ∧ w'.cell? ⟨b', o' + i, none⟩ = some (.slice ya yl.length yc) ∧
          (convert 32 9 (.slice xa xl.length xc)).run Try.prog w' = .ok (.string (bs xl)) w' ∧ (convert 32 9 (.slice ya yl.length yc)).run Try.prog w' = .ok (.string (bs yl)) w')
          (exact HD.out)
          (fail)
        all_goals
          by_cases hxy : xl = yl
          · subst hxy
            have HE : Hid ((ps.take (i + 1)).map (·.l) = (qs.take (i + 1)).map (·.l)) := Lib.hid (by rw [HT1.out, HT2.out, he.out])
            have hee : (!((bs xl).toList == (bs xl).toList)) = false := by simp
            go_wp2_with fail
            any_goals (exfalso; rename_i hbad; rw [hee] at hbad; cases hbad; done)
            go_roundw
            case rel => exact ⟨i + 1, by omega, by go_num, Lib.hid hb.out.drew, HE⟩
            case measure => simp [intOf]; omega
          · have hee : (!((bs xl).toList == (bs yl).toList)) = true := by
              rw [bs_toList, bs_toList]
              simp only [Bool.not_eq_true', beq_eq_false_iff_ne, ne_eq]
              intro e
              refine hxy ?_
              have h2 : bs xl = bs yl := by
                unfold bs
                rw [e]
              exact bs_inj HS1.out HS2.out h2
            have HF := Lib.hid (show decide (ps.map (·.l) = qs.map (·.l)) = false from decide_eq_false (fun e => hxy (HG.out e)))
            go_wp2_with fail
            any_goals (exfalso; rename_i hbad; rw [hee] at hbad; cases hbad; done)
            go_ret
            exact ⟨by rw [HF.out]; rfl, hb.out.drew⟩
      · obtain rfl : i = ps.length := by omega
        have HF := Lib.hid (show decide (ps.map (·.l) = qs.map (·.l)) = true from decide_eq_true (by
          have h1 := he.out
          rw [List.take_length, HL.out, List.take_length] at h1
          exact h1))
        go_wp2_with fail
        go_ret
        exact ⟨by rw [HF.out]; rfl, hb.out⟩
  · have HF := Lib.hid (show decide (ps.map (·.l) = qs.map (·.l)) = false from decide_eq_false (fun e => hlen (by simpa using congrArg List.length e)))
    have hne : ((ps.length : Int) != (qs.length : Int)) = true := by simp; omega
    go_enter Try.func27, Try.ntmps27
    go_wp2_with fail
    go_ret
    exact ⟨by rw [HF.out]; rfl, Below.refl _ _⟩

end Go.Proofs.Ytpggkehfbhffbaa
