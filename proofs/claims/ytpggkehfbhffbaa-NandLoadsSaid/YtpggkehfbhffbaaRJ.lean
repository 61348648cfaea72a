/-
  Operations that came in, and whether they are more than the statements look at. Conditions: a row that is told by OpRow.
-/
import Derived.Test.YtpggkehfbhffbaaRI
namespace Go.Proofs.Ytpggkehfbhffbaa
open Go.RowKit

/-- An operation, and where its bytes and its faults lie. -/
structure OpM where
  kind : Int
  block : Int
  page : Int
  ba : Option Addr
  b : List Nat
  bc : Nat
  fa : Option Addr
  fs : List FltM
  fc : Nat
instance : Inhabited OpM := ⟨⟨0, 0, 0, none, [], 0, none, [], 0⟩⟩
abbrev OpM.cs (o : OpM) : Array Value := #[vi o.kind, vi o.block, vi o.page, .slice o.ba o.b.length o.bc, .slice o.fa o.fs.length o.fc]
/-- An operation's data stay as they are. -/
structure OpM.ok (base : Nat) (w : World) (o : OpM) : Prop where
  bytes : SRow base w o.ba o.b
  lenb : o.b.length ≤ o.bc ∧ o.bc ≤ maxLen
  faults : FRow base w o.fa o.fs
  small : o.b.length ≤ 140737488355328 ∧ o.fs.length ≤ 140737488355328 ∧ ∀ f ∈ o.fs, f.l.length ≤ 140737488355328
structure OpRow (base : Nat) (w : World) (a : Option Addr) (l : List OpM) : Prop where
  at_ : l = [] ∨ ∃ b o, a = some ⟨b, o, none⟩ ∧ b < base ∧ ∀ i, i < l.length → ∀ j u, (l.getD i default).cs[j]? = some u → w.cell? ⟨b, o + i * 5 + j, none⟩ = some u
  data : ∀ o ∈ l, o.ok base w
  len : l.length ≤ 140737488355328
section
variable {base : Nat} {w w' : World} {a : Option Addr} {l : List OpM}
theorem OpM.ok.chg {F : Nat → Prop} {o : OpM} (h : o.ok base w) (q : Chg F w w') (hF : ∀ k, F k → Mine base w k) : o.ok base w' := ⟨h.bytes.chg q hF, h.lenb, h.faults.chg q hF, h.small⟩
theorem OpRow.chg {F : Nat → Prop} (h : OpRow base w a l) (q : Chg F w w') (hF : ∀ k, F k → Mine base w k) : OpRow base w' a l := by
  refine ⟨?_, fun o ho => (h.data o ho).chg q hF, h.len⟩
  rcases h.at_ with h0 | ⟨b, o, rfl, hb, h1⟩
  · exact .inl h0
  · exact .inr ⟨b, o, rfl, hb, fun i hi j u hu => q.cell (h1 i hi j u hu) (fun e => by have := (hF b e).1; omega)⟩
theorem OpRow.old (h : OpRow base w a l) (q : Below w.heap.size w w') : OpRow base w' a l := h.chg (F := fun _ => False) (Chg.of_below q) (fun _ e => e.elim)
theorem OpRow.lookup (h : OpRow base w a l) {i : Nat} (hi : i < l.length) : ∃ b o, a = some ⟨b, o, none⟩ ∧ (∀ j u, (l.getD i default).cs[j]? = some u → w.cell? ⟨b, o + i * 5 + j, none⟩ = some u) ∧ (l.getD i default).ok base w := by
  rcases h.at_ with rfl | ⟨b, o, rfl, _, h1⟩
  · simp at hi
  · exact ⟨b, o, rfl, h1 i hi, h.data _ (getD_mem hi)⟩

/-- How much operations are. -/
def fwt : List FltM → Nat
  | [] => 0
  | f :: l => 1 + f.l.length + fwt l
def owt : List OpM → Nat
  | [] => 0
  | o :: l => 1 + o.b.length + fwt o.fs + owt l
theorem fwt_append : ∀ (l m : List FltM), fwt (l ++ m) = fwt l + fwt m
  | [], m => by simp [fwt]
  | f :: l, m => by simp only [List.cons_append, fwt, fwt_append l m]; omega
theorem owt_append : ∀ (l m : List OpM), owt (l ++ m) = owt l + owt m
  | [], m => by simp [owt]
  | f :: l, m => by simp only [List.cons_append, owt, owt_append l m]; omega
theorem fwt_take {l : List FltM} {i : Nat} (h : i < l.length) : fwt (l.take (i + 1)) = fwt (l.take i) + (1 + (l.getD i default).l.length) := by
  rw [List.take_succ_eq_append_getElem h, fwt_append, List.getD_eq_getElem?_getD, List.getElem?_eq_getElem h]
  simp [fwt]
theorem owt_take {l : List OpM} {i : Nat} (h : i < l.length) : owt (l.take (i + 1)) = owt (l.take i) + (1 + (l.getD i default).b.length + fwt (l.getD i default).fs) := by
  rw [List.take_succ_eq_append_getElem h, owt_append, List.getD_eq_getElem?_getD, List.getElem?_eq_getElem h]
  simp [owt]
/-- What is told of many operations. -/
def LongPost (l : List OpM) (w : World) (e : Ending) (w' : World) : Prop := ∃ x, e = .returned (.bool x) ∧ w' = w ∧ (x = false → owt l ≤ 9000)
set_option maxRecDepth 100000 in
set_option maxHeartbeats 4000000 in
theorem long_any (c : Nat) (h : OpRow base w a l) : Calls Try.prog 11 #[.slice a l.length c] w (LongPost l w) := by
  have HR := Lib.hid h
  have hll := h.len
  clear h
  go_enter Try.func11, Try.ntmps11
  go_wp2_with fail
  go_loopw [3, 4, 5] (fun vn v vk wr => ∃ (n i : Nat), vn = vi n ∧ v = vi i ∧ i ≤ l.length ∧ n ≤ 2305843009213693952 ∧ wr = w ∧ Hid (n ≤ 9000 → n = owt (l.take i))) (fun _ v _ _ => l.length - (intOf v).toNat)
  case atStart => exact ⟨0, 0, rfl, rfl, Nat.zero_le _, Nat.zero_le _, rfl, Lib.hid (fun _ => rfl)⟩
  case round =>
    obtain ⟨n, i, rfl, rfl, hi, hnb, rfl, hn⟩ := hrel
    by_cases hlt : i < l.length
    · by_cases h9 : n ≤ 9000
      · obtain ⟨b, o, rfl, hcell, hok⟩ := HR.out.lookup hlt
        have HW := Lib.hid (owt_take hlt)
        have hn' := hn.out h9
        generalize l.getD i default = x at *
        have e3 : wr.cell? ⟨b, o + i * 5 + 3, none⟩ = some (.slice x.ba x.b.length x.bc) := hcell 3 _ rfl
        have e4 : wr.cell? ⟨b, o + i * 5 + 4, none⟩ = some (.slice x.fa x.fs.length x.fc) := hcell 4 _ rfl
        have hbl := hok.small.1
        have hfl := hok.small.2.1
        have HOK := Lib.hid hok
        have HN := Lib.hid hn'
        clear hcell hok hn' hn
        go_wp2_with fail
        go_loopw [3, 5] (fun vn v w2 => ∃ (m j : Nat), vn = vi m ∧ v = vi j ∧ j ≤ x.fs.length ∧ m ≤ 2305843009213693952 ∧ w2 = wr ∧ Hid (m ≤ 9000 → m = n + 1 + x.b.length + fwt (x.fs.take j))) (fun _ v _ => x.fs.length - (intOf v).toNat)
        case atStart => exact ⟨n + 1 + x.b.length, 0, by go_num, rfl, Nat.zero_le _, by omega, rfl, Lib.hid (fun _ => rfl)⟩
        case round =>
          obtain ⟨m, j, rfl, rfl, hj, hmb, rfl, hm⟩ := hrel
          by_cases hlt2 : j < x.fs.length
          · by_cases h92 : m ≤ 9000
            · obtain ⟨b2, o2, hfa, hcell, -, hlc, hcm⟩ := HOK.out.faults.lookup hlt2
              have HW2 := Lib.hid (fwt_take hlt2)
              have HM2 := Lib.hid (hm.out h92)
              have hfl2 := HOK.out.small.2.2 _ (getD_mem (d := default) hlt2)
              generalize x.fs.getD j default = f at *
              have g2 : wr.cell? ⟨b2, o2 + j * 3 + 2, none⟩ = some (.slice f.a f.l.length f.c) := hcell 2 _ rfl
              rw [hfa] at e4
              clear hcell hlc hcm hfa hm
              go_wp2_with fail
              go_roundw
              case rel => exact ⟨m + 1 + f.l.length, j + 1, by go_num, by go_num, by omega, by omega, by first | rfl | trivial, Lib.hid (fun _ => by rw [HW2.out, HM2.out]; omega)⟩
              case measure => simp [intOf]; omega
            · go_wp2_with fail
              go_roundw
              case rel => exact ⟨m, i + 1, by go_num, by go_num, by omega, by omega, by first | rfl | trivial, Lib.hid (fun h => absurd h h92)⟩
              case measure => simp [intOf]; omega
          · obtain rfl : j = x.fs.length := by omega
            have HM2 : Hid (m ≤ 9000 → m = owt (l.take (i + 1))) := Lib.hid (fun h => by
              have h1 := hm.out h
              rw [List.take_length] at h1
              rw [HW.out, ← HN.out]
              omega)
            clear hm
            go_wp2_with fail
            go_roundw
            case rel => exact ⟨m, i + 1, by go_num, by go_num, by omega, by omega, by first | rfl | trivial, HM2⟩
            case measure => simp [intOf]; omega
      · go_wp2_with fail
        go_ret
        exact ⟨_, rfl, rfl, fun e => by simp at e <;> omega⟩
    · obtain rfl : i = l.length := by omega
      go_wp2_with fail
      go_ret
      refine ⟨_, rfl, rfl, fun e => ?_⟩
      have h9 : n ≤ 9000 := by simp at e; omega
      have := hn.out h9
      rw [List.take_length] at this
      omega
end

end Go.Proofs.Ytpggkehfbhffbaa
