/-
  Lemmas for a law's proof, put together from several texts: each part says what it shows, and its conditions.
-/
import Derived.Test.YtnfhlocflpdlcaaGreatZT05
import Derived.Test.YtnfhlocflpdlcaaGreatZT11
import Derived.Test.YtnfhlocflpdlcaaGreatZT24
/-
  A translation of pages, in plain words: what each operation answers and leaves where no block has to be freed for it. No program in sight; no conditions.
-/
namespace Go.Proofs.YtnfhlocflpdlcaaGreat.FP
open Go.Proofs.YtnfhlocflpdlcaaGreat.mgr

structure Plc where
  block : Int
  page : Int
deriving DecidableEq
instance : Inhabited Plc := ⟨⟨0, 0⟩⟩
structure Ft where
  c : NP.Chp
  g : Mg
  reserve : Int
  bad : Int
  text : List Nat
  sld : Mp Plc
  now : Mp Plc
  gone : Mp Plc
  seq : Nat
  epoch : Nat
  later : List Bool
  over : Bool

def dataB (B : Nat) (reserve bad : Int) : Int := (B : Int) - bad - reserve - 1
def Ft.cap (f : Ft) : Int := dataB f.c.B f.reserve f.bad * f.c.P - 2
def Ft.used (f : Ft) : Int := f.sld.length + f.now.length
def left (g : Mg) : Int := g.reserve - ((countL 4 g.l : Nat) - g.bad)
def Ft.shut (f : Ft) : Bool := f.over || decide (left f.g < 0)
def Ft.ready (f : Ft) : Int := if f.c.down then 4 else 0
def Ft.logical (f : Ft) (page : Nat) : Int := if f.c.down then 4 else if page = 0 ∨ f.cap ≤ page then 1 else 0
def Ft.at_ (f : Ft) (page : Nat) : Option Plc := match MP.get f.now page with
  | some p => some p
  | none => if MP.has f.gone page then none else MP.get f.sld page
def Ft.chip (f : Ft) (c : NP.Chp) : Ft := { f with c := c }
def Ft.read (f : Ft) (page : Nat) : (List Nat × Int) × Ft :=
  let e := f.logical page
  if e ≠ 0 then (([], e), f)
  else match f.at_ page with
    | none => (([], 60), f)
    | some p =>
      let r := NP.readP f.c p.block p.page
      if r.1.2 ≠ 0 then (([], r.1.2), f.chip r.2)
      else
        let t := TP.read r.1.1
        if t.2.2 ≠ 0 then (([], 21), f.chip r.2) else ((t.2.1, 0), f.chip r.2)
/-- So many blocks are free that a page may be programmed. -/
def enough (g : Mg) (P : Nat) : Bool :=
  let want := left g + 1
  let free : Int := (countL 0 g.l : Nat)
  decide ((if roomL g.std P = free * P then want + 1 else want) ≤ free)
/-- Writes a page with the next number; none: blocks would have to be freed, or a block failed. -/
def Ft.put (f : Ft) (kind : Int) (page : Nat) (b : List Nat) : Option (Plc × Ft) :=
  if f.later.all (fun x => !x) && enough f.g f.c.P then
    let r := TP.write ⟨kind, page, f.seq, f.epoch⟩ b
    if r.2 = 0 then
      let q := Mg.program r.1 f.c f.g
      if q.1.2.2 = 0 then some (⟨q.1.1, q.1.2.1⟩, { f with c := q.2.1, g := q.2.2, seq := f.seq + 1 }) else none
    else none
  else none
def Ft.write (f : Ft) (page : Nat) (b : List Nat) : Option (Int × Ft) :=
  let e := f.logical page
  if e ≠ 0 then some (e, f)
  else if b.length ≠ f.c.S then some (1, f)
  else if f.shut then some (41, f)
  else if MP.has f.now page = false ∧ f.cap ≤ f.used then some (40, f)
  else match f.put 1 page b with
    | none => none
    | some (p, f1) =>
      let g := match MP.get f1.now page with
        | some old => (f1.g.drop old.block).2
        | none => f1.g
      some (0, { f1 with g := g, now := MP.put f1.now page p, gone := MP.del f1.gone page })
def Ft.drop (f : Ft) (page : Nat) : Int × Ft :=
  let e := f.logical page
  if e ≠ 0 then (e, f)
  else
    let f1 := match MP.get f.now page with
      | some p => { f with g := (f.g.drop p.block).2, now := MP.del f.now page }
      | none => f
    match MP.get f1.sld page with
    | some p => (0, { f1 with gone := MP.put f1.gone page p })
    | none => (0, f1)
def headP (reserve bad : Int) (text : List Nat) : List Nat :=
  [(reserve % 256).toNat, (reserve / 256 % 256).toNat, (bad % 256).toNat, (bad / 256 % 256).toNat, 0, 0, 0, 0] ++ text
/-- What sealing a page that was written changes. -/
structure Sl where
  g : Mg
  sld : Mp Plc
  gone : Mp Plc
def Sl.take (s : Sl) (x : Int × Plc) : Sl :=
  ⟨(match MP.get s.sld x.1 with | some old => (s.g.drop old.block).2 | none => s.g), MP.put s.sld x.1 x.2, MP.del s.gone x.1⟩
def Sl.strike (s : Sl) (x : Int × Plc) : Sl :=
  ⟨(s.g.drop ((MP.get s.sld x.1).getD default).block).2, MP.del s.sld x.1, s.gone⟩
def Ft.sealed (f : Ft) (text : List Nat) : Option (Int × Ft) :=
  if f.ready ≠ 0 then some (f.ready, f)
  else if (text.length : Int) ≠ f.c.S - 8 then some (1, f)
  else if f.shut then some (41, f)
  else match f.put 2 0 (headP f.reserve f.bad text) with
    | none => none
    | some (p, f1) =>
      let s1 := (MP.put f1.now 0 p).foldl Sl.take ⟨f1.g, f1.sld, f1.gone⟩
      let s2 := s1.gone.foldl Sl.strike s1
      some (0, { f1 with g := s2.g, sld := s2.sld, now := [], gone := [], epoch := f1.epoch + 1, text := text })

/-! Formatting. -/
def badTo (c : NP.Chp) : Nat → Int
  | 0 => 0
  | k + 1 => badTo c k + (if NP.badAt c k then 1 else 0)
def bads (c : NP.Chp) : Int := badTo c c.B
/-- Blocks that are not bad are erased: which are, what the chip is then; the error that stopped it. -/
def wipeTo (c : NP.Chp) : Nat → Int × List Bool × NP.Chp
  | 0 => (0, [], c)
  | k + 1 =>
    let r := wipeTo c k
    if r.1 ≠ 0 then r
    else if NP.badAt r.2.2 k then (0, r.2.1 ++ [false], r.2.2)
    else
      let q := NP.erase r.2.2 k
      if q.1 = 0 then (0, r.2.1 ++ [true], q.2)
      else if q.1 = 11 then (0, r.2.1 ++ [false], (NP.mark q.2 k).2)
      else (q.1, r.2.1, q.2)
/-- None: it does not come about without blocks being freed. -/
def format (c : NP.Chp) (reserve : Int) (text : List Nat) : Option (Int × Option Ft × NP.Chp) :=
  if c.down then some (4, none, c)
  else if reserve < 1 ∨ 32768 < reserve ∨ (text.length : Int) ≠ c.S - 8 then some (1, none, c)
  else if dataB c.B reserve (bads c) < 2 then some (40, none, c)
  else
    let r := wipeTo c c.B
    if r.1 ≠ 0 then some (r.1, none, r.2.2)
    else
      let bad := bads r.2.2
      if dataB c.B reserve bad < 2 then some (40, none, r.2.2)
      else match openG r.2.2 r.2.1 (List.replicate c.B 0) reserve bad with
        | (_, none) => none
        | (_, some g) => match Ft.sealed ⟨r.2.2, g, reserve, bad, [], [], [], [], 1, 1, List.replicate c.B false, false⟩ text with
          | some (e, f) => if e = 0 then some (0, some f, f.c) else some (e, none, f.c)
          | none => none

/-! Opening. -/
structure Sn where
  tag : TP.Tag
  at_ : Plc
instance : Inhabited Sn := ⟨⟨default, default⟩⟩
structure Scan where
  l : List Sn
  fresh : List Bool
  good : Bool
  c : NP.Chp
def mostSeen : Nat := 2305843009213693952
/-- A page looked at: whether its block is still as erased. -/
def scanPage (k i : Nat) (s : Scan × Bool) : Scan × Bool :=
  let r := NP.readP s.1.c k i
  let t := TP.read r.1.1
  if t.2.2 = 20 then ({ s.1 with c := r.2 }, s.2)
  else if t.2.2 ≠ 0 ∨ (decide (t.1.kind = 2) != decide (t.1.page = 0)) = true then ({ s.1 with c := r.2 }, false)
  else ({ s.1 with c := r.2, good := s.1.good && (decide (t.1.seq ≤ mostSeen) && decide (t.1.epoch ≤ mostSeen)), l := s.1.l ++ [⟨t.1, ⟨k, i⟩⟩] }, false)
def scanPages (k : Nat) : Nat → Scan × Bool → Scan × Bool
  | 0, s => s
  | i + 1, s => scanPage k i (scanPages k i s)
def scanBlock (s : Scan) (k : Nat) : Scan :=
  if NP.badAt s.c k then { s with fresh := s.fresh ++ [false] }
  else
    let r := scanPages k s.c.P (s, true)
    { r.1 with fresh := r.1.fresh ++ [r.2] }
def scanTo (c : NP.Chp) : Nat → Scan
  | 0 => ⟨[], [], true, c⟩
  | k + 1 => scanBlock (scanTo c k) k
def scan (c : NP.Chp) : Scan := scanTo c c.B
def lastTo (e : Nat) (s : Sn) : Nat := if s.tag.kind = 2 then max e s.tag.epoch else e
def lastEpoch (l : List Sn) : Nat := l.foldl lastTo 0
def counts (last : Nat) (s : Sn) : Bool := decide (s.tag.epoch ≤ last) && (decide (0 < s.tag.page) || decide (s.tag.epoch = last))
def mostIn (last : Nat) (m : Mp Nat) (s : Sn) : Mp Nat := if counts last s then MP.put m s.tag.page (max ((MP.get m s.tag.page).getD 0) s.tag.seq) else m
def newest (l : List Sn) (last : Nat) : List Sn :=
  let most := l.foldl (mostIn last) []
  l.filter fun s => counts last s && decide (s.tag.seq = (MP.get most s.tag.page).getD 0)
def manyIn (m : Mp Int) (s : Sn) : Mp Int := MP.put m s.at_.block ((MP.get m s.at_.block).getD 0 + 1)
def many (m : Mp Int) (k : Int) : Int := (MP.get m k).getD 0
def chooseIn (m : Mp Int) (out : Mp Plc) (s : Sn) : Mp Plc := match MP.get out s.tag.page with
  | none => MP.put out s.tag.page s.at_
  | some p => if many m p.block < many m s.at_.block then MP.put out s.tag.page s.at_ else out
def chosen (l : List Sn) : Mp Plc := l.foldl (chooseIn (l.foldl manyIn [])) []
def laterIn (last : Nat) (m : List Bool) (s : Sn) : List Bool := if last < s.tag.epoch then m.set s.at_.block.toNat true else m
def liveIn (l : List Int) (x : Int × Plc) : List Int := l.set x.2.block.toNat (l.getD x.2.block.toNat 0 + 1)
def idleTo (bs : List gcs.Blk) (live : List Int) : Nat → Int
  | 0 => 0
  | k + 1 => idleTo bs live k + (if (bs.getD k default).s ≠ 4 ∧ live.getD k 0 = 0 then 1 else 0)
/-- None: the manager would refuse. -/
def openF (c : NP.Chp) : Option (Int × Option Ft × NP.Chp) :=
  if c.down then some (4, none, c)
  else
    let s := scan c
    let last := lastEpoch s.l
    if s.good = false ∨ last = 0 then some (80, none, s.c)
    else
      let all := chosen (newest s.l last)
      let seq := s.l.foldl (fun n x => max n x.tag.seq) 0 + 1
      let epoch := s.l.foldl (fun n x => max n x.tag.epoch) 0 + 1
      let later := s.l.foldl (laterIn last) (List.replicate c.B false)
      let p := (MP.get all 0).getD default
      let r := NP.readP s.c p.block p.page
      let t := TP.read r.1.1
      if t.2.2 ≠ 0 then some (80, none, r.2)
      else
        let x := t.2.1
        let reserve : Int := x.getD 0 0 + 256 * x.getD 1 0
        let bad : Int := x.getD 2 0 + 256 * x.getD 3 0
        if (x.getD 4 0 = 0 ∧ x.getD 5 0 = 0 ∧ x.getD 6 0 = 0 ∧ x.getD 7 0 = 0) ∧ 0 < reserve ∧ bad ≤ bads r.2 ∧ 2 ≤ dataB c.B reserve bad then
          let sld := all.filter fun y => decide (y.1 < dataB c.B reserve bad * c.P - 2)
          let live := sld.foldl liveIn (List.replicate c.B 0)
          match openG r.2 s.fresh live reserve bad with
          | (_, none) => none
          | (_, some g) => some (0, some ⟨r.2, g, reserve, bad, x.drop 8, sld, [], [], seq, epoch, later, decide (idleTo g.l live g.l.length = 0)⟩, r.2)
        else some (80, none, r.2)
end Go.Proofs.YtnfhlocflpdlcaaGreat.FP

/-
  A translation in memory: what it holds, which blocks of memory are its own, single steps on it. Conditions: a translation told by FtAt.
-/
namespace Go.Proofs.YtnfhlocflpdlcaaGreat
open Go.RowKit

/-- A block that holds no data that must stay. -/
def Loose (base : Nat) (w : World) (n : Nat) : Prop := base ≤ n ∧ ∀ t cur, Blk w n t cur → dataT t = false
section
variable {F : Nat → Prop} {base : Nat} {w w' : World} {k m : Nat} {M : ChM}
theorem blk_type {g : Nat} {t t' : TypeId} {cs cs' : Array Value} (h : Blk w g t cs) (h' : Blk w g t' cs') : t' = t := by
  unfold Blk at h h'
  rw [h] at h'
  injection h' with h'
  injection h' with _ h'
  exact h'.symm
theorem Mine.loose {n : Nat} (h : Mine base w n) : Loose base w n := by
  obtain ⟨h1, t, cur, ht, hb⟩ := h
  exact ⟨h1, fun t' cur' hb' => by rw [blk_type hb hb']; exact ht⟩
theorem Loose.blk {n : Nat} {t : TypeId} {cs : Array Value} (hb : base ≤ n) (h : Blk w n t cs) (ht : dataT t = false := by decide) : Loose base w n := ⟨hb, fun t' cur' hb' => by rw [blk_type h hb']; exact ht⟩
theorem Loose.map {n : Nat} {α : Type} {K : IntKind} {enc : α → Value} {m : Mp α} (hb : base ≤ n) (h : MpAt w n K enc m) : Loose base w n := ⟨hb, fun _ _ hb' => (h.ne_blk hb' rfl).elim⟩
theorem Safe.no' {t : TypeId} {b : Nat} (h : Safe t base w b) (m : Loose base w b) (ht : dataT t = true := by decide) : False := by
  rcases h with h | ⟨cur', hb'⟩
  · have := m.1; omega
  · rw [m.2 _ _ hb'] at ht; cases ht
theorem Safe.chg' {t : TypeId} {b : Nat} (h : Safe t base w b) (q : Chg F w w') (hF : ∀ k, F k → Loose base w k) (ht : dataT t = true := by decide) : Safe t base w' b := by
  rcases h with h | ⟨cur, hb⟩
  · exact .inl h
  · exact .inr ⟨cur, hb.chg q (fun e => Safe.no' (t := t) (.inr ⟨cur, hb⟩) (hF b e) ht)⟩
theorem SRow.chg' {a : Option Addr} {l : List Nat} (h : SRow base w a l) (q : Chg F w w') (hF : ∀ k, F k → Loose base w k) : SRow base w' a l := by
  rcases h.safe with rfl | ⟨b, o, rfl, hs⟩
  · exact ⟨BRow.nil _ _, .inl rfl⟩
  · refine ⟨⟨h.row.small, ?_⟩, .inr ⟨b, o, rfl, hs.chg' q hF⟩⟩
    rcases h.row.at_ with h0 | ⟨b', o', he, h1⟩
    · exact .inl h0
    · injection he with he
      injection he with hb ho
      subst hb ho
      exact .inr ⟨b, o, rfl, fun i hi => q.cell (h1 i hi) (fun e => hs.no' (hF b e))⟩
theorem PgM.ok.chg' {p : PgM} (h : p.ok base w) (q : Chg F w w') (hF : ∀ k, F k → Loose base w k) : p.ok base w' := ⟨h.row.chg' q hF, h.len, h.cap, h.nil⟩
theorem FRow.chg' {a : Option Addr} {fs : List FltM} (h : FRow base w a fs) (q : Chg F w w') (hF : ∀ k, F k → Loose base w k) : FRow base w' a fs := by
  refine ⟨?_, fun f hf => ⟨(h.data f hf).1.chg' q hF, (h.data f hf).2⟩, h.len⟩
  rcases h.at_ with h0 | ⟨b, o, rfl, hs, h1⟩
  · exact .inl h0
  · exact .inr ⟨b, o, rfl, hs.chg' q hF, fun i hi j u hu => q.cell (h1 i hi j u hu) (fun e => hs.no' (hF b e))⟩
theorem ChipAt.chg' (h : ChipAt base w k M) (q : Chg F w w') (hF : ∀ n, F n → Loose base w n) (hn : ∀ n, M.foot k n → ¬ F n) : ChipAt base w' k M :=
  ⟨h.chip.chg q (hn _ (.inl rfl)), h.blocks.chg q (hn _ (.inr (.inl rfl))), fun x hx => (h.pages x hx).chg q (hn _ (.inr (.inr (List.mem_map_of_mem hx)))), h.nodup,
    fun x hx p hp => (h.rows x hx p hp).chg' q hF, h.faults.chg' q hF, h.low⟩
end
section
open mgr
variable {F : Nat → Prop} {base : Nat} {w w' : World} {k m : Nat} {M : ChM} {G : MgM}
theorem mgr.Held.chg' (h : Held base w m G M) (q : Chg F w w') (hF : ∀ n, F n → Loose base w n) (hn : ∀ n, foot1 m G M n → ¬ F n) : Held base w' m G M :=
  ⟨h.mgr.chg q (fun n e => hn n (.inl e)), h.chip.chg' q hF (fun n e => hn n (.inr e))⟩
/-- A manager's blocks, and a chip's, are rows of these types. -/
theorem mgr.Held.type (h : Held base w m G M) {n : Nat} (hn : foot1 m G M n) : ∃ t cs, Blk w n t cs ∧ (t = 234 ∨ t = 236 ∨ t = 180 ∨ t = 176 ∨ t = 56) := by
  rcases hn with (rfl | rfl) | (rfl | rfl | hn)
  · exact ⟨_, _, h.mgr.mgr, .inl rfl⟩
  · obtain ⟨cur, hb, _⟩ := h.mgr.row.blk
    exact ⟨_, _, hb, .inr (.inl rfl)⟩
  · exact ⟨_, _, h.chip.chip, .inr (.inr (.inl rfl))⟩
  · obtain ⟨cur, hb, _⟩ := h.chip.blocks.blk
    exact ⟨_, _, hb, .inr (.inr (.inr (.inl rfl)))⟩
  · obtain ⟨x, hx, rfl⟩ := List.mem_map.1 hn
    obtain ⟨cur, hb, _⟩ := (h.chip.pages x hx).blk
    exact ⟨_, _, hb, .inr (.inr (.inr (.inr rfl)))⟩
end

namespace ft
open mgr
abbrev encP (p : FP.Plc) : Value := .agg #[vi p.block, vi p.page]
/-- A translation's layout. -/
structure FtM where
  m : Nat
  G : MgM
  M : ChM
  reserve : Int
  bad : Int
  ta : Option Addr
  tx : List Nat
  tc : Nat
  bs : Nat
  bn : Nat
  bg : Nat
  S : Mp FP.Plc
  N : Mp FP.Plc
  D : Mp FP.Plc
  seq : Nat
  epoch : Nat
  lg : Nat
  lc : Nat
  later : List Bool
  over : Bool
abbrev FtM.cs (X : FtM) : Array Value := #[ptr X.G.k, ptr X.m, vi X.reserve, vi X.bad, .slice X.ta X.tx.length X.tc, .map (some X.bs), .map (some X.bn), .map (some X.bg), vq X.seq, vq X.epoch, .slice (some ⟨X.lg, 0, none⟩) X.later.length X.lc, .bool X.over]
abbrev FtM.view (X : FtM) : FP.Ft := ⟨X.M.view, X.G.view, X.reserve, X.bad, X.tx, X.S, X.N, X.D, X.seq, X.epoch, X.later, X.over⟩
def FtM.foot (X : FtM) (f n : Nat) : Prop := n = f ∨ n = X.bs ∨ n = X.bn ∨ n = X.bg ∨ n = X.lg ∨ foot1 X.m X.G X.M n
structure FtAt (base : Nat) (w : World) (f : Nat) (X : FtM) : Prop where
  obj : Blk w f 189 X.cs
  held : Held base w X.m X.G X.M
  text : SRow base w X.ta X.tx
  tlen : X.tx.length ≤ X.tc ∧ X.tc ≤ maxLen
  sld : MpAt w X.bs .u32 encP X.S
  now : MpAt w X.bn .u32 encP X.N
  gone : MpAt w X.bg .u32 encP X.D
  later : Arr w 4 1 X.lg X.later.length X.lc (X.later.map .bool)
  low : base ≤ f ∧ base ≤ X.bs ∧ base ≤ X.bn ∧ base ≤ X.bg ∧ base ≤ X.lg
  ne : X.bs ≠ X.bn ∧ X.bs ≠ X.bg ∧ X.bn ≠ X.bg
structure FGoes (base : Nat) (w : World) (f : Nat) (X : FtM) (w' : World) (X' : FtM) : Prop where
  at_ : FtAt base w' f X'
  chg : Chg (X.foot f) w w'
  foot : ∀ n, X'.foot f n → X.foot f n ∨ w.heap.size ≤ n
  key : X'.G.k = X.G.k ∧ X'.m = X.m
section
variable {F : Nat → Prop} {base : Nat} {w w' w'' : World} {f : Nat} {X X' X'' : FtM}
theorem FtAt.loose (h : FtAt base w f X) : ∀ n, X.foot f n → Loose base w n := by
  intro n hn
  rcases hn with rfl | rfl | rfl | rfl | rfl | hn
  · exact Loose.blk h.low.1 h.obj
  · exact Loose.map h.low.2.1 h.sld
  · exact Loose.map h.low.2.2.1 h.now
  · exact Loose.map h.low.2.2.2.1 h.gone
  · obtain ⟨cur, hb, _⟩ := h.later.blk
    exact Loose.blk h.low.2.2.2.2 hb
  · exact (h.held.mine n hn).loose
theorem FtAt.lt (h : FtAt base w f X) : ∀ n, X.foot f n → n < w.heap.size := by
  intro n hn
  rcases hn with rfl | rfl | rfl | rfl | rfl | hn
  · exact h.obj.lt
  · exact h.sld.lt
  · exact h.now.lt
  · exact h.gone.lt
  · exact h.later.lt
  · exact h.held.lt n hn
theorem FtAt.low' (h : FtAt base w f X) : ∀ n, X.foot f n → base ≤ n := fun n e => (h.loose n e).1
/-- The object, the row of blocks, the maps, the manager and its chip lie apart. -/
theorem FtAt.obj_ne (h : FtAt base w f X) : f ≠ X.bs ∧ f ≠ X.bn ∧ f ≠ X.bg ∧ f ≠ X.lg ∧ ¬ foot1 X.m X.G X.M f := by
  refine ⟨fun e => h.sld.ne_blk h.obj e.symm, fun e => h.now.ne_blk h.obj e.symm, fun e => h.gone.ne_blk h.obj e.symm, fun e => h.later.ne_blk h.obj (by decide) e.symm, fun e => ?_⟩
  obtain ⟨t, cs, hb, ht⟩ := h.held.type e
  have := blk_type hb h.obj
  rcases ht with ht | ht | ht | ht | ht <;> rw [ht] at this <;> exact absurd this (by decide)
theorem FtAt.map_ne {b : Nat} {K : IntKind} {α : Type} {enc : α → Value} {m : Mp α} (h : FtAt base w f X) (hm : MpAt w b K enc m) : b ≠ f ∧ b ≠ X.lg ∧ ¬ foot1 X.m X.G X.M b := by
  refine ⟨hm.ne_blk h.obj, ?_, fun e => ?_⟩
  · obtain ⟨cur, hb, _⟩ := h.later.blk
    exact hm.ne_blk hb
  · obtain ⟨t, cs, hb, ht⟩ := h.held.type e
    exact hm.ne_blk hb rfl
theorem FtAt.later_ne (h : FtAt base w f X) : ¬ foot1 X.m X.G X.M X.lg := by
  intro e
  obtain ⟨t, cs, hb, ht⟩ := h.held.type e
  obtain ⟨cur, hb', _⟩ := h.later.blk
  have := blk_type hb hb'
  rcases ht with ht | ht | ht | ht | ht <;> rw [ht] at this <;> exact absurd this (by decide)
theorem FtAt.chg (h : FtAt base w f X) (q : Chg F w w') (hF : ∀ n, F n → Loose base w n) (hn : ∀ n, X.foot f n → ¬ F n) : FtAt base w' f X :=
  ⟨h.obj.chg q (hn _ (.inl rfl)), h.held.chg' q hF (fun n e => hn n (.inr (.inr (.inr (.inr (.inr e)))))), h.text.chg' q hF, h.tlen, h.sld.chg q (hn _ (.inr (.inl rfl))), h.now.chg q (hn _ (.inr (.inr (.inl rfl)))),
    h.gone.chg q (hn _ (.inr (.inr (.inr (.inl rfl))))), h.later.chg q (hn _ (.inr (.inr (.inr (.inr (.inl rfl)))))), h.low, h.ne⟩
theorem FtAt.old (h : FtAt base w f X) (q : Below w.heap.size w w') : FtAt base w' f X := h.chg (F := fun _ => False) (Chg.of_below q) (fun _ e => e.elim) (fun _ _ e => e)
theorem FGoes.refl (h : FtAt base w f X) : FGoes base w f X w X := ⟨h, Chg.refl _ _, fun _ e => .inl e, rfl, rfl⟩
theorem FGoes.trans (h : FGoes base w f X w' X') (q : FGoes base w' f X' w'' X'') : FGoes base w f X w'' X'' := by
  refine ⟨q.at_, h.chg.trans q.chg fun n hn e => ?_, fun n hn => ?_, q.key.1.trans h.key.1, q.key.2.trans h.key.2⟩
  · rcases h.foot n e with h1 | h1
    · exact h1
    · omega
  · rcases q.foot n hn with h1 | h1
    · exact h.foot n h1
    · exact .inr (Nat.le_trans h.chg.size h1)
theorem FGoes.old (h : FGoes base w f X w' X') (q : Below w'.heap.size w' w'') : FGoes base w f X w'' X' := ⟨h.at_.old q, h.chg.below q, h.foot, h.key⟩
theorem FGoes.of_old (h : FtAt base w f X) (q : Below w.heap.size w w') : FGoes base w f X w' X := (FGoes.refl h).old q
theorem FGoes.size (h : FGoes base w f X w' X') : w.heap.size ≤ w'.heap.size := h.chg.size
theorem FGoes.below (h : FGoes base w f X w' X') (hl : ∀ n, X.foot f n → base ≤ n) (hb : base ≤ w.heap.size) : Below base w w' := h.chg.to_below (fun n _ e => hl n e) hb
/-- The manager and its chip go. -/
theorem FtAt.goes (h : FtAt base w f X) {g' : Mg} {M' : ChM} (q : HGoes base w X.m X.G X.M w' g' M') : FGoes base w f X w' { X with G := X.G.lay g', M := M' } := by
  have hm : ∀ n, foot1 X.m X.G X.M n → Loose base w n := fun n e => (h.held.mine n e).loose
  have hf : ∀ n, foot1 X.m (X.G.lay g') M' n → foot1 X.m X.G X.M n ∨ w.heap.size ≤ n := by
    intro n e
    rcases e with e | e
    · exact .inl (.inl e)
    · rcases q.foot n e with e | e
      · exact .inl (.inr e)
      · exact .inr e
  refine ⟨⟨h.obj.chg q.chg h.obj_ne.2.2.2.2, q.at_, h.text.chg' q.chg hm, h.tlen, h.sld.chg q.chg (h.map_ne h.sld).2.2, h.now.chg q.chg (h.map_ne h.now).2.2, h.gone.chg q.chg (h.map_ne h.gone).2.2, h.later.chg q.chg h.later_ne, h.low, h.ne⟩,
    q.chg.mono (fun n _ e => .inr (.inr (.inr (.inr (.inr e))))), ?_, rfl, rfl⟩
  intro n e
  rcases e with e | e | e | e | e | e
  · exact .inl (.inl e)
  · exact .inl (.inr (.inl e))
  · exact .inl (.inr (.inr (.inl e)))
  · exact .inl (.inr (.inr (.inr (.inl e))))
  · exact .inl (.inr (.inr (.inr (.inr (.inl e)))))
  · rcases hf n e with e | e
    · exact .inl (.inr (.inr (.inr (.inr (.inr e)))))
    · exact .inr e
/-- The chip goes. -/
theorem FtAt.chipGoes (h : FtAt base w f X) {M' : ChM} (q : Goes base w X.G.k X.M w' M') : FGoes base w f X w' { X with M := M' } := h.goes (h.held.chipGoes q)
/-- A map's block is written. -/
theorem FtAt.sealPut (h : FtAt base w f X) {S' : Mp FP.Plc} (g : w.grownBy w' (some X.bs)) (hm : MpAt w' X.bs .u32 encP S') : FGoes base w f X w' { X with S := S' } := by
  have q : Chg (fun n => n = X.bs) w w' := (Chg.refl _ w).grown g (fun k e => by injection e with e; exact .inl e.symm)
  have hl : ∀ n, n = X.bs → Loose base w n := fun n e => h.loose n (.inr (.inl e))
  exact ⟨⟨h.obj.chg q (h.map_ne h.sld).1.symm, h.held.chg' q hl (fun n e e2 => (h.map_ne h.sld).2.2 (e2 ▸ e)), h.text.chg' q hl, h.tlen, hm, h.now.chg q h.ne.1.symm, h.gone.chg q h.ne.2.1.symm, h.later.chg q (h.map_ne h.sld).2.1.symm, h.low, h.ne⟩,
    q.mono (fun n _ e => .inr (.inl e)), fun n e => .inl e, rfl, rfl⟩
theorem FtAt.nowPut (h : FtAt base w f X) {N' : Mp FP.Plc} (g : w.grownBy w' (some X.bn)) (hm : MpAt w' X.bn .u32 encP N') : FGoes base w f X w' { X with N := N' } := by
  have q : Chg (fun n => n = X.bn) w w' := (Chg.refl _ w).grown g (fun k e => by injection e with e; exact .inl e.symm)
  have hl : ∀ n, n = X.bn → Loose base w n := fun n e => h.loose n (.inr (.inr (.inl e)))
  exact ⟨⟨h.obj.chg q (h.map_ne h.now).1.symm, h.held.chg' q hl (fun n e e2 => (h.map_ne h.now).2.2 (e2 ▸ e)), h.text.chg' q hl, h.tlen, h.sld.chg q h.ne.1, hm, h.gone.chg q h.ne.2.2.symm, h.later.chg q (h.map_ne h.now).2.1.symm, h.low, h.ne⟩,
    q.mono (fun n _ e => .inr (.inr (.inl e))), fun n e => .inl e, rfl, rfl⟩
theorem FtAt.gonePut (h : FtAt base w f X) {D' : Mp FP.Plc} (g : w.grownBy w' (some X.bg)) (hm : MpAt w' X.bg .u32 encP D') : FGoes base w f X w' { X with D := D' } := by
  have q : Chg (fun n => n = X.bg) w w' := (Chg.refl _ w).grown g (fun k e => by injection e with e; exact .inl e.symm)
  have hl : ∀ n, n = X.bg → Loose base w n := fun n e => h.loose n (.inr (.inr (.inr (.inl e))))
  exact ⟨⟨h.obj.chg q (h.map_ne h.gone).1.symm, h.held.chg' q hl (fun n e e2 => (h.map_ne h.gone).2.2 (e2 ▸ e)), h.text.chg' q hl, h.tlen, h.sld.chg q h.ne.2.1, h.now.chg q h.ne.2.2, hm, h.later.chg q (h.map_ne h.gone).2.1.symm, h.low, h.ne⟩,
    q.mono (fun n _ e => .inr (.inr (.inr (.inl e)))), fun n e => .inl e, rfl, rfl⟩
/-- Fields are laid that lead nowhere, and memory is made. -/
theorem FtAt.fields (h : FtAt base w f X) (q : Chg (fun n => n = f) w w') (hb : Blk w' f 189 X'.cs) (h1 : X'.m = X.m ∧ X'.G = X.G ∧ X'.M = X.M) (h2 : SRow base w' X'.ta X'.tx ∧ X'.tx.length ≤ X'.tc ∧ X'.tc ≤ maxLen)
    (h3 : X'.bs = X.bs ∧ X'.S = X.S) (h4 : MpAt w' X'.bn .u32 encP X'.N ∧ (X'.bn = X.bn ∨ w.heap.size ≤ X'.bn)) (h5 : MpAt w' X'.bg .u32 encP X'.D ∧ (X'.bg = X.bg ∨ w.heap.size ≤ X'.bg)) (h6 : X'.lg = X.lg ∧ X'.lc = X.lc ∧ X'.later = X.later) (h7 : X'.bn ≠ X'.bg)
    (hbase : base ≤ w.heap.size) : FGoes base w f X w' X' := by
  have hl : ∀ n, n = f → Loose base w n := fun n e => h.loose n (.inl e)
  have hlt := h.sld.lt
  refine ⟨⟨hb, ?_, h2.1, h2.2, ?_, h4.1, h5.1, ?_, ?_, ?_⟩, q.mono (fun n _ e => .inl e), ?_, by rw [h1.2.1], h1.1⟩
  · rw [h1.1, h1.2.1, h1.2.2]; exact h.held.chg' q hl (fun n e e2 => h.obj_ne.2.2.2.2 (e2 ▸ e))
  · rw [h3.1, h3.2]; exact h.sld.chg q h.obj_ne.1.symm
  · rw [h6.1, h6.2.1, h6.2.2]; exact h.later.chg q h.obj_ne.2.2.2.1.symm
  · rw [h3.1, h6.1]
    refine ⟨h.low.1, h.low.2.1, ?_, ?_, h.low.2.2.2.2⟩
    · rcases h4.2 with e | e
      · rw [e]; exact h.low.2.2.1
      · omega
    · rcases h5.2 with e | e
      · rw [e]; exact h.low.2.2.2.1
      · omega
  · rw [h3.1]
    refine ⟨?_, ?_, h7⟩
    · rcases h4.2 with e | e
      · rw [e]; exact h.ne.1
      · omega
    · rcases h5.2 with e | e
      · rw [e]; exact h.ne.2.1
      · omega
  · intro n e
    unfold FtM.foot at e
    rw [h1.1, h1.2.1, h1.2.2, h3.1, h6.1] at e
    rcases e with e | e | e | e | e | e
    · exact .inl (.inl e)
    · exact .inl (.inr (.inl e))
    · rcases h4.2 with e2 | e2
      · exact .inl (.inr (.inr (.inl (e.trans e2))))
      · exact .inr (by omega)
    · rcases h5.2 with e2 | e2
      · exact .inl (.inr (.inr (.inr (.inl (e.trans e2)))))
      · exact .inr (by omega)
    · exact .inl (.inr (.inr (.inr (.inr (.inl e)))))
    · exact .inl (.inr (.inr (.inr (.inr (.inr e)))))
theorem FtAt.field (h : FtAt base w f X) (j : Nat) (v : Value) (hc : X'.cs = X.cs.setIfInBounds j v) (h1 : X'.m = X.m ∧ X'.G = X.G ∧ X'.M = X.M) (h2 : SRow base w X'.ta X'.tx ∧ X'.tx.length ≤ X'.tc ∧ X'.tc ≤ maxLen)
    (h3 : X'.bs = X.bs ∧ X'.S = X.S) (h4 : X'.bn = X.bn ∧ X'.N = X.N) (h5 : X'.bg = X.bg ∧ X'.D = X.D) (h6 : X'.lg = X.lg ∧ X'.lc = X.lc ∧ X'.later = X.later) (hbase : base ≤ w.heap.size) : FGoes base w f X (w.setCell ⟨f, j, none⟩ v) X' := by
  have q : Chg (fun n => n = f) w (w.setCell ⟨f, j, none⟩ v) := Chg.set (F := fun n => n = f) w (p := ⟨f, j, none⟩) rfl v
  have hl : ∀ n, n = f → Loose base w n := fun n e => h.loose n (.inl e)
  refine h.fields q (by rw [hc]; exact h.obj.set_ j v) h1 ⟨h2.1.chg' q hl, h2.2⟩ h3 ?_ ?_ h6 ?_ hbase
  · rw [h4.1, h4.2]; exact ⟨h.now.chg q h.obj_ne.2.1.symm, .inl rfl⟩
  · rw [h5.1, h5.2]; exact ⟨h.gone.chg q h.obj_ne.2.2.1.symm, .inl rfl⟩
  · rw [h4.1, h5.1]; exact h.ne.2.2
theorem FtAt.cells (h : FtAt base w f X) : w.cell? ⟨f, 0, none⟩ = some (ptr X.G.k) ∧ w.cell? ⟨f, 1, none⟩ = some (ptr X.m) ∧ w.cell? ⟨f, 2, none⟩ = some (vi X.reserve) ∧ w.cell? ⟨f, 3, none⟩ = some (vi X.bad) ∧ w.cell? ⟨f, 4, none⟩ = some (.slice X.ta X.tx.length X.tc) ∧
    w.cell? ⟨f, 5, none⟩ = some (.map (some X.bs)) ∧ w.cell? ⟨f, 6, none⟩ = some (.map (some X.bn)) ∧ w.cell? ⟨f, 7, none⟩ = some (.map (some X.bg)) ∧ w.cell? ⟨f, 8, none⟩ = some (vq X.seq) ∧ w.cell? ⟨f, 9, none⟩ = some (vq X.epoch) ∧
    w.cell? ⟨f, 10, none⟩ = some (.slice (some ⟨X.lg, 0, none⟩) X.later.length X.lc) ∧ w.cell? ⟨f, 11, none⟩ = some (.bool X.over) :=
  ⟨h.obj.cell 0, h.obj.cell 1, h.obj.cell 2, h.obj.cell 3, h.obj.cell 4, h.obj.cell 5, h.obj.cell 6, h.obj.cell 7, h.obj.cell 8, h.obj.cell 9, h.obj.cell 10, h.obj.cell 11⟩
/-- Only its chip is gone to. -/
structure FRd (base : Nat) (w : World) (f : Nat) (X : FtM) (w' : World) (X' : FtM) : Prop where
  goes : FGoes base w f X w' X'
  chip : Goes base w X.G.k X.M w' X'.M
theorem FRd.trans (h : FRd base w f X w' X') (q : FRd base w' f X' w'' X'') : FRd base w f X w'' X'' := ⟨h.goes.trans q.goes, h.chip.trans (by have := q.chip; rw [h.goes.key.1] at this; exact this)⟩
theorem FRd.old (h : FRd base w f X w' X') (q : Below w'.heap.size w' w'') : FRd base w f X w'' X' := ⟨h.goes.old q, h.chip.old q⟩
theorem FRd.of_old (h : FtAt base w f X) (q : Below w.heap.size w w') : FRd base w f X w' X := ⟨FGoes.of_old h q, Goes.of_old h.held.chip q⟩
theorem FtAt.chipRd (h : FtAt base w f X) {M' : ChM} (q : Goes base w X.G.k X.M w' M') : FRd base w f X w' { X with M := M' } := ⟨h.chipGoes q, q⟩
end
end ft
end Go.Proofs.YtnfhlocflpdlcaaGreat

