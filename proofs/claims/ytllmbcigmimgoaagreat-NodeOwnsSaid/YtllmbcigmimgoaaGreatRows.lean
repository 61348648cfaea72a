/-
  No cell of these rows narrows 'for every input' (looked for: loops, veiled, ifaces, maps, wideKeys, modest, calm, conditions, laid).
  DERIVED. THE GIVEN ROWS OF THIS SEAT. 6 by the template 'for every input the law returns true; each argument reads behind the call as it read before'; 0 by the template 'total and deterministic' (their statements: YtllmbcigmimgoaaGreatTotals.lean).
  GIVEN WITH THE SEED: the statements are not yours to turn. If you find one false, say at which input.
  Laid BY PROGRAM, IN A SANDBOX (cutbox-rows.mjs): the forced cells as the released guide's own fill.sh prints them over the translation bfdf67d19db9cc54… (all of the seat's roots in one cut). By AI agents, Wed Nov 11 2026. No macro, syntax, notation, axiom, sorry.
-/
import Derived.Test.YtllmbcigmimgoaaGreatChecked
import GoSem.Claim
import GoSem.ClaimJoined
import GoSem.ClaimMapViews
import Derived.JoinedTies
import Derived.KernelRfl
namespace Go.Proofs.YtllmbcigmimgoaaGreat
/- THE CELL 'sum', in the pinned program and in every row, IS THE sha256 OF THE DUMP (.gsa) THAT YtllmbcigmimgoaaGreatProg.lean LOADS. Nothing in Lean hashes anything: it is a label: what it is worth is what the hold of that sum in a sandbox is worth. -/
noncomputable def Tryz.pinned : Pinned := { name := "ytllmbcigmimgoaagreat", sum := "bfdf67d19db9cc54fae588b5893d3c2e4c4f29bc83b37cfb91fdfeda47d8550b", checked := Tryz.checked }
namespace Rows
def none {H : Type} : Left H := { results := [], args := [] }

/-- 'cuneiformlaw12.NodeReads': WHATEVER THE INPUT: true; the input reads as it did. -/
def nodeReadsSpec : ChangeSpec := { name := "nodeReads", fn := fun _ => fun
  | [d1, d2, d3, d4] => { results := [.lit (.bool true)], args := [d1, d2, d3, d4] }
  | _ => none }
def nodeReadsRow : OpenClaim := { program := "ytllmbcigmimgoaagreat", sum := "bfdf67d19db9cc54fae588b5893d3c2e4c4f29bc83b37cfb91fdfeda47d8550b", func := "cuneiform/cuneiformlaw12.NodeReads", spec := "nodeReads", unfollowed := true, recurses := true, plainKeys := false, apart := false }
def NodeReadsSaid : Prop := nodeReadsRow.holds Tryz.pinned (OpenSpec.ofChange nodeReadsSpec)

/-- ITS FALSE NEIGHBOUR: 'it returns false'. Refute it at one input. -/
def nodeReadsWrong : ChangeSpec := { name := "nodeReads", fn := fun _ => fun
  | [d1, d2, d3, d4] => { results := [.lit (.bool false)], args := [d1, d2, d3, d4] }
  | _ => none }
def NodeReadsWrongFalsely : Prop := nodeReadsRow.holds Tryz.pinned (OpenSpec.ofChange nodeReadsWrong)

/-- 'cuneiformlaw12.NodeApart': WHATEVER THE INPUT: true; the input reads as it did. -/
def nodeApartSpec : ChangeSpec := { name := "nodeApart", fn := fun _ => fun
  | [d1, d2, d3] => { results := [.lit (.bool true)], args := [d1, d2, d3] }
  | _ => none }
def nodeApartRow : OpenClaim := { program := "ytllmbcigmimgoaagreat", sum := "bfdf67d19db9cc54fae588b5893d3c2e4c4f29bc83b37cfb91fdfeda47d8550b", func := "cuneiform/cuneiformlaw12.NodeApart", spec := "nodeApart", unfollowed := true, recurses := true, plainKeys := false, apart := false }
def NodeApartSaid : Prop := nodeApartRow.holds Tryz.pinned (OpenSpec.ofChange nodeApartSpec)

/-- ITS FALSE NEIGHBOUR: 'it returns false'. Refute it at one input. -/
def nodeApartWrong : ChangeSpec := { name := "nodeApart", fn := fun _ => fun
  | [d1, d2, d3] => { results := [.lit (.bool false)], args := [d1, d2, d3] }
  | _ => none }
def NodeApartWrongFalsely : Prop := nodeApartRow.holds Tryz.pinned (OpenSpec.ofChange nodeApartWrong)

/-- 'cuneiformlaw12.NodeOwns': WHATEVER THE INPUT: true; the input reads as it did. -/
def nodeOwnsSpec : ChangeSpec := { name := "nodeOwns", fn := fun _ => fun
  | [d1, d2, d3] => { results := [.lit (.bool true)], args := [d1, d2, d3] }
  | _ => none }
def nodeOwnsRow : OpenClaim := { program := "ytllmbcigmimgoaagreat", sum := "bfdf67d19db9cc54fae588b5893d3c2e4c4f29bc83b37cfb91fdfeda47d8550b", func := "cuneiform/cuneiformlaw12.NodeOwns", spec := "nodeOwns", unfollowed := true, recurses := true, plainKeys := false, apart := false }
def NodeOwnsSaid : Prop := nodeOwnsRow.holds Tryz.pinned (OpenSpec.ofChange nodeOwnsSpec)

/-- ITS FALSE NEIGHBOUR: 'it returns false'. Refute it at one input. -/
def nodeOwnsWrong : ChangeSpec := { name := "nodeOwns", fn := fun _ => fun
  | [d1, d2, d3] => { results := [.lit (.bool false)], args := [d1, d2, d3] }
  | _ => none }
def NodeOwnsWrongFalsely : Prop := nodeOwnsRow.holds Tryz.pinned (OpenSpec.ofChange nodeOwnsWrong)

/-- 'cuneiformlaw12.NodePlays': WHATEVER THE INPUT: true; the input reads as it did. -/
def nodePlaysSpec : ChangeSpec := { name := "nodePlays", fn := fun _ => fun
  | [d1, d2] => { results := [.lit (.bool true)], args := [d1, d2] }
  | _ => none }
def nodePlaysRow : OpenClaim := { program := "ytllmbcigmimgoaagreat", sum := "bfdf67d19db9cc54fae588b5893d3c2e4c4f29bc83b37cfb91fdfeda47d8550b", func := "cuneiform/cuneiformlaw12.NodePlays", spec := "nodePlays", unfollowed := true, recurses := true, plainKeys := false, apart := false }
def NodePlaysSaid : Prop := nodePlaysRow.holds Tryz.pinned (OpenSpec.ofChange nodePlaysSpec)

/-- ITS FALSE NEIGHBOUR: 'it returns false'. Refute it at one input. -/
def nodePlaysWrong : ChangeSpec := { name := "nodePlays", fn := fun _ => fun
  | [d1, d2] => { results := [.lit (.bool false)], args := [d1, d2] }
  | _ => none }
def NodePlaysWrongFalsely : Prop := nodePlaysRow.holds Tryz.pinned (OpenSpec.ofChange nodePlaysWrong)

/-- 'cuneiformlaw12.NodeFrees': WHATEVER THE INPUT: true; the input reads as it did. -/
def nodeFreesSpec : ChangeSpec := { name := "nodeFrees", fn := fun _ => fun
  | [d1, d2] => { results := [.lit (.bool true)], args := [d1, d2] }
  | _ => none }
def nodeFreesRow : OpenClaim := { program := "ytllmbcigmimgoaagreat", sum := "bfdf67d19db9cc54fae588b5893d3c2e4c4f29bc83b37cfb91fdfeda47d8550b", func := "cuneiform/cuneiformlaw12.NodeFrees", spec := "nodeFrees", unfollowed := true, recurses := true, plainKeys := false, apart := false }
def NodeFreesSaid : Prop := nodeFreesRow.holds Tryz.pinned (OpenSpec.ofChange nodeFreesSpec)

/-- ITS FALSE NEIGHBOUR: 'it returns false'. Refute it at one input. -/
def nodeFreesWrong : ChangeSpec := { name := "nodeFrees", fn := fun _ => fun
  | [d1, d2] => { results := [.lit (.bool false)], args := [d1, d2] }
  | _ => none }
def NodeFreesWrongFalsely : Prop := nodeFreesRow.holds Tryz.pinned (OpenSpec.ofChange nodeFreesWrong)

/-- 'cuneiformlaw12.NodeIdle': WHATEVER THE INPUT: true; the input reads as it did. -/
def nodeIdleSpec : ChangeSpec := { name := "nodeIdle", fn := fun _ => fun
  | [d1, d2, d3] => { results := [.lit (.bool true)], args := [d1, d2, d3] }
  | _ => none }
def nodeIdleRow : OpenClaim := { program := "ytllmbcigmimgoaagreat", sum := "bfdf67d19db9cc54fae588b5893d3c2e4c4f29bc83b37cfb91fdfeda47d8550b", func := "cuneiform/cuneiformlaw12.NodeIdle", spec := "nodeIdle", unfollowed := true, recurses := true, plainKeys := false, apart := false }
def NodeIdleSaid : Prop := nodeIdleRow.holds Tryz.pinned (OpenSpec.ofChange nodeIdleSpec)

/-- ITS FALSE NEIGHBOUR: 'it returns false'. Refute it at one input. -/
def nodeIdleWrong : ChangeSpec := { name := "nodeIdle", fn := fun _ => fun
  | [d1, d2, d3] => { results := [.lit (.bool false)], args := [d1, d2, d3] }
  | _ => none }
def NodeIdleWrongFalsely : Prop := nodeIdleRow.holds Tryz.pinned (OpenSpec.ofChange nodeIdleWrong)

/- THE SECOND FORM. 'bulk': how many values and letters a reading holds, each counted each time it is reached (what is shared counts as often as it is met; a slice's spare places count too). A statement '..UptoSaid' is the law's where the arguments, and the package variables that the reading takes, are together of bulk at most 1048576: NARROWER than '..Said'. Prove '..Said' where nothing that the law and all that it calls make is longer than what came in: it says more and counts as full. Else prove '..UptoSaid'. A law counts once. -/
mutual
def uptoBulk {H : Type} : DataW H → Nat
  | .lit (.string bytes) => bytes.length + 1
  | .lit _ => 1
  | .nil => 1
  | .ptr d => uptoBulk d + 1
  | .slice elems spare => uptoBulkAll elems + uptoBulkAll spare + 1
  | .agg parts => uptoBulkAll parts + 1
  | .iface _ d => uptoBulk d + 1
  | .map entries => uptoBulkEntries entries + 1
  | .held _ => 1
def uptoBulkAll {H : Type} : List (DataW H) → Nat
  | [] => 0
  | d :: r => uptoBulk d + uptoBulkAll r
def uptoBulkEntries {H : Type} : List (Lit × DataW H) → Nat
  | [] => 0
  | x :: r => uptoBulkEntry x + uptoBulkEntries r
def uptoBulkEntry {H : Type} : Lit × DataW H → Nat
  | (.string bytes, d) => bytes.length + uptoBulk d + 1
  | (_, d) => uptoBulk d + 1
 end
def uptoSmall : (H : Type) → List (DataW H) → Bool := fun _ ds => decide (uptoBulkAll ds ≤ 1048576)
def OpenSpec.upto (s : _root_.Go.ChangeSpec) : _root_.Go.OpenSpec := { _root_.Go.OpenSpec.ofChange s with cond := some uptoSmall }

/-- 'cuneiformlaw12.NodeReads', WHERE WHAT IT READS IS OF BULK AT MOST 1048576: true; the input reads as it did. -/
def nodeReadsUptoRow : OpenClaim := { program := "ytllmbcigmimgoaagreat", sum := "bfdf67d19db9cc54fae588b5893d3c2e4c4f29bc83b37cfb91fdfeda47d8550b", func := "cuneiform/cuneiformlaw12.NodeReads", spec := "nodeReads", unfollowed := true, recurses := true, plainKeys := false, apart := false, narrowed := true }
def NodeReadsUptoSaid : Prop := nodeReadsUptoRow.holds Tryz.pinned (OpenSpec.upto nodeReadsSpec)

/-- 'cuneiformlaw12.NodeApart', WHERE WHAT IT READS IS OF BULK AT MOST 1048576: true; the input reads as it did. -/
def nodeApartUptoRow : OpenClaim := { program := "ytllmbcigmimgoaagreat", sum := "bfdf67d19db9cc54fae588b5893d3c2e4c4f29bc83b37cfb91fdfeda47d8550b", func := "cuneiform/cuneiformlaw12.NodeApart", spec := "nodeApart", unfollowed := true, recurses := true, plainKeys := false, apart := false, narrowed := true }
def NodeApartUptoSaid : Prop := nodeApartUptoRow.holds Tryz.pinned (OpenSpec.upto nodeApartSpec)

/-- 'cuneiformlaw12.NodeOwns', WHERE WHAT IT READS IS OF BULK AT MOST 1048576: true; the input reads as it did. -/
def nodeOwnsUptoRow : OpenClaim := { program := "ytllmbcigmimgoaagreat", sum := "bfdf67d19db9cc54fae588b5893d3c2e4c4f29bc83b37cfb91fdfeda47d8550b", func := "cuneiform/cuneiformlaw12.NodeOwns", spec := "nodeOwns", unfollowed := true, recurses := true, plainKeys := false, apart := false, narrowed := true }
def NodeOwnsUptoSaid : Prop := nodeOwnsUptoRow.holds Tryz.pinned (OpenSpec.upto nodeOwnsSpec)

/-- 'cuneiformlaw12.NodePlays', WHERE WHAT IT READS IS OF BULK AT MOST 1048576: true; the input reads as it did. -/
def nodePlaysUptoRow : OpenClaim := { program := "ytllmbcigmimgoaagreat", sum := "bfdf67d19db9cc54fae588b5893d3c2e4c4f29bc83b37cfb91fdfeda47d8550b", func := "cuneiform/cuneiformlaw12.NodePlays", spec := "nodePlays", unfollowed := true, recurses := true, plainKeys := false, apart := false, narrowed := true }
def NodePlaysUptoSaid : Prop := nodePlaysUptoRow.holds Tryz.pinned (OpenSpec.upto nodePlaysSpec)

/-- 'cuneiformlaw12.NodeFrees', WHERE WHAT IT READS IS OF BULK AT MOST 1048576: true; the input reads as it did. -/
def nodeFreesUptoRow : OpenClaim := { program := "ytllmbcigmimgoaagreat", sum := "bfdf67d19db9cc54fae588b5893d3c2e4c4f29bc83b37cfb91fdfeda47d8550b", func := "cuneiform/cuneiformlaw12.NodeFrees", spec := "nodeFrees", unfollowed := true, recurses := true, plainKeys := false, apart := false, narrowed := true }
def NodeFreesUptoSaid : Prop := nodeFreesUptoRow.holds Tryz.pinned (OpenSpec.upto nodeFreesSpec)

/-- 'cuneiformlaw12.NodeIdle', WHERE WHAT IT READS IS OF BULK AT MOST 1048576: true; the input reads as it did. -/
def nodeIdleUptoRow : OpenClaim := { program := "ytllmbcigmimgoaagreat", sum := "bfdf67d19db9cc54fae588b5893d3c2e4c4f29bc83b37cfb91fdfeda47d8550b", func := "cuneiform/cuneiformlaw12.NodeIdle", spec := "nodeIdle", unfollowed := true, recurses := true, plainKeys := false, apart := false, narrowed := true }
def NodeIdleUptoSaid : Prop := nodeIdleUptoRow.holds Tryz.pinned (OpenSpec.upto nodeIdleSpec)

end Rows
end Go.Proofs.YtllmbcigmimgoaaGreat
