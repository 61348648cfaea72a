/-
  No cell of these rows narrows 'for every input' (looked for: loops, veiled, ifaces, maps, wideKeys, modest, calm, conditions, laid).
  DERIVED. THE GIVEN ROWS OF THIS SEAT. 6 by the template 'for every input the law returns true; each argument reads behind the call as it read before'; 0 by the template 'total and deterministic' (their statements: YtjkaioonppmkjaaGreatTotals.lean).
  GIVEN WITH THE SEED: the statements are not yours to turn. If you find one false, say at which input.
  Laid BY PROGRAM, IN A SANDBOX (cutbox-rows.mjs): the forced cells as the released guide's own fill.sh prints them over the translation 82f7ca10fd6d0f78… (all of the seat's roots in one cut). By AI agents, Wed Nov 11 2026. No macro, syntax, notation, axiom, sorry.
-/
import Derived.Test.YtjkaioonppmkjaaGreatChecked
import GoSem.Claim
import GoSem.ClaimJoined
import GoSem.ClaimMapViews
import Derived.JoinedTies
import Derived.KernelRfl
namespace Go.Proofs.YtjkaioonppmkjaaGreat
/- THE CELL 'sum', in the pinned program and in every row, IS THE sha256 OF THE DUMP (.gsa) THAT YtjkaioonppmkjaaGreatProg.lean LOADS. Nothing in Lean hashes anything: it is a label: what it is worth is what the hold of that sum in a sandbox is worth. -/
noncomputable def Tryz.pinned : Pinned := { name := "ytjkaioonppmkjaagreat", sum := "82f7ca10fd6d0f78db56fb90a0d6b22e1234e0149fe345436bd9f008d146cdee", checked := Tryz.checked }
namespace Rows
def none {H : Type} : Left H := { results := [], args := [] }

/-- 'cuneiformlaw07.FtlNil': WHATEVER THE INPUT: true; the input reads as it did. -/
def ftlNilSpec : ChangeSpec := { name := "ftlNil", fn := fun _ => fun
  | [d1, d2] => { results := [.lit (.bool true)], args := [d1, d2] }
  | _ => none }
def ftlNilRow : OpenClaim := { program := "ytjkaioonppmkjaagreat", sum := "82f7ca10fd6d0f78db56fb90a0d6b22e1234e0149fe345436bd9f008d146cdee", func := "cuneiform/cuneiformlaw07.FtlNil", spec := "ftlNil", unfollowed := true, recurses := true, apart := false }
def FtlNilSaid : Prop := ftlNilRow.holds Tryz.pinned (OpenSpec.ofChange ftlNilSpec)

/-- ITS FALSE NEIGHBOUR: 'it returns false'. Refute it at one input. -/
def ftlNilWrong : ChangeSpec := { name := "ftlNil", fn := fun _ => fun
  | [d1, d2] => { results := [.lit (.bool false)], args := [d1, d2] }
  | _ => none }
def FtlNilWrongFalsely : Prop := ftlNilRow.holds Tryz.pinned (OpenSpec.ofChange ftlNilWrong)

/-- 'cuneiformlaw11.PoolNil': WHATEVER THE INPUT: true; the input reads as it did. -/
def poolNilSpec : ChangeSpec := { name := "poolNil", fn := fun _ => fun
  | [d1, d2] => { results := [.lit (.bool true)], args := [d1, d2] }
  | _ => none }
def poolNilRow : OpenClaim := { program := "ytjkaioonppmkjaagreat", sum := "82f7ca10fd6d0f78db56fb90a0d6b22e1234e0149fe345436bd9f008d146cdee", func := "cuneiform/cuneiformlaw11.PoolNil", spec := "poolNil", unfollowed := true, recurses := true, apart := false }
def PoolNilSaid : Prop := poolNilRow.holds Tryz.pinned (OpenSpec.ofChange poolNilSpec)

/-- ITS FALSE NEIGHBOUR: 'it returns false'. Refute it at one input. -/
def poolNilWrong : ChangeSpec := { name := "poolNil", fn := fun _ => fun
  | [d1, d2] => { results := [.lit (.bool false)], args := [d1, d2] }
  | _ => none }
def PoolNilWrongFalsely : Prop := poolNilRow.holds Tryz.pinned (OpenSpec.ofChange poolNilWrong)

/-- 'cuneiformlaw07.FtlPlays': WHATEVER THE INPUT: true; the input reads as it did. -/
def ftlPlaysSpec : ChangeSpec := { name := "ftlPlays", fn := fun _ => fun
  | [d1, d2] => { results := [.lit (.bool true)], args := [d1, d2] }
  | _ => none }
def ftlPlaysRow : OpenClaim := { program := "ytjkaioonppmkjaagreat", sum := "82f7ca10fd6d0f78db56fb90a0d6b22e1234e0149fe345436bd9f008d146cdee", func := "cuneiform/cuneiformlaw07.FtlPlays", spec := "ftlPlays", unfollowed := true, recurses := true, apart := false }
def FtlPlaysSaid : Prop := ftlPlaysRow.holds Tryz.pinned (OpenSpec.ofChange ftlPlaysSpec)

/-- ITS FALSE NEIGHBOUR: 'it returns false'. Refute it at one input. -/
def ftlPlaysWrong : ChangeSpec := { name := "ftlPlays", fn := fun _ => fun
  | [d1, d2] => { results := [.lit (.bool false)], args := [d1, d2] }
  | _ => none }
def FtlPlaysWrongFalsely : Prop := ftlPlaysRow.holds Tryz.pinned (OpenSpec.ofChange ftlPlaysWrong)

/-- 'cuneiformlaw07.FtlRoom': WHATEVER THE INPUT: true; the input reads as it did. -/
def ftlRoomSpec : ChangeSpec := { name := "ftlRoom", fn := fun _ => fun
  | [d1, d2] => { results := [.lit (.bool true)], args := [d1, d2] }
  | _ => none }
def ftlRoomRow : OpenClaim := { program := "ytjkaioonppmkjaagreat", sum := "82f7ca10fd6d0f78db56fb90a0d6b22e1234e0149fe345436bd9f008d146cdee", func := "cuneiform/cuneiformlaw07.FtlRoom", spec := "ftlRoom", unfollowed := true, recurses := true, apart := false }
def FtlRoomSaid : Prop := ftlRoomRow.holds Tryz.pinned (OpenSpec.ofChange ftlRoomSpec)

/-- ITS FALSE NEIGHBOUR: 'it returns false'. Refute it at one input. -/
def ftlRoomWrong : ChangeSpec := { name := "ftlRoom", fn := fun _ => fun
  | [d1, d2] => { results := [.lit (.bool false)], args := [d1, d2] }
  | _ => none }
def FtlRoomWrongFalsely : Prop := ftlRoomRow.holds Tryz.pinned (OpenSpec.ofChange ftlRoomWrong)

/-- 'cuneiformlaw07.FtlReadsOn': WHATEVER THE INPUT: true; the input reads as it did. -/
def ftlReadsOnSpec : ChangeSpec := { name := "ftlReadsOn", fn := fun _ => fun
  | [d1, d2, d3, d4] => { results := [.lit (.bool true)], args := [d1, d2, d3, d4] }
  | _ => none }
def ftlReadsOnRow : OpenClaim := { program := "ytjkaioonppmkjaagreat", sum := "82f7ca10fd6d0f78db56fb90a0d6b22e1234e0149fe345436bd9f008d146cdee", func := "cuneiform/cuneiformlaw07.FtlReadsOn", spec := "ftlReadsOn", unfollowed := true, recurses := true, apart := false }
def FtlReadsOnSaid : Prop := ftlReadsOnRow.holds Tryz.pinned (OpenSpec.ofChange ftlReadsOnSpec)

/-- ITS FALSE NEIGHBOUR: 'it returns false'. Refute it at one input. -/
def ftlReadsOnWrong : ChangeSpec := { name := "ftlReadsOn", fn := fun _ => fun
  | [d1, d2, d3, d4] => { results := [.lit (.bool false)], args := [d1, d2, d3, d4] }
  | _ => none }
def FtlReadsOnWrongFalsely : Prop := ftlReadsOnRow.holds Tryz.pinned (OpenSpec.ofChange ftlReadsOnWrong)

/-- 'cuneiformlaw07.FtlTwice': WHATEVER THE INPUT: true; the input reads as it did. -/
def ftlTwiceSpec : ChangeSpec := { name := "ftlTwice", fn := fun _ => fun
  | [d1, d2] => { results := [.lit (.bool true)], args := [d1, d2] }
  | _ => none }
def ftlTwiceRow : OpenClaim := { program := "ytjkaioonppmkjaagreat", sum := "82f7ca10fd6d0f78db56fb90a0d6b22e1234e0149fe345436bd9f008d146cdee", func := "cuneiform/cuneiformlaw07.FtlTwice", spec := "ftlTwice", unfollowed := true, recurses := true, apart := false }
def FtlTwiceSaid : Prop := ftlTwiceRow.holds Tryz.pinned (OpenSpec.ofChange ftlTwiceSpec)

/-- ITS FALSE NEIGHBOUR: 'it returns false'. Refute it at one input. -/
def ftlTwiceWrong : ChangeSpec := { name := "ftlTwice", fn := fun _ => fun
  | [d1, d2] => { results := [.lit (.bool false)], args := [d1, d2] }
  | _ => none }
def FtlTwiceWrongFalsely : Prop := ftlTwiceRow.holds Tryz.pinned (OpenSpec.ofChange ftlTwiceWrong)

/- THE SECOND FORM. 'bulk': how many values and letters a reading holds, each counted each time it is reached (what is shared counts as often as it is met; a slice's spare places count too). A statement '..UptoSaid' is the law's where the arguments, and the package variables that the reading takes, are together of bulk at most 1048576: NARROWER than '..Said'. Prove '..Said' where nothing that the law and all that it calls make is longer than what came in: it says more and counts as full. Else prove '..UptoSaid'. A law counts once. -/
mutual
def uptoBulk {H : Type} : DataW H → Nat
  | .lit (.string bytes) => bytes.length + 1
  | .lit _ => 1
  | .nil => 1
  | .ptr d => uptoBulk d + 1
  | .slice elems spare => uptoBulkAll elems + uptoBulkAll spare + 1
  | .agg parts => uptoBulkAll parts + 1
  | .iface _ d => uptoBulk d + 1
  | .map entries => uptoBulkEntries entries + 1
  | .held _ => 1
def uptoBulkAll {H : Type} : List (DataW H) → Nat
  | [] => 0
  | d :: r => uptoBulk d + uptoBulkAll r
def uptoBulkEntries {H : Type} : List (Lit × DataW H) → Nat
  | [] => 0
  | x :: r => uptoBulkEntry x + uptoBulkEntries r
def uptoBulkEntry {H : Type} : Lit × DataW H → Nat
  | (.string bytes, d) => bytes.length + uptoBulk d + 1
  | (_, d) => uptoBulk d + 1
 end
def uptoSmall : (H : Type) → List (DataW H) → Bool := fun _ ds => decide (uptoBulkAll ds ≤ 1048576)
def OpenSpec.upto (s : _root_.Go.ChangeSpec) : _root_.Go.OpenSpec := { _root_.Go.OpenSpec.ofChange s with cond := some uptoSmall }

/-- 'cuneiformlaw07.FtlNil', WHERE WHAT IT READS IS OF BULK AT MOST 1048576: true; the input reads as it did. -/
def ftlNilUptoRow : OpenClaim := { program := "ytjkaioonppmkjaagreat", sum := "82f7ca10fd6d0f78db56fb90a0d6b22e1234e0149fe345436bd9f008d146cdee", func := "cuneiform/cuneiformlaw07.FtlNil", spec := "ftlNil", unfollowed := true, recurses := true, apart := false, narrowed := true }
def FtlNilUptoSaid : Prop := ftlNilUptoRow.holds Tryz.pinned (OpenSpec.upto ftlNilSpec)

/-- 'cuneiformlaw11.PoolNil', WHERE WHAT IT READS IS OF BULK AT MOST 1048576: true; the input reads as it did. -/
def poolNilUptoRow : OpenClaim := { program := "ytjkaioonppmkjaagreat", sum := "82f7ca10fd6d0f78db56fb90a0d6b22e1234e0149fe345436bd9f008d146cdee", func := "cuneiform/cuneiformlaw11.PoolNil", spec := "poolNil", unfollowed := true, recurses := true, apart := false, narrowed := true }
def PoolNilUptoSaid : Prop := poolNilUptoRow.holds Tryz.pinned (OpenSpec.upto poolNilSpec)

/-- 'cuneiformlaw07.FtlPlays', WHERE WHAT IT READS IS OF BULK AT MOST 1048576: true; the input reads as it did. -/
def ftlPlaysUptoRow : OpenClaim := { program := "ytjkaioonppmkjaagreat", sum := "82f7ca10fd6d0f78db56fb90a0d6b22e1234e0149fe345436bd9f008d146cdee", func := "cuneiform/cuneiformlaw07.FtlPlays", spec := "ftlPlays", unfollowed := true, recurses := true, apart := false, narrowed := true }
def FtlPlaysUptoSaid : Prop := ftlPlaysUptoRow.holds Tryz.pinned (OpenSpec.upto ftlPlaysSpec)

/-- 'cuneiformlaw07.FtlRoom', WHERE WHAT IT READS IS OF BULK AT MOST 1048576: true; the input reads as it did. -/
def ftlRoomUptoRow : OpenClaim := { program := "ytjkaioonppmkjaagreat", sum := "82f7ca10fd6d0f78db56fb90a0d6b22e1234e0149fe345436bd9f008d146cdee", func := "cuneiform/cuneiformlaw07.FtlRoom", spec := "ftlRoom", unfollowed := true, recurses := true, apart := false, narrowed := true }
def FtlRoomUptoSaid : Prop := ftlRoomUptoRow.holds Tryz.pinned (OpenSpec.upto ftlRoomSpec)

/-- 'cuneiformlaw07.FtlReadsOn', WHERE WHAT IT READS IS OF BULK AT MOST 1048576: true; the input reads as it did. -/
def ftlReadsOnUptoRow : OpenClaim := { program := "ytjkaioonppmkjaagreat", sum := "82f7ca10fd6d0f78db56fb90a0d6b22e1234e0149fe345436bd9f008d146cdee", func := "cuneiform/cuneiformlaw07.FtlReadsOn", spec := "ftlReadsOn", unfollowed := true, recurses := true, apart := false, narrowed := true }
def FtlReadsOnUptoSaid : Prop := ftlReadsOnUptoRow.holds Tryz.pinned (OpenSpec.upto ftlReadsOnSpec)

/-- 'cuneiformlaw07.FtlTwice', WHERE WHAT IT READS IS OF BULK AT MOST 1048576: true; the input reads as it did. -/
def ftlTwiceUptoRow : OpenClaim := { program := "ytjkaioonppmkjaagreat", sum := "82f7ca10fd6d0f78db56fb90a0d6b22e1234e0149fe345436bd9f008d146cdee", func := "cuneiform/cuneiformlaw07.FtlTwice", spec := "ftlTwice", unfollowed := true, recurses := true, apart := false, narrowed := true }
def FtlTwiceUptoSaid : Prop := ftlTwiceUptoRow.holds Tryz.pinned (OpenSpec.upto ftlTwiceSpec)

end Rows
end Go.Proofs.YtjkaioonppmkjaaGreat
