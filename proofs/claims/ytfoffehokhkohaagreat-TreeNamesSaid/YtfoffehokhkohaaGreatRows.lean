/-
  No cell of these rows narrows 'for every input' (looked for: loops, veiled, ifaces, maps, wideKeys, modest, calm, conditions, laid).
  DERIVED. THE GIVEN ROWS OF THIS SEAT. 6 by the template 'for every input the law returns true; each argument reads behind the call as it read before'; 0 by the template 'total and deterministic' (their statements: YtfoffehokhkohaaGreatTotals.lean).
  GIVEN WITH THE SEED: the statements are not yours to turn. If you find one false, say at which input.
  Laid BY PROGRAM, IN A SANDBOX (cutbox-rows.mjs): the forced cells as the released guide's own fill.sh prints them over the translation d67efdc5d98e28f5… (all of the seat's roots in one cut). By AI agents, Wed Nov 11 2026. No macro, syntax, notation, axiom, sorry.
-/
import Derived.Test.YtfoffehokhkohaaGreatChecked
import GoSem.Claim
import GoSem.ClaimJoined
import GoSem.ClaimMapViews
import Derived.JoinedTies
import Derived.KernelRfl
namespace Go.Proofs.YtfoffehokhkohaaGreat
/- THE CELL 'sum', in the pinned program and in every row, IS THE sha256 OF THE DUMP (.gsa) THAT YtfoffehokhkohaaGreatProg.lean LOADS. Nothing in Lean hashes anything: it is a label: what it is worth is what the hold of that sum in a sandbox is worth. -/
noncomputable def Tryz.pinned : Pinned := { name := "ytfoffehokhkohaagreat", sum := "d67efdc5d98e28f540a35d23ce8c5d8f4810c2827c63f4a35b4d77172eac2494", checked := Tryz.checked }
namespace Rows
def none {H : Type} : Left H := { results := [], args := [] }

/-- 'shadowbooklaw14.TreeNames': WHATEVER THE INPUT: true; the input reads as it did. -/
def treeNamesSpec : ChangeSpec := { name := "treeNames", fn := fun _ => fun
  | [] => { results := [.lit (.bool true)], args := [] }
  | _ => none }
def treeNamesRow : OpenClaim := { program := "ytfoffehokhkohaagreat", sum := "d67efdc5d98e28f540a35d23ce8c5d8f4810c2827c63f4a35b4d77172eac2494", func := "shadowbook/shadowbooklaw14.TreeNames", spec := "treeNames", inPlace := ["internal/abi.NoEscape", "internal/bytealg.MakeNoZero", "slices.overlaps[uint64]", "slices.overlaps[uint32]"], unfollowed := true, recurses := true, apart := false }
def TreeNamesSaid : Prop := treeNamesRow.holds Tryz.pinned (OpenSpec.ofChange treeNamesSpec)

/-- ITS FALSE NEIGHBOUR: 'it returns false'. Refute it at one input. -/
def treeNamesWrong : ChangeSpec := { name := "treeNames", fn := fun _ => fun
  | [] => { results := [.lit (.bool false)], args := [] }
  | _ => none }
def TreeNamesWrongFalsely : Prop := treeNamesRow.holds Tryz.pinned (OpenSpec.ofChange treeNamesWrong)

/-- 'shadowbooklaw14.TreeScript': WHATEVER THE INPUT: true; the input reads as it did. -/
def treeScriptSpec : ChangeSpec := { name := "treeScript", fn := fun _ => fun
  | [d1, d2] => { results := [.lit (.bool true)], args := [d1, d2] }
  | _ => none }
def treeScriptRow : OpenClaim := { program := "ytfoffehokhkohaagreat", sum := "d67efdc5d98e28f540a35d23ce8c5d8f4810c2827c63f4a35b4d77172eac2494", func := "shadowbook/shadowbooklaw14.TreeScript", spec := "treeScript", inPlace := ["internal/abi.NoEscape", "internal/bytealg.MakeNoZero", "slices.overlaps[uint64]", "slices.overlaps[uint32]"], unfollowed := true, recurses := true, apart := false }
def TreeScriptSaid : Prop := treeScriptRow.holds Tryz.pinned (OpenSpec.ofChange treeScriptSpec)

/-- ITS FALSE NEIGHBOUR: 'it returns false'. Refute it at one input. -/
def treeScriptWrong : ChangeSpec := { name := "treeScript", fn := fun _ => fun
  | [d1, d2] => { results := [.lit (.bool false)], args := [d1, d2] }
  | _ => none }
def TreeScriptWrongFalsely : Prop := treeScriptRow.holds Tryz.pinned (OpenSpec.ofChange treeScriptWrong)

/-- 'shadowbooklaw14.TreeShared': WHATEVER THE INPUT: true; the input reads as it did. -/
def treeSharedSpec : ChangeSpec := { name := "treeShared", fn := fun _ => fun
  | [d1, d2] => { results := [.lit (.bool true)], args := [d1, d2] }
  | _ => none }
def treeSharedRow : OpenClaim := { program := "ytfoffehokhkohaagreat", sum := "d67efdc5d98e28f540a35d23ce8c5d8f4810c2827c63f4a35b4d77172eac2494", func := "shadowbook/shadowbooklaw14.TreeShared", spec := "treeShared", inPlace := ["internal/abi.NoEscape", "internal/bytealg.MakeNoZero", "slices.overlaps[uint64]", "slices.overlaps[uint32]"], unfollowed := true, recurses := true, apart := false }
def TreeSharedSaid : Prop := treeSharedRow.holds Tryz.pinned (OpenSpec.ofChange treeSharedSpec)

/-- ITS FALSE NEIGHBOUR: 'it returns false'. Refute it at one input. -/
def treeSharedWrong : ChangeSpec := { name := "treeShared", fn := fun _ => fun
  | [d1, d2] => { results := [.lit (.bool false)], args := [d1, d2] }
  | _ => none }
def TreeSharedWrongFalsely : Prop := treeSharedRow.holds Tryz.pinned (OpenSpec.ofChange treeSharedWrong)

/-- 'shadowbooklaw14.TreeRefs': WHATEVER THE INPUT: true; the input reads as it did. -/
def treeRefsSpec : ChangeSpec := { name := "treeRefs", fn := fun _ => fun
  | [d] => { results := [.lit (.bool true)], args := [d] }
  | _ => none }
def treeRefsRow : OpenClaim := { program := "ytfoffehokhkohaagreat", sum := "d67efdc5d98e28f540a35d23ce8c5d8f4810c2827c63f4a35b4d77172eac2494", func := "shadowbook/shadowbooklaw14.TreeRefs", spec := "treeRefs", inPlace := ["internal/abi.NoEscape", "internal/bytealg.MakeNoZero", "slices.overlaps[uint64]", "slices.overlaps[uint32]"], unfollowed := true, recurses := true, apart := false }
def TreeRefsSaid : Prop := treeRefsRow.holds Tryz.pinned (OpenSpec.ofChange treeRefsSpec)

/-- ITS FALSE NEIGHBOUR: 'it returns false'. Refute it at one input. -/
def treeRefsWrong : ChangeSpec := { name := "treeRefs", fn := fun _ => fun
  | [d] => { results := [.lit (.bool false)], args := [d] }
  | _ => none }
def TreeRefsWrongFalsely : Prop := treeRefsRow.holds Tryz.pinned (OpenSpec.ofChange treeRefsWrong)

/-- 'shadowbooklaw14.TreeDurable': WHATEVER THE INPUT: true; the input reads as it did. -/
def treeDurableSpec : ChangeSpec := { name := "treeDurable", fn := fun _ => fun
  | [d1, d2, d3] => { results := [.lit (.bool true)], args := [d1, d2, d3] }
  | _ => none }
def treeDurableRow : OpenClaim := { program := "ytfoffehokhkohaagreat", sum := "d67efdc5d98e28f540a35d23ce8c5d8f4810c2827c63f4a35b4d77172eac2494", func := "shadowbook/shadowbooklaw14.TreeDurable", spec := "treeDurable", inPlace := ["internal/abi.NoEscape", "internal/bytealg.MakeNoZero", "slices.overlaps[uint64]", "slices.overlaps[uint32]"], unfollowed := true, recurses := true, apart := false }
def TreeDurableSaid : Prop := treeDurableRow.holds Tryz.pinned (OpenSpec.ofChange treeDurableSpec)

/-- ITS FALSE NEIGHBOUR: 'it returns false'. Refute it at one input. -/
def treeDurableWrong : ChangeSpec := { name := "treeDurable", fn := fun _ => fun
  | [d1, d2, d3] => { results := [.lit (.bool false)], args := [d1, d2, d3] }
  | _ => none }
def TreeDurableWrongFalsely : Prop := treeDurableRow.holds Tryz.pinned (OpenSpec.ofChange treeDurableWrong)

/-- 'shadowbooklaw14.TreeOrder': WHATEVER THE INPUT: true; the input reads as it did. -/
def treeOrderSpec : ChangeSpec := { name := "treeOrder", fn := fun _ => fun
  | [d1, d2, d3] => { results := [.lit (.bool true)], args := [d1, d2, d3] }
  | _ => none }
def treeOrderRow : OpenClaim := { program := "ytfoffehokhkohaagreat", sum := "d67efdc5d98e28f540a35d23ce8c5d8f4810c2827c63f4a35b4d77172eac2494", func := "shadowbook/shadowbooklaw14.TreeOrder", spec := "treeOrder", inPlace := ["internal/abi.NoEscape", "internal/bytealg.MakeNoZero", "slices.overlaps[uint64]", "slices.overlaps[uint32]"], unfollowed := true, recurses := true, apart := false }
def TreeOrderSaid : Prop := treeOrderRow.holds Tryz.pinned (OpenSpec.ofChange treeOrderSpec)

/-- ITS FALSE NEIGHBOUR: 'it returns false'. Refute it at one input. -/
def treeOrderWrong : ChangeSpec := { name := "treeOrder", fn := fun _ => fun
  | [d1, d2, d3] => { results := [.lit (.bool false)], args := [d1, d2, d3] }
  | _ => none }
def TreeOrderWrongFalsely : Prop := treeOrderRow.holds Tryz.pinned (OpenSpec.ofChange treeOrderWrong)

/- THE SECOND FORM. 'bulk': how many values and letters a reading holds, each counted each time it is reached (what is shared counts as often as it is met; a slice's spare places count too). A statement '..UptoSaid' is the law's where the arguments, and the package variables that the reading takes, are together of bulk at most 1048576: NARROWER than '..Said'. Prove '..Said' where nothing that the law and all that it calls make is longer than what came in: it says more and counts as full. Else prove '..UptoSaid'. A law counts once. -/
mutual
def uptoBulk {H : Type} : DataW H → Nat
  | .lit (.string bytes) => bytes.length + 1
  | .lit _ => 1
  | .nil => 1
  | .ptr d => uptoBulk d + 1
  | .slice elems spare => uptoBulkAll elems + uptoBulkAll spare + 1
  | .agg parts => uptoBulkAll parts + 1
  | .iface _ d => uptoBulk d + 1
  | .map entries => uptoBulkEntries entries + 1
  | .held _ => 1
def uptoBulkAll {H : Type} : List (DataW H) → Nat
  | [] => 0
  | d :: r => uptoBulk d + uptoBulkAll r
def uptoBulkEntries {H : Type} : List (Lit × DataW H) → Nat
  | [] => 0
  | x :: r => uptoBulkEntry x + uptoBulkEntries r
def uptoBulkEntry {H : Type} : Lit × DataW H → Nat
  | (.string bytes, d) => bytes.length + uptoBulk d + 1
  | (_, d) => uptoBulk d + 1
 end
def uptoSmall : (H : Type) → List (DataW H) → Bool := fun _ ds => decide (uptoBulkAll ds ≤ 1048576)
def OpenSpec.upto (s : _root_.Go.ChangeSpec) : _root_.Go.OpenSpec := { _root_.Go.OpenSpec.ofChange s with cond := some uptoSmall }

/-- 'shadowbooklaw14.TreeNames', WHERE WHAT IT READS IS OF BULK AT MOST 1048576: true; the input reads as it did. -/
def treeNamesUptoRow : OpenClaim := { program := "ytfoffehokhkohaagreat", sum := "d67efdc5d98e28f540a35d23ce8c5d8f4810c2827c63f4a35b4d77172eac2494", func := "shadowbook/shadowbooklaw14.TreeNames", spec := "treeNames", inPlace := ["internal/abi.NoEscape", "internal/bytealg.MakeNoZero", "slices.overlaps[uint64]", "slices.overlaps[uint32]"], unfollowed := true, recurses := true, apart := false, narrowed := true }
def TreeNamesUptoSaid : Prop := treeNamesUptoRow.holds Tryz.pinned (OpenSpec.upto treeNamesSpec)

/-- 'shadowbooklaw14.TreeScript', WHERE WHAT IT READS IS OF BULK AT MOST 1048576: true; the input reads as it did. -/
def treeScriptUptoRow : OpenClaim := { program := "ytfoffehokhkohaagreat", sum := "d67efdc5d98e28f540a35d23ce8c5d8f4810c2827c63f4a35b4d77172eac2494", func := "shadowbook/shadowbooklaw14.TreeScript", spec := "treeScript", inPlace := ["internal/abi.NoEscape", "internal/bytealg.MakeNoZero", "slices.overlaps[uint64]", "slices.overlaps[uint32]"], unfollowed := true, recurses := true, apart := false, narrowed := true }
def TreeScriptUptoSaid : Prop := treeScriptUptoRow.holds Tryz.pinned (OpenSpec.upto treeScriptSpec)

/-- 'shadowbooklaw14.TreeShared', WHERE WHAT IT READS IS OF BULK AT MOST 1048576: true; the input reads as it did. -/
def treeSharedUptoRow : OpenClaim := { program := "ytfoffehokhkohaagreat", sum := "d67efdc5d98e28f540a35d23ce8c5d8f4810c2827c63f4a35b4d77172eac2494", func := "shadowbook/shadowbooklaw14.TreeShared", spec := "treeShared", inPlace := ["internal/abi.NoEscape", "internal/bytealg.MakeNoZero", "slices.overlaps[uint64]", "slices.overlaps[uint32]"], unfollowed := true, recurses := true, apart := false, narrowed := true }
def TreeSharedUptoSaid : Prop := treeSharedUptoRow.holds Tryz.pinned (OpenSpec.upto treeSharedSpec)

/-- 'shadowbooklaw14.TreeRefs', WHERE WHAT IT READS IS OF BULK AT MOST 1048576: true; the input reads as it did. -/
def treeRefsUptoRow : OpenClaim := { program := "ytfoffehokhkohaagreat", sum := "d67efdc5d98e28f540a35d23ce8c5d8f4810c2827c63f4a35b4d77172eac2494", func := "shadowbook/shadowbooklaw14.TreeRefs", spec := "treeRefs", inPlace := ["internal/abi.NoEscape", "internal/bytealg.MakeNoZero", "slices.overlaps[uint64]", "slices.overlaps[uint32]"], unfollowed := true, recurses := true, apart := false, narrowed := true }
def TreeRefsUptoSaid : Prop := treeRefsUptoRow.holds Tryz.pinned (OpenSpec.upto treeRefsSpec)

/-- 'shadowbooklaw14.TreeDurable', WHERE WHAT IT READS IS OF BULK AT MOST 1048576: true; the input reads as it did. -/
def treeDurableUptoRow : OpenClaim := { program := "ytfoffehokhkohaagreat", sum := "d67efdc5d98e28f540a35d23ce8c5d8f4810c2827c63f4a35b4d77172eac2494", func := "shadowbook/shadowbooklaw14.TreeDurable", spec := "treeDurable", inPlace := ["internal/abi.NoEscape", "internal/bytealg.MakeNoZero", "slices.overlaps[uint64]", "slices.overlaps[uint32]"], unfollowed := true, recurses := true, apart := false, narrowed := true }
def TreeDurableUptoSaid : Prop := treeDurableUptoRow.holds Tryz.pinned (OpenSpec.upto treeDurableSpec)

/-- 'shadowbooklaw14.TreeOrder', WHERE WHAT IT READS IS OF BULK AT MOST 1048576: true; the input reads as it did. -/
def treeOrderUptoRow : OpenClaim := { program := "ytfoffehokhkohaagreat", sum := "d67efdc5d98e28f540a35d23ce8c5d8f4810c2827c63f4a35b4d77172eac2494", func := "shadowbook/shadowbooklaw14.TreeOrder", spec := "treeOrder", inPlace := ["internal/abi.NoEscape", "internal/bytealg.MakeNoZero", "slices.overlaps[uint64]", "slices.overlaps[uint32]"], unfollowed := true, recurses := true, apart := false, narrowed := true }
def TreeOrderUptoSaid : Prop := treeOrderUptoRow.holds Tryz.pinned (OpenSpec.upto treeOrderSpec)

end Rows
end Go.Proofs.YtfoffehokhkohaaGreat
