/-
  No cell of these rows narrows 'for every input' (looked for: loops, veiled, ifaces, maps, wideKeys, modest, calm, conditions, laid).
  DERIVED. THE GIVEN ROWS OF THIS SEAT. 7 by the template 'for every input the law returns true; each argument reads behind the call as it read before'; 0 by the template 'total and deterministic' (their statements: YtfoigidddlboaaaTotals.lean).
  GIVEN WITH THE SEED: the statements are not yours to turn. If you find one false, say at which input.
  Laid BY PROGRAM, IN A SANDBOX (cutbox-rows.mjs): the forced cells as the released guide's own fill.sh prints them over the translation 6ad7916806bddbec… (all of the seat's roots in one cut). By AI agents, Wed Nov 11 2026. No macro, syntax, notation, axiom, sorry.
-/
import Derived.Test.YtfoigidddlboaaaChecked
import GoSem.Claim
import GoSem.ClaimJoined
import GoSem.ClaimMapViews
import Derived.JoinedTies
import Derived.KernelRfl
namespace Go.Proofs.Ytfoigidddlboaaa
/- THE CELL 'sum', in the pinned program and in every row, IS THE sha256 OF THE DUMP (.gsa) THAT YtfoigidddlboaaaProg.lean LOADS. Nothing in Lean hashes anything: it is a label: what it is worth is what the hold of that sum in a sandbox is worth. -/
noncomputable def Try.pinned : Pinned := { name := "ytfoigidddlboaaa", sum := "6ad7916806bddbec78d06842fb396d165e8d8d6851acaf33e4f5d377e606b558", checked := Try.checked }
namespace Rows
def none {H : Type} : Left H := { results := [], args := [] }

/-- 'brindlewoodlaw5.HeapqBuildMatchesSpec': WHATEVER THE INPUT: true; the input reads as it did. -/
def heapqBuildMatchesSpecSpec : ChangeSpec := { name := "heapqBuildMatchesSpec", fn := fun _ => fun
  | [d] => { results := [.lit (.bool true)], args := [d] }
  | _ => none }
def heapqBuildMatchesSpecRow : OpenClaim := { program := "ytfoigidddlboaaa", sum := "6ad7916806bddbec78d06842fb396d165e8d8d6851acaf33e4f5d377e606b558", func := "brindlewood/brindlewoodlaw5.HeapqBuildMatchesSpec", spec := "heapqBuildMatchesSpec", inPlace := ["internal/bytealg.abigen_runtime_cmpstring"], unfollowed := true, recurses := true, apart := false }
def HeapqBuildMatchesSpecSaid : Prop := heapqBuildMatchesSpecRow.holds Try.pinned (OpenSpec.ofChange heapqBuildMatchesSpecSpec)

/-- ITS FALSE NEIGHBOUR: 'it returns false'. Refute it at one input. -/
def heapqBuildMatchesSpecWrong : ChangeSpec := { name := "heapqBuildMatchesSpec", fn := fun _ => fun
  | [d] => { results := [.lit (.bool false)], args := [d] }
  | _ => none }
def HeapqBuildMatchesSpecWrongFalsely : Prop := heapqBuildMatchesSpecRow.holds Try.pinned (OpenSpec.ofChange heapqBuildMatchesSpecWrong)

/-- 'brindlewoodlaw5.HeapqMergeMatchesSpec': WHATEVER THE INPUT: true; the input reads as it did. -/
def heapqMergeMatchesSpecSpec : ChangeSpec := { name := "heapqMergeMatchesSpec", fn := fun _ => fun
  | [d] => { results := [.lit (.bool true)], args := [d] }
  | _ => none }
def heapqMergeMatchesSpecRow : OpenClaim := { program := "ytfoigidddlboaaa", sum := "6ad7916806bddbec78d06842fb396d165e8d8d6851acaf33e4f5d377e606b558", func := "brindlewood/brindlewoodlaw5.HeapqMergeMatchesSpec", spec := "heapqMergeMatchesSpec", inPlace := ["internal/bytealg.abigen_runtime_cmpstring"], unfollowed := true, recurses := true, apart := false }
def HeapqMergeMatchesSpecSaid : Prop := heapqMergeMatchesSpecRow.holds Try.pinned (OpenSpec.ofChange heapqMergeMatchesSpecSpec)

/-- ITS FALSE NEIGHBOUR: 'it returns false'. Refute it at one input. -/
def heapqMergeMatchesSpecWrong : ChangeSpec := { name := "heapqMergeMatchesSpec", fn := fun _ => fun
  | [d] => { results := [.lit (.bool false)], args := [d] }
  | _ => none }
def HeapqMergeMatchesSpecWrongFalsely : Prop := heapqMergeMatchesSpecRow.holds Try.pinned (OpenSpec.ofChange heapqMergeMatchesSpecWrong)

/-- 'brindlewoodlaw5.HeapqPopMatchesSpec': WHATEVER THE INPUT: true; the input reads as it did. -/
def heapqPopMatchesSpecSpec : ChangeSpec := { name := "heapqPopMatchesSpec", fn := fun _ => fun
  | [d] => { results := [.lit (.bool true)], args := [d] }
  | _ => none }
def heapqPopMatchesSpecRow : OpenClaim := { program := "ytfoigidddlboaaa", sum := "6ad7916806bddbec78d06842fb396d165e8d8d6851acaf33e4f5d377e606b558", func := "brindlewood/brindlewoodlaw5.HeapqPopMatchesSpec", spec := "heapqPopMatchesSpec", inPlace := ["internal/bytealg.abigen_runtime_cmpstring"], unfollowed := true, recurses := true, apart := false }
def HeapqPopMatchesSpecSaid : Prop := heapqPopMatchesSpecRow.holds Try.pinned (OpenSpec.ofChange heapqPopMatchesSpecSpec)

/-- ITS FALSE NEIGHBOUR: 'it returns false'. Refute it at one input. -/
def heapqPopMatchesSpecWrong : ChangeSpec := { name := "heapqPopMatchesSpec", fn := fun _ => fun
  | [d] => { results := [.lit (.bool false)], args := [d] }
  | _ => none }
def HeapqPopMatchesSpecWrongFalsely : Prop := heapqPopMatchesSpecRow.holds Try.pinned (OpenSpec.ofChange heapqPopMatchesSpecWrong)

/-- 'brindlewoodlaw5.HeapqSortsByMerging': WHATEVER THE INPUT: true; the input reads as it did. -/
def heapqSortsByMergingSpec : ChangeSpec := { name := "heapqSortsByMerging", fn := fun _ => fun
  | [d1, d2] => { results := [.lit (.bool true)], args := [d1, d2] }
  | _ => none }
def heapqSortsByMergingRow : OpenClaim := { program := "ytfoigidddlboaaa", sum := "6ad7916806bddbec78d06842fb396d165e8d8d6851acaf33e4f5d377e606b558", func := "brindlewood/brindlewoodlaw5.HeapqSortsByMerging", spec := "heapqSortsByMerging", inPlace := ["internal/bytealg.abigen_runtime_cmpstring"], unfollowed := true, recurses := true, apart := false }
def HeapqSortsByMergingSaid : Prop := heapqSortsByMergingRow.holds Try.pinned (OpenSpec.ofChange heapqSortsByMergingSpec)

/-- ITS FALSE NEIGHBOUR: 'it returns false'. Refute it at one input. -/
def heapqSortsByMergingWrong : ChangeSpec := { name := "heapqSortsByMerging", fn := fun _ => fun
  | [d1, d2] => { results := [.lit (.bool false)], args := [d1, d2] }
  | _ => none }
def HeapqSortsByMergingWrongFalsely : Prop := heapqSortsByMergingRow.holds Try.pinned (OpenSpec.ofChange heapqSortsByMergingWrong)

/-- 'brindlewoodlaw5.HeapqAddMatchesSpec': WHATEVER THE INPUT: true; the input reads as it did. -/
def heapqAddMatchesSpecSpec : ChangeSpec := { name := "heapqAddMatchesSpec", fn := fun _ => fun
  | [d1, d2] => { results := [.lit (.bool true)], args := [d1, d2] }
  | _ => none }
def heapqAddMatchesSpecRow : OpenClaim := { program := "ytfoigidddlboaaa", sum := "6ad7916806bddbec78d06842fb396d165e8d8d6851acaf33e4f5d377e606b558", func := "brindlewood/brindlewoodlaw5.HeapqAddMatchesSpec", spec := "heapqAddMatchesSpec", inPlace := ["internal/bytealg.abigen_runtime_cmpstring"], unfollowed := true, recurses := true, apart := false }
def HeapqAddMatchesSpecSaid : Prop := heapqAddMatchesSpecRow.holds Try.pinned (OpenSpec.ofChange heapqAddMatchesSpecSpec)

/-- ITS FALSE NEIGHBOUR: 'it returns false'. Refute it at one input. -/
def heapqAddMatchesSpecWrong : ChangeSpec := { name := "heapqAddMatchesSpec", fn := fun _ => fun
  | [d1, d2] => { results := [.lit (.bool false)], args := [d1, d2] }
  | _ => none }
def HeapqAddMatchesSpecWrongFalsely : Prop := heapqAddMatchesSpecRow.holds Try.pinned (OpenSpec.ofChange heapqAddMatchesSpecWrong)

/-- 'brindlewoodlaw5.HeapqChangeMatchesSpec': WHATEVER THE INPUT: true; the input reads as it did. -/
def heapqChangeMatchesSpecSpec : ChangeSpec := { name := "heapqChangeMatchesSpec", fn := fun _ => fun
  | [d1, d2, d3] => { results := [.lit (.bool true)], args := [d1, d2, d3] }
  | _ => none }
def heapqChangeMatchesSpecRow : OpenClaim := { program := "ytfoigidddlboaaa", sum := "6ad7916806bddbec78d06842fb396d165e8d8d6851acaf33e4f5d377e606b558", func := "brindlewood/brindlewoodlaw5.HeapqChangeMatchesSpec", spec := "heapqChangeMatchesSpec", inPlace := ["internal/bytealg.abigen_runtime_cmpstring"], unfollowed := true, recurses := true, apart := false }
def HeapqChangeMatchesSpecSaid : Prop := heapqChangeMatchesSpecRow.holds Try.pinned (OpenSpec.ofChange heapqChangeMatchesSpecSpec)

/-- ITS FALSE NEIGHBOUR: 'it returns false'. Refute it at one input. -/
def heapqChangeMatchesSpecWrong : ChangeSpec := { name := "heapqChangeMatchesSpec", fn := fun _ => fun
  | [d1, d2, d3] => { results := [.lit (.bool false)], args := [d1, d2, d3] }
  | _ => none }
def HeapqChangeMatchesSpecWrongFalsely : Prop := heapqChangeMatchesSpecRow.holds Try.pinned (OpenSpec.ofChange heapqChangeMatchesSpecWrong)

/-- 'brindlewoodlaw5.HeapqKeepsAccount': WHATEVER THE INPUT: true; the input reads as it did. -/
def heapqKeepsAccountSpec : ChangeSpec := { name := "heapqKeepsAccount", fn := fun _ => fun
  | [d1, d2, d3] => { results := [.lit (.bool true)], args := [d1, d2, d3] }
  | _ => none }
def heapqKeepsAccountRow : OpenClaim := { program := "ytfoigidddlboaaa", sum := "6ad7916806bddbec78d06842fb396d165e8d8d6851acaf33e4f5d377e606b558", func := "brindlewood/brindlewoodlaw5.HeapqKeepsAccount", spec := "heapqKeepsAccount", inPlace := ["internal/bytealg.abigen_runtime_cmpstring"], unfollowed := true, recurses := true, apart := false }
def HeapqKeepsAccountSaid : Prop := heapqKeepsAccountRow.holds Try.pinned (OpenSpec.ofChange heapqKeepsAccountSpec)

/-- ITS FALSE NEIGHBOUR: 'it returns false'. Refute it at one input. -/
def heapqKeepsAccountWrong : ChangeSpec := { name := "heapqKeepsAccount", fn := fun _ => fun
  | [d1, d2, d3] => { results := [.lit (.bool false)], args := [d1, d2, d3] }
  | _ => none }
def HeapqKeepsAccountWrongFalsely : Prop := heapqKeepsAccountRow.holds Try.pinned (OpenSpec.ofChange heapqKeepsAccountWrong)

/- THE SECOND FORM. 'bulk': how many values and letters a reading holds, each counted each time it is reached (what is shared counts as often as it is met; a slice's spare places count too). A statement '..UptoSaid' is the law's where the arguments, and the package variables that the reading takes, are together of bulk at most 1048576: NARROWER than '..Said'. Prove '..Said' where nothing that the law and all that it calls make is longer than what came in: it says more and counts as full. Else prove '..UptoSaid'. A law counts once. -/
mutual
def uptoBulk {H : Type} : DataW H → Nat
  | .lit (.string bytes) => bytes.length + 1
  | .lit _ => 1
  | .nil => 1
  | .ptr d => uptoBulk d + 1
  | .slice elems spare => uptoBulkAll elems + uptoBulkAll spare + 1
  | .agg parts => uptoBulkAll parts + 1
  | .iface _ d => uptoBulk d + 1
  | .map entries => uptoBulkEntries entries + 1
  | .held _ => 1
def uptoBulkAll {H : Type} : List (DataW H) → Nat
  | [] => 0
  | d :: r => uptoBulk d + uptoBulkAll r
def uptoBulkEntries {H : Type} : List (Lit × DataW H) → Nat
  | [] => 0
  | x :: r => uptoBulkEntry x + uptoBulkEntries r
def uptoBulkEntry {H : Type} : Lit × DataW H → Nat
  | (.string bytes, d) => bytes.length + uptoBulk d + 1
  | (_, d) => uptoBulk d + 1
 end
def uptoSmall : (H : Type) → List (DataW H) → Bool := fun _ ds => decide (uptoBulkAll ds ≤ 1048576)
def OpenSpec.upto (s : _root_.Go.ChangeSpec) : _root_.Go.OpenSpec := { _root_.Go.OpenSpec.ofChange s with cond := some uptoSmall }

/-- 'brindlewoodlaw5.HeapqBuildMatchesSpec', WHERE WHAT IT READS IS OF BULK AT MOST 1048576: true; the input reads as it did. -/
def heapqBuildMatchesSpecUptoRow : OpenClaim := { program := "ytfoigidddlboaaa", sum := "6ad7916806bddbec78d06842fb396d165e8d8d6851acaf33e4f5d377e606b558", func := "brindlewood/brindlewoodlaw5.HeapqBuildMatchesSpec", spec := "heapqBuildMatchesSpec", inPlace := ["internal/bytealg.abigen_runtime_cmpstring"], unfollowed := true, recurses := true, apart := false, narrowed := true }
def HeapqBuildMatchesSpecUptoSaid : Prop := heapqBuildMatchesSpecUptoRow.holds Try.pinned (OpenSpec.upto heapqBuildMatchesSpecSpec)

/-- 'brindlewoodlaw5.HeapqMergeMatchesSpec', WHERE WHAT IT READS IS OF BULK AT MOST 1048576: true; the input reads as it did. -/
def heapqMergeMatchesSpecUptoRow : OpenClaim := { program := "ytfoigidddlboaaa", sum := "6ad7916806bddbec78d06842fb396d165e8d8d6851acaf33e4f5d377e606b558", func := "brindlewood/brindlewoodlaw5.HeapqMergeMatchesSpec", spec := "heapqMergeMatchesSpec", inPlace := ["internal/bytealg.abigen_runtime_cmpstring"], unfollowed := true, recurses := true, apart := false, narrowed := true }
def HeapqMergeMatchesSpecUptoSaid : Prop := heapqMergeMatchesSpecUptoRow.holds Try.pinned (OpenSpec.upto heapqMergeMatchesSpecSpec)

/-- 'brindlewoodlaw5.HeapqPopMatchesSpec', WHERE WHAT IT READS IS OF BULK AT MOST 1048576: true; the input reads as it did. -/
def heapqPopMatchesSpecUptoRow : OpenClaim := { program := "ytfoigidddlboaaa", sum := "6ad7916806bddbec78d06842fb396d165e8d8d6851acaf33e4f5d377e606b558", func := "brindlewood/brindlewoodlaw5.HeapqPopMatchesSpec", spec := "heapqPopMatchesSpec", inPlace := ["internal/bytealg.abigen_runtime_cmpstring"], unfollowed := true, recurses := true, apart := false, narrowed := true }
def HeapqPopMatchesSpecUptoSaid : Prop := heapqPopMatchesSpecUptoRow.holds Try.pinned (OpenSpec.upto heapqPopMatchesSpecSpec)

/-- 'brindlewoodlaw5.HeapqSortsByMerging', WHERE WHAT IT READS IS OF BULK AT MOST 1048576: true; the input reads as it did. -/
def heapqSortsByMergingUptoRow : OpenClaim := { program := "ytfoigidddlboaaa", sum := "6ad7916806bddbec78d06842fb396d165e8d8d6851acaf33e4f5d377e606b558", func := "brindlewood/brindlewoodlaw5.HeapqSortsByMerging", spec := "heapqSortsByMerging", inPlace := ["internal/bytealg.abigen_runtime_cmpstring"], unfollowed := true, recurses := true, apart := false, narrowed := true }
def HeapqSortsByMergingUptoSaid : Prop := heapqSortsByMergingUptoRow.holds Try.pinned (OpenSpec.upto heapqSortsByMergingSpec)

/-- 'brindlewoodlaw5.HeapqAddMatchesSpec', WHERE WHAT IT READS IS OF BULK AT MOST 1048576: true; the input reads as it did. -/
def heapqAddMatchesSpecUptoRow : OpenClaim := { program := "ytfoigidddlboaaa", sum := "6ad7916806bddbec78d06842fb396d165e8d8d6851acaf33e4f5d377e606b558", func := "brindlewood/brindlewoodlaw5.HeapqAddMatchesSpec", spec := "heapqAddMatchesSpec", inPlace := ["internal/bytealg.abigen_runtime_cmpstring"], unfollowed := true, recurses := true, apart := false, narrowed := true }
def HeapqAddMatchesSpecUptoSaid : Prop := heapqAddMatchesSpecUptoRow.holds Try.pinned (OpenSpec.upto heapqAddMatchesSpecSpec)

/-- 'brindlewoodlaw5.HeapqChangeMatchesSpec', WHERE WHAT IT READS IS OF BULK AT MOST 1048576: true; the input reads as it did. -/
def heapqChangeMatchesSpecUptoRow : OpenClaim := { program := "ytfoigidddlboaaa", sum := "6ad7916806bddbec78d06842fb396d165e8d8d6851acaf33e4f5d377e606b558", func := "brindlewood/brindlewoodlaw5.HeapqChangeMatchesSpec", spec := "heapqChangeMatchesSpec", inPlace := ["internal/bytealg.abigen_runtime_cmpstring"], unfollowed := true, recurses := true, apart := false, narrowed := true }
def HeapqChangeMatchesSpecUptoSaid : Prop := heapqChangeMatchesSpecUptoRow.holds Try.pinned (OpenSpec.upto heapqChangeMatchesSpecSpec)

/-- 'brindlewoodlaw5.HeapqKeepsAccount', WHERE WHAT IT READS IS OF BULK AT MOST 1048576: true; the input reads as it did. -/
def heapqKeepsAccountUptoRow : OpenClaim := { program := "ytfoigidddlboaaa", sum := "6ad7916806bddbec78d06842fb396d165e8d8d6851acaf33e4f5d377e606b558", func := "brindlewood/brindlewoodlaw5.HeapqKeepsAccount", spec := "heapqKeepsAccount", inPlace := ["internal/bytealg.abigen_runtime_cmpstring"], unfollowed := true, recurses := true, apart := false, narrowed := true }
def HeapqKeepsAccountUptoSaid : Prop := heapqKeepsAccountUptoRow.holds Try.pinned (OpenSpec.upto heapqKeepsAccountSpec)

end Rows
end Go.Proofs.Ytfoigidddlboaaa
