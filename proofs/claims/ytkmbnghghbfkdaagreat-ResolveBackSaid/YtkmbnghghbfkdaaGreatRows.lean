/-
  No cell of these rows narrows 'for every input' (looked for: loops, veiled, ifaces, maps, wideKeys, modest, calm, conditions, laid).
  DERIVED. THE GIVEN ROWS OF THIS SEAT. 6 by the template 'for every input the law returns true; each argument reads behind the call as it read before'; 0 by the template 'total and deterministic' (their statements: YtkmbnghghbfkdaaGreatTotals.lean).
  GIVEN WITH THE SEED: the statements are not yours to turn. If you find one false, say at which input.
  Laid BY PROGRAM, IN A SANDBOX (cutbox-rows.mjs): the forced cells as the released guide's own fill.sh prints them over the translation a057aa6d177763f9… (all of the seat's roots in one cut). By AI agents, Wed Nov 11 2026. No macro, syntax, notation, axiom, sorry.
-/
import Derived.Test.YtkmbnghghbfkdaaGreatChecked
import GoSem.Claim
import GoSem.ClaimJoined
import GoSem.ClaimMapViews
import Derived.JoinedTies
import Derived.KernelRfl
namespace Go.Proofs.YtkmbnghghbfkdaaGreat
/- THE CELL 'sum', in the pinned program and in every row, IS THE sha256 OF THE DUMP (.gsa) THAT YtkmbnghghbfkdaaGreatProg.lean LOADS. Nothing in Lean hashes anything: it is a label: what it is worth is what the hold of that sum in a sandbox is worth. -/
noncomputable def Tryz.pinned : Pinned := { name := "ytkmbnghghbfkdaagreat", sum := "a057aa6d177763f94783c3afb6f9a740c7703bb132b6fa74b89d0fb61f93f5b4", checked := Tryz.checked }
namespace Rows
def none {H : Type} : Left H := { results := [], args := [] }

/-- 'colanderlaw18.ResolveOf': WHATEVER THE INPUT: true; the input reads as it did. -/
def resolveOfSpec : ChangeSpec := { name := "resolveOf", fn := fun _ => fun
  | [d1, d2] => { results := [.lit (.bool true)], args := [d1, d2] }
  | _ => none }
def resolveOfRow : OpenClaim := { program := "ytkmbnghghbfkdaagreat", sum := "a057aa6d177763f94783c3afb6f9a740c7703bb132b6fa74b89d0fb61f93f5b4", func := "colander/colanderlaw18.ResolveOf", spec := "resolveOf", unfollowed := true, recurses := true, apart := false }
def ResolveOfSaid : Prop := resolveOfRow.holds Tryz.pinned (OpenSpec.ofChange resolveOfSpec)

/-- ITS FALSE NEIGHBOUR: 'it returns false'. Refute it at one input. -/
def resolveOfWrong : ChangeSpec := { name := "resolveOf", fn := fun _ => fun
  | [d1, d2] => { results := [.lit (.bool false)], args := [d1, d2] }
  | _ => none }
def ResolveOfWrongFalsely : Prop := resolveOfRow.holds Tryz.pinned (OpenSpec.ofChange resolveOfWrong)

/-- 'colanderlaw18.ResolveMore': WHATEVER THE INPUT: true; the input reads as it did. -/
def resolveMoreSpec : ChangeSpec := { name := "resolveMore", fn := fun _ => fun
  | [d1, d2, d3] => { results := [.lit (.bool true)], args := [d1, d2, d3] }
  | _ => none }
def resolveMoreRow : OpenClaim := { program := "ytkmbnghghbfkdaagreat", sum := "a057aa6d177763f94783c3afb6f9a740c7703bb132b6fa74b89d0fb61f93f5b4", func := "colander/colanderlaw18.ResolveMore", spec := "resolveMore", unfollowed := true, recurses := true, apart := false }
def ResolveMoreSaid : Prop := resolveMoreRow.holds Tryz.pinned (OpenSpec.ofChange resolveMoreSpec)

/-- ITS FALSE NEIGHBOUR: 'it returns false'. Refute it at one input. -/
def resolveMoreWrong : ChangeSpec := { name := "resolveMore", fn := fun _ => fun
  | [d1, d2, d3] => { results := [.lit (.bool false)], args := [d1, d2, d3] }
  | _ => none }
def ResolveMoreWrongFalsely : Prop := resolveMoreRow.holds Tryz.pinned (OpenSpec.ofChange resolveMoreWrong)

/-- 'colanderlaw18.ResolveTurns': WHATEVER THE INPUT: true; the input reads as it did. -/
def resolveTurnsSpec : ChangeSpec := { name := "resolveTurns", fn := fun _ => fun
  | [d1, d2] => { results := [.lit (.bool true)], args := [d1, d2] }
  | _ => none }
def resolveTurnsRow : OpenClaim := { program := "ytkmbnghghbfkdaagreat", sum := "a057aa6d177763f94783c3afb6f9a740c7703bb132b6fa74b89d0fb61f93f5b4", func := "colander/colanderlaw18.ResolveTurns", spec := "resolveTurns", unfollowed := true, recurses := true, apart := false }
def ResolveTurnsSaid : Prop := resolveTurnsRow.holds Tryz.pinned (OpenSpec.ofChange resolveTurnsSpec)

/-- ITS FALSE NEIGHBOUR: 'it returns false'. Refute it at one input. -/
def resolveTurnsWrong : ChangeSpec := { name := "resolveTurns", fn := fun _ => fun
  | [d1, d2] => { results := [.lit (.bool false)], args := [d1, d2] }
  | _ => none }
def ResolveTurnsWrongFalsely : Prop := resolveTurnsRow.holds Tryz.pinned (OpenSpec.ofChange resolveTurnsWrong)

/-- 'colanderlaw18.ResolveKeys': WHATEVER THE INPUT: true; the input reads as it did. -/
def resolveKeysSpec : ChangeSpec := { name := "resolveKeys", fn := fun _ => fun
  | [d1, d2] => { results := [.lit (.bool true)], args := [d1, d2] }
  | _ => none }
def resolveKeysRow : OpenClaim := { program := "ytkmbnghghbfkdaagreat", sum := "a057aa6d177763f94783c3afb6f9a740c7703bb132b6fa74b89d0fb61f93f5b4", func := "colander/colanderlaw18.ResolveKeys", spec := "resolveKeys", unfollowed := true, recurses := true, apart := false }
def ResolveKeysSaid : Prop := resolveKeysRow.holds Tryz.pinned (OpenSpec.ofChange resolveKeysSpec)

/-- ITS FALSE NEIGHBOUR: 'it returns false'. Refute it at one input. -/
def resolveKeysWrong : ChangeSpec := { name := "resolveKeys", fn := fun _ => fun
  | [d1, d2] => { results := [.lit (.bool false)], args := [d1, d2] }
  | _ => none }
def ResolveKeysWrongFalsely : Prop := resolveKeysRow.holds Tryz.pinned (OpenSpec.ofChange resolveKeysWrong)

/-- 'colanderlaw18.ResolveEdges': WHATEVER THE INPUT: true; the input reads as it did. -/
def resolveEdgesSpec : ChangeSpec := { name := "resolveEdges", fn := fun _ => fun
  | [d] => { results := [.lit (.bool true)], args := [d] }
  | _ => none }
def resolveEdgesRow : OpenClaim := { program := "ytkmbnghghbfkdaagreat", sum := "a057aa6d177763f94783c3afb6f9a740c7703bb132b6fa74b89d0fb61f93f5b4", func := "colander/colanderlaw18.ResolveEdges", spec := "resolveEdges", unfollowed := true, recurses := true, apart := false }
def ResolveEdgesSaid : Prop := resolveEdgesRow.holds Tryz.pinned (OpenSpec.ofChange resolveEdgesSpec)

/-- ITS FALSE NEIGHBOUR: 'it returns false'. Refute it at one input. -/
def resolveEdgesWrong : ChangeSpec := { name := "resolveEdges", fn := fun _ => fun
  | [d] => { results := [.lit (.bool false)], args := [d] }
  | _ => none }
def ResolveEdgesWrongFalsely : Prop := resolveEdgesRow.holds Tryz.pinned (OpenSpec.ofChange resolveEdgesWrong)

/-- 'colanderlaw18.ResolveBack': WHATEVER THE INPUT: true; the input reads as it did. -/
def resolveBackSpec : ChangeSpec := { name := "resolveBack", fn := fun _ => fun
  | [d1, d2, d3] => { results := [.lit (.bool true)], args := [d1, d2, d3] }
  | _ => none }
def resolveBackRow : OpenClaim := { program := "ytkmbnghghbfkdaagreat", sum := "a057aa6d177763f94783c3afb6f9a740c7703bb132b6fa74b89d0fb61f93f5b4", func := "colander/colanderlaw18.ResolveBack", spec := "resolveBack", unfollowed := true, recurses := true, apart := false }
def ResolveBackSaid : Prop := resolveBackRow.holds Tryz.pinned (OpenSpec.ofChange resolveBackSpec)

/-- ITS FALSE NEIGHBOUR: 'it returns false'. Refute it at one input. -/
def resolveBackWrong : ChangeSpec := { name := "resolveBack", fn := fun _ => fun
  | [d1, d2, d3] => { results := [.lit (.bool false)], args := [d1, d2, d3] }
  | _ => none }
def ResolveBackWrongFalsely : Prop := resolveBackRow.holds Tryz.pinned (OpenSpec.ofChange resolveBackWrong)

/- THE SECOND FORM. 'bulk': how many values and letters a reading holds, each counted each time it is reached (what is shared counts as often as it is met; a slice's spare places count too). A statement '..UptoSaid' is the law's where the arguments, and the package variables that the reading takes, are together of bulk at most 1048576: NARROWER than '..Said'. Prove '..Said' where nothing that the law and all that it calls make is longer than what came in: it says more and counts as full. Else prove '..UptoSaid'. A law counts once. -/
mutual
def uptoBulk {H : Type} : DataW H → Nat
  | .lit (.string bytes) => bytes.length + 1
  | .lit _ => 1
  | .nil => 1
  | .ptr d => uptoBulk d + 1
  | .slice elems spare => uptoBulkAll elems + uptoBulkAll spare + 1
  | .agg parts => uptoBulkAll parts + 1
  | .iface _ d => uptoBulk d + 1
  | .map entries => uptoBulkEntries entries + 1
  | .held _ => 1
def uptoBulkAll {H : Type} : List (DataW H) → Nat
  | [] => 0
  | d :: r => uptoBulk d + uptoBulkAll r
def uptoBulkEntries {H : Type} : List (Lit × DataW H) → Nat
  | [] => 0
  | x :: r => uptoBulkEntry x + uptoBulkEntries r
def uptoBulkEntry {H : Type} : Lit × DataW H → Nat
  | (.string bytes, d) => bytes.length + uptoBulk d + 1
  | (_, d) => uptoBulk d + 1
 end
def uptoSmall : (H : Type) → List (DataW H) → Bool := fun _ ds => decide (uptoBulkAll ds ≤ 1048576)
def OpenSpec.upto (s : _root_.Go.ChangeSpec) : _root_.Go.OpenSpec := { _root_.Go.OpenSpec.ofChange s with cond := some uptoSmall }

/-- 'colanderlaw18.ResolveOf', WHERE WHAT IT READS IS OF BULK AT MOST 1048576: true; the input reads as it did. -/
def resolveOfUptoRow : OpenClaim := { program := "ytkmbnghghbfkdaagreat", sum := "a057aa6d177763f94783c3afb6f9a740c7703bb132b6fa74b89d0fb61f93f5b4", func := "colander/colanderlaw18.ResolveOf", spec := "resolveOf", unfollowed := true, recurses := true, apart := false, narrowed := true }
def ResolveOfUptoSaid : Prop := resolveOfUptoRow.holds Tryz.pinned (OpenSpec.upto resolveOfSpec)

/-- 'colanderlaw18.ResolveMore', WHERE WHAT IT READS IS OF BULK AT MOST 1048576: true; the input reads as it did. -/
def resolveMoreUptoRow : OpenClaim := { program := "ytkmbnghghbfkdaagreat", sum := "a057aa6d177763f94783c3afb6f9a740c7703bb132b6fa74b89d0fb61f93f5b4", func := "colander/colanderlaw18.ResolveMore", spec := "resolveMore", unfollowed := true, recurses := true, apart := false, narrowed := true }
def ResolveMoreUptoSaid : Prop := resolveMoreUptoRow.holds Tryz.pinned (OpenSpec.upto resolveMoreSpec)

/-- 'colanderlaw18.ResolveTurns', WHERE WHAT IT READS IS OF BULK AT MOST 1048576: true; the input reads as it did. -/
def resolveTurnsUptoRow : OpenClaim := { program := "ytkmbnghghbfkdaagreat", sum := "a057aa6d177763f94783c3afb6f9a740c7703bb132b6fa74b89d0fb61f93f5b4", func := "colander/colanderlaw18.ResolveTurns", spec := "resolveTurns", unfollowed := true, recurses := true, apart := false, narrowed := true }
def ResolveTurnsUptoSaid : Prop := resolveTurnsUptoRow.holds Tryz.pinned (OpenSpec.upto resolveTurnsSpec)

/-- 'colanderlaw18.ResolveKeys', WHERE WHAT IT READS IS OF BULK AT MOST 1048576: true; the input reads as it did. -/
def resolveKeysUptoRow : OpenClaim := { program := "ytkmbnghghbfkdaagreat", sum := "a057aa6d177763f94783c3afb6f9a740c7703bb132b6fa74b89d0fb61f93f5b4", func := "colander/colanderlaw18.ResolveKeys", spec := "resolveKeys", unfollowed := true, recurses := true, apart := false, narrowed := true }
def ResolveKeysUptoSaid : Prop := resolveKeysUptoRow.holds Tryz.pinned (OpenSpec.upto resolveKeysSpec)

/-- 'colanderlaw18.ResolveEdges', WHERE WHAT IT READS IS OF BULK AT MOST 1048576: true; the input reads as it did. -/
def resolveEdgesUptoRow : OpenClaim := { program := "ytkmbnghghbfkdaagreat", sum := "a057aa6d177763f94783c3afb6f9a740c7703bb132b6fa74b89d0fb61f93f5b4", func := "colander/colanderlaw18.ResolveEdges", spec := "resolveEdges", unfollowed := true, recurses := true, apart := false, narrowed := true }
def ResolveEdgesUptoSaid : Prop := resolveEdgesUptoRow.holds Tryz.pinned (OpenSpec.upto resolveEdgesSpec)

/-- 'colanderlaw18.ResolveBack', WHERE WHAT IT READS IS OF BULK AT MOST 1048576: true; the input reads as it did. -/
def resolveBackUptoRow : OpenClaim := { program := "ytkmbnghghbfkdaagreat", sum := "a057aa6d177763f94783c3afb6f9a740c7703bb132b6fa74b89d0fb61f93f5b4", func := "colander/colanderlaw18.ResolveBack", spec := "resolveBack", unfollowed := true, recurses := true, apart := false, narrowed := true }
def ResolveBackUptoSaid : Prop := resolveBackUptoRow.holds Tryz.pinned (OpenSpec.upto resolveBackSpec)

end Rows
end Go.Proofs.YtkmbnghghbfkdaaGreat
