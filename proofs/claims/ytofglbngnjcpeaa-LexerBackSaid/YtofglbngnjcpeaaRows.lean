/-
  No cell of these rows narrows 'for every input' (looked for: loops, veiled, ifaces, maps, wideKeys, modest, calm, conditions, laid).
  DERIVED. THE GIVEN ROWS OF THIS SEAT. 4 by the template 'for every input the law returns true; each argument reads behind the call as it read before'; 0 by the template 'total and deterministic' (their statements: YtofglbngnjcpeaaTotals.lean).
  GIVEN WITH THE SEED: the statements are not yours to turn. If you find one false, say at which input.
  Laid BY PROGRAM, IN A SANDBOX (cutbox-rows.mjs): the forced cells as the released guide's own fill.sh prints them over the translation 1864c90ef4b2eba3… (all of the seat's roots in one cut). By AI agents, Wed Nov 11 2026. No macro, syntax, notation, axiom, sorry.
-/
import Derived.Test.YtofglbngnjcpeaaChecked
import GoSem.Claim
import GoSem.ClaimJoined
import GoSem.ClaimMapViews
import Derived.JoinedTies
import Derived.KernelRfl
namespace Go.Proofs.Ytofglbngnjcpeaa
/- THE CELL 'sum', in the pinned program and in every row, IS THE sha256 OF THE DUMP (.gsa) THAT YtofglbngnjcpeaaProg.lean LOADS. Nothing in Lean hashes anything: it is a label: what it is worth is what the hold of that sum in a sandbox is worth. -/
noncomputable def Try.pinned : Pinned := { name := "ytofglbngnjcpeaa", sum := "1864c90ef4b2eba368e5c94feb203dc9dc3cbed4bb893d34855c49e761dc8b16", checked := Try.checked }
namespace Rows
def none {H : Type} : Left H := { results := [], args := [] }

/-- 'colanderlaw15.LexerReads': WHATEVER THE INPUT: true; the input reads as it did. -/
def lexerReadsSpec : ChangeSpec := { name := "lexerReads", fn := fun _ => fun
  | [d] => { results := [.lit (.bool true)], args := [d] }
  | _ => none }
def lexerReadsRow : OpenClaim := { program := "ytofglbngnjcpeaa", sum := "1864c90ef4b2eba368e5c94feb203dc9dc3cbed4bb893d34855c49e761dc8b16", func := "colander/colanderlaw15.LexerReads", spec := "lexerReads", unfollowed := true, recurses := true, apart := false }
def LexerReadsSaid : Prop := lexerReadsRow.holds Try.pinned (OpenSpec.ofChange lexerReadsSpec)

/-- ITS FALSE NEIGHBOUR: 'it returns false'. Refute it at one input. -/
def lexerReadsWrong : ChangeSpec := { name := "lexerReads", fn := fun _ => fun
  | [d] => { results := [.lit (.bool false)], args := [d] }
  | _ => none }
def LexerReadsWrongFalsely : Prop := lexerReadsRow.holds Try.pinned (OpenSpec.ofChange lexerReadsWrong)

/-- 'colanderlaw15.LexerBlanks': WHATEVER THE INPUT: true; the input reads as it did. -/
def lexerBlanksSpec : ChangeSpec := { name := "lexerBlanks", fn := fun _ => fun
  | [d1, d2] => { results := [.lit (.bool true)], args := [d1, d2] }
  | _ => none }
def lexerBlanksRow : OpenClaim := { program := "ytofglbngnjcpeaa", sum := "1864c90ef4b2eba368e5c94feb203dc9dc3cbed4bb893d34855c49e761dc8b16", func := "colander/colanderlaw15.LexerBlanks", spec := "lexerBlanks", unfollowed := true, recurses := true, apart := false }
def LexerBlanksSaid : Prop := lexerBlanksRow.holds Try.pinned (OpenSpec.ofChange lexerBlanksSpec)

/-- ITS FALSE NEIGHBOUR: 'it returns false'. Refute it at one input. -/
def lexerBlanksWrong : ChangeSpec := { name := "lexerBlanks", fn := fun _ => fun
  | [d1, d2] => { results := [.lit (.bool false)], args := [d1, d2] }
  | _ => none }
def LexerBlanksWrongFalsely : Prop := lexerBlanksRow.holds Try.pinned (OpenSpec.ofChange lexerBlanksWrong)

/-- 'colanderlaw15.LexerTells': WHATEVER THE INPUT: true; the input reads as it did. -/
def lexerTellsSpec : ChangeSpec := { name := "lexerTells", fn := fun _ => fun
  | [d1, d2] => { results := [.lit (.bool true)], args := [d1, d2] }
  | _ => none }
def lexerTellsRow : OpenClaim := { program := "ytofglbngnjcpeaa", sum := "1864c90ef4b2eba368e5c94feb203dc9dc3cbed4bb893d34855c49e761dc8b16", func := "colander/colanderlaw15.LexerTells", spec := "lexerTells", inPlace := ["internal/abi.NoEscape", "internal/bytealg.MakeNoZero"], unfollowed := true, recurses := true, apart := false }
def LexerTellsSaid : Prop := lexerTellsRow.holds Try.pinned (OpenSpec.ofChange lexerTellsSpec)

/-- ITS FALSE NEIGHBOUR: 'it returns false'. Refute it at one input. -/
def lexerTellsWrong : ChangeSpec := { name := "lexerTells", fn := fun _ => fun
  | [d1, d2] => { results := [.lit (.bool false)], args := [d1, d2] }
  | _ => none }
def LexerTellsWrongFalsely : Prop := lexerTellsRow.holds Try.pinned (OpenSpec.ofChange lexerTellsWrong)

/-- 'colanderlaw15.LexerBack': WHATEVER THE INPUT: true; the input reads as it did. -/
def lexerBackSpec : ChangeSpec := { name := "lexerBack", fn := fun _ => fun
  | [d1, d2] => { results := [.lit (.bool true)], args := [d1, d2] }
  | _ => none }
def lexerBackRow : OpenClaim := { program := "ytofglbngnjcpeaa", sum := "1864c90ef4b2eba368e5c94feb203dc9dc3cbed4bb893d34855c49e761dc8b16", func := "colander/colanderlaw15.LexerBack", spec := "lexerBack", inPlace := ["internal/abi.NoEscape", "internal/bytealg.MakeNoZero"], unfollowed := true, recurses := true, apart := false }
def LexerBackSaid : Prop := lexerBackRow.holds Try.pinned (OpenSpec.ofChange lexerBackSpec)

/-- ITS FALSE NEIGHBOUR: 'it returns false'. Refute it at one input. -/
def lexerBackWrong : ChangeSpec := { name := "lexerBack", fn := fun _ => fun
  | [d1, d2] => { results := [.lit (.bool false)], args := [d1, d2] }
  | _ => none }
def LexerBackWrongFalsely : Prop := lexerBackRow.holds Try.pinned (OpenSpec.ofChange lexerBackWrong)

/- THE SECOND FORM. 'bulk': how many values and letters a reading holds, each counted each time it is reached (what is shared counts as often as it is met; a slice's spare places count too). A statement '..UptoSaid' is the law's where the arguments, and the package variables that the reading takes, are together of bulk at most 1048576: NARROWER than '..Said'. Prove '..Said' where nothing that the law and all that it calls make is longer than what came in: it says more and counts as full. Else prove '..UptoSaid'. A law counts once. -/
mutual
def uptoBulk {H : Type} : DataW H → Nat
  | .lit (.string bytes) => bytes.length + 1
  | .lit _ => 1
  | .nil => 1
  | .ptr d => uptoBulk d + 1
  | .slice elems spare => uptoBulkAll elems + uptoBulkAll spare + 1
  | .agg parts => uptoBulkAll parts + 1
  | .iface _ d => uptoBulk d + 1
  | .map entries => uptoBulkEntries entries + 1
  | .held _ => 1
def uptoBulkAll {H : Type} : List (DataW H) → Nat
  | [] => 0
  | d :: r => uptoBulk d + uptoBulkAll r
def uptoBulkEntries {H : Type} : List (Lit × DataW H) → Nat
  | [] => 0
  | x :: r => uptoBulkEntry x + uptoBulkEntries r
def uptoBulkEntry {H : Type} : Lit × DataW H → Nat
  | (.string bytes, d) => bytes.length + uptoBulk d + 1
  | (_, d) => uptoBulk d + 1
 end
def uptoSmall : (H : Type) → List (DataW H) → Bool := fun _ ds => decide (uptoBulkAll ds ≤ 1048576)
def OpenSpec.upto (s : _root_.Go.ChangeSpec) : _root_.Go.OpenSpec := { _root_.Go.OpenSpec.ofChange s with cond := some uptoSmall }

/-- 'colanderlaw15.LexerReads', WHERE WHAT IT READS IS OF BULK AT MOST 1048576: true; the input reads as it did. -/
def lexerReadsUptoRow : OpenClaim := { program := "ytofglbngnjcpeaa", sum := "1864c90ef4b2eba368e5c94feb203dc9dc3cbed4bb893d34855c49e761dc8b16", func := "colander/colanderlaw15.LexerReads", spec := "lexerReads", unfollowed := true, recurses := true, apart := false, narrowed := true }
def LexerReadsUptoSaid : Prop := lexerReadsUptoRow.holds Try.pinned (OpenSpec.upto lexerReadsSpec)

/-- 'colanderlaw15.LexerBlanks', WHERE WHAT IT READS IS OF BULK AT MOST 1048576: true; the input reads as it did. -/
def lexerBlanksUptoRow : OpenClaim := { program := "ytofglbngnjcpeaa", sum := "1864c90ef4b2eba368e5c94feb203dc9dc3cbed4bb893d34855c49e761dc8b16", func := "colander/colanderlaw15.LexerBlanks", spec := "lexerBlanks", unfollowed := true, recurses := true, apart := false, narrowed := true }
def LexerBlanksUptoSaid : Prop := lexerBlanksUptoRow.holds Try.pinned (OpenSpec.upto lexerBlanksSpec)

/-- 'colanderlaw15.LexerTells', WHERE WHAT IT READS IS OF BULK AT MOST 1048576: true; the input reads as it did. -/
def lexerTellsUptoRow : OpenClaim := { program := "ytofglbngnjcpeaa", sum := "1864c90ef4b2eba368e5c94feb203dc9dc3cbed4bb893d34855c49e761dc8b16", func := "colander/colanderlaw15.LexerTells", spec := "lexerTells", inPlace := ["internal/abi.NoEscape", "internal/bytealg.MakeNoZero"], unfollowed := true, recurses := true, apart := false, narrowed := true }
def LexerTellsUptoSaid : Prop := lexerTellsUptoRow.holds Try.pinned (OpenSpec.upto lexerTellsSpec)

/-- 'colanderlaw15.LexerBack', WHERE WHAT IT READS IS OF BULK AT MOST 1048576: true; the input reads as it did. -/
def lexerBackUptoRow : OpenClaim := { program := "ytofglbngnjcpeaa", sum := "1864c90ef4b2eba368e5c94feb203dc9dc3cbed4bb893d34855c49e761dc8b16", func := "colander/colanderlaw15.LexerBack", spec := "lexerBack", inPlace := ["internal/abi.NoEscape", "internal/bytealg.MakeNoZero"], unfollowed := true, recurses := true, apart := false, narrowed := true }
def LexerBackUptoSaid : Prop := lexerBackUptoRow.holds Try.pinned (OpenSpec.upto lexerBackSpec)

end Rows
end Go.Proofs.Ytofglbngnjcpeaa
