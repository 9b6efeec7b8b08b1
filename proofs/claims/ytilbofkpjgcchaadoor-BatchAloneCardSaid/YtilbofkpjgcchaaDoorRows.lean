/-
  NARROWER THAN 'FOR EVERY INPUT', by the rows' own cells (each row's printed sentence says how): BatchMay: laid · BatchNames: laid · BatchReads: laid · BatchTexts: laid · BatchBack: laid · BatchAlone: laid.
  DERIVED. THE GIVEN ROWS OF THIS SEAT. 6 by the template 'for every input the law returns true; each argument reads behind the call as it read before'; 0 by the template 'total and deterministic' (their statements: YtilbofkpjgcchaaDoorTotals.lean).
  GIVEN WITH THE SEED: the statements are not yours to turn. If you find one false, say at which input.
  Laid BY PROGRAM, IN A SANDBOX (cutbox-rows.mjs): the forced cells as the released guide's own fill.sh prints them over the translation 2f355a78f7202c48… (all of the seat's roots in one cut). By AI agents, Wed Nov 11 2026. No macro, syntax, notation, axiom, sorry.
-/
import Derived.Test.YtilbofkpjgcchaaDoorChecked
import GoSem.PinnedTables
import GoSem.Claim
import GoSem.ClaimJoined
import GoSem.ClaimMapViews
import Derived.JoinedTies
import Derived.KernelRfl
namespace Go.Proofs.YtilbofkpjgcchaaDoor
/- THE CELL 'sum', in the pinned program and in every row, IS THE sha256 OF THE DUMP (.gsa) THAT YtilbofkpjgcchaaDoorProg.lean LOADS. Nothing in Lean hashes anything: it is a label: what it is worth is what the hold of that sum in a sandbox is worth. -/
noncomputable def Tryd.pinned : Pinned := { name := "ytilbofkpjgcchaadoor", sum := "2f355a78f7202c488a347753ca7bfca07e94f979354c18ab9e7c2696028ed024", checked := Tryd.checked }
namespace Rows
def none {H : Type} : Left H := { results := [], args := [] }

/- WHAT THE LISTED PACKAGE-LEVEL VARIABLES READ AS WHEN THE CALL BEGINS. Each datum BY PROGRAM (the guide's laid-datum.mjs) off the statement by which the dump's own 'gosem.cut.vars' lays the variable. In a bare row this is a premise. The card (YtilbofkpjgcchaaDoorCards.lean) ties it to the program's text. -/
def laid_colander_batch_ways {H : Type} : DataW H := .agg [.agg [.lit (.string []), .agg [.lit (.bool false), .lit (.bool false), .lit (.bool false), .lit (.bool false)]], .agg [.lit (.string [97, 100, 100]), .agg [.lit (.bool true), .lit (.bool false), .lit (.bool false), .lit (.bool false)]], .agg [.lit (.string [100, 114, 111, 112]), .agg [.lit (.bool true), .lit (.bool false), .lit (.bool false), .lit (.bool false)]], .agg [.lit (.string [108, 97, 98, 101, 108]), .agg [.lit (.bool true), .lit (.bool true), .lit (.bool false), .lit (.bool false)]], .agg [.lit (.string [117, 110, 108, 97, 98, 101, 108]), .agg [.lit (.bool true), .lit (.bool true), .lit (.bool false), .lit (.bool false)]], .agg [.lit (.string [115, 101, 116]), .agg [.lit (.bool true), .lit (.bool true), .lit (.bool true), .lit (.bool false)]], .agg [.lit (.string [117, 110, 115, 101, 116]), .agg [.lit (.bool true), .lit (.bool true), .lit (.bool false), .lit (.bool false)]], .agg [.lit (.string [108, 105, 110, 107]), .agg [.lit (.bool true), .lit (.bool true), .lit (.bool false), .lit (.bool true)]], .agg [.lit (.string [117, 110, 108, 105, 110, 107]), .agg [.lit (.bool true), .lit (.bool true), .lit (.bool false), .lit (.bool true)]]]
def laid_unicode_utf8_acceptRanges {H : Type} : DataW H := .agg [.agg [.lit (.int .u8 128), .lit (.int .u8 191)], .agg [.lit (.int .u8 160), .lit (.int .u8 191)], .agg [.lit (.int .u8 128), .lit (.int .u8 159)], .agg [.lit (.int .u8 144), .lit (.int .u8 191)], .agg [.lit (.int .u8 128), .lit (.int .u8 143)], .agg [.lit (.int .u8 0), .lit (.int .u8 0)], .agg [.lit (.int .u8 0), .lit (.int .u8 0)], .agg [.lit (.int .u8 0), .lit (.int .u8 0)], .agg [.lit (.int .u8 0), .lit (.int .u8 0)], .agg [.lit (.int .u8 0), .lit (.int .u8 0)], .agg [.lit (.int .u8 0), .lit (.int .u8 0)], .agg [.lit (.int .u8 0), .lit (.int .u8 0)], .agg [.lit (.int .u8 0), .lit (.int .u8 0)], .agg [.lit (.int .u8 0), .lit (.int .u8 0)], .agg [.lit (.int .u8 0), .lit (.int .u8 0)], .agg [.lit (.int .u8 0), .lit (.int .u8 0)]]
/-- One of Go's own tables, pinned by name: the form's constant. -/
def laid_unicode_utf8_first : DataW Unit := Go.Pinned.utf8First

/-- 'colanderlaw09.BatchMay': WHATEVER THE INPUT: true; the input reads as it did. -/
def batchMaySpec : ChangeSpec := { name := "batchMay", fn := fun _ => fun
  | [d1, d2] => { results := [.lit (.bool true)], args := [d1, d2] }
  | _ => none }
def batchMayRow : OpenClaim := { program := "ytilbofkpjgcchaadoor", sum := "2f355a78f7202c488a347753ca7bfca07e94f979354c18ab9e7c2696028ed024", func := "colander/colanderlaw09.BatchMay", spec := "batchMay", inPlace := ["internal/bytealg.IndexByteString", "internal/bytealg.IndexString"], unfollowed := true, recurses := true, named := ["colander/batch.ways", "internal/bytealg.MaxLen"], apart := false, laid := [("colander/batch.ways", laid_colander_batch_ways)] }
def BatchMaySaid : Prop := batchMayRow.holds Tryd.pinned (OpenSpec.ofChange batchMaySpec)

/-- ITS FALSE NEIGHBOUR: 'it returns false'. Refute it at one input. -/
def batchMayWrong : ChangeSpec := { name := "batchMay", fn := fun _ => fun
  | [d1, d2] => { results := [.lit (.bool false)], args := [d1, d2] }
  | _ => none }
def BatchMayWrongFalsely : Prop := batchMayRow.holds Tryd.pinned (OpenSpec.ofChange batchMayWrong)

/-- 'colanderlaw09.BatchNames': WHATEVER THE INPUT: true; the input reads as it did. -/
def batchNamesSpec : ChangeSpec := { name := "batchNames", fn := fun _ => fun
  | [d1, d2] => { results := [.lit (.bool true)], args := [d1, d2] }
  | _ => none }
def batchNamesRow : OpenClaim := { program := "ytilbofkpjgcchaadoor", sum := "2f355a78f7202c488a347753ca7bfca07e94f979354c18ab9e7c2696028ed024", func := "colander/colanderlaw09.BatchNames", spec := "batchNames", inPlace := ["internal/bytealg.IndexByteString", "internal/bytealg.IndexString"], unfollowed := true, recurses := true, named := ["colander/batch.ways", "internal/bytealg.MaxLen"], apart := false, laid := [("colander/batch.ways", laid_colander_batch_ways)] }
def BatchNamesSaid : Prop := batchNamesRow.holds Tryd.pinned (OpenSpec.ofChange batchNamesSpec)

/-- ITS FALSE NEIGHBOUR: 'it returns false'. Refute it at one input. -/
def batchNamesWrong : ChangeSpec := { name := "batchNames", fn := fun _ => fun
  | [d1, d2] => { results := [.lit (.bool false)], args := [d1, d2] }
  | _ => none }
def BatchNamesWrongFalsely : Prop := batchNamesRow.holds Tryd.pinned (OpenSpec.ofChange batchNamesWrong)

/-- 'colanderlaw09.BatchReads': WHATEVER THE INPUT: true; the input reads as it did. -/
def batchReadsSpec : ChangeSpec := { name := "batchReads", fn := fun _ => fun
  | [d] => { results := [.lit (.bool true)], args := [d] }
  | _ => none }
def batchReadsRow : OpenClaim := { program := "ytilbofkpjgcchaadoor", sum := "2f355a78f7202c488a347753ca7bfca07e94f979354c18ab9e7c2696028ed024", func := "colander/colanderlaw09.BatchReads", spec := "batchReads", inPlace := ["internal/bytealg.IndexByteString", "internal/bytealg.IndexString"], unfollowed := true, recurses := true, named := ["colander/batch.ways", "internal/bytealg.MaxLen"], apart := false, laid := [("colander/batch.ways", laid_colander_batch_ways)] }
def BatchReadsSaid : Prop := batchReadsRow.holds Tryd.pinned (OpenSpec.ofChange batchReadsSpec)

/-- ITS FALSE NEIGHBOUR: 'it returns false'. Refute it at one input. -/
def batchReadsWrong : ChangeSpec := { name := "batchReads", fn := fun _ => fun
  | [d] => { results := [.lit (.bool false)], args := [d] }
  | _ => none }
def BatchReadsWrongFalsely : Prop := batchReadsRow.holds Tryd.pinned (OpenSpec.ofChange batchReadsWrong)

/-- 'colanderlaw09.BatchTexts': WHATEVER THE INPUT: true; the input reads as it did. -/
def batchTextsSpec : ChangeSpec := { name := "batchTexts", fn := fun _ => fun
  | [d] => { results := [.lit (.bool true)], args := [d] }
  | _ => none }
def batchTextsRow : OpenClaim := { program := "ytilbofkpjgcchaadoor", sum := "2f355a78f7202c488a347753ca7bfca07e94f979354c18ab9e7c2696028ed024", func := "colander/colanderlaw09.BatchTexts", spec := "batchTexts", inPlace := ["internal/bytealg.IndexByteString", "internal/bytealg.IndexString", "internal/abi.NoEscape"], unfollowed := true, recurses := true, named := ["colander/batch.ways", "internal/bytealg.MaxLen"], apart := false, laid := [("colander/batch.ways", laid_colander_batch_ways)] }
def BatchTextsSaid : Prop := batchTextsRow.holds Tryd.pinned (OpenSpec.ofChange batchTextsSpec)

/-- ITS FALSE NEIGHBOUR: 'it returns false'. Refute it at one input. -/
def batchTextsWrong : ChangeSpec := { name := "batchTexts", fn := fun _ => fun
  | [d] => { results := [.lit (.bool false)], args := [d] }
  | _ => none }
def BatchTextsWrongFalsely : Prop := batchTextsRow.holds Tryd.pinned (OpenSpec.ofChange batchTextsWrong)

/-- 'colanderlaw09.BatchBack': WHATEVER THE INPUT: true; the input reads as it did. -/
def batchBackSpec : ChangeSpec := { name := "batchBack", fn := fun _ => fun
  | [d1, d2] => { results := [.lit (.bool true)], args := [d1, d2] }
  | _ => none }
def batchBackRow : OpenClaim := { program := "ytilbofkpjgcchaadoor", sum := "2f355a78f7202c488a347753ca7bfca07e94f979354c18ab9e7c2696028ed024", func := "colander/colanderlaw09.BatchBack", spec := "batchBack", inPlace := ["internal/bytealg.IndexByteString", "internal/bytealg.IndexString", "internal/abi.NoEscape"], unfollowed := true, recurses := true, named := ["colander/batch.ways", "internal/bytealg.MaxLen"], apart := false, laid := [("colander/batch.ways", laid_colander_batch_ways)] }
def BatchBackSaid : Prop := batchBackRow.holds Tryd.pinned (OpenSpec.ofChange batchBackSpec)

/-- ITS FALSE NEIGHBOUR: 'it returns false'. Refute it at one input. -/
def batchBackWrong : ChangeSpec := { name := "batchBack", fn := fun _ => fun
  | [d1, d2] => { results := [.lit (.bool false)], args := [d1, d2] }
  | _ => none }
def BatchBackWrongFalsely : Prop := batchBackRow.holds Tryd.pinned (OpenSpec.ofChange batchBackWrong)

/-- 'colanderlaw09.BatchAlone': WHATEVER THE INPUT: true; the input reads as it did. -/
def batchAloneSpec : ChangeSpec := { name := "batchAlone", fn := fun _ => fun
  | [d] => { results := [.lit (.bool true)], args := [d] }
  | _ => none }
def batchAloneRow : OpenClaim := { program := "ytilbofkpjgcchaadoor", sum := "2f355a78f7202c488a347753ca7bfca07e94f979354c18ab9e7c2696028ed024", func := "colander/colanderlaw09.BatchAlone", spec := "batchAlone", inPlace := ["internal/bytealg.IndexByteString", "internal/bytealg.IndexString", "internal/bytealg.CountString", "internal/abi.NoEscape", "internal/bytealg.MakeNoZero"], unfollowed := true, recurses := true, named := ["colander/batch.ways", "internal/bytealg.MaxLen", "unicode/utf8.first", "unicode/utf8.acceptRanges"], apart := false, laid := [("unicode/utf8.acceptRanges", laid_unicode_utf8_acceptRanges), ("colander/batch.ways", laid_colander_batch_ways), ("unicode/utf8.first", laid_unicode_utf8_first)] }
def BatchAloneSaid : Prop := batchAloneRow.holds Tryd.pinned (OpenSpec.ofChange batchAloneSpec)

/-- ITS FALSE NEIGHBOUR: 'it returns false'. Refute it at one input. -/
def batchAloneWrong : ChangeSpec := { name := "batchAlone", fn := fun _ => fun
  | [d] => { results := [.lit (.bool false)], args := [d] }
  | _ => none }
def BatchAloneWrongFalsely : Prop := batchAloneRow.holds Tryd.pinned (OpenSpec.ofChange batchAloneWrong)

/- THE SECOND FORM. 'bulk': how many values and letters a reading holds, each counted each time it is reached (what is shared counts as often as it is met; a slice's spare places count too). A statement '..UptoSaid' is the law's where the arguments, and the package variables that the reading takes, are together of bulk at most 1048576: NARROWER than '..Said'. Prove '..Said' where nothing that the law and all that it calls make is longer than what came in: it says more and counts as full. Else prove '..UptoSaid'. A law counts once. -/
mutual
def uptoBulk {H : Type} : DataW H → Nat
  | .lit (.string bytes) => bytes.length + 1
  | .lit _ => 1
  | .nil => 1
  | .ptr d => uptoBulk d + 1
  | .slice elems spare => uptoBulkAll elems + uptoBulkAll spare + 1
  | .agg parts => uptoBulkAll parts + 1
  | .iface _ d => uptoBulk d + 1
  | .map entries => uptoBulkEntries entries + 1
  | .held _ => 1
def uptoBulkAll {H : Type} : List (DataW H) → Nat
  | [] => 0
  | d :: r => uptoBulk d + uptoBulkAll r
def uptoBulkEntries {H : Type} : List (Lit × DataW H) → Nat
  | [] => 0
  | x :: r => uptoBulkEntry x + uptoBulkEntries r
def uptoBulkEntry {H : Type} : Lit × DataW H → Nat
  | (.string bytes, d) => bytes.length + uptoBulk d + 1
  | (_, d) => uptoBulk d + 1
 end
def uptoSmall : (H : Type) → List (DataW H) → Bool := fun _ ds => decide (uptoBulkAll ds ≤ 1048576)
def OpenSpec.upto (s : _root_.Go.ChangeSpec) : _root_.Go.OpenSpec := { _root_.Go.OpenSpec.ofChange s with cond := some uptoSmall }

/-- 'colanderlaw09.BatchMay', WHERE WHAT IT READS IS OF BULK AT MOST 1048576: true; the input reads as it did. -/
def batchMayUptoRow : OpenClaim := { program := "ytilbofkpjgcchaadoor", sum := "2f355a78f7202c488a347753ca7bfca07e94f979354c18ab9e7c2696028ed024", func := "colander/colanderlaw09.BatchMay", spec := "batchMay", inPlace := ["internal/bytealg.IndexByteString", "internal/bytealg.IndexString"], unfollowed := true, recurses := true, named := ["colander/batch.ways", "internal/bytealg.MaxLen"], apart := false, laid := [("colander/batch.ways", laid_colander_batch_ways)], narrowed := true }
def BatchMayUptoSaid : Prop := batchMayUptoRow.holds Tryd.pinned (OpenSpec.upto batchMaySpec)

/-- 'colanderlaw09.BatchNames', WHERE WHAT IT READS IS OF BULK AT MOST 1048576: true; the input reads as it did. -/
def batchNamesUptoRow : OpenClaim := { program := "ytilbofkpjgcchaadoor", sum := "2f355a78f7202c488a347753ca7bfca07e94f979354c18ab9e7c2696028ed024", func := "colander/colanderlaw09.BatchNames", spec := "batchNames", inPlace := ["internal/bytealg.IndexByteString", "internal/bytealg.IndexString"], unfollowed := true, recurses := true, named := ["colander/batch.ways", "internal/bytealg.MaxLen"], apart := false, laid := [("colander/batch.ways", laid_colander_batch_ways)], narrowed := true }
def BatchNamesUptoSaid : Prop := batchNamesUptoRow.holds Tryd.pinned (OpenSpec.upto batchNamesSpec)

/-- 'colanderlaw09.BatchReads', WHERE WHAT IT READS IS OF BULK AT MOST 1048576: true; the input reads as it did. -/
def batchReadsUptoRow : OpenClaim := { program := "ytilbofkpjgcchaadoor", sum := "2f355a78f7202c488a347753ca7bfca07e94f979354c18ab9e7c2696028ed024", func := "colander/colanderlaw09.BatchReads", spec := "batchReads", inPlace := ["internal/bytealg.IndexByteString", "internal/bytealg.IndexString"], unfollowed := true, recurses := true, named := ["colander/batch.ways", "internal/bytealg.MaxLen"], apart := false, laid := [("colander/batch.ways", laid_colander_batch_ways)], narrowed := true }
def BatchReadsUptoSaid : Prop := batchReadsUptoRow.holds Tryd.pinned (OpenSpec.upto batchReadsSpec)

/-- 'colanderlaw09.BatchTexts', WHERE WHAT IT READS IS OF BULK AT MOST 1048576: true; the input reads as it did. -/
def batchTextsUptoRow : OpenClaim := { program := "ytilbofkpjgcchaadoor", sum := "2f355a78f7202c488a347753ca7bfca07e94f979354c18ab9e7c2696028ed024", func := "colander/colanderlaw09.BatchTexts", spec := "batchTexts", inPlace := ["internal/bytealg.IndexByteString", "internal/bytealg.IndexString", "internal/abi.NoEscape"], unfollowed := true, recurses := true, named := ["colander/batch.ways", "internal/bytealg.MaxLen"], apart := false, laid := [("colander/batch.ways", laid_colander_batch_ways)], narrowed := true }
def BatchTextsUptoSaid : Prop := batchTextsUptoRow.holds Tryd.pinned (OpenSpec.upto batchTextsSpec)

/-- 'colanderlaw09.BatchBack', WHERE WHAT IT READS IS OF BULK AT MOST 1048576: true; the input reads as it did. -/
def batchBackUptoRow : OpenClaim := { program := "ytilbofkpjgcchaadoor", sum := "2f355a78f7202c488a347753ca7bfca07e94f979354c18ab9e7c2696028ed024", func := "colander/colanderlaw09.BatchBack", spec := "batchBack", inPlace := ["internal/bytealg.IndexByteString", "internal/bytealg.IndexString", "internal/abi.NoEscape"], unfollowed := true, recurses := true, named := ["colander/batch.ways", "internal/bytealg.MaxLen"], apart := false, laid := [("colander/batch.ways", laid_colander_batch_ways)], narrowed := true }
def BatchBackUptoSaid : Prop := batchBackUptoRow.holds Tryd.pinned (OpenSpec.upto batchBackSpec)

/-- 'colanderlaw09.BatchAlone', WHERE WHAT IT READS IS OF BULK AT MOST 1048576: true; the input reads as it did. -/
def batchAloneUptoRow : OpenClaim := { program := "ytilbofkpjgcchaadoor", sum := "2f355a78f7202c488a347753ca7bfca07e94f979354c18ab9e7c2696028ed024", func := "colander/colanderlaw09.BatchAlone", spec := "batchAlone", inPlace := ["internal/bytealg.IndexByteString", "internal/bytealg.IndexString", "internal/bytealg.CountString", "internal/abi.NoEscape", "internal/bytealg.MakeNoZero"], unfollowed := true, recurses := true, named := ["colander/batch.ways", "internal/bytealg.MaxLen", "unicode/utf8.first", "unicode/utf8.acceptRanges"], apart := false, laid := [("unicode/utf8.acceptRanges", laid_unicode_utf8_acceptRanges), ("colander/batch.ways", laid_colander_batch_ways), ("unicode/utf8.first", laid_unicode_utf8_first)], narrowed := true }
def BatchAloneUptoSaid : Prop := batchAloneUptoRow.holds Tryd.pinned (OpenSpec.upto batchAloneSpec)

end Rows
end Go.Proofs.YtilbofkpjgcchaaDoor
