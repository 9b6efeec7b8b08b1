/- The reference's Begin: the token that it takes a text to begin with. -/
import Derived.Test.YtofglbngnjcpeaaDoorLexU
import Derived.Test.YtofglbngnjcpeaaDoorLexF
import Derived.Test.YtofglbngnjcpeaaDoorLexQ
import Derived.Deep.CutBlock
namespace Go.Proofs.YtofglbngnjcpeaaDoor
set_option maxRecDepth 100000
set_option maxHeartbeats 2000000
set_option linter.unusedVariables false
set_option linter.unusedSimpArgs false
open Go.RowKit

/-- The reference's Begin has its candidate in a box. -/
structure CandAt (w : World) (k : Int) (l : List UInt8) (W : World) : Prop where
  below : Below w.heap.size w W
  res : RowAt W w.heap.size 28 [.int .i64 0, .string ⟨#[]⟩, .int .i64 0]
  box : RowAt W (w.heap.size + 1) 28 [.int .i64 k, .string (txt l), .int .i64 0]
theorem CandAt.new (w : World) : CandAt w 0 [] ((w.alloc (.cells #[.int .i64 0, .string ⟨#[]⟩, .int .i64 0] 28)).alloc (.cells #[.int .i64 0, .string ⟨#[]⟩, .int .i64 0] 28)) :=
  ⟨(show Ext w _ from (by repeat (first | exact Ext.refl _ | with_reducible assumption | with_reducible refine Ext.alloc_of ?_ _ | with_reducible refine Ext.drewN_of ?_ _ | with_reducible refine Ext.drew_of ?_ | (with_reducible refine Ext.set_of ?_ ?hsz _; case hsz => ((first | exact Nat.le_refl _ | omega | (simp; omega)))) | with_reducible refine Ext.via (by assumption) ?_))), (RowAt.new w _ [.int .i64 0, .string ⟨#[]⟩, .int .i64 0]).ext (Ext.alloc _ _), row_at (by simp)⟩
theorem CandAt.ext {w W W' : World} {k : Int} {l : List UInt8} (h : CandAt w k l W) (hx : Ext W W') : CandAt w k l W' := ⟨Below.ext h.below hx h.below.size, h.res.ext hx, h.box.ext hx⟩
theorem CandAt.set {w W : World} {k : Int} {l : List UInt8} (h : CandAt w k l W) (k' : Int) (l' : List UInt8) : CandAt w k' l' (((W.setCell ⟨w.heap.size + 1, 0, none⟩ (.int .i64 k')).setCell ⟨w.heap.size + 1, 1, none⟩ (.string (txt l'))).setCell ⟨w.heap.size + 1, 2, none⟩ (.int .i64 0)) :=
  ⟨((h.below.setCell (p := ⟨w.heap.size + 1, 0, none⟩) (Nat.le_succ _) _).setCell (p := ⟨w.heap.size + 1, 1, none⟩) (Nat.le_succ _) _).setCell (p := ⟨w.heap.size + 1, 2, none⟩) (Nat.le_succ _) _,
    ((h.res.kept (grown_set _ _ 0 _) (fun e => by have := Option.some.inj e; omega)).kept (grown_set _ _ 1 _) (fun e => by have := Option.some.inj e; omega)).kept (grown_set _ _ 2 _) (fun e => by have := Option.some.inj e; omega),
    ((h.box.set 0 _).set 1 _).set 2 _⟩

/-- The reference's token that a text begins with. -/
def begR (l : List UInt8) : Beg := if rightB (candR l).1 (candR l).2 0 && (standsL (candR l).1 (candR l).2).isPrefixOf l then ((candR l).1, (candR l).2, (standsL (candR l).1 (candR l).2).length) else begNo
end Go.Proofs.YtofglbngnjcpeaaDoor
