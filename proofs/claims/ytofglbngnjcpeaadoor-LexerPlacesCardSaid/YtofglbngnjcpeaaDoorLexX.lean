/- Rows of tokens held against one another. -/
import Derived.Test.YtofglbngnjcpeaaDoorToks
import Derived.Laws.StructEq
namespace Go.Proofs.YtofglbngnjcpeaaDoor
set_option maxRecDepth 100000
set_option maxHeartbeats 2000000
set_option linter.unusedVariables false
set_option linter.unusedSimpArgs false
open Go.RowKit

def Tk.eqB (x y : Tk) : Bool := x.kind == y.kind && (x.text.toList == y.text.toList && x.at_ == y.at_)
theorem Tk.eqB_iff (x y : Tk) : x.eqB y = true ↔ x = y := by
  obtain ⟨a, b, c⟩ := x
  obtain ⟨a', b', c'⟩ := y
  unfold Tk.eqB
  rw [Bool.and_eq_true, Bool.and_eq_true, str_beq]
  simp
theorem tk_eql (x y : Tk) (w : World) : (Op.equalIn 10000 28 (.agg #[.int .i64 x.kind, .string x.text, .int .i64 x.at_]) (.agg #[.int .i64 y.kind, .string y.text, .int .i64 y.at_])).run Tryd.prog w = .ok (x.eqB y) w := by
  unfold Tk.eqB
  rw [show (10000 : Nat) = 9999 + 1 from rfl, run_equalIn_struct (P := Tryd.prog) w 9999 28 _ _ (by kernel_rfl) (by kernel_rfl)]
  have hf : (Tryd.prog.fieldsOf 28).toList = _ := congrArg Array.toList (show Tryd.prog.fieldsOf 28 = _ by unfold Program.fieldsOf; rw [Tryd.underlying28])
  rw [hf]
  simp [Op.eqFields, go_sem, run_equalIn_int, run_equalIn_string]
  by_cases h1 : x.kind = y.kind <;> by_cases h2 : x.text.toList = y.text.toList <;> by_cases h3 : x.at_ = y.at_ <;> simp [h1, h2, h3]
theorem tk_neq (x y : Tk) (w : World) : (binOp .neq 28 (.agg #[.int .i64 x.kind, .string x.text, .int .i64 x.at_]) (.agg #[.int .i64 y.kind, .string y.text, .int .i64 y.at_])).run Tryd.prog w = .ok (.bool !(x.eqB y)) w := by
  rw [run_neq_struct, tk_eql]; rfl
theorem tk_eqlB (x y : Tk) (w : World) : (binOp .eql 28 (.agg #[.int .i64 x.kind, .string x.text, .int .i64 x.at_]) (.agg #[.int .i64 y.kind, .string y.text, .int .i64 y.at_])).run Tryd.prog w = .ok (.bool (x.eqB y)) w := by
  rw [run_eql_struct, tk_eql]; rfl

end Go.Proofs.YtofglbngnjcpeaaDoor
