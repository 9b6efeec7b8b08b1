/- Rows of tokens held against one another. -/
import Derived.Test.YtofglbngnjcpeaaToks
import Derived.Laws.StructEq
namespace Go.Proofs.Ytofglbngnjcpeaa
set_option maxRecDepth 100000
set_option maxHeartbeats 2000000
set_option linter.unusedVariables false
set_option linter.unusedSimpArgs false
open Go.RowKit

def Tk.eqB (x y : Tk) : Bool := x.kind == y.kind && (x.text.toList == y.text.toList && x.at_ == y.at_)
theorem Tk.eqB_iff (x y : Tk) : x.eqB y = true ↔ x = y := by
  obtain ⟨a, b, c⟩ := x
  obtain ⟨a', b', c'⟩ := y
  unfold Tk.eqB
  rw [Bool.and_eq_true, Bool.and_eq_true, str_beq]
  simp
theorem tk_eql (x y : Tk) (w : World) : (Op.equalIn 10000 29 (.agg #[.int .i64 x.kind, .string x.text, .int .i64 x.at_]) (.agg #[.int .i64 y.kind, .string y.text, .int .i64 y.at_])).run Try.prog w = .ok (x.eqB y) w := by
  unfold Tk.eqB
  rw [show (10000 : Nat) = 9999 + 1 from rfl, run_equalIn_struct (P := Try.prog) w 9999 29 _ _ (by kernel_rfl) (by kernel_rfl)]
  have hf : (Try.prog.fieldsOf 29).toList = _ := congrArg Array.toList (show Try.prog.fieldsOf 29 = _ by unfold Program.fieldsOf; rw [Try.underlying29])
  rw [hf]
  simp [Op.eqFields, go_sem, run_equalIn_int, run_equalIn_string]
  by_cases h1 : x.kind = y.kind <;> by_cases h2 : x.text.toList = y.text.toList <;> by_cases h3 : x.at_ = y.at_ <;> simp [h1, h2, h3]
theorem tk_neq (x y : Tk) (w : World) : (binOp .neq 29 (.agg #[.int .i64 x.kind, .string x.text, .int .i64 x.at_]) (.agg #[.int .i64 y.kind, .string y.text, .int .i64 y.at_])).run Try.prog w = .ok (.bool !(x.eqB y)) w := by
  rw [run_neq_struct, tk_eql]; rfl
theorem tk_eqlB (x y : Tk) (w : World) : (binOp .eql 29 (.agg #[.int .i64 x.kind, .string x.text, .int .i64 x.at_]) (.agg #[.int .i64 y.kind, .string y.text, .int .i64 y.at_])).run Try.prog w = .ok (.bool (x.eqB y)) w := by
  rw [run_eql_struct, tk_eql]; rfl

theorem eqToks_yes (v u : Value) (l : List Tk) (w : World) (hv : Toks w v l) (hu : Toks w u l) :
    Calls Try.prog 10 #[v, u] w fun e w' => e = .returned (.bool true) ∧ Ext w w' := by
  obtain ⟨a, c, rfl, hc1, hc2⟩ := hv.shape
  obtain ⟨a', c', rfl, hc1', hc2'⟩ := hu.shape
  have HV := Lib.hid hv
  have HU := Lib.hid hu
  clear hv hu
  go_enter Try.func10, Try.ntmps10
  go_wp2_with fail
  go_loopg [13] l.length (fun g i wr => ∃ k : Nat, k ≤ l.length ∧ g = l.length - k ∧ i = .int .i64 k ∧ Ext w wr)
  case atStart => exact ⟨0, Nat.zero_le _, rfl, rfl, Ext.refl _⟩
  case round =>
    obtain ⟨k, hk, hg, rfl, hx⟩ := hrel
    have Hg := Lib.hid hg
    clear hg
    by_cases hlt : k < l.length
    · obtain ⟨b, o, rfl, c0, c1, c2⟩ := (HV.out.ext hx).at_ hlt
      obtain ⟨b', o', rfl, d0, d1, d2⟩ := (HU.out.ext hx).at_ hlt
      generalize l[k] = x at *
      have hq := fun w => tk_neq x x w
      rw [(x.eqB_iff x).2 rfl] at hq
      rw [Bool.not_true] at hq
      go_wp2_with fail
      go_quiet (fail)
      go_wp2_with fail
      go_roundg (l.length - (k + 1))
      case measure => have := Hg.out; omega
      case rel => exact ⟨k + 1, by omega, rfl, by go_num, (by repeat (first | exact Ext.refl _ | with_reducible refine Ext.alloc_of ?_ _ | with_reducible refine Ext.drewN_of ?_ _ | with_reducible refine Ext.drew_of ?_ | (with_reducible refine Ext.set_of ?_ ?hsz _; case hsz => ((first | exact Nat.le_refl _ | omega | (simp; omega)))) | with_reducible refine Ext.via (by assumption) ?_))⟩
    · go_wp2_with fail
      go_ret
      exact ⟨rfl, (by repeat (first | exact Ext.refl _ | with_reducible refine Ext.alloc_of ?_ _ | with_reducible refine Ext.drewN_of ?_ _ | with_reducible refine Ext.drew_of ?_ | (with_reducible refine Ext.set_of ?_ ?hsz _; case hsz => ((first | exact Nat.le_refl _ | omega | (simp; omega)))) | with_reducible refine Ext.via (by assumption) ?_))⟩
end Go.Proofs.Ytofglbngnjcpeaa
