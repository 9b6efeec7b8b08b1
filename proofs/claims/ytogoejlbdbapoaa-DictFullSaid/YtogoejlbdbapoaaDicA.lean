/- Names of kinds. -/
import Derived.Test.YtogoejlbdbapoaaLexP
import Derived.Test.YtogoejlbdbapoaaMix
import Derived.Test.YtogoejlbdbapoaaKit
import Derived.Test.YtogoejlbdbapoaaProg
import Derived.Laws.RangeAny
namespace Go.Proofs.Ytogoejlbdbapoaa
set_option maxRecDepth 100000
set_option maxHeartbeats 2000000
set_option linter.unusedVariables false
set_option linter.unusedSimpArgs false
open Go.RowKit

theorem high_letter (c : Int) (h : 128 ≤ c) : letterC c = false := by unfold letterC; exact decide_eq_false (by omega)
theorem high_quoted (c : Int) (h : 128 ≤ c) : quotedC c = false := by unfold quotedC; exact decide_eq_false (by omega)
def allB (p : Int → Bool) (lo hi : Nat) (l : List UInt8) : Bool := decide (spanL p l = l.length) && (decide (lo ≤ l.length) && decide (l.length ≤ hi))
def nameB (l : List UInt8) : Bool := allB letterC 1 32 l
def worthB (l : List UInt8) : Bool := allB quotedC 0 40 l
def mayB (k : Int) (l : List UInt8) : Bool := decide (0 ≤ k) && (decide (k ≤ 4) && (if k = 4 then worthB l else nameB l))
theorem plain_any (c : Int) (w : World) : Calls Try.prog 66 #[.int .i32 c] w fun e w' => e = .returned (.bool (letterC c)) ∧ w = w' := by
  go_enter Try.func66, Try.ntmps66
  go_wp2
  all_goals (go_ret; exact ⟨ret_bool (by unfold letterC; rw [Bool.eq_iff_iff]; simp; try omega), rfl⟩)
theorem worth_any (c : Int) (w : World) : Calls Try.prog 67 #[.int .i32 c] w fun e w' => e = .returned (.bool (quotedC c)) ∧ w = w' := by
  go_enter Try.func67, Try.ntmps67
  go_wp2
  all_goals (go_ret; exact ⟨ret_bool (by unfold quotedC; rw [Bool.eq_iff_iff]; simp; try omega), rfl⟩)
theorem known_any (k : Int) (w : World) : Calls Try.prog 45 #[.int .i64 k] w fun e w' => e = .returned (.bool (decide (0 ≤ k) && decide (k < 5))) ∧ w = w' := by
  go_enter Try.func45, Try.ntmps45
  go_wp2
  all_goals (go_ret; exact ⟨ret_bool (by rw [Bool.eq_iff_iff]; simp; try omega), rfl⟩)
/-- What the kinds ask for, as it lies in memory. -/
def rulesV : Value := .agg #[.int .i64 1, .int .i64 32, .func (.func 66) #[] #[], .int .i64 1, .int .i64 32, .func (.func 66) #[] #[], .int .i64 1, .int .i64 32, .func (.func 66) #[] #[], .int .i64 1, .int .i64 32, .func (.func 66) #[] #[], .int .i64 0, .int .i64 40, .func (.func 67) #[] #[]]
theorem rules_any (w : World) : Calls Try.prog 46 #[] w fun e w' => e = .returned rulesV ∧ Ext w w' := by
  go_enter Try.func46, Try.ntmps46
  go_wp2_with fail
  exact bodyPost_ret (v := rulesV) (by simp [results, Try.results46, go_sem, rulesV]) rfl ⟨rfl, Ext.alloc _ _⟩
end Go.Proofs.Ytogoejlbdbapoaa
