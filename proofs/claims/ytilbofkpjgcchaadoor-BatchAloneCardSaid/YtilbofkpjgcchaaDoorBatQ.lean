/- The change that a line says: plain. -/
import Derived.Test.YtilbofkpjgcchaaDoorBatE
namespace Go.Proofs.YtilbofkpjgcchaaDoor
set_option maxRecDepth 100000
set_option maxHeartbeats 2000000
set_option linter.unusedVariables false
set_option linter.unusedSimpArgs false
open Go.RowKit

def trimQ (s : ByteArray) : ByteArray := txt (Lib.trimSuffix (bts (txt (Lib.trimPrefix (bts s) [34]))) [34])
/-- A field is read off what is left. -/
def stepF (i : Nat) (q : Bool) (x : Ch × ByteArray) : Ch × ByteArray := if q then (if i = 2 then (x.1.put 2 (trimQ x.2), ⟨#[]⟩) else (x.1.put i (cut1 x.2), cut2 x.2)) else x
def fromF (q0 q1 q2 q3 : Bool) : Nat → Ch × ByteArray → Ch × ByteArray
  | 0, x => stepF 3 q3 (stepF 2 q2 (stepF 1 q1 (stepF 0 q0 x)))
  | 1, x => stepF 3 q3 (stepF 2 q2 (stepF 1 q1 x))
  | 2, x => stepF 3 q3 (stepF 2 q2 x)
  | 3, x => stepF 3 q3 x
  | _, x => x
/-- The kind that a word says; 0: none. -/
def kindL (l : List UInt8) : Nat := if l = wordOf 1 then 1 else if l = wordOf 2 then 2 else if l = wordOf 3 then 3 else if l = wordOf 4 then 4 else if l = wordOf 5 then 5 else if l = wordOf 6 then 6 else if l = wordOf 7 then 7 else if l = wordOf 8 then 8 else 0
theorem kindL_le (l : List UInt8) : kindL l ≤ 8 := by unfold kindL; (repeat' split) <;> omega
theorem kindL_word {k : Nat} (h1 : 1 ≤ k) (h8 : k ≤ 8) : kindL (wordOf k) = k := by
  have h : k = 1 ∨ k = 2 ∨ k = 3 ∨ k = 4 ∨ k = 5 ∨ k = 6 ∨ k = 7 ∨ k = 8 := by omega
  rcases h with rfl | rfl | rfl | rfl | rfl | rfl | rfl | rfl <;> decide
theorem word_kindL {l : List UInt8} {k : Nat} (h : kindL l = k) (h0 : k ≠ 0) : wordOf k = l := by
  unfold kindL at h
  repeat' (split at h; (next e => (subst h; exact e.symm)))
  exact absurd h.symm h0
def parseC (s : ByteArray) : Ch := if kindL (bts (cut1 s)) = 0 then Ch.none else
  (fromF (hasOf (kindL (bts (cut1 s))) 0) (hasOf (kindL (bts (cut1 s))) 1) (hasOf (kindL (bts (cut1 s))) 2) (hasOf (kindL (bts (cut1 s))) 3) 0 (⟨kindL (bts (cut1 s)), ⟨#[]⟩, ⟨#[]⟩, ⟨#[]⟩, ⟨#[]⟩⟩, cut2 s)).1
/-- A line says its change; else it says none. -/
def saysB (s : ByteArray) : Bool := okC (parseC s) && decide (lineL (parseC s) = bts s)
theorem cut1_size (s : ByteArray) : (cut1 s).size ≤ s.size := by
  have := congrArg List.length (bts_cut1 s); rw [bts_len, List.length_take, bts_len] at this; omega
theorem cut2_size (s : ByteArray) : (cut2 s).size ≤ s.size := by
  have := congrArg List.length (bts_cut2 s); rw [bts_len, List.length_drop, bts_len] at this; omega
theorem tp_len (l p : List UInt8) : (Lib.trimPrefix l p).length ≤ l.length := by unfold Lib.trimPrefix; split <;> simp
theorem ts_len (l p : List UInt8) : (Lib.trimSuffix l p).length ≤ l.length := by unfold Lib.trimSuffix; split <;> simp <;> omega
theorem trimQ_size (s : ByteArray) : (trimQ s).size ≤ s.size := by
  unfold trimQ
  rw [txt_size, bts_txt]
  have h1 := ts_len (Lib.trimPrefix (bts s) [34]) [34]
  have h2 := tp_len (bts s) [34]
  rw [bts_len] at h2; omega
/-- Nothing is longer than the text. -/
def Ch.Small (c : Ch) (n : Nat) : Prop := c.key.size ≤ n ∧ c.name.size ≤ n ∧ c.val.size ≤ n ∧ c.to_.size ≤ n
theorem stepF_small {i : Nat} {q : Bool} {x : Ch × ByteArray} {n : Nat} (h : x.1.Small n) (hr : x.2.size ≤ n) : (stepF i q x).1.Small n ∧ (stepF i q x).2.size ≤ n := by
  obtain ⟨c, r⟩ := x
  obtain ⟨h0, h1, h2, h3⟩ := h
  dsimp only at *
  unfold stepF
  have a1 := cut1_size r
  have a2 := cut2_size r
  have a3 := trimQ_size r
  split
  · split
    · exact ⟨⟨h0, h1, by show (trimQ r).size ≤ n; omega, h3⟩, Nat.zero_le _⟩
    · refine ⟨?_, by show (cut2 r).size ≤ n; omega⟩
      show (c.put i (cut1 r)).Small n
      unfold Ch.put Ch.Small
      split <;> exact ⟨by first | assumption | (show (cut1 r).size ≤ n; omega), by first | assumption | (show (cut1 r).size ≤ n; omega), by first | assumption | (show (cut1 r).size ≤ n; omega), by first | assumption | (show (cut1 r).size ≤ n; omega)⟩
  · exact ⟨⟨h0, h1, h2, h3⟩, hr⟩
theorem parseC_small (s : ByteArray) : (parseC s).Small s.size := by
  unfold parseC
  split
  · exact ⟨Nat.zero_le _, Nat.zero_le _, Nat.zero_le _, Nat.zero_le _⟩
  · have h0 := stepF_small (i := 0) (q := hasOf (kindL (bts (cut1 s))) 0) (x := (⟨kindL (bts (cut1 s)), ⟨#[]⟩, ⟨#[]⟩, ⟨#[]⟩, ⟨#[]⟩⟩, cut2 s)) (n := s.size) ⟨Nat.zero_le _, Nat.zero_le _, Nat.zero_le _, Nat.zero_le _⟩ (cut2_size s)
    have h1 := stepF_small (i := 1) (q := hasOf (kindL (bts (cut1 s))) 1) h0.1 h0.2
    have h2 := stepF_small (i := 2) (q := hasOf (kindL (bts (cut1 s))) 2) h1.1 h1.2
    exact (stepF_small (i := 3) (q := hasOf (kindL (bts (cut1 s))) 3) h2.1 h2.2).1
def waysL : List Value := (List.range 9).flatMap wayRow
end Go.Proofs.YtilbofkpjgcchaaDoor
