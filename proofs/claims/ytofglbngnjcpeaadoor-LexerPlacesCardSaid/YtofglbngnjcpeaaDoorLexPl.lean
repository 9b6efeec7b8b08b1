/- Where tokens stand: plain. -/
import Derived.Test.YtofglbngnjcpeaaDoorLexJ
import Derived.Lib.SlTrimSet
namespace Go.Proofs.YtofglbngnjcpeaaDoor
set_option maxRecDepth 100000
set_option maxHeartbeats 2000000
set_option linter.unusedVariables false
set_option linter.unusedSimpArgs false
open Go.RowKit

theorem blank_in {c : UInt8} (h : blankC c.toNat = true) : ([32, 10] : List UInt8).contains c = true := by
  have := of_decide_eq_true h
  have hc : c = 32 ∨ c = 10 := by
    rcases this with h | h
    · exact .inl (UInt8.toNat_inj.1 (by have : (32 : UInt8).toNat = 32 := rfl; omega))
    · exact .inr (UInt8.toNat_inj.1 (by have : (10 : UInt8).toNat = 10 := rfl; omega))
  rcases hc with rfl | rfl <;> decide
theorem drop_all {p : UInt8 → Bool} : ∀ {l : List UInt8}, (∀ x ∈ l, p x = true) → l.dropWhile p = []
  | [], _ => rfl
  | a :: l, h => by
    rw [List.dropWhile_cons, if_pos (h a (by simp)), drop_all (fun x hx => h x (by simp [hx]))]
theorem trim_blank {l : List UInt8} (h : ∀ c ∈ l, blankC c.toNat = true) : Lib.trimS l [32, 10] = [] := by
  have h1 : l.reverse.dropWhile (([32, 10] : List UInt8).contains ·) = [] := drop_all (fun x hx => blank_in (h x (List.mem_reverse.1 hx)))
  unfold Lib.trimS Lib.trimRightS
  rw [h1]; rfl
theorem skip_blank (s : List UInt8) (e : Nat) : ∀ c ∈ (s.drop e).take (skipL s e - e), blankC c.toNat = true := by
  have : skipL s e - e = spanL blankC (s.drop e) := by unfold skipL; omega
  rw [this]
  exact spanL_all _ _
theorem place_end {s : List UInt8} {e : Nat} (he : e ≤ s.length) (h : yieldsAt s (skipL s e) = []) : ∀ c ∈ s.drop e, blankC c.toNat = true := by
  have hl : s.length ≤ skipL s e := by
    refine Classical.byContradiction fun hn => ?_
    by_cases h0 : (begL (s.drop (skipL s e))).2.2 = 0
    · rw [yieldsAt_bad (by omega) h0] at h; cases h
    · rw [yieldsAt_more (by omega) h0] at h; cases h
  have := skip_blank s e
  rwa [List.take_of_length_le (by rw [List.length_drop]; omega)] at this
theorem place_step {s : List UInt8} {e : Nat} {t : Tk} {r : List Tk} (h : yieldsAt s (skipL s e) = t :: r) (hk : t.kind ≠ 0) :
    skipL s e < s.length ∧ t.at_ = skipL s e ∧ t.stands = (s.drop (skipL s e)).take t.stands.length ∧ skipL s e + t.stands.length ≤ s.length ∧ r = yieldsAt s (skipL s (skipL s e + t.stands.length)) := by
  have hl : skipL s e < s.length := by
    refine Classical.byContradiction fun hn => ?_
    rw [yieldsAt_end (by omega)] at h; cases h
  by_cases h0 : (begL (s.drop (skipL s e))).2.2 = 0
  · rw [yieldsAt_bad hl h0] at h
    obtain ⟨rfl, _⟩ := List.cons.inj h
    exact absurd (begL_kind0 h0) hk
  · rw [yieldsAt_more hl h0] at h
    obtain ⟨rfl, rfl⟩ := List.cons.inj h
    obtain ⟨h1, h2, h3⟩ := (begL_is (Nat.pos_of_ne_zero h0)).stands
    have hst : (tkAt s (skipL s e)).stands = standsL (begL (s.drop (skipL s e))).1 (begL (s.drop (skipL s e))).2.1 := by unfold Tk.stands tkAt; rw [bts_txt]
    rw [List.length_drop] at h3
    refine ⟨hl, rfl, ?_, ?_, ?_⟩
    · rw [hst, ← h2]; exact h1
    · rw [hst, ← h2]; omega
    · rw [hst, ← h2]
end Go.Proofs.YtofglbngnjcpeaaDoor
