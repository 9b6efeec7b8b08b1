/- A change is read back off its line: plain. -/
import Derived.Test.YtilbofkpjgcchaaDoorBatQ
namespace Go.Proofs.YtilbofkpjgcchaaDoor
set_option maxRecDepth 100000
set_option maxHeartbeats 2000000
set_option linter.unusedVariables false
set_option linter.unusedSimpArgs false
open Go.RowKit

/-- No blank. -/
def Dense (l : List UInt8) : Prop := ∀ c ∈ l, notB 32 c.toNat = true
theorem dense_of {p : Int → Bool} {l : List UInt8} (h : spanL p l = l.length) (hp : ∀ c : Int, p c = true → c ≠ 32) : Dense l := fun c hc => by
  have := hp _ (spanL_full.1 h c hc)
  exact decide_eq_true (by intro e; exact this (by rw [e]; rfl))
theorem dense_name {s : ByteArray} (h : nameB s = true) : Dense (bts s) := dense_of (allB_iff.1 h).1 (fun c h e => by subst e; revert h; decide)
theorem dense_word (k : Nat) : Dense (wordOf k) := by
  unfold wordOf Dense
  split <;> decide
theorem cut_at {s : ByteArray} {a b : List UInt8} (ha : Dense a) (h : bts s = a ++ 32 :: b) : cut1 s = txt a ∧ cut2 s = txt b := by
  have hs : spanL (notB 32) (bts s) = a.length := by rw [h, spanL_append _ _ _ ha, spanL_no (by decide)]; rfl
  constructor
  · apply bts_inj
    rw [bts_cut1, hs, h, bts_txt, List.take_left']
    rfl
  · apply bts_inj
    rw [bts_cut2, hs, h, bts_txt, ← List.drop_drop, List.drop_left']
    · rfl
    · rfl
theorem cut_end {s : ByteArray} (ha : Dense (bts s)) : cut1 s = s ∧ cut2 s = ⟨#[]⟩ := by
  have hs : spanL (notB 32) (bts s) = (bts s).length := by
    have := spanL_append _ _ [] ha
    rw [List.append_nil] at this
    rw [this]; simp [spanL]
  constructor
  · apply bts_inj
    rw [bts_cut1, hs, List.take_of_length_le (Nat.le_refl _)]
  · apply bts_inj
    rw [bts_cut2, hs, List.drop_eq_nil_of_le (by omega)]; rfl
theorem trimQ_at {s : ByteArray} {v : List UInt8} (h : bts s = 34 :: (v ++ [34])) : trimQ s = txt v := by
  unfold trimQ
  have h1 : Lib.trimPrefix (bts s) [34] = v ++ [34] := by rw [h]; simp [Lib.trimPrefix, Lib.hasPrefix]
  rw [h1, bts_txt]
  congr 1
  simp [Lib.trimSuffix, Lib.hasSuffix]
theorem step_end {i : Nat} (hi : i ≠ 2) (c : Ch) {a : ByteArray} (ha : Dense (bts a)) : stepF i true (c, a) = (c.put i a, ⟨#[]⟩) := by
  unfold stepF
  rw [if_pos rfl, if_neg hi, (cut_end ha).1, (cut_end ha).2]
theorem step_at {i : Nat} (hi : i ≠ 2) (c : Ch) {a : ByteArray} (ha : Dense (bts a)) (b : List UInt8) : stepF i true (c, txt (bts a ++ 32 :: b)) = (c.put i a, txt b) := by
  unfold stepF
  have h := cut_at (s := txt (bts a ++ 32 :: b)) ha (bts_txt _)
  rw [if_pos rfl, if_neg hi, h.1, h.2, txt_bts]
theorem step_val (c : Ch) (v : ByteArray) : stepF 2 true (c, txt (34 :: (bts v ++ [34]))) = (c.put 2 v, ⟨#[]⟩) := by
  unfold stepF
  rw [if_pos rfl, if_pos rfl, trimQ_at (bts_txt _), txt_bts]
theorem step_no (i : Nat) (x : Ch × ByteArray) : stepF i false x = x := rfl
theorem has_cases (k : Nat) : (hasOf k 1 = false ∧ hasOf k 2 = false ∧ hasOf k 3 = false) ∨ (hasOf k 1 = true ∧ hasOf k 2 = false ∧ hasOf k 3 = false) ∨ (hasOf k 1 = true ∧ hasOf k 2 = true ∧ hasOf k 3 = false) ∨ (hasOf k 1 = true ∧ hasOf k 2 = false ∧ hasOf k 3 = true) := by
  show (decide (3 ≤ k) = false ∧ decide (k = 5) = false ∧ decide (7 ≤ k) = false) ∨ (decide (3 ≤ k) = true ∧ decide (k = 5) = false ∧ decide (7 ≤ k) = false) ∨ (decide (3 ≤ k) = true ∧ decide (k = 5) = true ∧ decide (7 ≤ k) = false) ∨ (decide (3 ≤ k) = true ∧ decide (k = 5) = false ∧ decide (7 ≤ k) = true)
  simp only [decide_eq_true_eq, decide_eq_false_iff_not]
  omega
theorem parse_line (c : Ch) (h : okC c = true) : parseC (txt (lineL c)) = c := by
  obtain ⟨kd, key, name, val, to_⟩ := c
  obtain ⟨h1, h8, q0, q1, q2, q3⟩ := okC_iff.1 h
  dsimp only at h1 h8 q0 q1 q2 q3
  obtain ⟨k, rfl⟩ := Int.eq_ofNat_of_zero_le (show 0 ≤ kd by omega)
  simp only [Int.toNat_natCast] at q0 q1 q2 q3
  have e0 : hasOf k 0 = true := decide_eq_true (by omega)
  rw [e0] at q0
  have d0 : Dense (bts key) := dense_name (by simpa [okF] using q0)
  have hl : bts (txt (lineL ⟨k, key, name, val, to_⟩)) = wordOf k ++ 32 :: (bts key ++ (partL 1 (hasOf k 1) name ++ (partL 2 (hasOf k 2) val ++ partL 3 (hasOf k 3) to_))) := by
    rw [bts_txt]
    unfold lineL
    simp only [Int.toNat_natCast, e0]
    simp [partL]
  obtain ⟨ca, cb⟩ := cut_at (dense_word k) hl
  have hk : kindL (bts (cut1 (txt (lineL ⟨k, key, name, val, to_⟩)))) = k := by rw [ca, bts_txt, kindL_word (by omega) (by omega)]
  unfold parseC
  rw [if_neg (by omega), hk, cb, e0]
  clear hk ca cb hl h h1 h8
  show (stepF 3 (hasOf k 3) (stepF 2 (hasOf k 2) (stepF 1 (hasOf k 1) (stepF 0 true (_, _))))).1 = _
  rcases has_cases k with ⟨b1, b2, b3⟩ | ⟨b1, b2, b3⟩ | ⟨b1, b2, b3⟩ | ⟨b1, b2, b3⟩
  all_goals
    rw [b1] at q1
    rw [b2] at q2
    rw [b3] at q3
    rw [b1, b2, b3]
  · obtain rfl : name = ⟨#[]⟩ := of_decide_eq_true q1
    obtain rfl : val = ⟨#[]⟩ := of_decide_eq_true q2
    obtain rfl : to_ = ⟨#[]⟩ := of_decide_eq_true q3
    simp only [partL, Bool.false_eq_true, if_false, List.append_nil, step_no, txt_bts]
    rw [step_end (by decide) _ d0]; rfl
  · obtain rfl : val = ⟨#[]⟩ := of_decide_eq_true q2
    obtain rfl : to_ = ⟨#[]⟩ := of_decide_eq_true q3
    have d1 : Dense (bts name) := dense_name (by simpa [okF] using q1)
    have e : bts key ++ (partL 1 true name ++ (partL 2 false ⟨#[]⟩ ++ partL 3 false ⟨#[]⟩)) = bts key ++ 32 :: bts name := by simp [partL]
    rw [e, step_at (by decide) _ d0, txt_bts, step_end (by decide) _ d1]; rfl
  · obtain rfl : to_ = ⟨#[]⟩ := of_decide_eq_true q3
    have d1 : Dense (bts name) := dense_name (by simpa [okF] using q1)
    have e : bts key ++ (partL 1 true name ++ (partL 2 true val ++ partL 3 false ⟨#[]⟩)) = bts key ++ 32 :: (bts name ++ 32 :: (34 :: (bts val ++ [34]))) := by simp [partL]
    rw [e, step_at (by decide) _ d0, step_at (by decide) _ d1, step_val]; rfl
  · obtain rfl : val = ⟨#[]⟩ := of_decide_eq_true q2
    have d1 : Dense (bts name) := dense_name (by simpa [okF] using q1)
    have d3 : Dense (bts to_) := dense_name (by simpa [okF] using q3)
    have e : bts key ++ (partL 1 true name ++ (partL 2 false ⟨#[]⟩ ++ partL 3 true to_)) = bts key ++ 32 :: (bts name ++ 32 :: bts to_) := by simp [partL]
    rw [e, step_at (by decide) _ d0, step_at (by decide) _ d1, txt_bts, step_no, step_end (by decide) _ d3]; rfl
/-- A text that says a change is the change's line. -/
theorem saysB_iff (s : ByteArray) : saysB s = true ↔ okC (parseC s) = true ∧ lineL (parseC s) = bts s := by unfold saysB; simp
theorem says_line (c : Ch) (h : okC c = true) : saysB (txt (lineL c)) = true ∧ parseC (txt (lineL c)) = c := by
  have hp := parse_line c h
  exact ⟨(saysB_iff _).2 ⟨by rw [hp]; exact h, by rw [hp, bts_txt]⟩, hp⟩
end Go.Proofs.YtilbofkpjgcchaaDoor
