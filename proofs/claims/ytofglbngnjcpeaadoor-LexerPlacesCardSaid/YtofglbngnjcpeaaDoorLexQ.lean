/- The tokens of a text: plain. -/
import Derived.Test.YtofglbngnjcpeaaDoorLexP
namespace Go.Proofs.YtofglbngnjcpeaaDoor
set_option maxRecDepth 100000
set_option maxHeartbeats 2000000
set_option linter.unusedSimpArgs false
set_option linter.unusedVariables false

theorem ask1_le (l : List UInt8) : (ask1 l).2.2 ≤ l.length := wordN_le l
theorem ask2_le (l : List UInt8) : (ask2 l).2.2 ≤ l.length := by
  cases l with
  | nil => exact Nat.le_refl _
  | cons c r =>
    have := wordN_le r
    by_cases h : c = 64 ∧ wordN r ≠ 0
    · simp only [ask2, if_pos h, List.length_cons]; omega
    · simp only [ask2, if_neg h, begNo]; omega
theorem ask3_le (l : List UInt8) : (ask3 l).2.2 ≤ l.length := by
  cases l with
  | nil => exact Nat.le_refl _
  | cons c r =>
    by_cases h : c = 34 ∧ spanL quotedC r ≤ 40 ∧ r[spanL quotedC r]? = some 34
    · have := (List.getElem?_eq_some_iff.1 h.2.2).1
      simp only [ask3, if_pos h, List.length_cons]; omega
    · simp only [ask3, if_neg h, begNo]; omega
theorem ask4_le (l : List UInt8) : (ask4 l).2.2 ≤ l.length := by
  unfold ask4
  cases hf : signs.find? (fun x => x.2.isPrefixOf l) with
  | none => simp [begNo]
  | some x => have := List.find?_some hf; exact (List.isPrefixOf_iff_prefix.1 this).length_le
theorem begL_le (l : List UInt8) : (begL l).2.2 ≤ l.length := by
  unfold begL
  split
  · exact ask1_le l
  split
  · exact ask2_le l
  split
  · exact ask3_le l
  · exact ask4_le l

/-- Behind the blanks. -/
def skipL (s : List UInt8) (q : Nat) : Nat := q + spanL blankC (s.drop q)
theorem skipL_ge (s : List UInt8) (q : Nat) : q ≤ skipL s q := Nat.le_add_right _ _
theorem skipL_le (s : List UInt8) (q : Nat) (h : q ≤ s.length) : skipL s q ≤ s.length := by
  have := spanL_le blankC (s.drop q)
  unfold skipL
  rw [List.length_drop] at this; omega
/-- What is told from a place on. -/
def yieldsF (s : List UInt8) : Nat → Nat → List Tk
  | 0, _ => []
  | f + 1, p => if p < s.length then
      (⟨(begL (s.drop p)).1, txt (begL (s.drop p)).2.1, p⟩ : Tk) :: (if (begL (s.drop p)).2.2 = 0 then [] else yieldsF s f (skipL s (p + (begL (s.drop p)).2.2)))
    else []
theorem yieldsF_fuel (s : List UInt8) : ∀ (f p : Nat), s.length ≤ f + p → yieldsF s f p = yieldsF s (f + 1) p
  | 0, p, h => by unfold yieldsF; rw [if_neg (by omega)]
  | f + 1, p, h => by
    rw [yieldsF]
    conv => rhs; rw [yieldsF]
    by_cases hp : p < s.length
    · rw [if_pos hp, if_pos hp]
      by_cases hn : (begL (s.drop p)).2.2 = 0
      · rw [if_pos hn, if_pos hn]
      · rw [if_neg hn, if_neg hn, yieldsF_fuel s f _ (by have := skipL_ge s (p + (begL (s.drop p)).2.2); omega)]
    · rw [if_neg hp, if_neg hp]
theorem yieldsF_any (s : List UInt8) (f p : Nat) (h : s.length ≤ f + p) (j : Nat) : yieldsF s f p = yieldsF s (f + j) p := by
  induction j with
  | zero => rfl
  | succ j ih => rw [ih, yieldsF_fuel s (f + j) p (by omega)]; rfl
def yieldsAt (s : List UInt8) (p : Nat) : List Tk := yieldsF s s.length p
def tkAt (s : List UInt8) (p : Nat) : Tk := ⟨(begL (s.drop p)).1, txt (begL (s.drop p)).2.1, p⟩
theorem yieldsAt_end {s : List UInt8} {p : Nat} (h : s.length ≤ p) : yieldsAt s p = [] := by
  unfold yieldsAt
  cases s.length with
  | zero => rfl
  | succ n => unfold yieldsF; rw [if_neg (by omega)]
theorem yieldsAt_bad {s : List UInt8} {p : Nat} (h : p < s.length) (hn : (begL (s.drop p)).2.2 = 0) : yieldsAt s p = [tkAt s p] := by
  unfold yieldsAt
  rw [yieldsF_fuel s _ _ (by omega), yieldsF, if_pos h, if_pos hn]; rfl
theorem yieldsAt_more {s : List UInt8} {p : Nat} (h : p < s.length) (hn : (begL (s.drop p)).2.2 ≠ 0) : yieldsAt s p = tkAt s p :: yieldsAt s (skipL s (p + (begL (s.drop p)).2.2)) := by
  unfold yieldsAt
  rw [yieldsF_fuel s _ _ (by omega), yieldsF, if_pos h, if_neg hn]; rfl
/-- All that is told. -/
def yields (s : List UInt8) : List Tk := yieldsAt s (skipL s 0)
theorem yieldsF_len (s : List UInt8) : ∀ (f p : Nat), (yieldsF s f p).length ≤ s.length - p
  | 0, p => by simp [yieldsF]
  | f + 1, p => by
    unfold yieldsF
    by_cases hp : p < s.length
    · rw [if_pos hp]
      by_cases hn : (begL (s.drop p)).2.2 = 0
      · rw [if_pos hn]; simp; omega
      · rw [if_neg hn, List.length_cons]
        have h1 := yieldsF_len s f (skipL s (p + (begL (s.drop p)).2.2))
        have h2 := skipL_ge s (p + (begL (s.drop p)).2.2)
        omega
    · rw [if_neg hp]; simp
theorem yields_len (s : List UInt8) : (yields s).length ≤ s.length := by
  have := yieldsF_len s s.length (skipL s 0)
  unfold yields yieldsAt; omega
/-- What is read of a text: the tokens, a place, an error. -/
def readF (s : List UInt8) : List Tk × Int × Int :=
  if 500 < s.length then ([], 500, 3) else match (yields s).find? (fun t => decide (t.kind = 0)) with
    | some t => ([], t.at_, 250)
    | none => (yields s, s.length, 0)
theorem find_at {l : List Tk} {k : Nat} (hk : k < l.length) (h : ∀ j (hj : j < l.length), j < k → l[j].kind ≠ 0) (h0 : l[k].kind = 0) : l.find? (fun t => decide (t.kind = 0)) = some l[k] := by
  rw [List.find?_eq_some_iff_getElem]
  exact ⟨by simpa using h0, k, hk, rfl, fun j hj => by simpa using h j (by omega) hj⟩
theorem find_not {l : List Tk} (h : ∀ j (hj : j < l.length), l[j].kind ≠ 0) : l.find? (fun t => decide (t.kind = 0)) = none := by
  rw [List.find?_eq_none]
  intro x hx
  obtain ⟨j, hj, rfl⟩ := List.getElem_of_mem hx
  simpa using h j hj
theorem yieldsF_at (s : List UInt8) : ∀ (f p : Nat), ∀ t ∈ yieldsF s f p, (p : Int) ≤ t.at_ ∧ t.at_ < s.length
  | 0, p, t, h => by simp [yieldsF] at h
  | f + 1, p, t, h => by
    unfold yieldsF at h
    by_cases hp : p < s.length
    · rw [if_pos hp] at h
      rcases List.mem_cons.1 h with rfl | h
      · exact ⟨Int.le_refl _, by dsimp only; omega⟩
      · by_cases hn : (begL (s.drop p)).2.2 = 0
        · rw [if_pos hn] at h; simp at h
        · rw [if_neg hn] at h
          have h1 := yieldsF_at s f _ t h
          have h2 := skipL_ge s (p + (begL (s.drop p)).2.2)
          omega
    · rw [if_neg hp] at h; simp at h
theorem yields_at {s : List UInt8} {t : Tk} (h : t ∈ yields s) : 0 ≤ t.at_ ∧ t.at_ < s.length := by
  have := yieldsF_at s _ _ t h
  omega

theorem find_congr {α : Type} {p q : α → Bool} : ∀ {l : List α}, (∀ x ∈ l, p x = q x) → l.find? p = l.find? q
  | [], _ => rfl
  | x :: l, h => by
    rw [List.find?_cons, List.find?_cons, h x (by simp), find_congr (fun y hy => h y (List.mem_cons_of_mem _ hy))]
/-- The sign of a kind below k that a text begins with. -/
def uptoR (k : Int) (l : List UInt8) : Int := match signs.find? (fun x => decide (x.1 < k) && x.2.isPrefixOf l) with | some x => x.1 | none => 0
theorem uptoR_first (l : List UInt8) : uptoR 4 l = 0 := by
  unfold uptoR
  rw [List.find?_eq_none.2 (fun x hx => by
    have : ∀ x ∈ signs, 4 ≤ x.1 := by decide
    have := this x hx
    rw [decide_eq_false (by omega)]; simp)]
theorem sign_in {k : Int} (h1 : 4 ≤ k) (h2 : k ≤ 11) : ∃ x, (k, x) ∈ signs ∧ ((signs.find? (fun x => decide (x.1 = k))).map (·.2)).getD [] = x := by
  have hk : k = 4 ∨ k = 5 ∨ k = 6 ∨ k = 7 ∨ k = 8 ∨ k = 9 ∨ k = 10 ∨ k = 11 := by omega
  rcases hk with rfl | rfl | rfl | rfl | rfl | rfl | rfl | rfl <;> exact ⟨_, by simp [signs], rfl⟩
theorem uptoR_yes {k : Int} {x : List UInt8} (hx : (k, x) ∈ signs) {l : List UInt8} (h : x.isPrefixOf l = true) : uptoR (k + 1) l = k := by
  obtain ⟨r, hr⟩ := List.isPrefixOf_iff_prefix.1 h
  simp only [signs, List.mem_cons, List.not_mem_nil, or_false, Prod.mk.injEq] at hx
  rcases hx with ⟨rfl, rfl⟩ | ⟨rfl, rfl⟩ | ⟨rfl, rfl⟩ | ⟨rfl, rfl⟩ | ⟨rfl, rfl⟩ | ⟨rfl, rfl⟩ | ⟨rfl, rfl⟩ | ⟨rfl, rfl⟩ <;> subst hr <;> simp [uptoR, signs, List.isPrefixOf, List.find?]
theorem uptoR_no {k : Int} {x : List UInt8} (hx : (k, x) ∈ signs) {l : List UInt8} (h : x.isPrefixOf l = false) : uptoR (k + 1) l = uptoR k l := by
  unfold uptoR
  rw [find_congr (fun y hy => ?_)]
  by_cases e : y.1 = k
  · have hf : ∀ y ∈ signs, ∀ x ∈ signs, y.1 = x.1 → y = x := by decide
    have := hf y hy _ hx e
    rw [this, h]; simp
  · rw [show decide (y.1 < k + 1) = decide (y.1 < k) from by rw [Bool.eq_iff_iff, decide_eq_true_iff, decide_eq_true_iff]; omega]
theorem uptoR_all (l : List UInt8) : (uptoR 12 l, ([] : List UInt8)) = match signs.find? (fun x => x.2.isPrefixOf l) with | some x => (x.1, []) | none => (0, []) := by
  unfold uptoR
  rw [find_congr (q := fun x => x.2.isPrefixOf l) (fun y hy => by
    have : ∀ x ∈ signs, x.1 < 12 := by decide
    rw [decide_eq_true (this y hy), Bool.true_and])]
  cases signs.find? (fun x => x.2.isPrefixOf l) <;> rfl
theorem candR_word {c : UInt8} {r : List UInt8} (h : letterC c.toNat = true) : candR (c :: r) = (1, (c :: r).take (spanL letterC (c :: r))) := by simp only [candR]; rw [if_pos h]
theorem candR_key {c : UInt8} {r : List UInt8} (h : letterC c.toNat = false) (hc : c = 64) : candR (c :: r) = (2, r.take (spanL letterC r)) := by simp only [candR]; rw [if_neg (by rw [h]; simp), if_pos hc]
theorem candR_text {c : UInt8} {r : List UInt8} (h : letterC c.toNat = false) (h64 : c ≠ 64) (hc : c = 34) : candR (c :: r) = (3, r.take (spanL (fun x => decide (x ≠ 34)) r)) := by simp only [candR]; rw [if_neg (by rw [h]; simp), if_neg h64, if_pos hc]
theorem candR_sign {c : UInt8} {r : List UInt8} (h : letterC c.toNat = false) (h64 : c ≠ 64) (hc : c ≠ 34) : candR (c :: r) = (uptoR 12 (c :: r), []) := by simp only [candR]; rw [if_neg (by rw [h]; simp), if_neg h64, if_neg hc, uptoR_all]; rfl
theorem candR_len (l : List UInt8) : (candR l).2.length ≤ l.length := by
  cases l with
  | nil => exact Nat.le_refl _
  | cons c r =>
    cases h : letterC c.toNat with
    | true => rw [candR_word h]; simp; omega
    | false =>
      by_cases h64 : c = 64
      · rw [candR_key h h64]; simp; omega
      · by_cases h34 : c = 34
        · rw [candR_text h h64 h34]; simp; omega
        · rw [candR_sign h h64 h34]; simp
end Go.Proofs.YtofglbngnjcpeaaDoor
