/- What may be, what is a number, and reading on: plain. -/
import Derived.Test.YtofglbngnjcpeaaDoorLexW
import Derived.Test.YtofglbngnjcpeaaDoorLexZ
import Derived.Test.YtofglbngnjcpeaaDoorLexO
namespace Go.Proofs.YtofglbngnjcpeaaDoor
set_option maxRecDepth 100000
set_option maxHeartbeats 2000000
set_option linter.unusedSimpArgs false
set_option linter.unusedVariables false

theorem all_span {p : Int → Bool} {l : List UInt8} (h : spanL p l = l.length) : l.take (spanL p l) = l := by rw [h, List.take_of_length_le (Nat.le_refl _)]
/-- A token that may be. -/
inductive TokIs : Int → List UInt8 → Prop
  | word {l : List UInt8} (h : allB letterC 1 32 l = true) : TokIs 1 l
  | key {l : List UInt8} (h : allB letterC 1 32 l = true) : TokIs 2 l
  | text {l : List UInt8} (h : allB quotedC 0 40 l = true) : TokIs 3 l
  | sign {k : Int} {x : List UInt8} (h : (k, x) ∈ signs) : TokIs k []
theorem TokIs.of_right {k : Int} {l : List UInt8} {a : Int} (h : rightB k l a = true) : TokIs k l ∧ 0 ≤ a := by
  unfold rightB at h
  by_cases ha : a < 0
  · rw [if_pos ha] at h; cases h
  rw [if_neg ha] at h
  by_cases h1 : k = 1 ∨ k = 2
  · rw [if_pos h1] at h
    rcases h1 with rfl | rfl
    · exact ⟨.word h, by omega⟩
    · exact ⟨.key h, by omega⟩
  rw [if_neg h1] at h
  by_cases h3 : k = 3
  · rw [if_pos h3] at h; subst h3; exact ⟨.text h, by omega⟩
  rw [if_neg h3] at h
  obtain ⟨h4, h5, rfl⟩ := of_decide_eq_true h
  obtain ⟨x, hx, _⟩ := sign_in h4 h5
  exact ⟨.sign hx, by omega⟩
theorem TokIs.right {k : Int} {l : List UInt8} {a : Int} (h : TokIs k l) (ha : 0 ≤ a) : rightB k l a = true := by
  unfold rightB
  rw [if_neg (by omega)]
  cases h with
  | word h => rw [if_pos (.inl rfl)]; exact h
  | key h => rw [if_pos (.inr rfl)]; exact h
  | text h => rw [if_neg (by omega), if_pos rfl]; exact h
  | sign h =>
    have hk : ∀ x ∈ signs, 4 ≤ x.1 ∧ x.1 ≤ 11 := by decide
    have hk := hk _ h
    dsimp only at hk
    rw [if_neg (by omega), if_neg (by omega)]
    exact decide_eq_true ⟨hk.1, hk.2, rfl⟩
/-- What stands behind a token: nothing, or a blank. -/
def Stop (r : List UInt8) : Prop := r = [] ∨ ∃ c y, r = c :: y ∧ blankC c.toNat = true
theorem Stop.letter {r : List UInt8} (h : Stop r) : spanL letterC r = 0 := by
  rcases h with rfl | ⟨c, y, rfl, hc⟩
  · rfl
  · have := of_decide_eq_true hc
    exact spanL_no (decide_eq_false (by omega))
theorem TokIs.begins {k : Int} {l : List UInt8} (h : TokIs k l) {r : List UInt8} (hr : Stop r) : BegIs (standsL k l ++ r) k l (standsL k l).length := by
  cases h with
  | word h =>
    obtain ⟨h1, h2, h3⟩ := allB_iff.1 h
    have e := all_prefix (b := r) h1
    rw [hr.letter, Nat.add_zero] at e
    have := BegIs.word (l := l ++ r) (by omega) (by omega)
    rw [e, List.take_left] at this
    exact this
  | key h =>
    obtain ⟨h1, h2, h3⟩ := allB_iff.1 h
    have e := all_prefix (b := r) h1
    rw [hr.letter, Nat.add_zero] at e
    have := BegIs.key (r := l ++ r) (by omega) (by omega)
    rw [e, List.take_left] at this
    exact this
  | text h =>
    obtain ⟨h1, h2, h3⟩ := allB_iff.1 h
    have e := all_prefix (b := 34 :: r) h1
    rw [spanL_no (by decide), Nat.add_zero] at e
    have := BegIs.text (r := l ++ 34 :: r) (by omega) (by rw [e, List.getElem?_append_right (Nat.le_refl _), Nat.sub_self]; rfl)
    rw [e, List.take_left] at this
    have e2 : standsL 3 l ++ r = 34 :: (l ++ 34 :: r) := by
      show (34 :: (l ++ [34])) ++ r = _
      simp
    rw [e2]
    have e3 : (standsL 3 l).length = l.length + 2 := by
      show (34 :: (l ++ [34])).length = _
      simp
    rw [e3]; exact this
  | sign h => rw [standsL_sign h]; exact .sign h
theorem BegIs.tok {s : List UInt8} {k : Int} {l : List UInt8} {n : Nat} (h : BegIs s k l n) : TokIs k l := by
  cases h with
  | word h1 h2 =>
    have := spanL_le letterC s
    exact .word (allB_iff.2 ⟨by rw [spanL_take, List.length_take]; omega, by rw [List.length_take]; omega, by rw [List.length_take]; omega⟩)
  | @key r h1 h2 =>
    have := spanL_le letterC r
    exact .key (allB_iff.2 ⟨by rw [spanL_take, List.length_take]; omega, by rw [List.length_take]; omega, by rw [List.length_take]; omega⟩)
  | @text r h1 h2 =>
    have := spanL_le quotedC r
    exact .text (allB_iff.2 ⟨by rw [spanL_take, List.length_take]; omega, by rw [List.length_take]; omega, by rw [List.length_take]; omega⟩)
  | sign h => exact .sign h
theorem checkB_iff {k : Int} {l : List UInt8} {a : Int} : checkB k l a = true ↔ TokIs k l ∧ 0 ≤ a := by
  unfold checkB
  constructor
  · intro h
    simp only [Bool.and_eq_true, decide_eq_true_eq] at h
    obtain ⟨⟨⟨⟨h1, h2⟩, h3⟩, h4⟩, h5⟩ := h
    have := (begL_is (Nat.pos_of_ne_zero h1)).tok
    rw [h3, h4] at this
    exact ⟨this, h5⟩
  · rintro ⟨h, ha⟩
    have hb := h.begins (r := []) (.inl rfl)
    rw [List.append_nil] at hb
    have hp := hb.pos
    rw [begL_of hb]
    simp [ha]
    intro h0; rw [h0] at hp; simp at hp
theorem right_check (k : Int) (l : List UInt8) (a : Int) : rightB k l a = checkB k l a := by
  rw [Bool.eq_iff_iff, checkB_iff]
  exact ⟨TokIs.of_right, fun h => h.1.right h.2⟩

/-! Numbers. -/
theorem numL_numD (l : List UInt8) : ∀ n : Int, 0 ≤ n → n < 2147483648 → numL n l = match numD n l with | some m => if 2147483647 < m then none else some m | none => none := by
  induction l with
  | nil => intro n h0 h1; show some n = if 2147483647 < n then none else some n; rw [if_neg (by omega)]
  | cons c l ih =>
    intro n h0 h1
    by_cases hd : 48 ≤ c.toNat ∧ c.toNat ≤ 57
    · rw [numD_yes hd]
      by_cases hb : 10 * n + (c.toNat - 48 : Nat) < 2147483648
      · rw [numL_yes ⟨hd.1, hd.2, hb⟩, ih _ (by omega) hb]
      · rw [numL_no (fun h => hb h.2.2)]
        have hgrow : ∀ (l : List UInt8) (m : Int), 2147483648 ≤ m → ∀ x, numD m l = some x → 2147483648 ≤ x := fun l => by
          induction l with
          | nil => intro m hm x hx; cases hx; exact hm
          | cons c l ih =>
            intro m hm x hx
            by_cases hd : 48 ≤ c.toNat ∧ c.toNat ≤ 57
            · rw [numD_yes hd] at hx; exact ih _ (by omega) x hx
            · rw [numD_no hd] at hx; cases hx
        cases hx : numD (10 * n + (c.toNat - 48 : Nat)) l with
        | none => rfl
        | some x =>
          have := hgrow l _ (by omega) x hx
          show none = if 2147483647 < x then none else some x
          rw [if_pos (by omega)]
    · rw [numD_no hd, numL_no (fun h => hd ⟨h.1, h.2.1⟩)]
theorem numD_long (l : List UInt8) : ∀ (n : Int), 0 ≤ n → ∀ x, numD n l = some x → n * 10 ^ l.length ≤ x := by
  induction l with
  | nil => intro n h0 x hx; cases hx; simp
  | cons c l ih =>
    intro n h0 x hx
    by_cases hd : 48 ≤ c.toNat ∧ c.toNat ≤ 57
    · rw [numD_yes hd] at hx
      have := ih _ (by omega) x hx
      refine Int.le_trans ?_ this
      rw [List.length_cons, Int.pow_succ, Int.mul_comm (10 ^ l.length) 10, ← Int.mul_assoc]
      exact Int.mul_le_mul_of_nonneg_right (by omega) (Int.pow_nonneg (by omega))
    · rw [numD_no hd] at hx; cases hx
theorem number_ref (k : Int) (l : List UInt8) : numR k l = match numberF k l with | some n => n | none => -1 := by
  by_cases h1 : k = 1
  case neg =>
    have e1 : numberF k l = none := by unfold numberF; rw [if_pos (.inl h1)]
    rw [e1]; unfold numR; rw [if_pos (.inl h1)]
  by_cases h2 : l = []
  · have e1 : numberF k l = none := by unfold numberF; rw [if_pos (.inr (.inl h2))]
    rw [e1]; unfold numR; rw [if_pos (.inr (.inl h2))]
  have hcap : ∀ l : List UInt8, (match numL 0 l with | some n => n | none => -1) = capD (numD 0 l) := fun l => by
    rw [numL_numD l 0 (by omega) (by omega)]
    cases numD 0 l with
    | none => rfl
    | some x =>
      unfold capD
      dsimp only
      by_cases h : 2147483647 < x
      · rw [if_pos h, if_pos h]
      · rw [if_neg h, if_neg h]
  by_cases h3 : l.head? = some 48 ∧ l ≠ [48]
  · have e1 : numberF k l = none := by unfold numberF; rw [if_pos (.inr (.inr h3))]
    rw [e1]
    cases l with
    | nil => exact absurd rfl h2
    | cons c r =>
      cases r with
      | nil => obtain ⟨a, b⟩ := h3; simp at a; subst a; exact absurd rfl b
      | cons d r => unfold numR; rw [if_pos (.inr (.inr (.inr ⟨by simp, h3.1⟩)))]
  · have e1 : numberF k l = numL 0 l := by unfold numberF; rw [if_neg (by rintro (h | h | h); exact h h1; exact h2 h; exact h3 h)]
    rw [e1, hcap]
    by_cases h10 : 10 < l.length
    · unfold numR
      rw [if_pos (.inr (.inr (.inl h10)))]
      cases l with
      | nil => exact absurd rfl h2
      | cons c r =>
        have hc48 : c.toNat ≠ 48 := fun e => by
          refine h3 ⟨by simp; exact UInt8.toNat_inj.1 e, fun e' => ?_⟩
          rw [e'] at h10; simp at h10
        unfold capD
        by_cases hd : 48 ≤ c.toNat ∧ c.toNat ≤ 57
        · rw [numD_yes hd]
          cases hx : numD (10 * 0 + (c.toNat - 48 : Nat)) r with
          | none => rfl
          | some x =>
            have h4 := numD_long r _ (by omega) x hx
            have h5 : (10000000000 : Int) ≤ 10 ^ r.length := by
              have : 10 ≤ r.length := by simp at h10; omega
              have h6 : (10 : Int) ^ r.length = 10 ^ 10 * 10 ^ (r.length - 10) := by rw [← Int.pow_add]; congr 1; omega
              have h7 : (0 : Int) < 10 ^ (r.length - 10) := Int.pow_pos (by omega)
              rw [h6]; show 10000000000 ≤ 10000000000 * _; omega
            have h8 : 1 * 10 ^ r.length ≤ (10 * 0 + (c.toNat - 48 : Nat) : Int) * 10 ^ r.length := Int.mul_le_mul_of_nonneg_right (by omega) (by omega)
            dsimp only
            rw [if_pos (by omega)]
        · rw [numD_no hd]
    · unfold numR
      rw [if_neg]
      rintro (h | h | h | h)
      · exact h h1
      · exact h2 h
      · exact h10 h
      · refine h3 ⟨h.2, fun e => ?_⟩
        rw [e] at h; simp at h
end Go.Proofs.YtofglbngnjcpeaaDoor
