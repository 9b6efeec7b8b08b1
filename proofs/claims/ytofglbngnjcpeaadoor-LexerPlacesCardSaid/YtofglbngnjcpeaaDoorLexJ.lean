/- Reading what was laid: plain. -/
import Derived.Test.YtofglbngnjcpeaaDoorLexM
namespace Go.Proofs.YtofglbngnjcpeaaDoor
set_option maxRecDepth 100000
set_option maxHeartbeats 2000000
set_option linter.unusedSimpArgs false
set_option linter.unusedVariables false

theorem TokIs.head {k : Int} {l : List UInt8} (h : TokIs k l) : ∃ c y, standsL k l = c :: y ∧ blankC c.toNat = false := by
  cases h with
  | word h =>
    obtain ⟨h1, h2, h3⟩ := allB_iff.1 h
    cases l with
    | nil => simp at h2
    | cons c y =>
      refine ⟨c, y, rfl, ?_⟩
      cases hl : letterC c.toNat with
      | true =>
        have := of_decide_eq_true hl
        exact decide_eq_false (by omega)
      | false => rw [spanL_no hl] at h1; simp at h1
  | key h => exact ⟨64, l, rfl, by decide⟩
  | text h => exact ⟨34, l ++ [34], rfl, by decide⟩
  | sign h =>
    rw [standsL_sign h]
    simp only [signs, List.mem_cons, List.not_mem_nil, or_false, Prod.mk.injEq] at h
    rcases h with ⟨rfl, rfl⟩ | ⟨rfl, rfl⟩ | ⟨rfl, rfl⟩ | ⟨rfl, rfl⟩ | ⟨rfl, rfl⟩ | ⟨rfl, rfl⟩ | ⟨rfl, rfl⟩ | ⟨rfl, rfl⟩ <;> exact ⟨_, _, rfl, by decide⟩
/-- Tokens, one behind the other, blanks between. -/
inductive Laid : List Tk → List UInt8 → Prop
  | nil : Laid [] []
  | cons {t : Tk} {l : List Tk} {sep r : List UInt8} (h : TokIs t.kind (bts t.text)) (hs : ∀ c ∈ sep, blankC c.toNat = true) (hn : sep ≠ [] ∨ r = []) (hl : Laid l r) : Laid (t :: l) (t.stands ++ (sep ++ r))
theorem Laid.start {l : List Tk} {u : List UInt8} (h : Laid l u) : spanL blankC u = 0 := by
  cases h with
  | nil => rfl
  | cons h =>
    obtain ⟨c, y, e, hc⟩ := h.head
    unfold Tk.stands
    rw [e]; exact spanL_no hc
def kt (l : List Tk) : List (Int × ByteArray) := l.map fun t => (t.kind, t.text)
theorem sameL_iff (l m : List Tk) : sameL l m = true ↔ kt l = kt m := by
  induction l generalizing m with
  | nil => cases m <;> simp [sameL, kt]
  | cons x l ih => cases m with
    | nil => simp [sameL, kt]
    | cons y m =>
      rw [sameL, Bool.and_eq_true, ih]
      unfold Tk.same kt
      simp
theorem Laid.read {l : List Tk} {u : List UInt8} (h : Laid l u) : ∀ (s : List UInt8) (p : Nat), s.drop p = u → p ≤ s.length → kt (yieldsAt s p) = kt l ∧ ∀ t ∈ yieldsAt s p, t.kind ≠ 0 := by
  induction h with
  | nil =>
    intro s p hd hp
    have : s.length ≤ p := by
      rcases Nat.lt_or_ge p s.length with h | h
      · have := congrArg List.length hd; rw [List.length_drop] at this; simp at this; omega
      · exact h
    rw [yieldsAt_end this]
    exact ⟨rfl, fun t ht => by simp at ht⟩
  | @cons t l sep r ht hs hn hl ih =>
    intro s p hd hp
    have hstop : Stop (sep ++ r) := by
      cases hsep : sep with
      | nil => rcases hn with hn | hn
               · exact absurd hsep hn
               · subst hn; exact .inl rfl
      | cons c y => exact .inr ⟨c, y ++ r, rfl, hs c (by rw [hsep]; simp)⟩
    have hb := ht.begins hstop
    have hbl : begL (s.drop p) = (t.kind, bts t.text, t.stands.length) := by rw [hd]; exact begL_of hb
    have hpos := hb.pos
    have hlt : p < s.length := by
      rcases Nat.lt_or_ge p s.length with h | h
      · exact h
      · rw [List.drop_eq_nil_of_le h] at hd
        have := congrArg List.length hd
        unfold Tk.stands at this
        simp at this; omega
    have hn0 : (begL (s.drop p)).2.2 ≠ 0 := by rw [hbl]; unfold Tk.stands; dsimp only; omega
    rw [yieldsAt_more hlt hn0]
    have hd2 : s.drop (p + t.stands.length) = sep ++ r := by rw [← List.drop_drop, hd, List.drop_left]
    have hsk : skipL s (p + (begL (s.drop p)).2.2) = p + t.stands.length + sep.length := by
      unfold skipL
      rw [hbl]
      dsimp only
      rw [hd2, spanL_append _ _ _ hs, hl.start, Nat.add_zero]
    have hd3 : s.drop (p + t.stands.length + sep.length) = r := by rw [← List.drop_drop, hd2, List.drop_left]
    have hlen : p + t.stands.length + sep.length ≤ s.length := by
      have := congrArg List.length hd
      rw [List.length_drop, List.length_append, List.length_append] at this; omega
    obtain ⟨h1, h2⟩ := ih s _ hd3 hlen
    rw [hsk]
    have htk : (tkAt s p).kind = t.kind ∧ (tkAt s p).text = t.text := by
      unfold tkAt
      rw [hbl]
      exact ⟨rfl, txt_bts _⟩
    refine ⟨?_, fun x hx => ?_⟩
    · unfold kt at h1 ⊢
      rw [List.map_cons, List.map_cons, h1, htk.1, htk.2]
    · rcases List.mem_cons.1 hx with rfl | hx
      · rw [htk.1]; have := hb.kind; omega
      · exact h2 x hx
theorem Laid.reads {l : List Tk} {u : List UInt8} (h : Laid l u) (hu : u.length ≤ 500) : ∃ back, readF u = (back, (u.length : Int), 0) ∧ sameL back l = true := by
  have h0 : skipL u 0 = 0 := by unfold skipL; rw [List.drop_zero, h.start]
  obtain ⟨h1, h2⟩ := h.read u 0 (by rw [List.drop_zero]) (Nat.zero_le _)
  refine ⟨yields u, readF_good hu (by unfold yields; rw [h0]; exact h2), (sameL_iff _ _).2 ?_⟩
  unfold yields; rw [h0]; exact h1
theorem check_tok {t : Tk} (h : t.check = true) : TokIs t.kind (bts t.text) := (checkB_iff.1 h).1
/-- The plain text is laid. -/
theorem joinT_cons (t : Tk) (l : List Tk) : joinT (t :: l) = t.stands ++ ((if l = [] then [] else [32]) ++ joinT l) := by
  unfold joinT
  rw [List.map_cons, joinB_cons]
  cases l with
  | nil => rfl
  | cons x l =>
    rw [List.map_cons, joinB_cons, if_neg (by simp)]
    unfold Lib.joinTail
    simp
theorem laid_join (l : List Tk) (h : ∀ t ∈ l, t.check = true) : Laid l (joinT l) := by
  induction l with
  | nil => exact .nil
  | cons t l ih =>
    rw [joinT_cons]
    refine .cons (check_tok (h t (by simp))) ?_ ?_ (ih (fun x hx => h x (List.mem_cons_of_mem _ hx)))
    · intro c hc
      split at hc
      · simp at hc
      · simp at hc; subst hc; decide
    · split
      · rename_i e; subst e; exact .inr rfl
      · exact .inl (by simp)
/-- What is read may be, and stands where it stood. -/
theorem yieldsF_check (s : List UInt8) : ∀ (f p : Nat), (∀ t ∈ yieldsF s f p, t.kind ≠ 0) → ∀ t ∈ yieldsF s f p, t.check = true ∧ t.text.size ≤ s.length
  | 0, p, _, t, h => by simp [yieldsF] at h
  | f + 1, p, hk, t, h => by
    unfold yieldsF at h hk
    by_cases hp : p < s.length
    · rw [if_pos hp] at h hk
      have hn : (begL (s.drop p)).2.2 ≠ 0 := fun e => hk _ List.mem_cons_self (begL_kind0 e)
      rw [if_neg hn] at h hk
      have hb := begL_is (Nat.pos_of_ne_zero hn)
      rcases List.mem_cons.1 h with rfl | h
      · refine ⟨?_, ?_⟩
        · unfold Tk.check
          dsimp only
          rw [bts_txt]
          exact checkB_iff.2 ⟨hb.tok, by omega⟩
        · dsimp only
          rw [txt_size]
          obtain ⟨h1, h2, h3⟩ := hb.stands
          have : (begL (s.drop p)).2.1.length ≤ (standsL (begL (s.drop p)).1 (begL (s.drop p)).2.1).length := by
            generalize (begL (s.drop p)).1 = k at *
            generalize (begL (s.drop p)).2.1 = l at *
            unfold standsL
            by_cases h1 : k = 1
            · rw [if_pos h1]; omega
            rw [if_neg h1]
            by_cases h2 : k = 2
            · rw [if_pos h2]; simp
            rw [if_neg h2]
            by_cases h3 : k = 3
            · rw [if_pos h3]; simp; omega
            · have htok := hb.tok
              cases htok with
              | word => exact absurd rfl h1
              | key => exact absurd rfl h2
              | text => exact absurd rfl h3
              | sign => simp
          rw [List.length_drop] at h3; omega
      · exact yieldsF_check s f _ (fun x hx => hk x (List.mem_cons_of_mem _ hx)) t h
    · rw [if_neg hp] at h; simp at h
/-- What Read tells of a text. -/
theorem readF_cases (s : List UInt8) : (500 < s.length ∧ readF s = ([], 500, 3)) ∨ (s.length ≤ 500 ∧ ∃ p : Int, 0 ≤ p ∧ p < s.length ∧ readF s = ([], p, 250)) ∨
    (s.length ≤ 500 ∧ ∃ l, readF s = (l, (s.length : Int), 0) ∧ l = yields s ∧ (∀ t ∈ l, t.kind ≠ 0) ∧ ∀ t ∈ l, t.check = true ∧ t.text.size ≤ s.length) := by
  by_cases h5 : 500 < s.length
  · exact .inl ⟨h5, by unfold readF; rw [if_pos h5]⟩
  refine .inr ?_
  cases hf : (yields s).find? (fun t => decide (t.kind = 0)) with
  | some t =>
    have hm := List.mem_of_find?_eq_some hf
    have ha := yields_at hm
    exact .inl ⟨by omega, t.at_, ha.1, ha.2, by unfold readF; rw [if_neg h5, hf]⟩
  | none =>
    have hk : ∀ t ∈ yields s, t.kind ≠ 0 := fun t ht => by have := List.find?_eq_none.1 hf t ht; simpa using this
    exact .inr ⟨by omega, yields s, readF_good (by omega) hk, rfl, hk, yieldsF_check s _ _ hk⟩
end Go.Proofs.YtofglbngnjcpeaaDoor
