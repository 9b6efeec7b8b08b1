/- The reference's token is the program's: plain. -/
import Derived.Test.YthoneahamnmjlaaGreatDoorGp07
import Derived.Test.YthoneahamnmjlaaGreatDoorGp06
import Derived.Laws.StructEq
import Derived.Lib.Join
import Derived.Test.YthoneahamnmjlaaGreatDoorGp04
namespace Go.Proofs.YthoneahamnmjlaaGreatDoor
set_option maxRecDepth 100000
set_option maxHeartbeats 2000000
set_option linter.unusedSimpArgs false
set_option linter.unusedVariables false

theorem begL_zero {l : List UInt8} (h : (begL l).2.2 = 0) : begL l = begNo := by
  by_cases h1 : 0 < (ask1 l).2.2
  · rw [begL_1 h1] at h; omega
  by_cases h2 : 0 < (ask2 l).2.2
  · rw [begL_2 h1 h2] at h; omega
  by_cases h3 : 0 < (ask3 l).2.2
  · rw [begL_3 h1 h2 h3] at h; omega
  rw [begL_4 h1 h2 h3] at h ⊢
  exact ask4_zero (by omega)
/-- What a token's bytes are, by what it is. -/
inductive BegIs : List UInt8 → Int → List UInt8 → Nat → Prop
  | word {l : List UInt8} (h1 : 1 ≤ spanL letterC l) (h2 : spanL letterC l ≤ 32) : BegIs l 1 (l.take (spanL letterC l)) (spanL letterC l)
  | key {r : List UInt8} (h1 : 1 ≤ spanL letterC r) (h2 : spanL letterC r ≤ 32) : BegIs (64 :: r) 2 (r.take (spanL letterC r)) (spanL letterC r + 1)
  | text {r : List UInt8} (h1 : spanL quotedC r ≤ 40) (h2 : r[spanL quotedC r]? = some 34) : BegIs (34 :: r) 3 (r.take (spanL quotedC r)) (spanL quotedC r + 2)
  | sign {k : Int} {x r : List UInt8} (h : (k, x) ∈ signs) : BegIs (x ++ r) k [] x.length
theorem wordN_pos {l : List UInt8} (h : 0 < wordN l) : wordN l = spanL letterC l ∧ 1 ≤ spanL letterC l ∧ spanL letterC l ≤ 32 := by
  unfold wordN at h ⊢
  split at h
  · omega
  · rename_i hn
    rw [if_neg hn]; exact ⟨rfl, h, by omega⟩
theorem sign_head {k : Int} {x : List UInt8} (h : (k, x) ∈ signs) : ∃ c y, x = c :: y ∧ letterC c.toNat = false ∧ c ≠ 64 ∧ c ≠ 34 := by
  simp only [signs, List.mem_cons, List.not_mem_nil, or_false, Prod.mk.injEq] at h
  rcases h with ⟨rfl, rfl⟩ | ⟨rfl, rfl⟩ | ⟨rfl, rfl⟩ | ⟨rfl, rfl⟩ | ⟨rfl, rfl⟩ | ⟨rfl, rfl⟩ | ⟨rfl, rfl⟩ | ⟨rfl, rfl⟩ <;> exact ⟨_, _, rfl, by decide, by decide, by decide⟩
theorem begL_is {l : List UInt8} (h : 0 < (begL l).2.2) : BegIs l (begL l).1 (begL l).2.1 (begL l).2.2 := by
  by_cases h1 : 0 < (ask1 l).2.2
  · rw [begL_1 h1]
    obtain ⟨e, a, b⟩ := wordN_pos (l := l) h1
    unfold ask1
    dsimp only
    rw [e]
    exact .word a b
  by_cases h2 : 0 < (ask2 l).2.2
  · rw [begL_2 h1 h2]
    cases l with
    | nil => exact absurd h2 (by decide)
    | cons c r =>
      by_cases hc : c = 64 ∧ wordN r ≠ 0
      · obtain ⟨e, a, b⟩ := wordN_pos (l := r) (by omega)
        simp only [ask2, if_pos hc]
        rw [e, hc.1]
        exact .key a b
      · simp only [ask2, if_neg hc, begNo] at h2; omega
  by_cases h3 : 0 < (ask3 l).2.2
  · rw [begL_3 h1 h2 h3]
    cases l with
    | nil => exact absurd h3 (by decide)
    | cons c r =>
      by_cases hc : c = 34 ∧ spanL quotedC r ≤ 40 ∧ r[spanL quotedC r]? = some 34
      · simp only [ask3, if_pos hc]
        rw [hc.1]
        exact .text hc.2.1 hc.2.2
      · simp only [ask3, if_neg hc, begNo] at h3; omega
  rw [begL_4 h1 h2 h3] at h ⊢
  unfold ask4 at h ⊢
  cases hf : signs.find? (fun x => x.2.isPrefixOf l) with
  | none => rw [hf] at h; exact absurd h (by decide)
  | some x =>
    have hp : x.2.isPrefixOf l = true := by simpa using List.find?_some hf
    obtain ⟨r, hr⟩ := List.isPrefixOf_iff_prefix.1 hp
    rw [← hr]
    exact .sign (List.mem_of_find?_eq_some hf)
theorem begL_of {l : List UInt8} {k : Int} {t : List UInt8} {n : Nat} (h : BegIs l k t n) : begL l = (k, t, n) := by
  cases h with
  | word h1 h2 =>
    have e : wordN l = spanL letterC l := by unfold wordN; rw [if_neg (by omega)]
    have : 0 < (ask1 l).2.2 := by unfold ask1; dsimp only; omega
    rw [begL_1 this]; unfold ask1; rw [e]
  | @key r h1 h2 =>
    have e : wordN r = spanL letterC r := by unfold wordN; rw [if_neg (by omega)]
    have e0 : wordN (64 :: r) = 0 := by unfold wordN; rw [spanL_no (by decide)]; rfl
    have n1 : ¬ 0 < (ask1 (64 :: r)).2.2 := by unfold ask1; dsimp only; omega
    have hc : (64 : UInt8) = 64 ∧ wordN r ≠ 0 := ⟨rfl, by omega⟩
    have e2 : ask2 (64 :: r) = (2, r.take (spanL letterC r), spanL letterC r + 1) := by show (if (64 : UInt8) = 64 ∧ wordN r ≠ 0 then _ else _) = _; rw [if_pos hc, e]
    rw [begL_2 n1 (by rw [e2]; exact Nat.succ_pos _), e2]
  | @text r h1 h2 =>
    have e0 : wordN (34 :: r) = 0 := by unfold wordN; rw [spanL_no (by decide)]; rfl
    have n1 : ¬ 0 < (ask1 (34 :: r)).2.2 := by unfold ask1; dsimp only; omega
    have n2 : ¬ 0 < (ask2 (34 :: r)).2.2 := by simp [ask2, begNo]
    have hc : (34 : UInt8) = 34 ∧ spanL quotedC r ≤ 40 ∧ r[spanL quotedC r]? = some 34 := ⟨rfl, h1, h2⟩
    have e3 : ask3 (34 :: r) = (3, r.take (spanL quotedC r), spanL quotedC r + 2) := by show (if (34 : UInt8) = 34 ∧ spanL quotedC r ≤ 40 ∧ r[spanL quotedC r]? = some 34 then _ else _) = _; rw [if_pos hc]
    rw [begL_3 n1 n2 (by rw [e3]; exact Nat.succ_pos _), e3]
  | @sign k x r h =>
    obtain ⟨c, y, rfl, hl, h64, h34⟩ := sign_head h
    have n1 : ¬ 0 < (ask1 (c :: y ++ r)).2.2 := by unfold ask1 wordN; rw [List.cons_append, spanL_no hl]; simp
    have n2 : ¬ 0 < (ask2 (c :: y ++ r)).2.2 := by rw [List.cons_append]; simp [ask2, begNo, h64]
    have n3 : ¬ 0 < (ask3 (c :: y ++ r)).2.2 := by rw [List.cons_append]; simp [ask3, begNo, h34]
    rw [begL_4 n1 n2 n3]
    exact ask4_yes h (List.isPrefixOf_iff_prefix.2 ⟨r, rfl⟩)
/-- What stands for it is what it has begun with. -/
theorem BegIs.stands {l : List UInt8} {k : Int} {t : List UInt8} {n : Nat} (h : BegIs l k t n) : standsL k t = l.take n ∧ n = (standsL k t).length ∧ n ≤ l.length := by
  cases h with
  | word h1 h2 => have := spanL_le letterC l; exact ⟨rfl, by simp [standsL]; omega, this⟩
  | @key r h1 h2 =>
    have := spanL_le letterC r
    refine ⟨by simp [standsL], ?_, by simp; omega⟩
    show _ = (64 :: r.take (spanL letterC r)).length
    simp; omega
  | @text r h1 h2 =>
    obtain ⟨hlt, hg⟩ := List.getElem?_eq_some_iff.1 h2
    refine ⟨?_, ?_, by simp; omega⟩
    · show 34 :: (r.take (spanL quotedC r) ++ [34]) = (34 :: r).take (spanL quotedC r + 1 + 1)
      rw [List.take_succ_cons, take_snoc r _ hlt, hg]
    · show _ = (34 :: (r.take (spanL quotedC r) ++ [34])).length
      simp; omega
  | @sign k x r h =>
    rw [standsL_sign h]
    exact ⟨by simp, rfl, by simp⟩
theorem BegIs.pos {l : List UInt8} {k : Int} {t : List UInt8} {n : Nat} (h : BegIs l k t n) : 0 < n := by
  cases h with
  | word h1 h2 => omega
  | key => omega
  | text => omega
  | sign h => obtain ⟨c, y, rfl, _⟩ := sign_head h; simp

/-- All bytes hold. -/
theorem spanL_take (p : Int → Bool) (l : List UInt8) : spanL p (l.take (spanL p l)) = spanL p l := by
  have := spanL_append p (l.take (spanL p l)) [] (spanL_all p l)
  rw [List.append_nil] at this
  rw [this, List.length_take, Nat.min_eq_left (spanL_le p l)]; rfl
theorem allB_iff {p : Int → Bool} {lo hi : Nat} {l : List UInt8} : allB p lo hi l = true ↔ spanL p l = l.length ∧ lo ≤ l.length ∧ l.length ≤ hi := by
  unfold allB
  simp
theorem all_prefix {p : Int → Bool} {a b : List UInt8} (h : spanL p a = a.length) : spanL p (a ++ b) = a.length + spanL p b := by
  refine spanL_append p a b (fun c hc => ?_)
  have := spanL_all p a
  rw [h, List.take_of_length_le (Nat.le_refl _)] at this
  exact this c hc
end Go.Proofs.YthoneahamnmjlaaGreatDoor

/- Rows of tokens held against one another. -/
namespace Go.Proofs.YthoneahamnmjlaaGreatDoor
set_option maxRecDepth 100000
set_option maxHeartbeats 2000000
set_option linter.unusedVariables false
set_option linter.unusedSimpArgs false
open Go.RowKit

end Go.Proofs.YthoneahamnmjlaaGreatDoor

/- The reference's Read. -/
namespace Go.Proofs.YthoneahamnmjlaaGreatDoor
set_option maxRecDepth 100000
set_option maxHeartbeats 2000000
set_option linter.unusedVariables false
set_option linter.unusedSimpArgs false
open Go.RowKit

theorem begL_kind0 {l : List UInt8} (h : (begL l).2.2 = 0) : (begL l).1 = 0 := by rw [begL_zero h]; rfl
theorem readF_good {s : List UInt8} (hs : s.length ≤ 500) (hk : ∀ x ∈ yields s, x.kind ≠ 0) : readF s = (yields s, ((s.length : Nat) : Int), 0) := by
  unfold readF
  rw [if_neg (by omega), List.find?_eq_none.2 (fun x hx => by simpa using hk x hx)]

end Go.Proofs.YthoneahamnmjlaaGreatDoor

/- Few tokens; their plain text. -/
namespace Go.Proofs.YthoneahamnmjlaaGreatDoor
set_option maxRecDepth 100000
set_option maxHeartbeats 2000000
set_option linter.unusedVariables false
set_option linter.unusedSimpArgs false
open Go.RowKit

theorem joinTail_snoc (sep y : List UInt8) (r : List (List UInt8)) : Lib.joinTail sep (r ++ [y]) = Lib.joinTail sep r ++ (sep ++ y) := by
  unfold Lib.joinTail
  rw [List.map_append, List.flatten_append]
  simp
theorem elStr : ElT Tryz.prog 23 9 (.string ⟨#[]⟩) 1 16 := ⟨Tryz.underlying23, ⟨_, rfl, by kernel_rfl, by kernel_rfl, by kernel_rfl⟩, rfl, by decide⟩

end Go.Proofs.YthoneahamnmjlaaGreatDoor

/- Does the layer do anything? It does. -/
namespace Go.Proofs.YthoneahamnmjlaaGreatDoor
set_option maxRecDepth 100000
set_option maxHeartbeats 2000000
set_option linter.unusedVariables false
set_option linter.unusedSimpArgs false
open Go.RowKit

end Go.Proofs.YthoneahamnmjlaaGreatDoor

/- The reference's Same, Plain and Number. -/
namespace Go.Proofs.YthoneahamnmjlaaGreatDoor
set_option maxRecDepth 100000
set_option maxHeartbeats 2000000
set_option linter.unusedVariables false
set_option linter.unusedSimpArgs false
open Go.RowKit

end Go.Proofs.YthoneahamnmjlaaGreatDoor

/- The reference's Number. -/
namespace Go.Proofs.YthoneahamnmjlaaGreatDoor
set_option maxRecDepth 100000
set_option maxHeartbeats 2000000
set_option linter.unusedVariables false
set_option linter.unusedSimpArgs false
open Go.RowKit

end Go.Proofs.YthoneahamnmjlaaGreatDoor

/- What may be, what is a number, and reading on: plain. -/
namespace Go.Proofs.YthoneahamnmjlaaGreatDoor
set_option maxRecDepth 100000
set_option maxHeartbeats 2000000
set_option linter.unusedSimpArgs false
set_option linter.unusedVariables false

/-- A token that may be. -/
inductive TokIs : Int → List UInt8 → Prop
  | word {l : List UInt8} (h : allB letterC 1 32 l = true) : TokIs 1 l
  | key {l : List UInt8} (h : allB letterC 1 32 l = true) : TokIs 2 l
  | text {l : List UInt8} (h : allB quotedC 0 40 l = true) : TokIs 3 l
  | sign {k : Int} {x : List UInt8} (h : (k, x) ∈ signs) : TokIs k []
theorem TokIs.of_right {k : Int} {l : List UInt8} {a : Int} (h : rightB k l a = true) : TokIs k l ∧ 0 ≤ a := by
  unfold rightB at h
  by_cases ha : a < 0
  · rw [if_pos ha] at h; cases h
  rw [if_neg ha] at h
  by_cases h1 : k = 1 ∨ k = 2
  · rw [if_pos h1] at h
    rcases h1 with rfl | rfl
    · exact ⟨.word h, by omega⟩
    · exact ⟨.key h, by omega⟩
  rw [if_neg h1] at h
  by_cases h3 : k = 3
  · rw [if_pos h3] at h; subst h3; exact ⟨.text h, by omega⟩
  rw [if_neg h3] at h
  obtain ⟨h4, h5, rfl⟩ := of_decide_eq_true h
  obtain ⟨x, hx, _⟩ := sign_in h4 h5
  exact ⟨.sign hx, by omega⟩
theorem TokIs.right {k : Int} {l : List UInt8} {a : Int} (h : TokIs k l) (ha : 0 ≤ a) : rightB k l a = true := by
  unfold rightB
  rw [if_neg (by omega)]
  cases h with
  | word h => rw [if_pos (.inl rfl)]; exact h
  | key h => rw [if_pos (.inr rfl)]; exact h
  | text h => rw [if_neg (by omega), if_pos rfl]; exact h
  | sign h =>
    have hk : ∀ x ∈ signs, 4 ≤ x.1 ∧ x.1 ≤ 11 := by decide
    have hk := hk _ h
    dsimp only at hk
    rw [if_neg (by omega), if_neg (by omega)]
    exact decide_eq_true ⟨hk.1, hk.2, rfl⟩
/-- What stands behind a token: nothing, or a blank. -/
def Stop (r : List UInt8) : Prop := r = [] ∨ ∃ c y, r = c :: y ∧ blankC c.toNat = true
theorem Stop.letter {r : List UInt8} (h : Stop r) : spanL letterC r = 0 := by
  rcases h with rfl | ⟨c, y, rfl, hc⟩
  · rfl
  · have := of_decide_eq_true hc
    exact spanL_no (decide_eq_false (by omega))
theorem TokIs.begins {k : Int} {l : List UInt8} (h : TokIs k l) {r : List UInt8} (hr : Stop r) : BegIs (standsL k l ++ r) k l (standsL k l).length := by
  cases h with
  | word h =>
    obtain ⟨h1, h2, h3⟩ := allB_iff.1 h
    have e := all_prefix (b := r) h1
    rw [hr.letter, Nat.add_zero] at e
    have := BegIs.word (l := l ++ r) (by omega) (by omega)
    rw [e, List.take_left] at this
    exact this
  | key h =>
    obtain ⟨h1, h2, h3⟩ := allB_iff.1 h
    have e := all_prefix (b := r) h1
    rw [hr.letter, Nat.add_zero] at e
    have := BegIs.key (r := l ++ r) (by omega) (by omega)
    rw [e, List.take_left] at this
    exact this
  | text h =>
    obtain ⟨h1, h2, h3⟩ := allB_iff.1 h
    have e := all_prefix (b := 34 :: r) h1
    rw [spanL_no (by decide), Nat.add_zero] at e
    have := BegIs.text (r := l ++ 34 :: r) (by omega) (by rw [e, List.getElem?_append_right (Nat.le_refl _), Nat.sub_self]; rfl)
    rw [e, List.take_left] at this
    have e2 : standsL 3 l ++ r = 34 :: (l ++ 34 :: r) := by
      show (34 :: (l ++ [34])) ++ r = _
      simp
    rw [e2]
    have e3 : (standsL 3 l).length = l.length + 2 := by
      show (34 :: (l ++ [34])).length = _
      simp
    rw [e3]; exact this
  | sign h => rw [standsL_sign h]; exact .sign h
theorem BegIs.tok {s : List UInt8} {k : Int} {l : List UInt8} {n : Nat} (h : BegIs s k l n) : TokIs k l := by
  cases h with
  | word h1 h2 =>
    have := spanL_le letterC s
    exact .word (allB_iff.2 ⟨by rw [spanL_take, List.length_take]; omega, by rw [List.length_take]; omega, by rw [List.length_take]; omega⟩)
  | @key r h1 h2 =>
    have := spanL_le letterC r
    exact .key (allB_iff.2 ⟨by rw [spanL_take, List.length_take]; omega, by rw [List.length_take]; omega, by rw [List.length_take]; omega⟩)
  | @text r h1 h2 =>
    have := spanL_le quotedC r
    exact .text (allB_iff.2 ⟨by rw [spanL_take, List.length_take]; omega, by rw [List.length_take]; omega, by rw [List.length_take]; omega⟩)
  | sign h => exact .sign h
theorem checkB_iff {k : Int} {l : List UInt8} {a : Int} : checkB k l a = true ↔ TokIs k l ∧ 0 ≤ a := by
  unfold checkB
  constructor
  · intro h
    simp only [Bool.and_eq_true, decide_eq_true_eq] at h
    obtain ⟨⟨⟨⟨h1, h2⟩, h3⟩, h4⟩, h5⟩ := h
    have := (begL_is (Nat.pos_of_ne_zero h1)).tok
    rw [h3, h4] at this
    exact ⟨this, h5⟩
  · rintro ⟨h, ha⟩
    have hb := h.begins (r := []) (.inl rfl)
    rw [List.append_nil] at hb
    have hp := hb.pos
    rw [begL_of hb]
    simp [ha]
    intro h0; rw [h0] at hp; simp at hp
theorem right_check (k : Int) (l : List UInt8) (a : Int) : rightB k l a = checkB k l a := by
  rw [Bool.eq_iff_iff, checkB_iff]
  exact ⟨TokIs.of_right, fun h => h.1.right h.2⟩

/-! Numbers. -/
end Go.Proofs.YthoneahamnmjlaaGreatDoor

/- Reading what was laid: plain. -/
namespace Go.Proofs.YthoneahamnmjlaaGreatDoor
set_option maxRecDepth 100000
set_option maxHeartbeats 2000000
set_option linter.unusedSimpArgs false
set_option linter.unusedVariables false

def kt (l : List Tk) : List (Int × ByteArray) := l.map fun t => (t.kind, t.text)
/-- What is read may be, and stands where it stood. -/
theorem yieldsF_check (s : List UInt8) : ∀ (f p : Nat), (∀ t ∈ yieldsF s f p, t.kind ≠ 0) → ∀ t ∈ yieldsF s f p, t.check = true ∧ t.text.size ≤ s.length
  | 0, p, _, t, h => by simp [yieldsF] at h
  | f + 1, p, hk, t, h => by
    unfold yieldsF at h hk
    by_cases hp : p < s.length
    · rw [if_pos hp] at h hk
      have hn : (begL (s.drop p)).2.2 ≠ 0 := fun e => hk _ List.mem_cons_self (begL_kind0 e)
      rw [if_neg hn] at h hk
      have hb := begL_is (Nat.pos_of_ne_zero hn)
      rcases List.mem_cons.1 h with rfl | h
      · refine ⟨?_, ?_⟩
        · unfold Tk.check
          dsimp only
          rw [bts_txt]
          exact checkB_iff.2 ⟨hb.tok, by omega⟩
        · dsimp only
          rw [txt_size]
          obtain ⟨h1, h2, h3⟩ := hb.stands
          have : (begL (s.drop p)).2.1.length ≤ (standsL (begL (s.drop p)).1 (begL (s.drop p)).2.1).length := by
            generalize (begL (s.drop p)).1 = k at *
            generalize (begL (s.drop p)).2.1 = l at *
            unfold standsL
            by_cases h1 : k = 1
            · rw [if_pos h1]; omega
            rw [if_neg h1]
            by_cases h2 : k = 2
            · rw [if_pos h2]; simp
            rw [if_neg h2]
            by_cases h3 : k = 3
            · rw [if_pos h3]; simp; omega
            · have htok := hb.tok
              cases htok with
              | word => exact absurd rfl h1
              | key => exact absurd rfl h2
              | text => exact absurd rfl h3
              | sign => simp
          rw [List.length_drop] at h3; omega
      · exact yieldsF_check s f _ (fun x hx => hk x (List.mem_cons_of_mem _ hx)) t h
    · rw [if_neg hp] at h; simp at h
/-- What Read tells of a text. -/
theorem readF_cases (s : List UInt8) : (500 < s.length ∧ readF s = ([], 500, 3)) ∨ (s.length ≤ 500 ∧ ∃ p : Int, 0 ≤ p ∧ p < s.length ∧ readF s = ([], p, 250)) ∨
    (s.length ≤ 500 ∧ ∃ l, readF s = (l, (s.length : Int), 0) ∧ l = yields s ∧ (∀ t ∈ l, t.kind ≠ 0) ∧ ∀ t ∈ l, t.check = true ∧ t.text.size ≤ s.length) := by
  by_cases h5 : 500 < s.length
  · exact .inl ⟨h5, by unfold readF; rw [if_pos h5]⟩
  refine .inr ?_
  cases hf : (yields s).find? (fun t => decide (t.kind = 0)) with
  | some t =>
    have hm := List.mem_of_find?_eq_some hf
    have ha := yields_at hm
    exact .inl ⟨by omega, t.at_, ha.1, ha.2, by unfold readF; rw [if_neg h5, hf]⟩
  | none =>
    have hk : ∀ t ∈ yields s, t.kind ≠ 0 := fun t ht => by have := List.find?_eq_none.1 hf t ht; simpa using this
    exact .inr ⟨by omega, yields s, readF_good (by omega) hk, rfl, hk, yieldsF_check s _ _ hk⟩
end Go.Proofs.YthoneahamnmjlaaGreatDoor

/- What a pattern's tokens come to: plain, no program in sight. -/
namespace Go.Proofs.YthoneahamnmjlaaGreatDoor
set_option maxRecDepth 100000
set_option maxHeartbeats 2000000
set_option linter.unusedSimpArgs false
set_option linter.unusedVariables false

/-- An atom. -/
structure Atm where
  kind : Int
  fk : Bool
  fn : ByteArray
  name : ByteArray
  value : ByteArray
  tk : Bool
  tn : ByteArray
deriving DecidableEq
/-- A pattern. -/
structure Pat where
  atoms : List Atm
  ret : List ByteArray
  count : Bool
  distinct : Bool
  limited : Bool
  limit : Int
  offset : Int
  hint : List ByteArray
def noPat : Pat := ⟨[], [], false, false, false, 0, 0, []⟩
def nilB : ByteArray := ⟨#[]⟩
/-- The token's kind where one is; 0: there is none, or it may not be. -/
def kindAt (ts : List Tk) (p : Nat) : Int := match ts[p]? with
  | none => 0
  | some t => if t.check then t.kind else 0
def tkNil : Tk := ⟨0, nilB, 0⟩
def textAt (ts : List Tk) (p : Nat) : ByteArray := (ts.getD p tkNil).text
theorem kindAt_lt {ts : List Tk} {p : Nat} (h : kindAt ts p ≠ 0) : p < ts.length := by
  unfold kindAt at h
  split at h
  · exact absurd rfl h
  · rename_i t ht
    exact (List.getElem?_eq_some_iff.1 ht).1
/-- Behind some tokens: where, and what has been read. -/
structure PS where
  p : Nat
  atoms : List Atm
  vars : List ByteArray
/-- Is a text among others? -/
def hasB (s : ByteArray) (l : List ByteArray) : Bool := l.any fun x => decide (x = s)
theorem hasB_iff {s : ByteArray} {l : List ByteArray} : hasB s l = true ↔ s ∈ l := by
  unfold hasB
  simp
theorem hasB_no {s : ByteArray} {l : List ByteArray} : hasB s l = false ↔ s ∉ l := by
  rw [← hasB_iff]
  cases hasB s l <;> simp
def takeP (ts : List Tk) (k : Int) (p : Nat) : Except Nat (ByteArray × Nat) := if kindAt ts p = k then .ok (textAt ts p, p + 1) else .error p
/-- A term: whether it is a key, and its name; the variables with it; the place behind. -/
def termP (ts : List Tk) (vars : List ByteArray) (p : Nat) : Except Nat ((Bool × ByteArray) × List ByteArray × Nat) :=
  if kindAt ts p = 2 then .ok ((true, textAt ts p), vars, p + 1)
  else if kindAt ts p = 1 then
    (if hasB (textAt ts p) vars = true then .ok ((false, textAt ts p), vars, p + 1)
     else if vars.length = 32 then .error p
     else .ok ((false, textAt ts p), vars ++ [textAt ts p], p + 1))
  else .error p
def edgesOf (l : List Atm) : Nat := (l.filter fun a => decide (a.kind = 4)).length
/-- What stands behind an atom's first term: the kind, the name, the value, and the place behind. -/
def midP (ts : List Tk) (p : Nat) : Except Nat (Int × ByteArray × ByteArray × Nat) :=
  if kindAt ts p = 7 then (takeP ts 1 (p + 1)).bind fun (s, p) => .ok (2, s, nilB, p)
  else if kindAt ts p = 8 then (takeP ts 1 (p + 1)).bind fun (s, p) => (takeP ts 9 p).bind fun (_, p) => (takeP ts 3 p).bind fun (v, p) => .ok (3, s, v, p)
  else .ok (1, nilB, nilB, p)
/-- An atom, of which the first token is taken. -/
def atomP (ts : List Tk) (st : PS) : Except Nat PS :=
  (termP ts st.vars st.p).bind fun (f, vars, p) => (midP ts p).bind fun (k, s, v, p) => (takeP ts 5 p).bind fun (_, p) =>
    if k = 1 ∧ kindAt ts p = 10 then
      (if edgesOf st.atoms = 6 then .error p
       else (takeP ts 1 (p + 1)).bind fun (s, p) => (takeP ts 11 p).bind fun (_, p) => (takeP ts 4 p).bind fun (_, p) => (termP ts vars p).bind fun (t, vars, p) => (takeP ts 5 p).bind fun (_, p) =>
        .ok ⟨p, st.atoms ++ [⟨4, f.1, f.2, s, nilB, t.1, t.2⟩], vars⟩)
    else .ok ⟨p, st.atoms ++ [⟨k, f.1, f.2, s, v, false, nilB⟩], vars⟩
/-- Items; none: the fuel is out. -/
def itemsF (ts : List Tk) : Nat → Nat → PS → Option (Except Nat PS)
  | 0, _, _ => none
  | f + 1, d, st =>
    let one : Option (Except Nat PS) := if kindAt ts st.p = 4 then
        (if kindAt ts (st.p + 1) = 4 then
          (if d = 4 then some (.error (st.p + 1))
           else match itemsF ts f (d + 1) ⟨st.p + 1, st.atoms, st.vars⟩ with
            | none => none
            | some (.error q) => some (.error q)
            | some (.ok s) => some ((takeP ts 5 s.p).bind fun (_, p) => .ok ⟨p, s.atoms, s.vars⟩))
         else some (atomP ts ⟨st.p + 1, st.atoms, st.vars⟩))
      else some (.error st.p)
    match one with
    | none => none
    | some (.error q) => some (.error q)
    | some (.ok s) => if s.atoms.length = 40 ∨ kindAt ts s.p ≠ 6 then some (.ok s) else itemsF ts f d ⟨s.p + 1, s.atoms, s.vars⟩
theorem itemsF_mono (ts : List Tk) : ∀ (f d : Nat) (st : PS) (r : Except Nat PS), itemsF ts f d st = some r → itemsF ts (f + 1) d st = some r
  | 0, _, _, _, h => by simp [itemsF] at h
  | f + 1, d, st, r, h => by
    have ih := itemsF_mono ts f
    unfold itemsF at h ⊢
    by_cases h4 : kindAt ts st.p = 4
    · by_cases h44 : kindAt ts (st.p + 1) = 4
      · by_cases hd : d = 4
        · simpa [h4, h44, hd] using h
        · simp only [h4, h44, hd, if_true, if_false] at h ⊢
          cases hi : itemsF ts f (d + 1) ⟨st.p + 1, st.atoms, st.vars⟩ with
          | none => rw [hi] at h; simp at h
          | some x =>
            rw [ih _ _ _ hi]
            rw [hi] at h
            cases x with
            | error q => exact h
            | ok s =>
              cases hb : ((takeP ts 5 s.p).bind fun (_, p) => (.ok ⟨p, s.atoms, s.vars⟩ : Except Nat PS)) with
              | error q => simp only [hb] at h ⊢; exact h
              | ok s' =>
                simp only [hb] at h ⊢
                split at h
                · rename_i hs; rw [if_pos hs]; exact h
                · rename_i hs; rw [if_neg hs]; exact ih _ _ _ h
      · simp only [h4, h44, if_true, if_false] at h ⊢
        cases ha : atomP ts ⟨st.p + 1, st.atoms, st.vars⟩ with
        | error q => simp only [ha] at h ⊢; exact h
        | ok s' =>
          simp only [ha] at h ⊢
          split at h
          · rename_i hs; rw [if_pos hs]; exact h
          · rename_i hs; rw [if_neg hs]; exact ih _ _ _ h
    · simpa [h4] using h
theorem itemsF_le {ts : List Tk} {f g d : Nat} {st : PS} {r : Except Nat PS} (h : itemsF ts f d st = some r) (hg : f ≤ g) : itemsF ts g d st = some r := by
  obtain ⟨k, rfl⟩ := Nat.le.dest hg
  induction k with
  | zero => exact h
  | succ k ih => exact itemsF_mono ts _ _ _ _ (ih (by omega))
/-- Items at a depth come to this. -/
def ItemsR (ts : List Tk) (d : Nat) (st : PS) (r : Except Nat PS) : Prop := ∃ f, itemsF ts f d st = some r
theorem ItemsR.same {ts : List Tk} {d : Nat} {st : PS} {r r' : Except Nat PS} (h : ItemsR ts d st r) (h' : ItemsR ts d st r') : r = r' := by
  obtain ⟨f, h⟩ := h
  obtain ⟨g, h'⟩ := h'
  have a := itemsF_le h (Nat.le_max_left f g)
  have b := itemsF_le h' (Nat.le_max_right f g)
  rw [a] at b
  exact Option.some.inj b
/-- One item at a depth comes to this. -/
inductive ItemR (ts : List Tk) (d : Nat) (st : PS) : Except Nat PS → Prop
  | no (h : kindAt ts st.p ≠ 4) : ItemR ts d st (.error st.p)
  | atom (h : kindAt ts st.p = 4) (h' : kindAt ts (st.p + 1) ≠ 4) : ItemR ts d st (atomP ts ⟨st.p + 1, st.atoms, st.vars⟩)
  | deep (h : kindAt ts st.p = 4) (h' : kindAt ts (st.p + 1) = 4) (hd : d = 4) : ItemR ts d st (.error (st.p + 1))
  | bad (h : kindAt ts st.p = 4) (h' : kindAt ts (st.p + 1) = 4) (hd : d ≠ 4) {q : Nat} (hi : ItemsR ts (d + 1) ⟨st.p + 1, st.atoms, st.vars⟩ (.error q)) : ItemR ts d st (.error q)
  | group (h : kindAt ts st.p = 4) (h' : kindAt ts (st.p + 1) = 4) (hd : d ≠ 4) {s : PS} (hi : ItemsR ts (d + 1) ⟨st.p + 1, st.atoms, st.vars⟩ (.ok s)) : ItemR ts d st ((takeP ts 5 s.p).bind fun (_, p) => .ok ⟨p, s.atoms, s.vars⟩)
def contF (ts : List Tk) (g d : Nat) : Except Nat PS → Option (Except Nat PS)
  | .error q => some (.error q)
  | .ok s => if s.atoms.length = 40 ∨ kindAt ts s.p ≠ 6 then some (.ok s) else itemsF ts g d ⟨s.p + 1, s.atoms, s.vars⟩
theorem ItemR.one {ts : List Tk} {d : Nat} {st : PS} {r : Except Nat PS} (h : ItemR ts d st r) : ∃ f, ∀ g, f ≤ g → itemsF ts (g + 1) d st = contF ts g d r := by
  cases h with
  | no h => exact ⟨0, fun g _ => by unfold itemsF contF; simp only [h, if_false]⟩
  | atom h h' => exact ⟨0, fun g _ => by
      unfold itemsF contF; simp only [h, h', if_true, if_false]
      cases atomP ts ⟨st.p + 1, st.atoms, st.vars⟩ <;> simp only []⟩
  | deep h h' hd => exact ⟨0, fun g _ => by unfold itemsF contF; simp only [h, h', hd, if_true]⟩
  | bad h h' hd hi =>
    obtain ⟨f, hf⟩ := hi
    exact ⟨f, fun g hg => by unfold itemsF contF; simp only [h, h', hd, if_true, if_false, itemsF_le hf hg]⟩
  | @group h h' hd s hi =>
    obtain ⟨f, hf⟩ := hi
    exact ⟨f, fun g hg => by
      unfold itemsF contF; simp only [h, h', hd, if_true, if_false, itemsF_le hf hg]
      cases ((takeP ts 5 s.p).bind fun (_, p) => (.ok ⟨p, s.atoms, s.vars⟩ : Except Nat PS)) <;> simp only []⟩
theorem ItemsR.bad {ts : List Tk} {d : Nat} {st : PS} {q : Nat} (h : ItemR ts d st (.error q)) : ItemsR ts d st (.error q) := by
  obtain ⟨f, hf⟩ := h.one
  exact ⟨f + 1, hf f (Nat.le_refl _)⟩
theorem ItemsR.last {ts : List Tk} {d : Nat} {st s : PS} (h : ItemR ts d st (.ok s)) (hs : s.atoms.length = 40 ∨ kindAt ts s.p ≠ 6) : ItemsR ts d st (.ok s) := by
  obtain ⟨f, hf⟩ := h.one
  have h1 := hf f (Nat.le_refl _)
  unfold contF at h1
  simp only at h1
  rw [if_pos hs] at h1
  exact ⟨f + 1, h1⟩
theorem ItemsR.more {ts : List Tk} {d : Nat} {st s : PS} {r : Except Nat PS} (h : ItemR ts d st (.ok s)) (hs : ¬ (s.atoms.length = 40 ∨ kindAt ts s.p ≠ 6)) (h2 : ItemsR ts d ⟨s.p + 1, s.atoms, s.vars⟩ r) : ItemsR ts d st r := by
  obtain ⟨f, hf⟩ := h.one
  obtain ⟨g, hg⟩ := h2
  have h1 := hf (max f g) (Nat.le_max_left _ _)
  unfold contF at h1
  simp only at h1
  rw [if_neg hs, itemsF_le hg (Nat.le_max_right _ _)] at h1
  exact ⟨_, h1⟩
/-- What is told: the pattern, and the place behind. -/
def varP (ts : List Tk) (vars some_ : List ByteArray) (p : Nat) : Except Nat (List ByteArray × Nat) :=
  (takeP ts 1 p).bind fun (s, p') => if hasB s vars = false ∨ hasB s some_ = true then .error p else .ok (some_ ++ [s], p')
/-- The variables behind 'return': k more may follow. -/
def retP (ts : List Tk) (vars : List ByteArray) : Nat → List ByteArray → Nat → Except Nat (List ByteArray × Nat)
  | 0, acc, p => .ok (acc, p)
  | k + 1, acc, p => (varP ts vars acc p).bind fun (acc, p) => if k ≠ 0 ∧ kindAt ts p = 6 then retP ts vars k acc (p + 1) else .ok (acc, p)
def hintP (ts : List Tk) (vars : List ByteArray) : Nat → List ByteArray → Nat → Except Nat (List ByteArray × Nat)
  | 0, acc, p => .ok (acc, p)
  | k + 1, acc, p => (varP ts vars acc p).bind fun (acc, p) => hintP ts vars k acc p
def numP (ts : List Tk) (p : Nat) : Except Nat (Int × Nat) :=
  (takeP ts 1 p).bind fun (_, p') => match (ts.getD p tkNil).number with
    | none => .error p
    | some n => .ok (n, p')
def saysP (ts : List Tk) (s : ByteArray) (p : Nat) : Bool := decide (kindAt ts p = 1) && decide (textAt ts p = s)
def wReturn : ByteArray := ⟨#[114, 101, 116, 117, 114, 110]⟩
def wCount : ByteArray := ⟨#[99, 111, 117, 110, 116]⟩
def wDistinct : ByteArray := ⟨#[100, 105, 115, 116, 105, 110, 99, 116]⟩
def wLimit : ByteArray := ⟨#[108, 105, 109, 105, 116]⟩
def wOffset : ByteArray := ⟨#[111, 102, 102, 115, 101, 116]⟩
def wHint : ByteArray := ⟨#[104, 105, 110, 116]⟩
/-- What of it stands behind 'return'. -/
def toldRet (ts : List Tk) (vars : List ByteArray) (p : Nat) : Except Nat (List ByteArray × Nat) :=
  if vars ≠ [] ∧ saysP ts wReturn p = true then retP ts vars vars.length [] (p + 1) else .ok ([], p)
/-- Whether it is counted, without duplicates, limited, by how many, from which on. -/
def toldPage (ts : List Tk) (p : Nat) : Except Nat ((Bool × Bool × Bool × Int × Int) × Nat) :=
  if saysP ts wCount p = true then (if saysP ts wDistinct (p + 1) = true then .ok ((true, true, false, 0, 0), p + 2) else .ok ((true, false, false, 0, 0), p + 1))
  else (if saysP ts wLimit p = true then (numP ts (p + 1)).bind fun (n, p) => .ok (true, n, p) else .ok (false, 0, p)).bind fun (l, n, p) =>
    (if saysP ts wOffset p = true then (numP ts (p + 1)).bind fun (m, p) => .ok (m, p) else .ok (0, p)).bind fun (m, p) => .ok ((false, false, l, n, m), p)
def toldHint (ts : List Tk) (vars : List ByteArray) (p : Nat) : Except Nat (List ByteArray × Nat) :=
  if vars ≠ [] ∧ saysP ts wHint p = true then hintP ts vars vars.length [] (p + 1) else .ok ([], p)
def toldP (ts : List Tk) (st : PS) : Except Nat (Pat × Nat) :=
  (toldRet ts st.vars st.p).bind fun (r, p) => (toldPage ts p).bind fun (g, p) => (toldHint ts st.vars p).bind fun (h, p) =>
    .ok (⟨st.atoms, r, g.1, g.2.1, g.2.2.1, g.2.2.2.1, g.2.2.2.2, h⟩, p)
/-- The pattern of tokens, or the place of the first wrong one. -/
def ToksR (ts : List Tk) (r : Except Nat Pat) : Prop := ∃ x, ItemsR ts 0 ⟨0, [], []⟩ x ∧ r = x.bind fun st => (toldP ts st).bind fun (P, p) => if p < ts.length then .error p else .ok P
theorem ToksR.same {ts : List Tk} {r r' : Except Nat Pat} (h : ToksR ts r) (h' : ToksR ts r') : r = r' := by
  obtain ⟨x, h1, rfl⟩ := h
  obtain ⟨y, h2, rfl⟩ := h'
  rw [h1.same h2]
end Go.Proofs.YthoneahamnmjlaaGreatDoor
