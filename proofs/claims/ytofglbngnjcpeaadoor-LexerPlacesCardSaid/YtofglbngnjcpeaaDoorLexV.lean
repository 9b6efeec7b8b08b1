/- The reference's token is the program's: plain. -/
import Derived.Test.YtofglbngnjcpeaaDoorLexT
namespace Go.Proofs.YtofglbngnjcpeaaDoor
set_option maxRecDepth 100000
set_option maxHeartbeats 2000000
set_option linter.unusedSimpArgs false
set_option linter.unusedVariables false

theorem begL_zero {l : List UInt8} (h : (begL l).2.2 = 0) : begL l = begNo := by
  by_cases h1 : 0 < (ask1 l).2.2
  · rw [begL_1 h1] at h; omega
  by_cases h2 : 0 < (ask2 l).2.2
  · rw [begL_2 h1 h2] at h; omega
  by_cases h3 : 0 < (ask3 l).2.2
  · rw [begL_3 h1 h2 h3] at h; omega
  rw [begL_4 h1 h2 h3] at h ⊢
  exact ask4_zero (by omega)
/-- What a token's bytes are, by what it is. -/
inductive BegIs : List UInt8 → Int → List UInt8 → Nat → Prop
  | word {l : List UInt8} (h1 : 1 ≤ spanL letterC l) (h2 : spanL letterC l ≤ 32) : BegIs l 1 (l.take (spanL letterC l)) (spanL letterC l)
  | key {r : List UInt8} (h1 : 1 ≤ spanL letterC r) (h2 : spanL letterC r ≤ 32) : BegIs (64 :: r) 2 (r.take (spanL letterC r)) (spanL letterC r + 1)
  | text {r : List UInt8} (h1 : spanL quotedC r ≤ 40) (h2 : r[spanL quotedC r]? = some 34) : BegIs (34 :: r) 3 (r.take (spanL quotedC r)) (spanL quotedC r + 2)
  | sign {k : Int} {x r : List UInt8} (h : (k, x) ∈ signs) : BegIs (x ++ r) k [] x.length
theorem wordN_pos {l : List UInt8} (h : 0 < wordN l) : wordN l = spanL letterC l ∧ 1 ≤ spanL letterC l ∧ spanL letterC l ≤ 32 := by
  unfold wordN at h ⊢
  split at h
  · omega
  · rename_i hn
    rw [if_neg hn]; exact ⟨rfl, h, by omega⟩
theorem sign_head {k : Int} {x : List UInt8} (h : (k, x) ∈ signs) : ∃ c y, x = c :: y ∧ letterC c.toNat = false ∧ c ≠ 64 ∧ c ≠ 34 := by
  simp only [signs, List.mem_cons, List.not_mem_nil, or_false, Prod.mk.injEq] at h
  rcases h with ⟨rfl, rfl⟩ | ⟨rfl, rfl⟩ | ⟨rfl, rfl⟩ | ⟨rfl, rfl⟩ | ⟨rfl, rfl⟩ | ⟨rfl, rfl⟩ | ⟨rfl, rfl⟩ | ⟨rfl, rfl⟩ <;> exact ⟨_, _, rfl, by decide, by decide, by decide⟩
theorem begL_is {l : List UInt8} (h : 0 < (begL l).2.2) : BegIs l (begL l).1 (begL l).2.1 (begL l).2.2 := by
  by_cases h1 : 0 < (ask1 l).2.2
  · rw [begL_1 h1]
    obtain ⟨e, a, b⟩ := wordN_pos (l := l) h1
    unfold ask1
    dsimp only
    rw [e]
    exact .word a b
  by_cases h2 : 0 < (ask2 l).2.2
  · rw [begL_2 h1 h2]
    cases l with
    | nil => exact absurd h2 (by decide)
    | cons c r =>
      by_cases hc : c = 64 ∧ wordN r ≠ 0
      · obtain ⟨e, a, b⟩ := wordN_pos (l := r) (by omega)
        simp only [ask2, if_pos hc]
        rw [e, hc.1]
        exact .key a b
      · simp only [ask2, if_neg hc, begNo] at h2; omega
  by_cases h3 : 0 < (ask3 l).2.2
  · rw [begL_3 h1 h2 h3]
    cases l with
    | nil => exact absurd h3 (by decide)
    | cons c r =>
      by_cases hc : c = 34 ∧ spanL quotedC r ≤ 40 ∧ r[spanL quotedC r]? = some 34
      · simp only [ask3, if_pos hc]
        rw [hc.1]
        exact .text hc.2.1 hc.2.2
      · simp only [ask3, if_neg hc, begNo] at h3; omega
  rw [begL_4 h1 h2 h3] at h ⊢
  unfold ask4 at h ⊢
  cases hf : signs.find? (fun x => x.2.isPrefixOf l) with
  | none => rw [hf] at h; exact absurd h (by decide)
  | some x =>
    have hp : x.2.isPrefixOf l = true := by simpa using List.find?_some hf
    obtain ⟨r, hr⟩ := List.isPrefixOf_iff_prefix.1 hp
    rw [← hr]
    exact .sign (List.mem_of_find?_eq_some hf)
theorem begL_of {l : List UInt8} {k : Int} {t : List UInt8} {n : Nat} (h : BegIs l k t n) : begL l = (k, t, n) := by
  cases h with
  | word h1 h2 =>
    have e : wordN l = spanL letterC l := by unfold wordN; rw [if_neg (by omega)]
    have : 0 < (ask1 l).2.2 := by unfold ask1; dsimp only; omega
    rw [begL_1 this]; unfold ask1; rw [e]
  | @key r h1 h2 =>
    have e : wordN r = spanL letterC r := by unfold wordN; rw [if_neg (by omega)]
    have e0 : wordN (64 :: r) = 0 := by unfold wordN; rw [spanL_no (by decide)]; rfl
    have n1 : ¬ 0 < (ask1 (64 :: r)).2.2 := by unfold ask1; dsimp only; omega
    have hc : (64 : UInt8) = 64 ∧ wordN r ≠ 0 := ⟨rfl, by omega⟩
    have e2 : ask2 (64 :: r) = (2, r.take (spanL letterC r), spanL letterC r + 1) := by show (if (64 : UInt8) = 64 ∧ wordN r ≠ 0 then _ else _) = _; rw [if_pos hc, e]
    rw [begL_2 n1 (by rw [e2]; exact Nat.succ_pos _), e2]
  | @text r h1 h2 =>
    have e0 : wordN (34 :: r) = 0 := by unfold wordN; rw [spanL_no (by decide)]; rfl
    have n1 : ¬ 0 < (ask1 (34 :: r)).2.2 := by unfold ask1; dsimp only; omega
    have n2 : ¬ 0 < (ask2 (34 :: r)).2.2 := by simp [ask2, begNo]
    have hc : (34 : UInt8) = 34 ∧ spanL quotedC r ≤ 40 ∧ r[spanL quotedC r]? = some 34 := ⟨rfl, h1, h2⟩
    have e3 : ask3 (34 :: r) = (3, r.take (spanL quotedC r), spanL quotedC r + 2) := by show (if (34 : UInt8) = 34 ∧ spanL quotedC r ≤ 40 ∧ r[spanL quotedC r]? = some 34 then _ else _) = _; rw [if_pos hc]
    rw [begL_3 n1 n2 (by rw [e3]; exact Nat.succ_pos _), e3]
  | @sign k x r h =>
    obtain ⟨c, y, rfl, hl, h64, h34⟩ := sign_head h
    have n1 : ¬ 0 < (ask1 (c :: y ++ r)).2.2 := by unfold ask1 wordN; rw [List.cons_append, spanL_no hl]; simp
    have n2 : ¬ 0 < (ask2 (c :: y ++ r)).2.2 := by rw [List.cons_append]; simp [ask2, begNo, h64]
    have n3 : ¬ 0 < (ask3 (c :: y ++ r)).2.2 := by rw [List.cons_append]; simp [ask3, begNo, h34]
    rw [begL_4 n1 n2 n3]
    exact ask4_yes h (List.isPrefixOf_iff_prefix.2 ⟨r, rfl⟩)
theorem BegIs.kind {l : List UInt8} {k : Int} {t : List UInt8} {n : Nat} (h : BegIs l k t n) : 1 ≤ k ∧ k ≤ 11 := by
  cases h with
  | word => omega
  | key => omega
  | text => omega
  | @sign k x r h =>
    have : ∀ x ∈ signs, 4 ≤ x.1 ∧ x.1 ≤ 11 := by decide
    have := this _ h
    dsimp only at this; omega
/-- What stands for it is what it has begun with. -/
theorem BegIs.stands {l : List UInt8} {k : Int} {t : List UInt8} {n : Nat} (h : BegIs l k t n) : standsL k t = l.take n ∧ n = (standsL k t).length ∧ n ≤ l.length := by
  cases h with
  | word h1 h2 => have := spanL_le letterC l; exact ⟨rfl, by simp [standsL]; omega, this⟩
  | @key r h1 h2 =>
    have := spanL_le letterC r
    refine ⟨by simp [standsL], ?_, by simp; omega⟩
    show _ = (64 :: r.take (spanL letterC r)).length
    simp; omega
  | @text r h1 h2 =>
    obtain ⟨hlt, hg⟩ := List.getElem?_eq_some_iff.1 h2
    refine ⟨?_, ?_, by simp; omega⟩
    · show 34 :: (r.take (spanL quotedC r) ++ [34]) = (34 :: r).take (spanL quotedC r + 1 + 1)
      rw [List.take_succ_cons, take_snoc r _ hlt, hg]
    · show _ = (34 :: (r.take (spanL quotedC r) ++ [34])).length
      simp; omega
  | @sign k x r h =>
    rw [standsL_sign h]
    exact ⟨by simp, rfl, by simp⟩
theorem BegIs.pos {l : List UInt8} {k : Int} {t : List UInt8} {n : Nat} (h : BegIs l k t n) : 0 < n := by
  cases h with
  | word h1 h2 => omega
  | key => omega
  | text => omega
  | sign h => obtain ⟨c, y, rfl, _⟩ := sign_head h; simp

/-- All bytes hold. -/
theorem spanL_take (p : Int → Bool) (l : List UInt8) : spanL p (l.take (spanL p l)) = spanL p l := by
  have := spanL_append p (l.take (spanL p l)) [] (spanL_all p l)
  rw [List.append_nil] at this
  rw [this, List.length_take, Nat.min_eq_left (spanL_le p l)]; rfl
theorem allB_iff {p : Int → Bool} {lo hi : Nat} {l : List UInt8} : allB p lo hi l = true ↔ spanL p l = l.length ∧ lo ≤ l.length ∧ l.length ≤ hi := by
  unfold allB
  simp
theorem all_prefix {p : Int → Bool} {a b : List UInt8} (h : spanL p a = a.length) : spanL p (a ++ b) = a.length + spanL p b := by
  refine spanL_append p a b (fun c hc => ?_)
  have := spanL_all p a
  rw [h, List.take_of_length_le (Nat.le_refl _)] at this
  exact this c hc
/-- A token that may be stands at a text's head, and nothing of its kind goes on: the text begins with it. -/
theorem begR_eq (l : List UInt8) (hne : l ≠ []) : begR l = begL l := by
  cases l with
  | nil => exact absurd rfl hne
  | cons c r =>
    unfold begR
    cases hl : letterC c.toNat with
    | true =>
      rw [candR_word hl]
      dsimp only
      have hsp := spanL_le letterC (c :: r)
      have h1 : 1 ≤ spanL letterC (c :: r) := by rw [spanL_yes hl]; omega
      have hst : standsL 1 ((c :: r).take (spanL letterC (c :: r))) = (c :: r).take (spanL letterC (c :: r)) := rfl
      rw [hst, List.isPrefixOf_iff_prefix.2 (List.take_prefix _ _), Bool.and_true]
      by_cases h32 : spanL letterC (c :: r) ≤ 32
      · have hR : rightB 1 ((c :: r).take (spanL letterC (c :: r))) 0 = true := by
          unfold rightB
          rw [if_neg (by omega), if_pos (.inl rfl), allB_iff, spanL_take]
          rw [List.length_take, Nat.min_eq_left hsp]; exact ⟨rfl, h1, h32⟩
        rw [if_pos hR, begL_of (.word h1 h32), List.length_take, Nat.min_eq_left hsp]
      · have hR : ¬ rightB 1 ((c :: r).take (spanL letterC (c :: r))) 0 = true := by
          unfold rightB
          rw [if_neg (by omega), if_pos (.inl rfl), allB_iff, List.length_take, Nat.min_eq_left hsp]
          intro h; exact h32 h.2.2
        rw [if_neg hR]
        refine (begL_zero ?_).symm
        refine Nat.eq_zero_of_not_pos (fun hpos => ?_)
        have hb := begL_is hpos
        generalize hg : c :: r = L at hb hl h32
        generalize (begL L).1 = k at hb
        generalize (begL L).2.1 = t at hb
        generalize (begL L).2.2 = n at hb
        cases hb with
        | word a b => exact h32 b
        | key a b => cases hg; exact absurd hl (by decide)
        | text a b => cases hg; exact absurd hl (by decide)
        | sign h => obtain ⟨c', y, rfl, hl', _⟩ := sign_head h; cases hg; rw [hl] at hl'; cases hl'
    | false =>
      by_cases h64 : c = 64
      · subst h64
        rw [candR_key hl rfl]
        dsimp only
        have hsp := spanL_le letterC r
        have hpre : (standsL 2 (r.take (spanL letterC r))).isPrefixOf (64 :: r) = true := by
          rw [List.isPrefixOf_iff_prefix]
          show 64 :: r.take (spanL letterC r) <+: 64 :: r
          exact (List.prefix_cons_inj 64).2 (List.take_prefix _ _)
        rw [hpre, Bool.and_true]
        have hlen : (standsL 2 (r.take (spanL letterC r))).length = spanL letterC r + 1 := by
          show (64 :: r.take (spanL letterC r)).length = _
          simp; omega
        by_cases h : 1 ≤ spanL letterC r ∧ spanL letterC r ≤ 32
        · have hR : rightB 2 (r.take (spanL letterC r)) 0 = true := by
            unfold rightB
            rw [if_neg (by omega), if_pos (.inr rfl), allB_iff, spanL_take, List.length_take, Nat.min_eq_left hsp]; exact ⟨rfl, h⟩
          rw [if_pos hR, begL_of (.key h.1 h.2), hlen]
        · have hR : ¬ rightB 2 (r.take (spanL letterC r)) 0 = true := by
            unfold rightB
            rw [if_neg (by omega), if_pos (.inr rfl), allB_iff, List.length_take, Nat.min_eq_left hsp]
            intro h'; exact h h'.2
          rw [if_neg hR]
          refine (begL_zero ?_).symm
          refine Nat.eq_zero_of_not_pos (fun hpos => ?_)
          have hb := begL_is hpos
          generalize hg : 64 :: r = L at hb
          generalize (begL L).1 = k at hb
          generalize (begL L).2.1 = t at hb
          generalize (begL L).2.2 = n at hb
          cases hb with
          | word a b => rw [← hg, spanL_no hl] at a; omega
          | key a b => cases hg; exact h ⟨a, b⟩
          | text a b => cases hg
          | sign h => obtain ⟨c', y, rfl, _, h64', _⟩ := sign_head h; cases hg; exact h64' rfl
      · by_cases h34 : c = 34
        · subst h34
          rw [candR_text hl h64 rfl]
          dsimp only
          have hsp := spanL_le quotedC r
          generalize hm : spanL (fun x => decide (x ≠ 34)) r = m
          have hmr := spanL_le (fun x => decide (x ≠ 34)) r
          rw [hm] at hmr
          have hall := spanL_all (fun x => decide (x ≠ 34)) r
          rw [hm] at hall
          by_cases h : spanL quotedC r ≤ 40 ∧ r[spanL quotedC r]? = some 34
          · obtain ⟨hlt, hg⟩ := List.getElem?_eq_some_iff.1 h.2
            have hmm : m = spanL quotedC r := by
              rcases Nat.lt_trichotomy m (spanL quotedC r) with hlt' | e | hgt
              · have hend := spanL_end (fun x => decide (x ≠ 34)) r (by rw [hm]; omega)
                simp only [hm] at hend
                have hq := spanL_all quotedC r r[m] (by rw [List.mem_take_iff_getElem]; exact ⟨m, by omega, rfl⟩)
                have e34 : (r[m].toNat : Int) = 34 := by simpa using hend
                rw [e34] at hq; exact absurd hq (by decide)
              · exact e
              · have := hall r[spanL quotedC r] (by rw [List.mem_take_iff_getElem]; exact ⟨spanL quotedC r, by omega, rfl⟩)
                rw [hg] at this; exact absurd this (by decide)
            subst hmm
            have hR : rightB 3 (r.take (spanL quotedC r)) 0 = true := by
              unfold rightB
              rw [if_neg (by omega), if_neg (by omega), if_pos rfl, allB_iff, spanL_take, List.length_take, Nat.min_eq_left hsp]
              exact ⟨rfl, Nat.zero_le _, h.1⟩
            have hst := (BegIs.text h.1 h.2).stands
            rw [hR, hst.1, List.isPrefixOf_iff_prefix.2 (List.take_prefix _ _), begL_of (.text h.1 h.2)]
            simp only [Bool.and_self, if_true, List.length_take, Nat.min_eq_left hst.2.2]
          · have hz : begL (34 :: r) = begNo := by
              refine begL_zero (Nat.eq_zero_of_not_pos (fun hpos => ?_))
              have hb := begL_is hpos
              generalize hg : 34 :: r = L at hb
              generalize (begL L).1 = k at hb
              generalize (begL L).2.1 = t at hb
              generalize (begL L).2.2 = n at hb
              cases hb with
              | word a b => rw [← hg, spanL_no hl] at a; omega
              | key a b => cases hg
              | text a b => cases hg; exact h ⟨a, b⟩
              | sign h => obtain ⟨c', y, rfl, _, _, h34'⟩ := sign_head h; cases hg; exact h34' rfl
            rw [hz]
            rw [if_neg]
            intro hc
            rw [Bool.and_eq_true] at hc
            obtain ⟨hR, hp⟩ := hc
            unfold rightB at hR
            rw [if_neg (by omega), if_neg (by omega), if_pos rfl, allB_iff, List.length_take, Nat.min_eq_left hmr] at hR
            obtain ⟨hq1, _, hq2⟩ := hR
            obtain ⟨z, hz'⟩ := List.isPrefixOf_iff_prefix.1 hp
            have hz2 : r.take m ++ 34 :: z = r := by
              have : 34 :: (r.take m ++ [34]) ++ z = 34 :: r := hz'
              simpa using this
            have e1 : spanL quotedC r = m := by
              have := all_prefix (b := 34 :: z) (p := quotedC) (a := r.take m) (by rw [hq1, List.length_take, Nat.min_eq_left hmr])
              rw [hz2, List.length_take, Nat.min_eq_left hmr, spanL_no (by decide)] at this
              exact this
            refine h ⟨by omega, ?_⟩
            rw [e1, ← hz2, List.getElem?_append_right (by rw [List.length_take]; omega), List.length_take, Nat.min_eq_left hmr, Nat.sub_self]
            rfl
        · rw [candR_sign hl h64 h34, begL_4 (by unfold ask1 wordN; rw [spanL_no hl]; simp) (by simp [ask2, begNo, h64]) (by simp [ask3, begNo, h34])]
          dsimp only
          have hup := uptoR_all (c :: r)
          unfold ask4
          cases hf : signs.find? (fun x => x.2.isPrefixOf (c :: r)) with
          | none =>
            rw [hf] at hup
            have hu : uptoR 12 (c :: r) = 0 := congrArg Prod.fst hup
            have h0 : rightB 0 [] 0 = false := rfl
            simp only [hu, h0, Bool.false_and, Bool.false_eq_true, if_false]
          | some x =>
            rw [hf] at hup
            have hu : uptoR 12 (c :: r) = x.1 := congrArg Prod.fst hup
            have hx := List.mem_of_find?_eq_some hf
            have hp : x.2.isPrefixOf (c :: r) = true := by simpa using List.find?_some hf
            have hs : standsL x.1 [] = x.2 := standsL_sign (k := x.1) (x := x.2) hx []
            have hk : ∀ x ∈ signs, 4 ≤ x.1 ∧ x.1 ≤ 11 := by decide
            have hk := hk x hx
            have hR : rightB x.1 [] 0 = true := by
              unfold rightB
              rw [if_neg (by omega), if_neg (by omega), if_neg (by omega)]
              exact decide_eq_true ⟨hk.1, hk.2, rfl⟩
            simp only [hu, hs, hR, hp, Bool.and_self, if_true]
end Go.Proofs.YtofglbngnjcpeaaDoor
