/- The reference's token is the program's: plain. -/
import Derived.Test.YtngnplghjaojhaaGp07
import Derived.Test.YtngnplghjaojhaaGp05
import Derived.Laws.StructEq
import Derived.Test.YtngnplghjaojhaaGp06
import Derived.Lib.Join
namespace Go.Proofs.Ytngnplghjaojhaa
set_option maxRecDepth 100000
set_option maxHeartbeats 2000000
set_option linter.unusedSimpArgs false
set_option linter.unusedVariables false

theorem begL_zero {l : List UInt8} (h : (begL l).2.2 = 0) : begL l = begNo := by
  by_cases h1 : 0 < (ask1 l).2.2
  · rw [begL_1 h1] at h; omega
  by_cases h2 : 0 < (ask2 l).2.2
  · rw [begL_2 h1 h2] at h; omega
  by_cases h3 : 0 < (ask3 l).2.2
  · rw [begL_3 h1 h2 h3] at h; omega
  rw [begL_4 h1 h2 h3] at h ⊢
  exact ask4_zero (by omega)
/-- What a token's bytes are, by what it is. -/
inductive BegIs : List UInt8 → Int → List UInt8 → Nat → Prop
  | word {l : List UInt8} (h1 : 1 ≤ spanL letterC l) (h2 : spanL letterC l ≤ 32) : BegIs l 1 (l.take (spanL letterC l)) (spanL letterC l)
  | key {r : List UInt8} (h1 : 1 ≤ spanL letterC r) (h2 : spanL letterC r ≤ 32) : BegIs (64 :: r) 2 (r.take (spanL letterC r)) (spanL letterC r + 1)
  | text {r : List UInt8} (h1 : spanL quotedC r ≤ 40) (h2 : r[spanL quotedC r]? = some 34) : BegIs (34 :: r) 3 (r.take (spanL quotedC r)) (spanL quotedC r + 2)
  | sign {k : Int} {x r : List UInt8} (h : (k, x) ∈ signs) : BegIs (x ++ r) k [] x.length
theorem wordN_pos {l : List UInt8} (h : 0 < wordN l) : wordN l = spanL letterC l ∧ 1 ≤ spanL letterC l ∧ spanL letterC l ≤ 32 := by
  unfold wordN at h ⊢
  split at h
  · omega
  · rename_i hn
    rw [if_neg hn]; exact ⟨rfl, h, by omega⟩
theorem sign_head {k : Int} {x : List UInt8} (h : (k, x) ∈ signs) : ∃ c y, x = c :: y ∧ letterC c.toNat = false ∧ c ≠ 64 ∧ c ≠ 34 := by
  simp only [signs, List.mem_cons, List.not_mem_nil, or_false, Prod.mk.injEq] at h
  rcases h with ⟨rfl, rfl⟩ | ⟨rfl, rfl⟩ | ⟨rfl, rfl⟩ | ⟨rfl, rfl⟩ | ⟨rfl, rfl⟩ | ⟨rfl, rfl⟩ | ⟨rfl, rfl⟩ | ⟨rfl, rfl⟩ <;> exact ⟨_, _, rfl, by decide, by decide, by decide⟩
theorem begL_is {l : List UInt8} (h : 0 < (begL l).2.2) : BegIs l (begL l).1 (begL l).2.1 (begL l).2.2 := by
  by_cases h1 : 0 < (ask1 l).2.2
  · rw [begL_1 h1]
    obtain ⟨e, a, b⟩ := wordN_pos (l := l) h1
    unfold ask1
    dsimp only
    rw [e]
    exact .word a b
  by_cases h2 : 0 < (ask2 l).2.2
  · rw [begL_2 h1 h2]
    cases l with
    | nil => exact absurd h2 (by decide)
    | cons c r =>
      by_cases hc : c = 64 ∧ wordN r ≠ 0
      · obtain ⟨e, a, b⟩ := wordN_pos (l := r) (by omega)
        simp only [ask2, if_pos hc]
        rw [e, hc.1]
        exact .key a b
      · simp only [ask2, if_neg hc, begNo] at h2; omega
  by_cases h3 : 0 < (ask3 l).2.2
  · rw [begL_3 h1 h2 h3]
    cases l with
    | nil => exact absurd h3 (by decide)
    | cons c r =>
      by_cases hc : c = 34 ∧ spanL quotedC r ≤ 40 ∧ r[spanL quotedC r]? = some 34
      · simp only [ask3, if_pos hc]
        rw [hc.1]
        exact .text hc.2.1 hc.2.2
      · simp only [ask3, if_neg hc, begNo] at h3; omega
  rw [begL_4 h1 h2 h3] at h ⊢
  unfold ask4 at h ⊢
  cases hf : signs.find? (fun x => x.2.isPrefixOf l) with
  | none => rw [hf] at h; exact absurd h (by decide)
  | some x =>
    have hp : x.2.isPrefixOf l = true := by simpa using List.find?_some hf
    obtain ⟨r, hr⟩ := List.isPrefixOf_iff_prefix.1 hp
    rw [← hr]
    exact .sign (List.mem_of_find?_eq_some hf)
theorem begL_of {l : List UInt8} {k : Int} {t : List UInt8} {n : Nat} (h : BegIs l k t n) : begL l = (k, t, n) := by
  cases h with
  | word h1 h2 =>
    have e : wordN l = spanL letterC l := by unfold wordN; rw [if_neg (by omega)]
    have : 0 < (ask1 l).2.2 := by unfold ask1; dsimp only; omega
    rw [begL_1 this]; unfold ask1; rw [e]
  | @key r h1 h2 =>
    have e : wordN r = spanL letterC r := by unfold wordN; rw [if_neg (by omega)]
    have e0 : wordN (64 :: r) = 0 := by unfold wordN; rw [spanL_no (by decide)]; rfl
    have n1 : ¬ 0 < (ask1 (64 :: r)).2.2 := by unfold ask1; dsimp only; omega
    have hc : (64 : UInt8) = 64 ∧ wordN r ≠ 0 := ⟨rfl, by omega⟩
    have e2 : ask2 (64 :: r) = (2, r.take (spanL letterC r), spanL letterC r + 1) := by show (if (64 : UInt8) = 64 ∧ wordN r ≠ 0 then _ else _) = _; rw [if_pos hc, e]
    rw [begL_2 n1 (by rw [e2]; exact Nat.succ_pos _), e2]
  | @text r h1 h2 =>
    have e0 : wordN (34 :: r) = 0 := by unfold wordN; rw [spanL_no (by decide)]; rfl
    have n1 : ¬ 0 < (ask1 (34 :: r)).2.2 := by unfold ask1; dsimp only; omega
    have n2 : ¬ 0 < (ask2 (34 :: r)).2.2 := by simp [ask2, begNo]
    have hc : (34 : UInt8) = 34 ∧ spanL quotedC r ≤ 40 ∧ r[spanL quotedC r]? = some 34 := ⟨rfl, h1, h2⟩
    have e3 : ask3 (34 :: r) = (3, r.take (spanL quotedC r), spanL quotedC r + 2) := by show (if (34 : UInt8) = 34 ∧ spanL quotedC r ≤ 40 ∧ r[spanL quotedC r]? = some 34 then _ else _) = _; rw [if_pos hc]
    rw [begL_3 n1 n2 (by rw [e3]; exact Nat.succ_pos _), e3]
  | @sign k x r h =>
    obtain ⟨c, y, rfl, hl, h64, h34⟩ := sign_head h
    have n1 : ¬ 0 < (ask1 (c :: y ++ r)).2.2 := by unfold ask1 wordN; rw [List.cons_append, spanL_no hl]; simp
    have n2 : ¬ 0 < (ask2 (c :: y ++ r)).2.2 := by rw [List.cons_append]; simp [ask2, begNo, h64]
    have n3 : ¬ 0 < (ask3 (c :: y ++ r)).2.2 := by rw [List.cons_append]; simp [ask3, begNo, h34]
    rw [begL_4 n1 n2 n3]
    exact ask4_yes h (List.isPrefixOf_iff_prefix.2 ⟨r, rfl⟩)
theorem BegIs.kind {l : List UInt8} {k : Int} {t : List UInt8} {n : Nat} (h : BegIs l k t n) : 1 ≤ k ∧ k ≤ 11 := by
  cases h with
  | word => omega
  | key => omega
  | text => omega
  | @sign k x r h =>
    have : ∀ x ∈ signs, 4 ≤ x.1 ∧ x.1 ≤ 11 := by decide
    have := this _ h
    dsimp only at this; omega
/-- What stands for it is what it has begun with. -/
theorem BegIs.stands {l : List UInt8} {k : Int} {t : List UInt8} {n : Nat} (h : BegIs l k t n) : standsL k t = l.take n ∧ n = (standsL k t).length ∧ n ≤ l.length := by
  cases h with
  | word h1 h2 => have := spanL_le letterC l; exact ⟨rfl, by simp [standsL]; omega, this⟩
  | @key r h1 h2 =>
    have := spanL_le letterC r
    refine ⟨by simp [standsL], ?_, by simp; omega⟩
    show _ = (64 :: r.take (spanL letterC r)).length
    simp; omega
  | @text r h1 h2 =>
    obtain ⟨hlt, hg⟩ := List.getElem?_eq_some_iff.1 h2
    refine ⟨?_, ?_, by simp; omega⟩
    · show 34 :: (r.take (spanL quotedC r) ++ [34]) = (34 :: r).take (spanL quotedC r + 1 + 1)
      rw [List.take_succ_cons, take_snoc r _ hlt, hg]
    · show _ = (34 :: (r.take (spanL quotedC r) ++ [34])).length
      simp; omega
  | @sign k x r h =>
    rw [standsL_sign h]
    exact ⟨by simp, rfl, by simp⟩
theorem BegIs.pos {l : List UInt8} {k : Int} {t : List UInt8} {n : Nat} (h : BegIs l k t n) : 0 < n := by
  cases h with
  | word h1 h2 => omega
  | key => omega
  | text => omega
  | sign h => obtain ⟨c, y, rfl, _⟩ := sign_head h; simp

/-- All bytes hold. -/
theorem spanL_take (p : Int → Bool) (l : List UInt8) : spanL p (l.take (spanL p l)) = spanL p l := by
  have := spanL_append p (l.take (spanL p l)) [] (spanL_all p l)
  rw [List.append_nil] at this
  rw [this, List.length_take, Nat.min_eq_left (spanL_le p l)]; rfl
theorem allB_iff {p : Int → Bool} {lo hi : Nat} {l : List UInt8} : allB p lo hi l = true ↔ spanL p l = l.length ∧ lo ≤ l.length ∧ l.length ≤ hi := by
  unfold allB
  simp
theorem all_prefix {p : Int → Bool} {a b : List UInt8} (h : spanL p a = a.length) : spanL p (a ++ b) = a.length + spanL p b := by
  refine spanL_append p a b (fun c hc => ?_)
  have := spanL_all p a
  rw [h, List.take_of_length_le (Nat.le_refl _)] at this
  exact this c hc
/-- A token that may be stands at a text's head, and nothing of its kind goes on: the text begins with it. -/
theorem begR_eq (l : List UInt8) (hne : l ≠ []) : begR l = begL l := by
  cases l with
  | nil => exact absurd rfl hne
  | cons c r =>
    unfold begR
    cases hl : letterC c.toNat with
    | true =>
      rw [candR_word hl]
      dsimp only
      have hsp := spanL_le letterC (c :: r)
      have h1 : 1 ≤ spanL letterC (c :: r) := by rw [spanL_yes hl]; omega
      have hst : standsL 1 ((c :: r).take (spanL letterC (c :: r))) = (c :: r).take (spanL letterC (c :: r)) := rfl
      rw [hst, List.isPrefixOf_iff_prefix.2 (List.take_prefix _ _), Bool.and_true]
      by_cases h32 : spanL letterC (c :: r) ≤ 32
      · have hR : rightB 1 ((c :: r).take (spanL letterC (c :: r))) 0 = true := by
          unfold rightB
          rw [if_neg (by omega), if_pos (.inl rfl), allB_iff, spanL_take]
          rw [List.length_take, Nat.min_eq_left hsp]; exact ⟨rfl, h1, h32⟩
        rw [if_pos hR, begL_of (.word h1 h32), List.length_take, Nat.min_eq_left hsp]
      · have hR : ¬ rightB 1 ((c :: r).take (spanL letterC (c :: r))) 0 = true := by
          unfold rightB
          rw [if_neg (by omega), if_pos (.inl rfl), allB_iff, List.length_take, Nat.min_eq_left hsp]
          intro h; exact h32 h.2.2
        rw [if_neg hR]
        refine (begL_zero ?_).symm
        refine Nat.eq_zero_of_not_pos (fun hpos => ?_)
        have hb := begL_is hpos
        generalize hg : c :: r = L at hb hl h32
        generalize (begL L).1 = k at hb
        generalize (begL L).2.1 = t at hb
        generalize (begL L).2.2 = n at hb
        cases hb with
        | word a b => exact h32 b
        | key a b => cases hg; exact absurd hl (by decide)
        | text a b => cases hg; exact absurd hl (by decide)
        | sign h => obtain ⟨c', y, rfl, hl', _⟩ := sign_head h; cases hg; rw [hl] at hl'; cases hl'
    | false =>
      by_cases h64 : c = 64
      · subst h64
        rw [candR_key hl rfl]
        dsimp only
        have hsp := spanL_le letterC r
        have hpre : (standsL 2 (r.take (spanL letterC r))).isPrefixOf (64 :: r) = true := by
          rw [List.isPrefixOf_iff_prefix]
          show 64 :: r.take (spanL letterC r) <+: 64 :: r
          exact (List.prefix_cons_inj 64).2 (List.take_prefix _ _)
        rw [hpre, Bool.and_true]
        have hlen : (standsL 2 (r.take (spanL letterC r))).length = spanL letterC r + 1 := by
          show (64 :: r.take (spanL letterC r)).length = _
          simp; omega
        by_cases h : 1 ≤ spanL letterC r ∧ spanL letterC r ≤ 32
        · have hR : rightB 2 (r.take (spanL letterC r)) 0 = true := by
            unfold rightB
            rw [if_neg (by omega), if_pos (.inr rfl), allB_iff, spanL_take, List.length_take, Nat.min_eq_left hsp]; exact ⟨rfl, h⟩
          rw [if_pos hR, begL_of (.key h.1 h.2), hlen]
        · have hR : ¬ rightB 2 (r.take (spanL letterC r)) 0 = true := by
            unfold rightB
            rw [if_neg (by omega), if_pos (.inr rfl), allB_iff, List.length_take, Nat.min_eq_left hsp]
            intro h'; exact h h'.2
          rw [if_neg hR]
          refine (begL_zero ?_).symm
          refine Nat.eq_zero_of_not_pos (fun hpos => ?_)
          have hb := begL_is hpos
          generalize hg : 64 :: r = L at hb
          generalize (begL L).1 = k at hb
          generalize (begL L).2.1 = t at hb
          generalize (begL L).2.2 = n at hb
          cases hb with
          | word a b => rw [← hg, spanL_no hl] at a; omega
          | key a b => cases hg; exact h ⟨a, b⟩
          | text a b => cases hg
          | sign h => obtain ⟨c', y, rfl, _, h64', _⟩ := sign_head h; cases hg; exact h64' rfl
      · by_cases h34 : c = 34
        · subst h34
          rw [candR_text hl h64 rfl]
          dsimp only
          have hsp := spanL_le quotedC r
          generalize hm : spanL (fun x => decide (x ≠ 34)) r = m
          have hmr := spanL_le (fun x => decide (x ≠ 34)) r
          rw [hm] at hmr
          have hall := spanL_all (fun x => decide (x ≠ 34)) r
          rw [hm] at hall
          by_cases h : spanL quotedC r ≤ 40 ∧ r[spanL quotedC r]? = some 34
          · obtain ⟨hlt, hg⟩ := List.getElem?_eq_some_iff.1 h.2
            have hmm : m = spanL quotedC r := by
              rcases Nat.lt_trichotomy m (spanL quotedC r) with hlt' | e | hgt
              · have hend := spanL_end (fun x => decide (x ≠ 34)) r (by rw [hm]; omega)
                simp only [hm] at hend
                have hq := spanL_all quotedC r r[m] (by rw [List.mem_take_iff_getElem]; exact ⟨m, by omega, rfl⟩)
                have e34 : (r[m].toNat : Int) = 34 := by simpa using hend
                rw [e34] at hq; exact absurd hq (by decide)
              · exact e
              · have := hall r[spanL quotedC r] (by rw [List.mem_take_iff_getElem]; exact ⟨spanL quotedC r, by omega, rfl⟩)
                rw [hg] at this; exact absurd this (by decide)
            subst hmm
            have hR : rightB 3 (r.take (spanL quotedC r)) 0 = true := by
              unfold rightB
              rw [if_neg (by omega), if_neg (by omega), if_pos rfl, allB_iff, spanL_take, List.length_take, Nat.min_eq_left hsp]
              exact ⟨rfl, Nat.zero_le _, h.1⟩
            have hst := (BegIs.text h.1 h.2).stands
            rw [hR, hst.1, List.isPrefixOf_iff_prefix.2 (List.take_prefix _ _), begL_of (.text h.1 h.2)]
            simp only [Bool.and_self, if_true, List.length_take, Nat.min_eq_left hst.2.2]
          · have hz : begL (34 :: r) = begNo := by
              refine begL_zero (Nat.eq_zero_of_not_pos (fun hpos => ?_))
              have hb := begL_is hpos
              generalize hg : 34 :: r = L at hb
              generalize (begL L).1 = k at hb
              generalize (begL L).2.1 = t at hb
              generalize (begL L).2.2 = n at hb
              cases hb with
              | word a b => rw [← hg, spanL_no hl] at a; omega
              | key a b => cases hg
              | text a b => cases hg; exact h ⟨a, b⟩
              | sign h => obtain ⟨c', y, rfl, _, _, h34'⟩ := sign_head h; cases hg; exact h34' rfl
            rw [hz]
            rw [if_neg]
            intro hc
            rw [Bool.and_eq_true] at hc
            obtain ⟨hR, hp⟩ := hc
            unfold rightB at hR
            rw [if_neg (by omega), if_neg (by omega), if_pos rfl, allB_iff, List.length_take, Nat.min_eq_left hmr] at hR
            obtain ⟨hq1, _, hq2⟩ := hR
            obtain ⟨z, hz'⟩ := List.isPrefixOf_iff_prefix.1 hp
            have hz2 : r.take m ++ 34 :: z = r := by
              have : 34 :: (r.take m ++ [34]) ++ z = 34 :: r := hz'
              simpa using this
            have e1 : spanL quotedC r = m := by
              have := all_prefix (b := 34 :: z) (p := quotedC) (a := r.take m) (by rw [hq1, List.length_take, Nat.min_eq_left hmr])
              rw [hz2, List.length_take, Nat.min_eq_left hmr, spanL_no (by decide)] at this
              exact this
            refine h ⟨by omega, ?_⟩
            rw [e1, ← hz2, List.getElem?_append_right (by rw [List.length_take]; omega), List.length_take, Nat.min_eq_left hmr, Nat.sub_self]
            rfl
        · rw [candR_sign hl h64 h34, begL_4 (by unfold ask1 wordN; rw [spanL_no hl]; simp) (by simp [ask2, begNo, h64]) (by simp [ask3, begNo, h34])]
          dsimp only
          have hup := uptoR_all (c :: r)
          unfold ask4
          cases hf : signs.find? (fun x => x.2.isPrefixOf (c :: r)) with
          | none =>
            rw [hf] at hup
            have hu : uptoR 12 (c :: r) = 0 := congrArg Prod.fst hup
            have h0 : rightB 0 [] 0 = false := rfl
            simp only [hu, h0, Bool.false_and, Bool.false_eq_true, if_false]
          | some x =>
            rw [hf] at hup
            have hu : uptoR 12 (c :: r) = x.1 := congrArg Prod.fst hup
            have hx := List.mem_of_find?_eq_some hf
            have hp : x.2.isPrefixOf (c :: r) = true := by simpa using List.find?_some hf
            have hs : standsL x.1 [] = x.2 := standsL_sign (k := x.1) (x := x.2) hx []
            have hk : ∀ x ∈ signs, 4 ≤ x.1 ∧ x.1 ≤ 11 := by decide
            have hk := hk x hx
            have hR : rightB x.1 [] 0 = true := by
              unfold rightB
              rw [if_neg (by omega), if_neg (by omega), if_neg (by omega)]
              exact decide_eq_true ⟨hk.1, hk.2, rfl⟩
            simp only [hu, hs, hR, hp, Bool.and_self, if_true]
end Go.Proofs.Ytngnplghjaojhaa

/- Rows of tokens held against one another. -/
namespace Go.Proofs.Ytngnplghjaojhaa
set_option maxRecDepth 100000
set_option maxHeartbeats 2000000
set_option linter.unusedVariables false
set_option linter.unusedSimpArgs false
open Go.RowKit

def Tk.eqB (x y : Tk) : Bool := x.kind == y.kind && (x.text.toList == y.text.toList && x.at_ == y.at_)
theorem Tk.eqB_iff (x y : Tk) : x.eqB y = true ↔ x = y := by
  obtain ⟨a, b, c⟩ := x
  obtain ⟨a', b', c'⟩ := y
  unfold Tk.eqB
  rw [Bool.and_eq_true, Bool.and_eq_true, str_beq]
  simp
theorem tk_eql (x y : Tk) (w : World) : (Op.equalIn 10000 39 (.agg #[.int .i64 x.kind, .string x.text, .int .i64 x.at_]) (.agg #[.int .i64 y.kind, .string y.text, .int .i64 y.at_])).run Try.prog w = .ok (x.eqB y) w := by
  unfold Tk.eqB
  rw [show (10000 : Nat) = 9999 + 1 from rfl, run_equalIn_struct (P := Try.prog) w 9999 39 _ _ (by kernel_rfl) (by kernel_rfl)]
  have hf : (Try.prog.fieldsOf 39).toList = _ := congrArg Array.toList (show Try.prog.fieldsOf 39 = _ by unfold Program.fieldsOf; rw [Try.underlying39])
  rw [hf]
  simp [Op.eqFields, go_sem, run_equalIn_int, run_equalIn_string]
  by_cases h1 : x.kind = y.kind <;> by_cases h2 : x.text.toList = y.text.toList <;> by_cases h3 : x.at_ = y.at_ <;> simp [h1, h2, h3]
theorem tk_neq (x y : Tk) (w : World) : (binOp .neq 39 (.agg #[.int .i64 x.kind, .string x.text, .int .i64 x.at_]) (.agg #[.int .i64 y.kind, .string y.text, .int .i64 y.at_])).run Try.prog w = .ok (.bool !(x.eqB y)) w := by
  rw [run_neq_struct, tk_eql]; rfl
theorem eqToks_yes (v u : Value) (l : List Tk) (w : World) (hv : Toks w v l) (hu : Toks w u l) :
    Calls Try.prog 17 #[v, u] w fun e w' => e = .returned (.bool true) ∧ Ext w w' := by
  obtain ⟨a, c, rfl, hc1, hc2⟩ := hv.shape
  obtain ⟨a', c', rfl, hc1', hc2'⟩ := hu.shape
  have HV := Lib.hid hv
  have HU := Lib.hid hu
  clear hv hu
  go_enter Try.func17, Try.ntmps17
  go_wp2_with fail
  go_loopg [13] l.length (fun g i wr => ∃ k : Nat, k ≤ l.length ∧ g = l.length - k ∧ i = .int .i64 k ∧ Ext w wr)
  case atStart => exact ⟨0, Nat.zero_le _, rfl, rfl, Ext.refl _⟩
  case round =>
    obtain ⟨k, hk, hg, rfl, hx⟩ := hrel
    have Hg := Lib.hid hg
    clear hg
    by_cases hlt : k < l.length
    · obtain ⟨b, o, rfl, c0, c1, c2⟩ := (HV.out.ext hx).at_ hlt
      obtain ⟨b', o', rfl, d0, d1, d2⟩ := (HU.out.ext hx).at_ hlt
      generalize l[k] = x at *
      have hq := fun w => tk_neq x x w
      rw [(x.eqB_iff x).2 rfl] at hq
      rw [Bool.not_true] at hq
      go_wp2_with fail
      go_quiet (fail)
      go_wp2_with fail
      go_roundg (l.length - (k + 1))
      case measure => have := Hg.out; omega
      case rel => exact ⟨k + 1, by omega, rfl, by go_num, (by repeat (first | exact Ext.refl _ | with_reducible assumption | with_reducible refine Ext.alloc_of ?_ _ | with_reducible refine Ext.drewN_of ?_ _ | with_reducible refine Ext.drew_of ?_ | (with_reducible refine Ext.set_of ?_ ?hsz _; case hsz => ((first | exact Nat.le_refl _ | omega | (simp; omega)))) | with_reducible refine Ext.via (by assumption) ?_))⟩
    · go_wp2_with fail
      go_ret
      exact ⟨rfl, (by repeat (first | exact Ext.refl _ | with_reducible assumption | with_reducible refine Ext.alloc_of ?_ _ | with_reducible refine Ext.drewN_of ?_ _ | with_reducible refine Ext.drew_of ?_ | (with_reducible refine Ext.set_of ?_ ?hsz _; case hsz => ((first | exact Nat.le_refl _ | omega | (simp; omega)))) | with_reducible refine Ext.via (by assumption) ?_))⟩
end Go.Proofs.Ytngnplghjaojhaa

/- The reference's Read. -/
namespace Go.Proofs.Ytngnplghjaojhaa
set_option maxRecDepth 100000
set_option maxHeartbeats 2000000
set_option linter.unusedVariables false
set_option linter.unusedSimpArgs false
open Go.RowKit

theorem begL_kind0 {l : List UInt8} (h : (begL l).2.2 = 0) : (begL l).1 = 0 := by rw [begL_zero h]; rfl
theorem begL_kind1 {l : List UInt8} (h : (begL l).2.2 ≠ 0) : (begL l).1 ≠ 0 := by have := (begL_is (Nat.pos_of_ne_zero h)).kind; omega
theorem skipL_yes {s : ByteArray} {p : Nat} (h : p < s.size) (hb : blankC s[p].toNat = true) : skipL (bts s) p = skipL (bts s) (p + 1) := by
  unfold skipL; rw [spanL_drop_yes h hb]; omega
theorem skipL_no {s : ByteArray} {p : Nat} (h : p < s.size) (hb : blankC s[p].toNat = false) : skipL (bts s) p = p := by
  unfold skipL; rw [spanL_drop_no h hb]; rfl
theorem readF_bad {s : List UInt8} (hs : s.length ≤ 500) {toks : List Tk} {t : Tk} (h : yields s = toks ++ [t]) (hk : ∀ x ∈ toks, x.kind ≠ 0) (h0 : t.kind = 0) : readF s = ([], t.at_, 250) := by
  unfold readF
  rw [if_neg (by omega), h, List.find?_append, List.find?_eq_none.2 (fun x hx => by simpa using hk x hx)]
  simp [h0]
theorem readF_good {s : List UInt8} (hs : s.length ≤ 500) (hk : ∀ x ∈ yields s, x.kind ≠ 0) : readF s = (yields s, ((s.length : Nat) : Int), 0) := by
  unfold readF
  rw [if_neg (by omega), List.find?_eq_none.2 (fun x hx => by simpa using hk x hx)]

theorem refRead_any (s : ByteArray) (w : World) (hs : s.size ≤ 9223372036854775807) :
    Calls Try.prog 28 #[.string s] w (LReadPost w (readF (bts s))) := by
  by_cases h5 : s.size ≤ 500
  case neg =>
    have hR : readF (bts s) = ([], 500, 3) := by unfold readF; rw [bts_len, if_pos (by omega)]
    rw [hR]
    have hlt : (500 : Int) < (s.size : Int) := by omega
    clear h5 hR
    go_enter Try.func28, Try.ntmps28
    go_wp2_with fail
    go_ret3
    exact ⟨_, rfl, World.ownsRow_nil _ _ _ _, Ext.refl _⟩
  have h5' : (bts s).length ≤ 500 := by rw [bts_len]; exact h5
  have H5 := Lib.hid h5'
  have hyl := yields_len (bts s)
  rw [bts_len] at hyl
  have hRg := fun hk => readF_good h5' hk
  have hRb := fun toks t h hk h0 => readF_bad (toks := toks) (t := t) h5' h hk h0
  rw [bts_len] at hRg
  have HRg := Lib.hid hRg
  have HRb := Lib.hid hRb
  generalize readF (bts s) = R at *
  clear h5' hRg hRb
  go_enter Try.func28, Try.ntmps28
  go_wp2_with fail
  go_loopg [5, 6] s.size (fun g v at_ wr => ∃ (p : Nat) (toks : List Tk), p ≤ s.size ∧ g = s.size - p ∧ at_ = .int .i64 p ∧ yields (bts s) = toks ++ yieldsAt (bts s) (skipL (bts s) p) ∧ (∀ x ∈ toks, x.kind ≠ 0) ∧
    wr.ownsRow w.heap.size 39 3 v toks.length (toks.flatMap tkCells) ∧ Ext w wr)
  case atStart => exact ⟨0, [], Nat.zero_le _, rfl, rfl, rfl, fun x hx => by simp at hx, World.ownsRow_nil _ _ _ _, Ext.refl _⟩
  case round =>
    obtain ⟨p, toks, hp, hg, rfl, hy, hk, ho, hx⟩ := hrel
    have hyl2 : toks.length ≤ s.size := by have := congrArg List.length hy; simp at this; omega
    have Hg := Lib.hid hg
    have HY := Lib.hid hy
    have HK := Lib.hid hk
    have HO := Lib.hid ho
    clear hg hy hk ho
    by_cases hlt : p < s.size
    · have hb256 : s[p].toNat < 256 := s[p].toNat_lt
      by_cases hbl : s[p].toNat = 32 ∨ s[p].toNat = 10
      · have HS := Lib.hid (skipL_yes hlt (show blankC s[p].toNat = true from decide_eq_true (by omega)))
        rcases hbl with hbl | hbl
        · have d1 : ((s[p].toNat : Int) == 32) = true := by simp; omega
          clear hbl
          go_wp2_with fail
          go_roundg (s.size - (p + 1))
          case measure => have := Hg.out; omega
          case rel => exact ⟨p + 1, toks, by omega, rfl, by go_num, by rw [← HS.out]; exact HY.out, HK.out, HO.out, hx⟩
        · have d1 : ((s[p].toNat : Int) == 32) = false := by simp; omega
          have d2 : ((s[p].toNat : Int) == 10) = true := by simp; omega
          clear hbl
          go_wp2_with fail
          go_roundg (s.size - (p + 1))
          case measure => have := Hg.out; omega
          case rel => exact ⟨p + 1, toks, by omega, rfl, by go_num, by rw [← HS.out]; exact HY.out, HK.out, HO.out, hx⟩
      · have HS := Lib.hid (skipL_no hlt (show blankC s[p].toNat = false from decide_eq_false (by omega)))
        have d1 : ((s[p].toNat : Int) == 32) = false := by simp; omega
        have d2 : ((s[p].toNat : Int) == 10) = false := by simp; omega
        clear hbl
        have hbd := bts_drop s p hlt
        have hbe := refBegin_any (s.extract p s.size)
        have hlen := begL_le ((bts s).drop p)
        rw [List.length_drop, bts_len] at hlen
        rw [bts_extract, List.take_of_length_le (by rw [List.length_drop, bts_len]; exact Nat.le_refl _), begR_eq _ (by rw [hbd]; simp)] at hbe
        have hes : (s.extract p s.size).size ≤ 1000000 := by simp; omega
        have HBe := Lib.hid (fun w h => hbe w h _ _ hbd)
        have hplen : p < (bts s).length := by rw [bts_len]; exact hlt
        have hY0 : (begL ((bts s).drop p)).2.2 = 0 → R = ([], (p : Int), 250) := fun h0 => by
          have h := HY.out
          rw [HS.out, yieldsAt_bad hplen h0] at h
          exact HRb.out _ _ h HK.out (begL_kind0 h0)
        have hY1 : (begL ((bts s).drop p)).2.2 ≠ 0 → yields (bts s) = (toks ++ [tkAt (bts s) p]) ++ yieldsAt (bts s) (skipL (bts s) (p + (begL ((bts s).drop p)).2.2)) ∧ ∀ x ∈ toks ++ [tkAt (bts s) p], x.kind ≠ 0 := fun h0 => by
          have h := HY.out
          rw [HS.out, yieldsAt_more hplen h0] at h
          refine ⟨by rw [h]; simp, fun x hx => ?_⟩
          rcases List.mem_append.1 hx with hx | hx
          · exact HK.out x hx
          · simp at hx; subst hx; exact begL_kind1 h0
        have HY0 := Lib.hid hY0
        have HY1 := Lib.hid hY1
        unfold tkAt begV tokV at *
        generalize begL ((bts s).drop p) = r at *
        obtain ⟨rk, rt, rn⟩ := r
        dsimp only at *
        clear hY0 hY1 hbe hbd hplen
        go_wp2_with fail
        refine (HBe.out _ hes).mono ?_
        rintro e w2 ⟨rfl, hx2⟩
        by_cases h0 : rn = 0
        · have HF := Lib.hid (HY0.out h0)
          subst h0
          go_wp2_with fail
          go_ret3
          rw [HF.out]
          exact ⟨_, rfl, World.ownsRow_nil _ _ _ _, (by repeat (first | exact Ext.refl _ | with_reducible assumption | with_reducible refine Ext.alloc_of ?_ _ | with_reducible refine Ext.drewN_of ?_ _ | with_reducible refine Ext.drew_of ?_ | (with_reducible refine Ext.set_of ?_ ?hsz _; case hsz => ((first | exact Nat.le_refl _ | omega | (simp; omega)))) | with_reducible refine Ext.via (by assumption) ?_))⟩
        · have d0 : ((rn : Int) == 0) = false := by simp; omega
          have HF := Lib.hid (HY1.out h0)
          have hpos : 0 < rn := by omega
          clear h0
          have ho2 := own_ext (own_ext HO.out hx2) (Ext.alloc w2 (.cells #[.int .i64 rk, .string (txt rt), .int .i64 p] 39))
          have hBx : Ext w (w2.alloc (.cells #[.int .i64 rk, .string (txt rt), .int .i64 p] 39)) := (by repeat (first | exact Ext.refl _ | with_reducible assumption | with_reducible refine Ext.alloc_of ?_ _ | with_reducible refine Ext.drewN_of ?_ _ | with_reducible refine Ext.drew_of ?_ | (with_reducible refine Ext.set_of ?_ ?hsz _; case hsz => ((first | exact Nat.le_refl _ | omega | (simp; omega)))) | with_reducible refine Ext.via (by assumption) ?_))
          obtain ⟨b0, b1, b2, e0, e1, e2⟩ := (RowAt.new w2 39 [.int .i64 rk, .string (txt rt), .int .i64 p]).facts3
          go_upto_region 12 with fail
          generalize w2.alloc (.cells #[.int .i64 rk, .string (txt rt), .int .i64 p] 39) = w3 at *
          go_wp2_with (at_builtin; refine wpList_append_sl _ rfl _ _ 36 rfl elTok rfl (own_ext ho2 (Ext.alloc _ _)) rfl (Sl.new _ _ _ 1 1 (Nat.le_refl _) ?_) rfl ?_ ?_ ?_ ?_ ?_)
          · unfold maxLen; omega
          · exact ⟨rfl, rfl, rfl⟩
          · omega
          · unfold maxLen; omega
          · have := hBx.size; simp; omega
          intro v4 w4 hown4 hB4 _ _
          have hfl : (toks ++ [(⟨rk, txt rt, (p : Int)⟩ : Tk)]).flatMap tkCells = toks.flatMap tkCells ++ #[Value.int .i64 rk, .string (txt rt), .int .i64 p].toList := by rw [List.flatMap_append]; rfl
          have HO4 := Lib.hid hown4
          have HX4 : Hid (Ext w w4) := Lib.hid ((below_step hBx (Ext.alloc _ _)).trans hB4)
          have Hfl := Lib.hid hfl
          clear hown4 hB4 ho2 hfl
          go_wp2_with fail
          go_roundg (s.size - (p + rn))
          case measure => have := Hg.out; omega
          case rel => exact ⟨p + rn, toks ++ [⟨rk, txt rt, p⟩], by omega, rfl, by go_num, HF.out.1, HF.out.2, by rw [Hfl.out, List.length_append]; exact HO4.out, HX4.out⟩
    · obtain rfl : p = s.size := by omega
      have hyy := HY.out
      rw [yieldsAt_end (by rw [bts_len]; exact skipL_ge _ _), List.append_nil] at hyy
      have HF : Hid (R = (toks, ((s.size : Nat) : Int), 0)) := Lib.hid (by rw [HRg.out (by rw [hyy]; exact HK.out), hyy])
      clear hyy
      go_wp2_with fail
      go_ret3
      rw [HF.out]
      exact ⟨_, rfl, HO.out, hx⟩
end Go.Proofs.Ytngnplghjaojhaa

/- Few tokens; their plain text. -/
namespace Go.Proofs.Ytngnplghjaojhaa
set_option maxRecDepth 100000
set_option maxHeartbeats 2000000
set_option linter.unusedVariables false
set_option linter.unusedSimpArgs false
open Go.RowKit

theorem elStr : ElT Try.prog 22 9 (.string ⟨#[]⟩) 1 16 := ⟨Try.underlying22, ⟨_, rfl, by kernel_rfl, by kernel_rfl, by kernel_rfl⟩, rfl, by decide⟩

end Go.Proofs.Ytngnplghjaojhaa

/- Does the layer do anything? It does. -/
namespace Go.Proofs.Ytngnplghjaojhaa
set_option maxRecDepth 100000
set_option maxHeartbeats 2000000
set_option linter.unusedVariables false
set_option linter.unusedSimpArgs false
open Go.RowKit

end Go.Proofs.Ytngnplghjaojhaa

/- The reference's Same, Plain and Number. -/
namespace Go.Proofs.Ytngnplghjaojhaa
set_option maxRecDepth 100000
set_option maxHeartbeats 2000000
set_option linter.unusedVariables false
set_option linter.unusedSimpArgs false
open Go.RowKit

end Go.Proofs.Ytngnplghjaojhaa

/- The reference's Number. -/
namespace Go.Proofs.Ytngnplghjaojhaa
set_option maxRecDepth 100000
set_option maxHeartbeats 2000000
set_option linter.unusedVariables false
set_option linter.unusedSimpArgs false
open Go.RowKit

def numD : Int → List UInt8 → Option Int
  | n, [] => some n
  | n, c :: l => if 48 ≤ c.toNat ∧ c.toNat ≤ 57 then numD (10 * n + (c.toNat - 48 : Nat)) l else none
theorem numD_no {n : Int} {c : UInt8} {l : List UInt8} (h : ¬ (48 ≤ c.toNat ∧ c.toNat ≤ 57)) : numD n (c :: l) = none := by unfold numD; rw [if_neg h]
theorem numD_yes {n : Int} {c : UInt8} {l : List UInt8} (h : 48 ≤ c.toNat ∧ c.toNat ≤ 57) : numD n (c :: l) = numD (10 * n + (c.toNat - 48 : Nat)) l := by
  show (if 48 ≤ c.toNat ∧ c.toNat ≤ 57 then _ else _) = _
  rw [if_pos h]
def capD (r : Option Int) : Int := match r with | some n => if 2147483647 < n then -1 else n | none => -1
def numR (k : Int) (l : List UInt8) : Int := if k ≠ 1 ∨ l = [] ∨ 10 < l.length ∨ 1 < l.length ∧ l.head? = some 48 then -1 else capD (numD 0 l)

theorem pow10 (k : Nat) (h : k ≤ 10) : (10 : Int) ^ k ≤ 10000000000 := by
  have : k = 0 ∨ k = 1 ∨ k = 2 ∨ k = 3 ∨ k = 4 ∨ k = 5 ∨ k = 6 ∨ k = 7 ∨ k = 8 ∨ k = 9 ∨ k = 10 := by omega
  rcases this with rfl | rfl | rfl | rfl | rfl | rfl | rfl | rfl | rfl | rfl | rfl <;> decide
theorem refNum_go (t : Tk) (w : World) (h1 : t.kind = 1) (h2 : t.text.toList.isEmpty = false) (h10 : t.text.size ≤ 10) (h3 : t.text.size ≤ 1 ∨ 1 < t.text.size ∧ ∃ h0 : 0 < t.text.size, ((t.text[0].toNat : Int) == 48) = false) :
    Calls Try.prog 86 #[tkV t] w fun e w' => e = .returned (.int .i64 (capD (numD 0 (bts t.text)))) ∧ Ext w w' := by
  obtain ⟨tk, tt, ta⟩ := t
  unfold tkV
  dsimp only at *
  subst h1
  have hr := RowAt.new w 39 [.int .i64 1, .string tt, .int .i64 ta]
  have hst := Lib.hid (show numD 0 (bts tt) = numD 0 ((bts tt).drop 0) by rw [List.drop_zero])
  rcases h3 with h3 | ⟨hs1, h0, h3⟩
  all_goals
    go_enter Try.func86, Try.ntmps86
    go_upto_region 1 with fail
    have hx0 := Ext.alloc w (.cells #[.int .i64 1, .string tt, .int .i64 ta] 39)
    generalize w.alloc (.cells #[.int .i64 1, .string tt, .int .i64 ta] 39) = w1 at *
    obtain ⟨c0, c1, c2, f0, f1, f2⟩ := hr.facts3
    clear hr
    go_wp2_with fail
    clear h3
    go_loop [3, 34] (fun v i => ∃ (k : Nat) (n : Int), k ≤ tt.size ∧ i = .int .i64 k ∧ v = .int .i64 n ∧ 0 ≤ n ∧ n < 10 ^ k ∧ numD 0 (bts tt) = numD n ((bts tt).drop k)) (fun _ i => tt.size - (intOf i).toNat)
    case atStart => exact ⟨0, 0, Nat.zero_le _, rfl, rfl, by omega, by decide, hst.out⟩
    case round =>
      obtain ⟨k, n, hk, rfl, rfl, hn0, hn1, hs⟩ := hrel
      have hp := pow10 k (by omega)
      have hn2 : n < 10000000000 := by omega
      have Hs := Lib.hid hs
      have Hn1 := Lib.hid hn1
      clear hs hn1 hp
      by_cases hlt : k < tt.size
      · have hb := bts_drop tt k hlt
        have hb256 : tt[k].toNat < 256 := tt[k].toNat_lt
        have Hb := Lib.hid hb
        clear hb
        by_cases hA : tt[k].toNat < 48
        · have HF : Hid (numD 0 (bts tt) = none) := Lib.hid (by rw [Hs.out, Hb.out, numD_no (by omega)])
          go_wp2_with fail
          go_ret
          exact ⟨by rw [HF.out]; rfl, hx0⟩
        by_cases hB : 57 < tt[k].toNat
        · have HF : Hid (numD 0 (bts tt) = none) := Lib.hid (by rw [Hs.out, Hb.out, numD_no (by omega)])
          go_wp2_with fail
          go_ret
          exact ⟨by rw [HF.out]; rfl, hx0⟩
        have hA' : 48 ≤ tt[k].toNat := by omega
        have hB' : tt[k].toNat ≤ 57 := by omega
        have HF : Hid (numD 0 (bts tt) = numD (10 * n + ((tt[k].toNat : Int) - 48)) ((bts tt).drop (k + 1))) := Lib.hid (by rw [Hs.out, Hb.out, numD_yes ⟨hA', hB'⟩]; congr 1; omega)
        clear hA hB
        go_wp2_with fail
        go_round
        case rel => exact ⟨k + 1, 10 * n + ((tt[k].toNat : Int) - 48), by omega, by go_num, rfl, by omega, by have := Hn1.out; rw [Int.pow_succ]; omega, HF.out⟩
        case measure => simp [intOf]; omega
      · have HF : Hid (numD 0 (bts tt) = some n) := Lib.hid (by rw [Hs.out, List.drop_eq_nil_of_le (by rw [bts_len]; omega)]; rfl)
        by_cases hbig : 2147483647 < n
        · go_wp2_with fail
          go_ret
          exact ⟨by rw [HF.out]; show _ = Ending.returned (.int .i64 (if 2147483647 < n then -1 else n)); rw [if_pos (by omega)]; rfl, hx0⟩
        · go_wp2_with fail
          go_ret
          exact ⟨by rw [HF.out]; show _ = Ending.returned (.int .i64 (if 2147483647 < n then -1 else n)); rw [if_neg (by omega)]; rfl, hx0⟩
theorem refNum_stop (t : Tk) (w : World) (h : (t.kind != 1) = true ∨ (t.kind != 1) = false ∧ t.text.toList.isEmpty = true ∨ (t.kind != 1) = false ∧ t.text.toList.isEmpty = false ∧ 10 < (t.text.size : Int) ∨ (t.kind != 1) = false ∧ t.text.toList.isEmpty = false ∧ (t.text.size : Int) ≤ 10 ∧ 1 < (t.text.size : Int) ∧ ∃ h0 : 0 < t.text.size, ((t.text[0].toNat : Int) == 48) = true) :
    Calls Try.prog 86 #[tkV t] w fun e w' => e = .returned (.int .i64 (-1)) ∧ Ext w w' := by
  obtain ⟨tk, tt, ta⟩ := t
  unfold tkV
  dsimp only at *
  rcases h with h | ⟨h, h'⟩ | ⟨h, h', h''⟩ | ⟨h, h', h'', h1, h0, h2⟩
  all_goals
    go_enter Try.func86, Try.ntmps86
    go_wp2_with fail
    go_ret
    exact ⟨rfl, (by repeat (first | exact Ext.refl _ | with_reducible assumption | with_reducible refine Ext.alloc_of ?_ _ | with_reducible refine Ext.drewN_of ?_ _ | with_reducible refine Ext.drew_of ?_ | (with_reducible refine Ext.set_of ?_ ?hsz _; case hsz => ((first | exact Nat.le_refl _ | omega | (simp; omega)))) | with_reducible refine Ext.via (by assumption) ?_))⟩
theorem refNum_any (t : Tk) (w : World) : Calls Try.prog 86 #[tkV t] w fun e w' => e = .returned (.int .i64 (numR t.kind (bts t.text))) ∧ Ext w w' := by
  unfold numR
  by_cases h1 : t.kind = 1
  case neg => rw [if_pos (.inl h1)]; exact refNum_stop t w (.inl (by simpa using h1))
  by_cases h2 : bts t.text = []
  · rw [if_pos (.inr (.inl h2))]
    refine refNum_stop t w (.inr (.inl ⟨by simp [h1], ?_⟩))
    rw [ByteArray.toList_eq]; exact List.isEmpty_iff.2 h2
  have he : t.text.toList.isEmpty = false := by rw [ByteArray.toList_eq]; cases hb : t.text.data.toList with | nil => exact absurd hb h2 | cons _ _ => rfl
  have hpos : 0 < t.text.size := by rw [← bts_len]; exact List.length_pos_iff.2 h2
  by_cases h10 : 10 < (bts t.text).length
  · rw [if_pos (.inr (.inr (.inl h10)))]
    rw [bts_len] at h10
    exact refNum_stop t w (.inr (.inr (.inl ⟨by simp [h1], he, by omega⟩)))
  have hb := bts_drop t.text 0 hpos
  rw [List.drop_zero] at hb
  by_cases h3 : 1 < (bts t.text).length ∧ (bts t.text).head? = some 48
  · rw [if_pos (.inr (.inr (.inr h3)))]
    obtain ⟨h4, h5⟩ := h3
    rw [hb] at h5
    have h5 : t.text[0] = 48 := by simpa using h5
    rw [bts_len] at h4 h10
    exact refNum_stop t w (.inr (.inr (.inr ⟨by simp [h1], he, by omega, by omega, hpos, by rw [h5]; rfl⟩)))
  · rw [if_neg (by rintro (h | h | h | h); exact h h1; exact h2 h; exact h10 h; exact h3 h)]
    rw [bts_len] at h10 h3
    refine refNum_go t w h1 he (by omega) ?_
    by_cases hs1 : t.text.size ≤ 1
    · exact .inl hs1
    · refine .inr ⟨by omega, hpos, ?_⟩
      have : t.text[0].toNat ≠ 48 := fun e => h3 ⟨by omega, by rw [hb]; simp; exact UInt8.toNat_inj.1 e⟩
      simp; omega
end Go.Proofs.Ytngnplghjaojhaa
