/- Texts of changes, and their lines: plain. -/
import Derived.Test.YtilbofkpjgcchaaDoorBatX
import Derived.Test.YtilbofkpjgcchaaDoorBatI
import Derived.Test.YtilbofkpjgcchaaDoorBatS
namespace Go.Proofs.YtilbofkpjgcchaaDoor
set_option maxRecDepth 100000
set_option maxHeartbeats 2000000
set_option linter.unusedVariables false
set_option linter.unusedSimpArgs false
open Go.RowKit

def NoFeed (l : List UInt8) : Prop := ∀ c ∈ l, notB 10 c.toNat = true
def FeedLine (x : List UInt8) : Prop := ∃ a, NoFeed a ∧ x = a ++ [10]
theorem nofeed_app {a b : List UInt8} (ha : NoFeed a) (hb : NoFeed b) : NoFeed (a ++ b) := fun c hc => (List.mem_append.1 hc).elim (ha c) (hb c)
theorem nofeed_cons {x : UInt8} {b : List UInt8} (hx : notB 10 x.toNat = true) (hb : NoFeed b) : NoFeed (x :: b) := fun c hc => (List.mem_cons.1 hc).elim (fun e => e ▸ hx) (hb c)
theorem nofeed_nil : NoFeed [] := fun c hc => by cases hc
theorem nofeed_of {p : Int → Bool} {l : List UInt8} (h : spanL p l = l.length) (hp : ∀ c : Int, p c = true → c ≠ 10) : NoFeed l := fun c hc => by
  have := hp _ (spanL_full.1 h c hc)
  exact decide_eq_true (by intro e; exact this (by rw [e]; rfl))
theorem nofeed_word (k : Nat) : NoFeed (wordOf k) := by
  unfold wordOf NoFeed
  split <;> decide
theorem nofeed_part {i : Nat} {q : Bool} {s : ByteArray} (h : okF i q s = true) : NoFeed (partL i q s) := by
  unfold okF at h
  unfold partL
  cases q with
  | false => exact nofeed_nil
  | true =>
    simp only [if_true] at h ⊢
    split at h
    · rename_i h2
      rw [if_pos h2]
      refine nofeed_app (nofeed_cons (by decide) (nofeed_cons (by decide) nofeed_nil)) (nofeed_app (nofeed_of (allB_iff.1 h).1 (fun c hc e => by subst e; revert hc; decide)) (nofeed_cons (by decide) nofeed_nil))
    · rename_i h2
      rw [if_neg h2]
      exact nofeed_cons (by decide) (nofeed_of (allB_iff.1 h).1 (fun c hc e => by subst e; revert hc; decide))
theorem nofeed_line {c : Ch} (h : okC c = true) : NoFeed (lineL c) := by
  obtain ⟨_, _, q0, q1, q2, q3⟩ := okC_iff.1 h
  exact nofeed_app (nofeed_word _) (nofeed_app (nofeed_part q0) (nofeed_app (nofeed_part q1) (nofeed_app (nofeed_part q2) (nofeed_part q3))))
theorem linesL_feed {a r : List UInt8} (ha : NoFeed a) : linesL (a ++ 10 :: r) = (a ++ [10]) :: linesL r := by
  have hn : lineN (a ++ 10 :: r) = a.length := by unfold lineN; rw [spanL_append _ _ _ ha, spanL_no (by decide)]; rfl
  rw [linesL_cut (by rw [hn]; simp), hn]
  congr 1
  · rw [List.take_append, List.take_of_length_le (by omega)]; simp
  · rw [← List.drop_drop, List.drop_left']
    · rfl
    · rfl
theorem linesL_last {a : List UInt8} (ha : NoFeed a) (h0 : a ≠ []) : linesL a = [a] := by
  have hn : lineN a = a.length := by
    unfold lineN
    have := spanL_append _ _ [] ha
    rw [List.append_nil] at this
    rw [this]; simp [spanL]
  exact linesL_end h0 (by omega)
theorem linesL_flatten (xs : List (List UInt8)) (h : ∀ x ∈ xs, FeedLine x) (t : List UInt8) : linesL (xs.flatten ++ t) = xs ++ linesL t := by
  induction xs with
  | nil => rfl
  | cons x xs ih =>
    obtain ⟨a, ha, rfl⟩ := h x (by simp)
    rw [List.flatten_cons, List.append_assoc, List.append_assoc, List.singleton_append, linesL_feed ha, ih (fun y hy => h y (by simp [hy]))]
    rfl
theorem linesL_feeds (xs : List (List UInt8)) (h : ∀ x ∈ xs, FeedLine x) : linesL xs.flatten = xs := by
  have := linesL_flatten xs h []
  rwa [List.append_nil, linesL_nil, List.append_nil] at this
theorem lines_spec : ∀ (n : Nat) (l : List UInt8), l.length ≤ n → (linesL l).flatten = l ∧ ∃ xs t, l = xs.flatten ++ t ∧ (∀ x ∈ xs, FeedLine x) ∧ NoFeed t ∧ linesL l = xs ++ linesL t
  | 0, l, h => by
    have : l = [] := List.eq_nil_of_length_eq_zero (by omega)
    subst this; exact ⟨rfl, [], [], rfl, fun x hx => by simp at hx, nofeed_nil, rfl⟩
  | n + 1, l, h => by
    by_cases h0 : l = []
    · subst h0; exact ⟨rfl, [], [], rfl, fun x hx => by simp at hx, nofeed_nil, rfl⟩
    · by_cases hc : lineN l < l.length
      · obtain ⟨i1, xs, t, i2, i3, i4, i5⟩ := lines_spec n (l.drop (lineN l + 1)) (by rw [List.length_drop]; omega)
        have hf : FeedLine (l.take (lineN l + 1)) := by
          refine ⟨l.take (lineN l), spanL_all _ l, ?_⟩
          rw [take_snoc l (lineN l) hc]
          have he : notB 10 (l[lineN l].toNat : Int) = false := spanL_end (notB 10) l hc
          generalize l[lineN l] = y at *
          have h10 : (10 : UInt8).toNat = 10 := rfl
          have : y = 10 := UInt8.toNat_inj.1 (by unfold notB at he; simp at he; omega)
          rw [this]
        refine ⟨?_, l.take (lineN l + 1) :: xs, t, ?_, fun x hx => ?_, i4, ?_⟩
        · rw [linesL_cut hc, List.flatten_cons, i1, List.take_append_drop]
        · rw [List.flatten_cons, List.append_assoc, ← i2, List.take_append_drop]
        · rcases List.mem_cons.1 hx with rfl | hx
          · exact hf
          · exact i3 x hx
        · rw [linesL_cut hc, i5]; rfl
      · refine ⟨by rw [linesL_end h0 hc]; simp, [], l, rfl, fun x hx => by simp at hx, ?_, rfl⟩
        have := spanL_all (notB 10) l
        rwa [List.take_of_length_le (by unfold lineN at hc; omega)] at this
theorem linesL_flat (l : List UInt8) : (linesL l).flatten = l := (lines_spec _ l (Nat.le_refl _)).1

/-- The text of changes. -/
def textF (l : List Ch) : List UInt8 := (l.map (fun c => lineL c ++ [10])).flatten
theorem feed_suffix {x : List UInt8} (h : Lib.hasSuffix x [10] = true) : ∃ a, x = a ++ [10] ∧ Lib.trimSuffix x [10] = a := by
  have h' := h
  unfold Lib.hasSuffix at h
  obtain ⟨a, rfl⟩ := List.isSuffixOf_iff_suffix.1 h
  refine ⟨a, rfl, ?_⟩
  unfold Lib.trimSuffix
  rw [if_pos h']; simp
theorem suffix_feed (a : List UInt8) : Lib.hasSuffix (a ++ [10]) [10] = true ∧ Lib.trimSuffix (a ++ [10]) [10] = a := by
  have h1 : Lib.hasSuffix (a ++ [10]) [10] = true := by simp [Lib.hasSuffix]
  refine ⟨h1, ?_⟩
  unfold Lib.trimSuffix
  rw [if_pos h1]; simp
theorem lineCh_line {c : Ch} (h : okC c = true) : lineCh (lineL c ++ [10]) = some c := by
  unfold lineCh
  rw [(suffix_feed _).1, (suffix_feed _).2, (says_line c h).1, (says_line c h).2]; rfl
theorem lineCh_some {x : List UInt8} {c : Ch} (h : lineCh x = some c) : okC c = true ∧ x = lineL c ++ [10] := by
  unfold lineCh at h
  split at h
  · rename_i hb
    simp only [Bool.and_eq_true] at hb
    obtain ⟨a, hx, ha⟩ := feed_suffix hb.1
    obtain rfl := Option.some.inj h
    have := (saysB_iff _).1 hb.2
    refine ⟨this.1, ?_⟩
    rw [this.2, bts_txt, ha]; exact hx
  · cases h
theorem feed_lines {l : List Ch} (h : ∀ c ∈ l, okC c = true) : ∀ x ∈ l.map (fun c => lineL c ++ [10]), FeedLine x := by
  intro x hx
  obtain ⟨c, hc, rfl⟩ := List.mem_map.1 hx
  exact ⟨_, nofeed_line (h c hc), rfl⟩
theorem chsOf_lines {l : List Ch} (h : ∀ c ∈ l, okC c = true) : chsOf (l.map (fun c => lineL c ++ [10])) = l := by
  induction l with
  | nil => rfl
  | cons c l ih =>
    rw [List.map_cons]
    have : chsOf ((lineL c ++ [10]) :: l.map (fun c => lineL c ++ [10])) = c :: chsOf (l.map (fun c => lineL c ++ [10])) := by unfold chsOf; rw [List.filterMap_cons_some (lineCh_line (h c (by simp)))]
    rw [this, ih (fun x hx => h x (by simp [hx]))]
theorem linesL_text {l : List Ch} (h : ∀ c ∈ l, okC c = true) : linesL (textF l) = l.map (fun c => lineL c ++ [10]) := linesL_feeds _ (feed_lines h)
theorem readF_text {l : List Ch} (h : ∀ c ∈ l, okC c = true) (h64 : l.length ≤ 64) : readF (textF l) = (l, (l.length : Int), 0) := by
  have hl := linesL_text h
  rw [readF_good (k := l.length) (fun j hj _ => ?_) (.inr (by rw [hl]; simp)), hl, if_neg (by simp; omega), chsOf_lines h, List.length_map]
  have hm : (linesL (textF l))[j] ∈ linesL (textF l) := List.getElem_mem _
  generalize (linesL (textF l))[j] = x at *
  rw [hl] at hm
  obtain ⟨c, hc, rfl⟩ := List.mem_map.1 hm
  rw [lineCh_line (h c hc)]; rfl
/-- The lines that say changes are the changes' own. -/
theorem chs_lines {ls : List (List UInt8)} (h : ∀ x ∈ ls, (lineCh x).isNone = false) : (∀ c ∈ chsOf ls, okC c = true) ∧ (chsOf ls).map (fun c => lineL c ++ [10]) = ls := by
  induction ls with
  | nil => exact ⟨fun c hc => by simp [chsOf] at hc, rfl⟩
  | cons x ls ih =>
    obtain ⟨i1, i2⟩ := ih (fun y hy => h y (by simp [hy]))
    cases hx : lineCh x with
    | none => have := h x (by simp); rw [hx] at this; cases this
    | some c =>
      have hc := lineCh_some hx
      have e : chsOf (x :: ls) = c :: chsOf ls := by unfold chsOf; rw [List.filterMap_cons_some hx]
      rw [e]
      refine ⟨fun y hy => ?_, ?_⟩
      · rcases List.mem_cons.1 hy with rfl | hy
        · exact hc.1
        · exact i1 y hy
      · rw [List.map_cons, i2, ← hc.2]
/-- What Read answers, in three ways. -/
theorem readF_cases (s : List UInt8) : (∃ l, readF s = (l, (l.length : Int), 0) ∧ l.length ≤ 64 ∧ (∀ c ∈ l, okC c = true) ∧ textF l = s ∧ linesL s = l.map (fun c => lineL c ++ [10])) ∨
    (readF s = ([], 0, 3) ∧ 64 < (linesL s).length) ∨
    (∃ k, ∃ hk : k < (linesL s).length, k < 64 ∧ readF s = ([], (k : Int) + 1, 191) ∧ Good (linesL s) k ∧ (lineCh (linesL s)[k]).isNone = true) := by
  cases hf : ((linesL s).take 64).findIdx? (fun x => (lineCh x).isNone) with
  | some k =>
    obtain ⟨hk, hb, hg⟩ := List.findIdx?_eq_some_iff_getElem.1 hf
    rw [List.length_take] at hk
    rw [List.getElem_take] at hb
    refine .inr (.inr ⟨k, by omega, by omega, readF_bad (by omega) (by omega) (fun j hj hjk => ?_) hb, fun j hj hjk => ?_, hb⟩)
    all_goals
      have := hg j hjk
      rw [List.getElem_take] at this
      cases hn : (lineCh (linesL s)[j]).isNone with
      | false => rfl
      | true => rw [hn] at this; simp at this
  | none =>
    by_cases h64 : 64 < (linesL s).length
    · refine .inr (.inl ⟨?_, h64⟩)
      unfold readF
      rw [hf, if_pos h64]
    · rw [List.take_of_length_le (by omega)] at hf
      have hall : ∀ x ∈ linesL s, (lineCh x).isNone = false := fun x hx => by
        have := (List.findIdx?_eq_none_iff.1 hf) x hx
        simpa using this
      obtain ⟨c1, c2⟩ := chs_lines hall
      have hlen := chsOf_len _ hall
      refine .inl ⟨chsOf (linesL s), ?_, by omega, c1, ?_, c2.symm⟩
      · unfold readF
        rw [List.take_of_length_le (by omega), hf, if_neg h64, hlen]
      · unfold textF
        rw [c2, linesL_flat]
/-- What Text answers. -/
def textE (l : List Ch) : ByteArray × Int := if (batchF l).2 = 0 then (txt (textF l), 0) else (⟨#[]⟩, (batchF l).2)
theorem batchF_cases (l : List Ch) : (l.length ≤ 64 ∧ (∀ c ∈ l, okC c = true) ∧ batchF l = ((l.length : Int), 0)) ∨ (batchF l).2 ≠ 0 := by
  unfold batchF
  by_cases h : 64 < l.length
  · rw [if_pos h]; exact .inr (by decide)
  · rw [if_neg h]
    cases hf : l.findIdx? (fun c => !(okC c)) with
    | some i => exact .inr (by dsimp only; decide)
    | none =>
      refine .inl ⟨by omega, fun c hc => ?_, rfl⟩
      have := (List.findIdx?_eq_none_iff.1 hf) c hc
      simpa using this
end Go.Proofs.YtilbofkpjgcchaaDoor
