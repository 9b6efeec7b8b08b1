/- The lines of a text, split: plain. -/
import Derived.Test.YtilbofkpjgcchaaDoorBatY
import Derived.Test.YtilbofkpjgcchaaDoorShelf
import Derived.Lib.SplitLaws
import Derived.Lib.CountLaws
namespace Go.Proofs.YtilbofkpjgcchaaDoor
set_option maxRecDepth 100000
set_option maxHeartbeats 2000000
set_option linter.unusedVariables false
set_option linter.unusedSimpArgs false
open Go.RowKit

def feedS : ByteArray := ⟨#[10]⟩
theorem index_feed (s : ByteArray) : Lib.indexB s feedS = if lineN (bts s) < (bts s).length then (lineN (bts s) : Int) else -1 := by
  have h1 : Lib.indexB s feedS = Lib.indexByte (bts s) 10 := Lib.index_one _ _
  rw [h1, idx_span]; rfl
theorem nofeed_span {a : List UInt8} (h : NoFeed a) (r : List UInt8) : lineN (a ++ r) = a.length + lineN r := spanL_append _ _ _ h
theorem split_spec : ∀ (xs : List (List UInt8)) (s : ByteArray) (t : List UInt8), (∀ x ∈ xs, FeedLine x) → NoFeed t → bts s = xs.flatten ++ t →
    (Lib.splitB feedS 1 xs.length s).map bts = xs ++ [t] ∧ Lib.countB s feedS = xs.length
  | [], s, t, _, ht, hs => by
    have hm : Lib.indexB s feedS = -1 := by
      have hl : lineN (bts s) = (bts s).length := by
        rw [hs]
        have := nofeed_span ht []
        simpa [lineN, spanL] using this
      rw [index_feed, if_neg (by omega)]
    refine ⟨?_, Lib.countB_miss _ _ hm⟩
    rw [Lib.splitB_miss _ _ _ _ hm]
    simp [hs]
  | x :: xs, s, t, hx, ht, hs => by
    obtain ⟨a, ha, rfl⟩ := hx x (by simp)
    have hs' : bts s = a ++ 10 :: (xs.flatten ++ t) := by rw [hs, List.flatten_cons]; simp
    have hln : lineN (bts s) = a.length := by
      rw [hs', nofeed_span ha]
      have : lineN (10 :: (xs.flatten ++ t)) = 0 := spanL_no (by decide)
      omega
    have hhit : Lib.indexB s feedS = (a.length : Nat) := by
      rw [index_feed, hln, if_pos (by rw [hs']; simp)]
    have hrest : bts (s.extract (a.length + feedS.size) s.size) = xs.flatten ++ t := by
      rw [bts_extract, show feedS.size = 1 from rfl, ← List.drop_drop, hs', List.drop_left' rfl]
      rw [List.take_of_length_le (by
        have := congrArg List.length hs'
        rw [bts_len] at this
        simp only [List.length_append, List.length_cons, List.length_drop] at this ⊢
        omega)]
      rfl
    obtain ⟨i1, i2⟩ := split_spec xs _ t (fun y hy => hx y (by simp [hy])) ht hrest
    refine ⟨?_, ?_⟩
    · rw [List.length_cons, Lib.splitB_hit _ _ _ _ _ hhit, List.map_cons, i1]
      have : bts (s.extract 0 (a.length + 1)) = a ++ [10] := by
        rw [bts_extract, hs', List.drop_zero, show a ++ 10 :: (xs.flatten ++ t) = (a ++ [10]) ++ (xs.flatten ++ t) by simp, List.take_left' (by simp)]
      rw [this]; rfl
    · rw [Lib.countB_hit _ _ _ (by decide) hhit, i2, List.length_cons]; omega
theorem join_flat : ∀ (xs : List (List UInt8)), Lib.join xs [] = xs.flatten
  | [] => rfl
  | x :: xs => by
    rw [Lib.join_cons, List.flatten_cons]
    congr 1
    unfold Lib.joinTail
    simp
theorem linesL_one {x : List UInt8} (h : FeedLine x ∨ (NoFeed x ∧ x ≠ [])) : linesL x = [x] := by
  rcases h with h | ⟨h, h0⟩
  · have := linesL_feeds [x] (fun y hy => by rw [List.mem_singleton] at hy; subst hy; exact h)
    simpa using this
  · exact linesL_last h h0
theorem readF_one {x : List UInt8} (h : FeedLine x ∨ (NoFeed x ∧ x ≠ [])) (hb : (lineCh x).isNone = true) : readF x = ([], 1, 191) := by
  have hl := linesL_one h
  have := readF_bad (l := x) (k := 0) (by rw [hl]; simp) (by omega) (fun j _ hj => by omega) (by simp only [hl]; exact hb)
  rw [this]; rfl
/-- What the pieces of a text are. -/
theorem pieces (s : ByteArray) : ∃ (xs : List (List UInt8)) (t : List UInt8), (Lib.splitB feedS 1 xs.length s).map bts = xs ++ [t] ∧ Lib.countB s feedS = xs.length ∧ linesL (bts s) = xs ++ linesL t ∧ (∀ x ∈ xs, FeedLine x) ∧ NoFeed t ∧ bts s = xs.flatten ++ t := by
  obtain ⟨_, xs, t, h1, h2, h3, h4⟩ := lines_spec _ (bts s) (Nat.le_refl _)
  obtain ⟨i1, i2⟩ := split_spec xs s t h2 h3 h1
  exact ⟨xs, t, i1, i2, h4, h2, h3, h1⟩
theorem pieces_at {xs : List (List UInt8)} {t : List UInt8} (ht : NoFeed t) {k : Nat} (hk : k < (xs ++ linesL t).length) : ∃ h : k < (xs ++ [t]).length, (xs ++ [t])[k] = (xs ++ linesL t)[k] := by
  by_cases h0 : t = []
  · subst h0
    rw [linesL_nil, List.append_nil] at hk
    refine ⟨by simp; omega, ?_⟩
    rw [List.getElem_append_left hk, List.getElem_append_left hk]
  · have hl := linesL_last ht h0
    refine ⟨by rw [hl] at hk; exact hk, ?_⟩
    simp only [hl]
theorem kinds_at {xs : List (List UInt8)} {t : List UInt8} (hx : ∀ x ∈ xs, FeedLine x) (ht : NoFeed t) {y : List UInt8} (hy : y ∈ xs ++ linesL t) : FeedLine y ∨ (NoFeed y ∧ y ≠ []) := by
  rcases List.mem_append.1 hy with h | h
  · exact .inl (hx _ h)
  · by_cases h0 : t = []
    · subst h0; rw [linesL_nil] at h; cases h
    · rw [linesL_last ht h0, List.mem_singleton] at h
      subst h; exact .inr ⟨ht, h0⟩
/-- The lines ahead of the first that says nothing. -/
theorem readF_ahead {s : List UInt8} {k : Nat} (hk : k < (linesL s).length) (h64 : k < 64) (hg : Good (linesL s) k) : ∃ l : List Ch, l.length = k ∧ readF ((linesL s).take k).flatten = (l, (k : Int), 0) := by
  have hall := hg.take
  obtain ⟨c1, c2⟩ := chs_lines hall
  have hlen := chsOf_len _ hall
  rw [List.length_take, Nat.min_eq_left (by omega)] at hlen
  refine ⟨chsOf ((linesL s).take k), hlen, ?_⟩
  have hr := readF_text c1 (by omega)
  unfold textF at hr
  rw [c2, hlen] at hr
  exact hr
theorem okC_feed {x : List UInt8} {c : Ch} (h : lineCh x = some c) : FeedLine x := ⟨lineL c, nofeed_line (lineCh_some h).1, (lineCh_some h).2⟩
theorem feed_not {t : List UInt8} (ht : NoFeed t) (c : Ch) (h : t = lineL c ++ [10]) : False := by
  have := ht 10 (by rw [h]; simp)
  revert this; decide
end Go.Proofs.YtilbofkpjgcchaaDoor
