/- What a pattern's text is read as: the pattern. Plain. -/
import Derived.Test.YthoneahamnmjlaaGreatDoorGp25
namespace Go.Proofs.YthoneahamnmjlaaGreatDoor
set_option maxRecDepth 100000
set_option maxHeartbeats 2000000
set_option linter.unusedSimpArgs false
open Go.Lib
set_option linter.unusedVariables false

theorem nodup_sub_len {α : Type} [DecidableEq α] : ∀ (l m : List α), l.Nodup → (∀ x ∈ l, x ∈ m) → l.length ≤ m.length
  | [], m, _, _ => Nat.zero_le _
  | x :: l, m, hn, hs => by
    have hx := hs x (by simp)
    have hn' := List.nodup_cons.1 hn
    have := nodup_sub_len l (m.erase x) hn'.2 (fun y hy => (List.mem_erase_of_ne (fun e => by subst e; exact hn'.1 hy)).2 (hs y (List.mem_cons_of_mem _ hy)))
    rw [List.length_erase_of_mem hx] at this
    have hp := List.length_pos_of_mem hx
    rw [List.length_cons]; omega
theorem chosenG_iff (vars : List ByteArray) : ∀ (l seen : List ByteArray), chosenG vars seen l = true ↔ (∀ s ∈ l, s ∈ vars) ∧ l.Nodup ∧ ∀ s ∈ l, s ∉ seen
  | [], seen => by simp [chosenG]
  | x :: l, seen => by
    have ih := chosenG_iff vars l (seen ++ [x])
    unfold chosenG
    rw [Bool.and_eq_true, Bool.and_eq_true, ih, hasB_iff, Bool.not_eq_true', hasB_no, List.nodup_cons]
    constructor
    · rintro ⟨h1, h2, h3, h4, h5⟩
      refine ⟨?_, ⟨fun hx => h5 x hx (by simp), h4⟩, ?_⟩
      · intro s hs
        rcases List.mem_cons.1 hs with rfl | hs
        · exact h1
        · exact h3 s hs
      · intro s hs
        rcases List.mem_cons.1 hs with rfl | hs
        · exact h2
        · exact fun h => h5 s hs (by simp [h])
    · rintro ⟨h1, ⟨h2, h3⟩, h4⟩
      refine ⟨h1 x (by simp), h4 x (by simp), fun s hs => h1 s (List.mem_cons_of_mem _ hs), h3, fun s hs h => ?_⟩
      rcases List.mem_append.1 h with h | h
      · exact h4 s (List.mem_cons_of_mem _ hs) h
      · rw [List.mem_singleton] at h; subst h; exact h2 hs
theorem chosenB_iff (vars l : List ByteArray) : chosenB vars l = true ↔ (∀ s ∈ l, s ∈ vars) ∧ l.Nodup := by
  unfold chosenB
  rw [chosenG_iff]
  simp
theorem chosenB_len {vars l : List ByteArray} (h : chosenB vars l = true) : l.length ≤ vars.length := by
  obtain ⟨h1, h2⟩ := (chosenB_iff _ _).1 h
  exact nodup_sub_len _ _ h2 h1
/-- Does it say a word? -/
def saysL (l : List Tk) (s : ByteArray) : Bool := decide (nextKd l = 1) && decide (nextTx l = s)
theorem says_next (ts : List Tk) (s : ByteArray) (p : Nat) : saysP ts s p = saysL (ts.drop p) s := by
  unfold saysP saysL; rw [kind_next, text_next]
theorem next_wd {x : ByteArray} (h : wordB x = true) (l : List Tk) : nextKd (wd x :: l) = 1 := by
  show (if (wd x).check then (wd x).kind else 0) = 1
  rw [if_pos (word_check h)]; rfl
theorem says_wd {x s : ByteArray} (h : wordB x = true) (l : List Tk) : saysL (wd x :: l) s = decide (x = s) := by
  unfold saysL
  rw [next_wd h]
  show (decide ((1 : Int) = 1) && decide (x = s)) = decide (x = s)
  simp
theorem varP_at {ts r vars acc : _} {p : Nat} {s : ByteArray} (h : ts.drop p = wd s :: r) (hw : wordB s = true) (h1 : hasB s vars = true) (h2 : hasB s acc = false) : varP ts vars acc p = .ok (acc ++ [s], p + 1) := by
  unfold varP
  rw [takeW_at h hw]
  show (if hasB s vars = false ∨ hasB s acc = true then _ else _) = _
  rw [if_neg (by rw [h1, h2]; simp)]
theorem chosenG_cons {vars seen l : List ByteArray} {s : ByteArray} (h : chosenG vars seen (s :: l) = true) : hasB s vars = true ∧ hasB s seen = false ∧ chosenG vars (seen ++ [s]) l = true := by
  unfold chosenG at h
  simpa [Bool.and_eq_true, Bool.not_eq_true'] using h
theorem retP_at {ts r : List Tk} {vars : List ByteArray} (hn : nextKd r ≠ 6) (l : List ByteArray) : ∀ (k p : Nat) (acc : List ByteArray), l ≠ [] → l.length ≤ k → ts.drop p = sepK (l.map fun s => [wd s]) ++ r → (∀ s ∈ l, wordB s = true) → chosenG vars acc l = true →
    retP ts vars k acc p = .ok (acc ++ l, p + (sepK (l.map fun s => [wd s])).length) := by
  induction l with
  | nil => intro k p acc h; exact absurd rfl h
  | cons s l ih =>
    intro k p acc _ hk hd hw hc
    obtain ⟨k, rfl⟩ : ∃ j, k = j + 1 := ⟨k - 1, by rw [List.length_cons] at hk; omega⟩
    obtain ⟨h1, h2, h3⟩ := chosenG_cons hc
    have hws := hw s (by simp)
    unfold retP
    cases l with
    | nil =>
      have hd' : ts.drop p = wd s :: r := by simpa [sepK] using hd
      rw [varP_at hd' hws h1 h2]
      simp only [Except.bind]
      rw [if_neg (by rw [kind_next, drop_one hd']; exact fun h => hn h.2)]
      rfl
    | cons x l =>
      have hd' : ts.drop p = wd s :: sg 6 :: (sepK ((x :: l).map fun s => [wd s]) ++ r) := by simpa [sepK] using hd
      rw [varP_at hd' hws h1 h2]
      simp only [Except.bind]
      have hd6 := drop_one hd'
      rw [List.length_cons, List.length_cons] at hk
      rw [if_pos ⟨by omega, kindS_at hd6 (sg_check s6)⟩, ih k (p + 1 + 1) (acc ++ [s]) (by simp) (by rw [List.length_cons]; omega) (drop_one hd6) (fun y hy => hw y (List.mem_cons_of_mem _ hy)) h3]
      congr 2
      · simp
      · simp only [List.map_cons, sepK, List.length_append, List.length_cons, List.length_nil]
        omega
theorem hintP_at {ts r : List Tk} {vars : List ByteArray} (l : List ByteArray) : ∀ (p : Nat) (acc : List ByteArray), ts.drop p = l.map wd ++ r → (∀ s ∈ l, wordB s = true) → chosenG vars acc l = true →
    hintP ts vars l.length acc p = .ok (acc ++ l, p + l.length) := by
  induction l with
  | nil => intro p acc _ _ _; simp [hintP]
  | cons s l ih =>
    intro p acc hd hw hc
    obtain ⟨h1, h2, h3⟩ := chosenG_cons hc
    have hd' : ts.drop p = wd s :: (l.map wd ++ r) := by simpa using hd
    rw [List.length_cons]
    unfold hintP
    rw [varP_at hd' (hw s (by simp)) h1 h2]
    simp only [Except.bind]
    rw [ih (p + 1) (acc ++ [s]) (drop_one hd') (fun y hy => hw y (List.mem_cons_of_mem _ hy)) h3]
    congr 2
    · simp
    · omega
theorem numP_at {ts r : List Tk} {p : Nat} {n : Int} (h : ts.drop p = wd (txt (itoa n)) :: r) (hn : numB n = true) : numP ts p = .ok (n, p + 1) := by
  rw [numP_eq, kind_at' h (word_check (word_itoa hn)), if_pos (show (wd (txt (itoa n))).kind = 1 from rfl), text_at' h]
  show (match numberF 1 (bts (txt (itoa n))) with | none => _ | some n => _) = _
  rw [bts_txt, number_itoa hn]
theorem toldRet_at {ts r : List Tk} {vars l : List ByteArray} {p : Nat} (hd : ts.drop p = optK (decide (0 < l.length)) (retK l) ++ r) (hw : ∀ s ∈ l, wordB s = true) (hc : chosenB vars l = true) (hn : nextKd r ≠ 6) (hs : saysL r wReturn = false) :
    toldRet ts vars p = .ok (l, p + (optK (decide (0 < l.length)) (retK l)).length) := by
  unfold toldRet
  cases l with
  | nil =>
    rw [if_neg (by rw [says_next, hd]; show ¬ (vars ≠ [] ∧ saysL r wReturn = true); rw [hs]; simp)]
    rfl
  | cons x l =>
    have hlen := chosenB_len hc
    have hv : vars ≠ [] := by rintro rfl; simp at hlen
    have e : optK (decide (0 < (x :: l).length)) (retK (x :: l)) = wd wReturn :: sepK ((x :: l).map fun s => [wd s]) := by simp [optK, retK]
    rw [e] at hd ⊢
    rw [if_pos ⟨hv, by rw [says_next, hd]; exact says_wd wReturn_word _ ▸ decide_eq_true rfl⟩, retP_at hn (x :: l) vars.length (p + 1) [] (by simp) hlen (drop_one hd) hw hc]
    congr 2
    rw [List.length_cons]; omega
theorem toldHint_at {ts : List Tk} {vars l : List ByteArray} {p : Nat} (hd : ts.drop p = optK (decide (0 < l.length)) (hintK l)) (hw : ∀ s ∈ l, wordB s = true) (hc : chosenB vars l = true) (hl : l.length = 0 ∨ l.length = vars.length) :
    toldHint ts vars p = .ok (l, p + (optK (decide (0 < l.length)) (hintK l)).length) := by
  unfold toldHint
  cases l with
  | nil =>
    rw [if_neg (by rw [says_next, hd]; show ¬ (vars ≠ [] ∧ saysL [] wHint = true); simp [saysL, nextKd])]
    rfl
  | cons x l =>
    have hl' : (x :: l).length = vars.length := by
      rcases hl with h | h
      · simp at h
      · exact h
    have hv : vars ≠ [] := by rintro rfl; simp at hl'
    have e : optK (decide (0 < (x :: l).length)) (hintK (x :: l)) = wd wHint :: (x :: l).map wd := by simp [optK, hintK]
    rw [e] at hd ⊢
    rw [if_pos ⟨hv, by rw [says_next, hd]; exact says_wd wHint_word _ ▸ decide_eq_true rfl⟩, ← hl', hintP_at (r := []) (x :: l) (p + 1) [] (by rw [drop_one hd]; simp) hw hc]
    congr 2
    simp; omega
theorem says_hint (l : List ByteArray) {s : ByteArray} (h : wHint ≠ s) : saysL (optK (decide (0 < l.length)) (hintK l)) s = false := by
  unfold optK hintK
  split
  · rw [says_wd wHint_word]; exact decide_eq_false h
  · simp [saysL, nextKd]
/-- The tokens of a pattern's page. -/
def pageK (cn ds lm : Bool) (li off : Int) (r : List Tk) : List Tk := optK cn [wd wCount] ++ (optK ds [wd wDistinct] ++ (optK lm (limK li) ++ (optK (decide (0 < off)) (offK off) ++ r)))
theorem toldPage_at {ts : List Tk} {p : Nat} {cn ds lm : Bool} {li off : Int} {l : List ByteArray} (hd : ts.drop p = pageK cn ds lm li off (optK (decide (0 < l.length)) (hintK l))) (hc : countedP cn ds lm off = true) (hp : pagedP lm li off = true) :
    toldPage ts p = .ok ((cn, ds, lm, li, off), p + (pageK cn ds lm li off []).length) ∧ ts.drop (p + (pageK cn ds lm li off []).length) = optK (decide (0 < l.length)) (hintK l) := by
  have hdr : ts.drop (p + (pageK cn ds lm li off []).length) = optK (decide (0 < l.length)) (hintK l) := by
    refine drop_app ?_
    rw [hd]
    simp [pageK]
  refine ⟨?_, hdr⟩
  have n1 := says_hint l (s := wCount) (by decide)
  have n2 := says_hint l (s := wDistinct) (by decide)
  have n3 := says_hint l (s := wLimit) (by decide)
  have n4 := says_hint l (s := wOffset) (by decide)
  generalize optK (decide (0 < l.length)) (hintK l) = r at *
  unfold countedP at hc
  unfold pagedP at hp
  simp only [Bool.and_eq_true, Bool.or_eq_true, decide_eq_true_eq, Bool.not_eq_true'] at hc hp
  obtain ⟨hli, hoff, hlim⟩ := hp
  have hoff0 : 0 ≤ off := by unfold numB at hoff; simp at hoff; omega
  unfold toldPage
  rw [says_next, hd]
  cases cn with
  | true =>
    obtain ⟨rfl, rfl⟩ : lm = false ∧ off = 0 := by
      rcases hc with h | h
      · cases h.1
      · exact h.2
    have hli0 : li = 0 := by
      rcases hlim with h | h
      · cases h
      · exact h
    subst hli0
    cases ds with
    | true =>
      have hd' : ts.drop p = wd wCount :: wd wDistinct :: r := by rw [hd]; simp [pageK, optK]
      have e : pageK true true false 0 0 r = wd wCount :: wd wDistinct :: r := by simp [pageK, optK]
      rw [e, says_wd wCount_word, if_pos (decide_eq_true rfl), says_next, drop_one hd', says_wd wDistinct_word, if_pos (decide_eq_true rfl)]
      rfl
    | false =>
      have hd' : ts.drop p = wd wCount :: r := by rw [hd]; simp [pageK, optK]
      have e : pageK true false false 0 0 r = wd wCount :: r := by simp [pageK, optK]
      rw [e, says_wd wCount_word, if_pos (decide_eq_true rfl), says_next, drop_one hd', n2]
      rfl
  | false =>
    have hds : ds = false := by
      rcases hc with h | h
      · exact h.2
      · cases h.1
    subst hds
    -- what stands behind the limit
    have hoffs : ∀ q, ts.drop q = optK (decide (0 < off)) (offK off) ++ r → (if saysP ts wOffset q = true then (numP ts (q + 1)).bind fun (m, p) => (Except.ok (m, p) : Except Nat (Int × Nat)) else .ok (0, q)) = .ok (off, q + (optK (decide (0 < off)) (offK off)).length) := by
      intro q hq
      by_cases h0 : 0 < off
      · have e : optK (decide (0 < off)) (offK off) = [wd wOffset, wd (txt (itoa off))] := by simp [optK, h0, offK]
        rw [e] at hq ⊢
        have hq' : ts.drop q = wd wOffset :: wd (txt (itoa off)) :: r := hq
        rw [says_next, hq', says_wd wOffset_word, if_pos (decide_eq_true rfl), numP_at (drop_one hq') hoff]
        rfl
      · have e : optK (decide (0 < off)) (offK off) = [] := by simp [optK, h0]
        rw [e] at hq ⊢
        rw [says_next, hq, List.nil_append, n4, if_neg (by decide)]
        congr 2
        omega
    have hno : saysL (optK (decide (0 < off)) (offK off) ++ r) wCount = false ∧ saysL (optK (decide (0 < off)) (offK off) ++ r) wLimit = false := by
      unfold optK offK
      split
      · exact ⟨(says_wd wOffset_word _).trans (by decide), (says_wd wOffset_word _).trans (by decide)⟩
      · exact ⟨n1, n3⟩
    cases lm with
    | true =>
      have e : pageK false false true li off r = wd wLimit :: wd (txt (itoa li)) :: (optK (decide (0 < off)) (offK off) ++ r) := by simp [pageK, optK, limK]
      rw [e] at hd ⊢
      have hd2 := drop_one hd
      rw [says_wd wLimit_word, if_neg (by decide), says_next, hd, says_wd wLimit_word, if_pos (decide_eq_true rfl), numP_at hd2 hli]
      simp only [Except.bind]
      have := hoffs _ (drop_one hd2)
      simp only [Except.bind] at this
      rw [this]
      simp only
      congr 2
      simp [pageK, optK, limK]; omega
    | false =>
      have hli0 : li = 0 := by
        rcases hlim with h | h
        · cases h
        · exact h
      subst hli0
      have e : pageK false false false 0 off r = optK (decide (0 < off)) (offK off) ++ r := by simp [pageK, optK]
      rw [e] at hd ⊢
      rw [hno.1, if_neg (by decide), says_next, hd, hno.2, if_neg (by decide)]
      simp only [Except.bind]
      have := hoffs _ hd
      simp only [Except.bind] at this
      rw [this]
      simp only
      congr 2
      simp [pageK, optK]
theorem okB_facts {P : Pat} (h : P.okB = true) : 0 < P.atoms.length ∧ P.atoms.length ≤ 40 ∧ edgesOf P.atoms ≤ 6 ∧ (varsS P.atoms).length ≤ 32 ∧ chosenB (varsS P.atoms) P.ret = true ∧ chosenB (varsS P.atoms) P.hint = true ∧
    (P.hint.length = 0 ∨ P.hint.length = (varsS P.atoms).length) ∧ countedP P.count P.distinct P.limited P.offset = true ∧ pagedP P.limited P.limit P.offset = true ∧ P.atoms.all atomB = true := by
  unfold Pat.okB sizesP namedP at h
  simp only [Bool.and_eq_true, Bool.or_eq_true, decide_eq_true_eq] at h
  exact ⟨h.1.1, h.1.2.1, h.1.2.2.1, h.1.2.2.2, h.2.1.1, h.2.1.2.1, h.2.1.2.2, h.2.2.1, h.2.2.2.1, h.2.2.2.2⟩
theorem varsS_word {l : List Atm} (h : l.all atomB = true) : ∀ s ∈ varsS l, wordB s = true := by
  have key : ∀ (l : List Atm) (T : List ByteArray), (∀ a ∈ l, atomB a = true) → (∀ s ∈ T, wordB s = true) → ∀ s ∈ l.foldl (fun T a => termS (termS T (a.fk, a.fn)) (a.tk, a.tn)) T, wordB s = true := by
    intro l
    induction l with
    | nil => intro T _ h; exact h
    | cons a l ih =>
      intro T hl hT
      rw [List.foldl_cons]
      refine ih _ (fun x hx => hl x (List.mem_cons_of_mem _ hx)) ?_
      obtain ⟨hf, hc⟩ := atom_facts (hl a (by simp))
      have ht : a.tn = nilB ∨ wordB a.tn = true := by
        rcases hc with h | h | h | h
        · exact .inl h.2.2.2.2
        · exact .inl h.2.2.2.1
        · exact .inl h.2.2.1
        · exact .inr h.2.2.2
      have step : ∀ (T : List ByteArray) (t : Bool × ByteArray), (∀ s ∈ T, wordB s = true) → (t.2 = nilB ∨ wordB t.2 = true) → ∀ s ∈ termS T t, wordB s = true := by
        intro T t hT ht s hs
        unfold termS at hs
        split at hs
        · exact hT s hs
        · rename_i hc
          rcases List.mem_append.1 hs with hs | hs
          · exact hT s hs
          · rw [List.mem_singleton] at hs
            subst hs
            rcases ht with ht | ht
            · exact absurd (.inr (.inl ht)) hc
            · exact ht
      exact step _ _ (step _ _ hT (.inr hf)) ht
  exact key l [] (List.all_eq_true.1 h) (by simp)
theorem okB_words {P : Pat} (h : P.okB = true) : (∀ s ∈ P.ret, wordB s = true) ∧ ∀ s ∈ P.hint, wordB s = true := by
  obtain ⟨_, _, _, _, h5, h6, _, _, _, h10⟩ := okB_facts h
  have hv := varsS_word h10
  exact ⟨fun s hs => hv s (((chosenB_iff _ _).1 h5).1 s hs), fun s hs => hv s (((chosenB_iff _ _).1 h6).1 s hs)⟩
theorem toksK_eq (P : Pat) : toksK P = sepK (P.atoms.map atomK) ++ (optK (decide (0 < P.ret.length)) (retK P.ret) ++ pageK P.count P.distinct P.limited P.limit P.offset (optK (decide (0 < P.hint.length)) (hintK P.hint))) := rfl
theorem page_next {cn ds lm : Bool} {li off : Int} {l : List ByteArray} : nextKd (pageK cn ds lm li off (optK (decide (0 < l.length)) (hintK l))) ≠ 6 ∧ nextKd (pageK cn ds lm li off (optK (decide (0 < l.length)) (hintK l))) ≠ 10 ∧ saysL (pageK cn ds lm li off (optK (decide (0 < l.length)) (hintK l))) wReturn = false := by
  have hr : nextKd (optK (decide (0 < l.length)) (hintK l)) ≠ 6 ∧ nextKd (optK (decide (0 < l.length)) (hintK l)) ≠ 10 ∧ saysL (optK (decide (0 < l.length)) (hintK l)) wReturn = false := by
    refine ⟨?_, ?_, says_hint l (by decide)⟩
    · unfold optK hintK
      split
      · rw [next_wd wHint_word]; decide
      · decide
    · unfold optK hintK
      split
      · rw [next_wd wHint_word]; decide
      · decide
  have step : ∀ (b : Bool) (x : ByteArray) (m r : List Tk), wordB x = true → x ≠ wReturn → (nextKd r ≠ 6 ∧ nextKd r ≠ 10 ∧ saysL r wReturn = false) → nextKd (optK b (wd x :: m) ++ r) ≠ 6 ∧ nextKd (optK b (wd x :: m) ++ r) ≠ 10 ∧ saysL (optK b (wd x :: m) ++ r) wReturn = false := by
    intro b x m r hx hne h
    cases b with
    | false => exact h
    | true =>
      have e : optK true (wd x :: m) ++ r = wd x :: (m ++ r) := rfl
      rw [e, next_wd hx, says_wd hx]
      exact ⟨by decide, by decide, decide_eq_false hne⟩
  unfold pageK
  exact step _ _ _ _ wCount_word (by decide) (step _ _ _ _ wDistinct_word (by decide) (step _ _ _ _ wLimit_word (by decide) (step _ _ _ _ wOffset_word (by decide) hr)))
/-- A pattern's tokens come to the pattern. -/
theorem toks_back {P : Pat} (h : P.okB = true) : ToksR (toksK P) (.ok P) := by
  obtain ⟨h1, h2, h3, h4, h5, h6, h7, h8, h9, h10⟩ := okB_facts h
  obtain ⟨hwr, hwh⟩ := okB_words h
  obtain ⟨q1, q2, q3⟩ := page_next (cn := P.count) (ds := P.distinct) (lm := P.limited) (li := P.limit) (off := P.offset) (l := P.hint)
  have hne : P.atoms ≠ [] := by intro e; rw [e] at h1; simp at h1
  have hrn : nextKd (optK (decide (0 < P.ret.length)) (retK P.ret) ++ pageK P.count P.distinct P.limited P.limit P.offset (optK (decide (0 < P.hint.length)) (hintK P.hint))) ≠ 6 ∧ nextKd (optK (decide (0 < P.ret.length)) (retK P.ret) ++ pageK P.count P.distinct P.limited P.limit P.offset (optK (decide (0 < P.hint.length)) (hintK P.hint))) ≠ 10 := by
    unfold optK retK
    split
    · rw [List.cons_append, next_wd wReturn_word]; exact ⟨by decide, by decide⟩
    · exact ⟨q1, q2⟩
  have hI := itemsR_at (ts := toksK P) hrn.1 hrn.2 P.atoms 0 [] hne (by rw [List.drop_zero, toksK_eq]) (List.all_eq_true.1 h10) h2 h3 h4
  rw [List.nil_append, Nat.zero_add] at hI
  refine ⟨_, hI, ?_⟩
  have hd1 : (toksK P).drop (0 + (sepK (P.atoms.map atomK)).length) = _ := drop_app (by rw [List.drop_zero, toksK_eq])
  rw [Nat.zero_add] at hd1
  have hR := toldRet_at (vars := varsS P.atoms) hd1 hwr h5 q1 q3
  have hd2 := drop_app hd1
  obtain ⟨hP, hd3⟩ := toldPage_at hd2 h8 h9
  have hH := toldHint_at (vars := varsS P.atoms) hd3 hwh h6 h7
  show _ = (toldP (toksK P) ⟨(sepK (P.atoms.map atomK)).length, P.atoms, varsS P.atoms⟩).bind _
  unfold toldP
  rw [hR]
  simp only [Except.bind]
  rw [hP]
  simp only
  rw [hH]
  simp only
  rw [if_neg]
  have hlen : (toksK P).length = (sepK (P.atoms.map atomK)).length + (optK (decide (0 < P.ret.length)) (retK P.ret)).length + (pageK P.count P.distinct P.limited P.limit P.offset []).length + (optK (decide (0 < P.hint.length)) (hintK P.hint)).length := by
    rw [toksK_eq]
    simp [pageK]; omega
  omega
theorem blk_opt {l m : List Tk} {u v : List UInt8} (h1 : Blk false l u) (b : Bool) (h2 : b = true → Blk false m (32 :: v)) : Blk false (l ++ optK b m) (u ++ partX b v) := by
  cases b with
  | true => exact h1.app (h2 rfl) (fun _ => hd_blank _)
  | false => simpa [optK, partX] using h1
theorem Blk.open {l : List Tk} {u : List UInt8} (h : Blk true l u) : Blk false l u := fun m v hm _ => h m v hm (fun h => by cases h)
theorem blk_num {x : ByteArray} (hx : wordB x = true) {n : Int} (hn : numB n = true) : Blk false [wd x, wd (txt (itoa n))] (32 :: (bts x ++ 32 :: itoa n)) := by
  have := (blk_bwd hx).app (blk_bwd (word_itoa hn)) (fun _ => hd_blank _)
  rw [bts_txt] at this
  exact this
theorem toks_laid {P : Pat} (h : P.okB = true) : Laid3 (toksK P) (textX P) := by
  obtain ⟨h1, h2, h3, h4, h5, h6, h7, h8, h9, h10⟩ := okB_facts h
  obtain ⟨hwr, hwh⟩ := okB_words h
  have hne : P.atoms ≠ [] := by intro e; rw [e] at h1; simp at h1
  unfold pagedP at h9
  simp only [Bool.and_eq_true] at h9
  have b0 := (blk_atoms hne h10).open
  have b1 := blk_opt b0 (decide (0 < P.ret.length)) (fun hb => blk_ret (by intro e; rw [e] at hb; simp at hb) hwr)
  have b2 := blk_opt b1 P.count (fun _ => blk_bwd wCount_word)
  have b3 := blk_opt b2 P.distinct (fun _ => blk_bwd wDistinct_word)
  have b4 := blk_opt b3 P.limited (fun _ => blk_num wLimit_word h9.1)
  have b5 := blk_opt b4 (decide (0 < P.offset)) (fun _ => blk_num wOffset_word h9.2.1)
  have b6 := blk_opt b5 (decide (0 < P.hint.length)) (fun hb => blk_hint (by intro e; rw [e] at hb; simp at hb) hwh)
  have := b6.laid
  simpa [toksK, textX, limK, limW, offK, offW] using this
theorem toks_check {P : Pat} (h : P.okB = true) : ∀ t ∈ toksK P, t.check = true := by
  have key : ∀ (l : List Tk) (u : List UInt8), Laid3 l u → ∀ t ∈ l, TokIs t.kind (bts t.text) := by
    intro l u hl
    induction hl with
    | nil => intro t ht; simp at ht
    | cons ht hs hr hl ih =>
      intro t hm
      rcases List.mem_cons.1 hm with rfl | hm
      · exact ht
      · exact ih t hm
  have hz : ∀ t ∈ toksK P, t.at_ = 0 := by
    have z1 : ∀ (b : Bool) (l : List Tk), (∀ t ∈ l, t.at_ = 0) → ∀ t ∈ optK b l, t.at_ = 0 := by
      intro b l h t ht
      unfold optK at ht
      split at ht
      · exact h t ht
      · simp at ht
    have z2 : ∀ l : List (List Tk), (∀ x ∈ l, ∀ t ∈ x, t.at_ = 0) → ∀ t ∈ sepK l, t.at_ = 0 := by
      intro l
      induction l with
      | nil => intro _ t ht; simp [sepK] at ht
      | cons x l ih =>
        intro h t ht
        cases l with
        | nil => exact h x (by simp) t (by simpa [sepK] using ht)
        | cons y l =>
          simp only [sepK, List.mem_append, List.mem_cons] at ht
          rcases ht with ht | ht | ht
          · exact h x (by simp) t ht
          · subst ht; rfl
          · exact ih (fun z hz => h z (List.mem_cons_of_mem _ hz)) t ht
    have zw : ∀ s, (wd s).at_ = 0 := fun _ => rfl
    intro t ht
    unfold toksK at ht
    simp only [List.mem_append] at ht
    rcases ht with ht | ht | ht | ht | ht | ht | ht
    · refine z2 _ ?_ t ht
      intro x hx
      obtain ⟨a, _, rfl⟩ := List.mem_map.1 hx
      intro t ht
      unfold atomK tailK at ht
      split at ht
      · simp at ht; rcases ht with rfl | rfl | rfl | rfl | rfl <;> rfl
      · split at ht
        · simp at ht; rcases ht with rfl | rfl | rfl | rfl | rfl | rfl | rfl <;> rfl
        · split at ht
          · simp at ht; rcases ht with rfl | rfl | rfl | rfl | rfl | rfl | rfl | rfl | rfl <;> rfl
          · simp at ht; rcases ht with rfl | rfl | rfl <;> rfl
    · refine z1 _ _ ?_ t ht
      intro t ht
      unfold retK at ht
      rcases List.mem_cons.1 ht with rfl | ht
      · rfl
      · refine z2 _ ?_ t ht
        intro x hx
        obtain ⟨s, _, rfl⟩ := List.mem_map.1 hx
        intro t ht
        rw [List.mem_singleton] at ht
        subst ht; rfl
    · exact z1 _ _ (by intro t ht; rw [List.mem_singleton] at ht; subst ht; rfl) t ht
    · exact z1 _ _ (by intro t ht; rw [List.mem_singleton] at ht; subst ht; rfl) t ht
    · exact z1 _ _ (by intro t ht; unfold limK at ht; simp at ht; rcases ht with rfl | rfl <;> rfl) t ht
    · exact z1 _ _ (by intro t ht; unfold offK at ht; simp at ht; rcases ht with rfl | rfl <;> rfl) t ht
    · refine z1 _ _ ?_ t ht
      intro t ht
      unfold hintK at ht
      rcases List.mem_cons.1 ht with rfl | ht
      · rfl
      · obtain ⟨s, _, rfl⟩ := List.mem_map.1 ht
        rfl
  intro t ht
  have h1 := key _ _ (toks_laid h) t ht
  have h2 := hz t ht
  exact checkB_iff.2 ⟨h1, by rw [h2]; exact Int.le_refl _⟩
/-- Read of Text is the pattern. -/
theorem text_back {P : Pat} (h : P.okB = true) (hs : (textX P).length ≤ 500) : ParsR (txt (textX P)) (.ok P) ∧ (readF (bts (txt (textX P)))).2.2 = 0 := by
  obtain ⟨back, hb, hk⟩ := (toks_laid h).reads hs
  have hc := toks_check h
  have hcb : ∀ t ∈ back, t.check = true := by
    rcases readF_cases (textX P) with h | ⟨_, p, _, _, h⟩ | ⟨_, l, h, _, _, h3⟩
    · omega
    · rw [hb] at h; simp at h
    · rw [hb] at h
      obtain rfl : back = l := congrArg Prod.fst h
      exact fun t ht => (h3 t ht).1
  have hS := kt_same hk.symm hc hcb
  refine ⟨?_, by rw [bts_txt, hb]⟩
  unfold ParsR
  rw [bts_txt, hb]
  exact ⟨_, hS.toks (toks_back h), rfl⟩
end Go.Proofs.YthoneahamnmjlaaGreatDoor
