/- Tables: the plain law, no program in sight. -/
import Derived.Test.YtkhmkgobmfhchaaTabP
namespace Go.Proofs.Ytkhmkgobmfhchaa
set_option linter.unusedVariables false

/-- A slot is free, or the text's. -/
def hit (T : List ByteArray) (S : List Int) (s : ByteArray) (at_ : Nat) : Bool := S.getD at_ 0 == 0 || decide (T.getD (S.getD at_ 0 - 1).toNat ⟨#[]⟩ = s)
def hashN (s : ByteArray) : Nat := (hashL 14695981039346656037 (sbt s)).toNat
def probe (m : Nat) (s : ByteArray) (k : Nat) : Nat := (hashN s + k) % m
/-- From the k-th probe on, so many of them: the first that hits; -1: none. -/
def placeFrom (T : List ByteArray) (S : List Int) (s : ByteArray) : Nat → Nat → Int
  | 0, _ => -1
  | f + 1, k => if hit T S s (probe S.length s k) then probe S.length s k else placeFrom T S s f (k + 1)
def placeF (T : List ByteArray) (S : List Int) (s : ByteArray) : Int := placeFrom T S s S.length 0

theorem placeFrom_no (T : List ByteArray) (S : List Int) (s : ByteArray) (f k : Nat) : placeFrom T S s f k = -1 ↔ ∀ j, k ≤ j → j < k + f → hit T S s (probe S.length s j) = false := by
  induction f generalizing k with
  | zero => simp [placeFrom]; intro j h1 h2; omega
  | succ f ih =>
    unfold placeFrom
    cases h : hit T S s (probe S.length s k) with
    | true =>
      simp only [if_true]
      constructor
      · intro h'; omega
      · intro h'; have := h' k (Nat.le_refl _) (by omega); rw [h] at this; cases this
    | false =>
      simp only [Bool.false_eq_true, if_false]
      rw [ih]
      constructor
      · intro h' j h1 h2
        rcases Nat.eq_or_lt_of_le h1 with rfl | h1
        · exact h
        · exact h' j (by omega) (by omega)
      · intro h' j h1 h2; exact h' j (by omega) (by omega)
theorem placeFrom_yes (T : List ByteArray) (S : List Int) (s : ByteArray) (f k p : Nat) : placeFrom T S s f k = p ↔ ∃ j, k ≤ j ∧ j < k + f ∧ probe S.length s j = p ∧ hit T S s p = true ∧ ∀ i, k ≤ i → i < j → hit T S s (probe S.length s i) = false := by
  induction f generalizing k with
  | zero => simp only [placeFrom]; constructor
            · intro h; omega
            · rintro ⟨j, h1, h2, _⟩; omega
  | succ f ih =>
    unfold placeFrom
    cases h : hit T S s (probe S.length s k) with
    | true =>
      simp only [if_true]
      constructor
      · intro h'
        have h' : probe S.length s k = p := by omega
        exact ⟨k, Nat.le_refl _, by omega, h', h' ▸ h, fun i h1 h2 => by omega⟩
      · rintro ⟨j, h1, h2, h3, h4, h5⟩
        rcases Nat.eq_or_lt_of_le h1 with rfl | h1
        · rw [h3]
        · have := h5 k (Nat.le_refl _) h1; rw [h] at this; cases this
    | false =>
      simp only [Bool.false_eq_true, if_false]
      rw [ih]
      constructor
      · rintro ⟨j, h1, h2, h3, h4, h5⟩
        refine ⟨j, by omega, by omega, h3, h4, fun i hi1 hi2 => ?_⟩
        rcases Nat.eq_or_lt_of_le hi1 with rfl | hi1
        · exact h
        · exact h5 i (by omega) hi2
      · rintro ⟨j, h1, h2, h3, h4, h5⟩
        rcases Nat.eq_or_lt_of_le h1 with rfl | h1
        · rw [h3, h4] at h; cases h
        · exact ⟨j, by omega, by omega, h3, h4, fun i hi1 hi2 => h5 i (by omega) hi2⟩

theorem placeFrom_cases (T : List ByteArray) (S : List Int) (s : ByteArray) (f k : Nat) : placeFrom T S s f k = -1 ∨ ∃ p : Nat, placeFrom T S s f k = p := by
  induction f generalizing k with
  | zero => exact .inl rfl
  | succ f ih =>
    unfold placeFrom
    split
    · exact .inr ⟨_, rfl⟩
    · exact ih _
theorem probe_lt (m : Nat) (s : ByteArray) (k : Nat) (hm : 0 < m) : probe m s k < m := Nat.mod_lt _ hm
theorem probe_onto (m : Nat) (s : ByteArray) (p : Nat) (hp : p < m) : ∃ k, k < m ∧ probe m s k = p := by
  refine ⟨(p + m - hashN s % m) % m, Nat.mod_lt _ (by omega), ?_⟩
  have h1 := Nat.mod_lt (hashN s) (show 0 < m by omega)
  unfold probe
  rw [Nat.add_mod, Nat.mod_mod, ← Nat.add_mod, Nat.add_mod, Nat.add_mod_mod, show hashN s % m + (p + m - hashN s % m) = p + m from by omega]
  simp [Nat.mod_eq_of_lt hp]
theorem placeF_yes {T : List ByteArray} {S : List Int} {s : ByteArray} {p : Nat} : placeF T S s = p ↔ ∃ j, j < S.length ∧ probe S.length s j = p ∧ hit T S s p = true ∧ ∀ i, i < j → hit T S s (probe S.length s i) = false := by
  unfold placeF
  rw [placeFrom_yes]
  constructor
  · rintro ⟨j, _, h2, h3, h4, h5⟩; exact ⟨j, by omega, h3, h4, fun i hi => h5 i (Nat.zero_le _) hi⟩
  · rintro ⟨j, h2, h3, h4, h5⟩; exact ⟨j, Nat.zero_le _, by omega, h3, h4, fun i _ hi => h5 i hi⟩
theorem placeF_lt {T : List ByteArray} {S : List Int} {s : ByteArray} {p : Nat} (h : placeF T S s = p) : p < S.length := by
  obtain ⟨j, h1, h2, _⟩ := placeF_yes.1 h
  rw [← h2]; exact probe_lt _ _ _ (by omega)
theorem placeF_some {T : List ByteArray} {S : List Int} {s : ByteArray} {q : Nat} (hq : q < S.length) (h : hit T S s q = true) : ∃ p : Nat, placeF T S s = p := by
  rcases placeFrom_cases T S s S.length 0 with h' | h'
  · rw [placeFrom_no] at h'
    obtain ⟨k, h1, h2⟩ := probe_onto S.length s q hq
    have := h' k (Nat.zero_le _) (by omega)
    rw [h2, h] at this; cases this
  · exact h'

def usedN (S : List Int) : Nat := (S.filter (fun x => decide (0 < x))).length
/-- The first n texts are laid. -/
structure Laid (T : List ByteArray) (S : List Int) (n : Nat) : Prop where
  range : ∀ x ∈ S, 0 ≤ x ∧ x ≤ n
  used : usedN S = n
  at_ : ∀ i (h : i < n) (h' : i < T.length), ∃ p : Nat, placeF T S T[i] = p ∧ S.getD p 0 = i + 1
def Distinct (T : List ByteArray) : Prop := ∀ i j (hi : i < T.length) (hj : j < T.length), T[i] = T[j] → i = j

theorem Laid.free {T : List ByteArray} {S : List Int} {n : Nat} (h : Laid T S n) (hn : n < S.length) : ∃ q, q < S.length ∧ S.getD q 0 = 0 := by
  refine Classical.byContradiction fun hne => ?_
  have hall : ∀ x ∈ S, decide (0 < x) = true := by
    intro x hx
    obtain ⟨q, hq, rfl⟩ := List.getElem_of_mem hx
    have h0 := (h.range _ hx).1
    have : S[q] ≠ 0 := fun e => hne ⟨q, hq, by simp [List.getD, hq, e]⟩
    simp; omega
  have := h.used
  unfold usedN at this
  rw [List.filter_eq_self.2 hall] at this
  omega
theorem hit_zero {T : List ByteArray} {S : List Int} {s : ByteArray} {q : Nat} (h : S.getD q 0 = 0) : hit T S s q = true := by unfold hit; rw [h]; rfl
theorem Laid.place {T : List ByteArray} {S : List Int} {n : Nat} (h : Laid T S n) (hn : n < S.length) (s : ByteArray) : ∃ p : Nat, placeF T S s = p ∧ p < S.length ∧ hit T S s p = true := by
  obtain ⟨q, hq, h0⟩ := h.free hn
  obtain ⟨p, hp⟩ := placeF_some hq (hit_zero (T := T) (s := s) h0)
  obtain ⟨j, h1, h2, h3, _⟩ := placeF_yes.1 hp
  exact ⟨p, hp, placeF_lt hp, h3⟩
theorem getD_mem {S : List Int} {q : Nat} (h : q < S.length) : S.getD q 0 ∈ S := by
  simp [List.getD, h]
theorem getD_at {T : List ByteArray} {i : Nat} (h : i < T.length) : T.getD i ⟨#[]⟩ = T[i] := by simp [List.getD, h]
/-- What lies where a text's place is. -/
theorem Laid.hit_ {T : List ByteArray} {S : List Int} {n : Nat} (h : Laid T S n) (hT : n ≤ T.length) {s : ByteArray} {p : Nat} (hp : p < S.length) (hh : hit T S s p = true) :
    S.getD p 0 = 0 ∨ ∃ i : Nat, ∃ hi : i < n, S.getD p 0 = i + 1 ∧ T[i] = s := by
  unfold hit at hh
  rw [Bool.or_eq_true] at hh
  rcases hh with hh | hh
  · exact .inl (by simpa using hh)
  · have hr := h.range _ (getD_mem hp)
    by_cases h0 : S.getD p 0 = 0
    · exact .inl h0
    · refine .inr ⟨(S.getD p 0 - 1).toNat, by omega, by omega, ?_⟩
      have hlt : (S.getD p 0 - 1).toNat < T.length := by omega
      have := of_decide_eq_true hh
      rw [← this]; exact (getD_at hlt).symm
theorem Laid.place_free {T : List ByteArray} {S : List Int} {n : Nat} (h : Laid T S n) (hT : n ≤ T.length) (hn : n < S.length) {s : ByteArray} (hs : ∀ i (hi : i < n), T[i] ≠ s) :
    ∃ p : Nat, placeF T S s = p ∧ p < S.length ∧ S.getD p 0 = 0 := by
  obtain ⟨p, h1, h2, h3⟩ := h.place hn s
  rcases h.hit_ hT h2 h3 with h4 | ⟨i, hi, _, h5⟩
  · exact ⟨p, h1, h2, h4⟩
  · exact absurd h5 (hs i hi)

theorem getD_set_ne {S : List Int} {p q : Nat} (h : p ≠ q) (x : Int) : (S.set p x).getD q 0 = S.getD q 0 := by simp [List.getD, List.getElem?_set_ne h]
theorem getD_set_eq {S : List Int} {p : Nat} (h : p < S.length) (x : Int) : (S.set p x).getD p 0 = x := by simp [List.getD, h]
theorem hit_set_ne {T : List ByteArray} {S : List Int} {s : ByteArray} {p q : Nat} (h : p ≠ q) (x : Int) : hit T (S.set p x) s q = hit T S s q := by unfold hit; rw [getD_set_ne h]
theorem usedN_set {S : List Int} {p : Nat} (h : p < S.length) (h0 : S.getD p 0 = 0) (x : Int) (hx : 0 < x) : usedN (S.set p x) = usedN S + 1 := by
  induction S generalizing p with
  | nil => simp at h
  | cons y S ih =>
    cases p with
    | zero =>
      simp at h0
      subst h0
      simp [usedN, hx]
    | succ p =>
      have := ih (p := p) (by simpa using h) (by simpa using h0)
      unfold usedN at *
      simp only [List.set_cons_succ, List.filter_cons]
      split <;> simp [this]
theorem Laid.set {T : List ByteArray} {S : List Int} {n : Nat} (h : Laid T S n) (hn : n < T.length) (hS : n < S.length) (hd : Distinct T) {p : Nat} (hp : placeF T S T[n] = p) : p < S.length ∧ S.getD p 0 = 0 ∧ Laid T (S.set p (n + 1)) (n + 1) := by
  obtain ⟨p', h1, h2, h3⟩ := h.place_free (Nat.le_of_lt hn) hS (s := T[n]) (fun i hi e => by have := hd i n (by omega) hn e; omega)
  obtain rfl : p' = p := by rw [hp] at h1; omega
  refine ⟨h2, h3, ?_, ?_, ?_⟩
  · intro x hx
    rcases List.mem_or_eq_of_mem_set hx with hx | rfl
    · have := h.range x hx; omega
    · omega
  · rw [usedN_set h2 h3 _ (by omega), h.used]
  · intro i hi hiT
    rcases Nat.lt_or_ge i n with hin | hin
    · obtain ⟨q, q1, q2⟩ := h.at_ i hin hiT
      have hne : p' ≠ q := by rintro rfl; rw [h3] at q2; omega
      refine ⟨q, ?_, by rw [getD_set_ne hne]; exact q2⟩
      obtain ⟨j, j1, j2, j3, j4⟩ := placeF_yes.1 q1
      refine placeF_yes.2 ⟨j, by simpa using j1, by simpa using j2, by rw [hit_set_ne hne]; exact j3, fun i' hi' => ?_⟩
      have := j4 i' hi'
      rw [List.length_set]
      by_cases e : p' = probe S.length T[i] i'
      · rw [← e, hit_zero h3] at this; cases this
      · rw [hit_set_ne e]; exact this
    · obtain rfl : i = n := by omega
      refine ⟨p', ?_, getD_set_eq h2 _⟩
      obtain ⟨j, j1, j2, j3, j4⟩ := placeF_yes.1 hp
      refine placeF_yes.2 ⟨j, by simpa using j1, by simpa using j2, ?_, fun i' hi' => ?_⟩
      · unfold hit
        rw [getD_set_eq h2, show ((i : Int) + 1 - 1).toNat = i from by omega]
        simp [List.getD, hiT]
      · have := j4 i' hi'
        rw [List.length_set]
        by_cases e : p' = probe S.length T[i] i'
        · rw [← e, hit_zero h3] at this; cases this
        · rw [hit_set_ne e]; exact this
theorem Laid.nil (T : List ByteArray) (m : Nat) : Laid T (List.replicate m 0) 0 := by
  refine ⟨fun x hx => ?_, ?_, fun i hi => by omega⟩
  · have := List.eq_of_mem_replicate hx; omega
  · unfold usedN; simp
/-- The slots when the first n texts are laid. -/
def laidN (T : List ByteArray) (m : Nat) : Nat → List Int
  | 0 => List.replicate m 0
  | n + 1 => (laidN T m n).set (placeF T (laidN T m n) (T.getD n ⟨#[]⟩)).toNat (n + 1)
theorem laidN_len (T : List ByteArray) (m n : Nat) : (laidN T m n).length = m := by
  induction n with
  | zero => simp [laidN]
  | succ n ih => simp [laidN, ih]
theorem laidN_ok (T : List ByteArray) (m n : Nat) (hd : Distinct T) (hm : T.length < m) (hn : n ≤ T.length) : Laid T (laidN T m n) n := by
  induction n with
  | zero => exact Laid.nil T m
  | succ n ih =>
    have h := ih (by omega)
    have hl := laidN_len T m n
    obtain ⟨p, hp, _⟩ := h.place (by omega) (T[n])
    have := (h.set (by omega) (by omega) hd hp).2.2
    unfold laidN
    rw [show T.getD n ⟨#[]⟩ = T[n] from by simp [List.getD, show n < T.length from by omega], hp, Int.toNat_natCast]
    exact this
theorem laidN_next (T : List ByteArray) (m n : Nat) (hd : Distinct T) (hm : T.length < m) (hn : n < T.length) : ∃ p : Nat, placeF T (laidN T m n) T[n] = p ∧ p < m ∧ (laidN T m n).getD p 0 = 0 ∧ laidN T m (n + 1) = (laidN T m n).set p (n + 1) := by
  have h := laidN_ok T m n hd hm (by omega)
  have hl := laidN_len T m n
  obtain ⟨p, hp, hp2, _⟩ := h.place (by omega) (T[n])
  have := h.set hn (by omega) hd hp
  refine ⟨p, hp, by omega, this.2.1, ?_⟩
  rw [laidN, show T.getD n ⟨#[]⟩ = T[n] from by simp [List.getD, show n < T.length from by omega], hp, Int.toNat_natCast]

/-- Which tables may be. -/
structure TabOK (T : List ByteArray) (S : List Int) : Prop where
  pow : ∃ e, S.length = 8 * 2 ^ e
  most : T.length ≤ 1024
  half : 2 * T.length ≤ S.length
  laid : Laid T S T.length
theorem TabOK.lt {T : List ByteArray} {S : List Int} (h : TabOK T S) : T.length < S.length := by
  obtain ⟨e, he⟩ := h.pow
  have := h.half
  have : 0 < 2 ^ e := Nat.pow_pos (by omega)
  omega
theorem TabOK.distinct {T : List ByteArray} {S : List Int} (h : TabOK T S) : Distinct T := by
  intro i j hi hj e
  obtain ⟨p, p1, p2⟩ := h.laid.at_ i hi hi
  obtain ⟨q, q1, q2⟩ := h.laid.at_ j hj hj
  rw [e, q1] at p1
  obtain rfl : q = p := by omega
  rw [p2] at q2; omega
theorem TabOK.mk' {T : List ByteArray} {m : Nat} (hd : Distinct T) (hp : ∃ e, m = 8 * 2 ^ e) (h1 : T.length ≤ 1024) (h2 : 2 * T.length ≤ m) : TabOK T (laidN T m T.length) := by
  have hm : T.length < m := by obtain ⟨e, he⟩ := hp; have : 0 < 2 ^ e := Nat.pow_pos (by omega); omega
  exact ⟨by rw [laidN_len]; exact hp, h1, by rw [laidN_len]; exact h2, laidN_ok T m _ hd hm (Nat.le_refl _)⟩
/-- A text that is there has its number at its place; one that is not has a free slot there. -/
theorem TabOK.find {T : List ByteArray} {S : List Int} (h : TabOK T S) (s : ByteArray) : ∃ p : Nat, placeF T S s = p ∧ p < S.length ∧
    ((S.getD p 0 = 0 ∧ s ∉ T) ∨ ∃ i : Nat, ∃ hi : i < T.length, S.getD p 0 = i + 1 ∧ T[i] = s) := by
  obtain ⟨p, h1, h2, h3⟩ := h.laid.place h.lt s
  refine ⟨p, h1, h2, ?_⟩
  rcases h.laid.hit_ (Nat.le_refl _) h2 h3 with h4 | ⟨i, hi, h4, h5⟩
  · refine .inl ⟨h4, fun hs => ?_⟩
    obtain ⟨i, hi, rfl⟩ := List.getElem_of_mem hs
    obtain ⟨q, q1, q2⟩ := h.laid.at_ i hi hi
    obtain rfl : q = p := by rw [h1] at q1; omega
    rw [h4] at q2; omega
  · exact .inr ⟨i, hi, h4, h5⟩
theorem Distinct.snoc {T : List ByteArray} (h : Distinct T) {s : ByteArray} (hs : s ∉ T) : Distinct (T ++ [s]) := by
  intro i j hi hj e
  simp only [List.length_append, List.length_cons, List.length_nil] at hi hj
  rcases Nat.lt_or_ge i T.length with h1 | h1 <;> rcases Nat.lt_or_ge j T.length with h2 | h2
  · rw [List.getElem_append_left h1, List.getElem_append_left h2] at e; exact h i j h1 h2 e
  · rw [List.getElem_append_left h1, List.getElem_append_right h2] at e
    simp at e; exact absurd (e ▸ List.getElem_mem h1) hs
  · rw [List.getElem_append_right h1, List.getElem_append_left h2] at e
    simp at e; exact absurd (e ▸ List.getElem_mem h2) hs
  · omega
/-- How many slots a table with one text more has. -/
def moreN (T : List ByteArray) (m : Nat) : Nat := if m < 2 * (T.length + 1) then 2 * m else m
theorem TabOK.more {T : List ByteArray} {S : List Int} (h : TabOK T S) {s : ByteArray} (hs : s ∉ T) (hn : T.length < 1024) : TabOK (T ++ [s]) (laidN (T ++ [s]) (moreN T S.length) (T.length + 1)) := by
  have := TabOK.mk' (m := moreN T S.length) (h.distinct.snoc hs) ?_ (by simp; omega) ?_
  · simpa using this
  · obtain ⟨e, he⟩ := h.pow
    unfold moreN
    split
    · exact ⟨e + 1, by rw [he, Nat.pow_succ]; omega⟩
    · exact ⟨e, he⟩
  · have := h.half
    have := h.lt
    unfold moreN
    simp only [List.length_append, List.length_cons, List.length_nil]
    split <;> omega
end Go.Proofs.Ytkhmkgobmfhchaa
