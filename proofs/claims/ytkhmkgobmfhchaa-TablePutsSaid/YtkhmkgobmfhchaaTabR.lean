/- Which tables may be: the code's answer and the document's. Plain. -/
import Derived.Test.YtkhmkgobmfhchaaTabQ
namespace Go.Proofs.Ytkhmkgobmfhchaa
set_option linter.unusedVariables false

/-- As many as 1, .., N are in a row: then it is as long at least; and just so long: they stand once each, and nothing else. -/
theorem pigeon (N : Nat) (U : List Int) (h : ∀ n : Nat, n < N → (n : Int) + 1 ∈ U) : N ≤ U.length ∧ (U.length = N → (∀ n : Nat, n < N → U.count ((n : Int) + 1) = 1) ∧ ∀ x ∈ U, 1 ≤ x ∧ x ≤ N) := by
  induction N generalizing U with
  | zero =>
    refine ⟨Nat.zero_le _, fun e => ⟨fun n hn => by omega, fun x hx => ?_⟩⟩
    rw [List.eq_nil_of_length_eq_zero e] at hx; simp at hx
  | succ N ih =>
    have hN := h N (by omega)
    have hc : 0 < U.count ((N : Int) + 1) := List.count_pos_iff.2 hN
    have hlen : U.length = (U.filter (fun x => !(x == (N : Int) + 1))).length + U.count ((N : Int) + 1) := by
      have := List.length_eq_countP_add_countP (fun x => x == (N : Int) + 1) (l := U)
      rw [this, List.count]
      rw [Nat.add_comm, List.countP_eq_length_filter, List.countP_eq_length_filter]
      congr 3
      funext x; rw [Bool.eq_iff_iff]; simp
    obtain ⟨i1, i2⟩ := ih (U.filter (fun x => !(x == (N : Int) + 1))) (fun n hn => List.mem_filter.2 ⟨h n (by omega), by simp; omega⟩)
    refine ⟨by omega, fun e => ?_⟩
    obtain ⟨i3, i4⟩ := i2 (by omega)
    refine ⟨fun n hn => ?_, fun x hx => ?_⟩
    · by_cases e' : n = N
      · subst e'; omega
      · have := i3 n (by omega)
        rw [List.count_filter (by simp; omega)] at this
        exact this
    · by_cases e' : x = (N : Int) + 1
      · omega
      · have := i4 x (List.mem_filter.2 ⟨hx, by simpa using e'⟩)
        omega
theorem once_len (N : Nat) (U : List Int) (h : ∀ x ∈ U, 1 ≤ x ∧ x ≤ N) (h1 : ∀ n : Nat, n < N → U.count ((n : Int) + 1) = 1) : U.length = N := by
  induction N generalizing U with
  | zero =>
    cases U with
    | nil => rfl
    | cons x U => have := h x (by simp); omega
  | succ N ih =>
    have hc := h1 N (by omega)
    have hlen : U.length = (U.filter (fun x => !(x == (N : Int) + 1))).length + U.count ((N : Int) + 1) := by
      have := List.length_eq_countP_add_countP (fun x => x == (N : Int) + 1) (l := U)
      rw [this, List.count]
      rw [Nat.add_comm, List.countP_eq_length_filter, List.countP_eq_length_filter]
      congr 3
      funext x; rw [Bool.eq_iff_iff]; simp
    have := ih (U.filter (fun x => !(x == (N : Int) + 1))) (fun x hx => by
      obtain ⟨a, b⟩ := List.mem_filter.1 hx
      have := h x a
      simp at b; omega) (fun n hn => by rw [List.count_filter (by simp; omega)]; exact h1 n (by omega))
    omega

theorem count_pos (S : List Int) (n : Nat) : (S.filter (fun x => decide (0 < x))).count ((n : Int) + 1) = S.count ((n : Int) + 1) := by
  rw [List.count_filter]
  simp
theorem two_le_count {S : List Int} {p q : Nat} {v : Int} (hpq : p < q) (hq : q < S.length) (h1 : S.getD p 0 = v) (h2 : S.getD q 0 = v) : 2 ≤ S.count v := by
  have hp : p < S.length := by omega
  have e := List.take_append_drop q S
  have m1 : v ∈ S.take q := List.mem_take_iff_getElem.2 ⟨p, by omega, by rw [← h1]; simp [List.getD, hp]⟩
  have m2 : v ∈ S.drop q := List.mem_drop_iff_getElem.2 ⟨0, by omega, by rw [← h2]; simp [List.getD, hq]⟩
  rw [← e, List.count_append]
  have := List.count_pos_iff.2 m1
  have := List.count_pos_iff.2 m2
  omega

/-- The document's: from the k-th probe on. -/
def standsFrom (T : List ByteArray) (S : List Int) (s : ByteArray) (n : Nat) : Nat → Nat → Bool → Bool
  | 0, _, found => found
  | f + 1, k, found =>
    if S.getD (probe S.length s k) 0 = 0 ∧ found = false then false
    else if S.getD (probe S.length s k) 0 = n + 1 then (if found then false else standsFrom T S s n f (k + 1) true)
    else standsFrom T S s n f (k + 1) found
theorem stands_true (T : List ByteArray) (S : List Int) (s : ByteArray) (n f k : Nat) : standsFrom T S s n f k true = true ↔ ∀ j, k ≤ j → j < k + f → S.getD (probe S.length s j) 0 ≠ n + 1 := by
  induction f generalizing k with
  | zero => simp [standsFrom]; intro j h1 h2; omega
  | succ f ih =>
    unfold standsFrom
    rw [if_neg (by simp)]
    split
    · rename_i h
      constructor
      · intro h'; simp at h'
      · intro h'; exact absurd h (h' k (Nat.le_refl _) (by omega))
    · rename_i h
      rw [ih]
      constructor
      · intro h' j h1 h2
        rcases Nat.eq_or_lt_of_le h1 with rfl | h1
        · exact h
        · exact h' j (by omega) (by omega)
      · intro h' j h1 h2; exact h' j (by omega) (by omega)
theorem stands_false (T : List ByteArray) (S : List Int) (s : ByteArray) (n f k : Nat) : standsFrom T S s n f k false = true ↔
    ∃ j, k ≤ j ∧ j < k + f ∧ S.getD (probe S.length s j) 0 = n + 1 ∧ (∀ i, k ≤ i → i < j → S.getD (probe S.length s i) 0 ≠ 0 ∧ S.getD (probe S.length s i) 0 ≠ n + 1) ∧ ∀ i, j < i → i < k + f → S.getD (probe S.length s i) 0 ≠ n + 1 := by
  induction f generalizing k with
  | zero => simp [standsFrom]; intro j h1 h2; omega
  | succ f ih =>
    unfold standsFrom
    by_cases h0 : S.getD (probe S.length s k) 0 = 0
    · rw [if_pos ⟨h0, rfl⟩]
      constructor
      · intro h; cases h
      · rintro ⟨j, h1, h2, h3, h4, h5⟩
        rcases Nat.eq_or_lt_of_le h1 with rfl | h1
        · rw [h0] at h3; omega
        · exact absurd h0 (h4 k (Nat.le_refl _) h1).1
    · rw [if_neg (fun h => h0 h.1)]
      by_cases hn : S.getD (probe S.length s k) 0 = n + 1
      · rw [if_pos hn, if_neg (by simp), stands_true]
        constructor
        · intro h; exact ⟨k, Nat.le_refl _, by omega, hn, fun i h1 h2 => by omega, fun i h1 h2 => h i (by omega) (by omega)⟩
        · rintro ⟨j, h1, h2, h3, h4, h5⟩
          rcases Nat.eq_or_lt_of_le h1 with rfl | h1
          · intro i i1 i2; exact h5 i (by omega) (by omega)
          · exact absurd hn (h4 k (Nat.le_refl _) h1).2
      · rw [if_neg hn, ih]
        constructor
        · rintro ⟨j, h1, h2, h3, h4, h5⟩
          refine ⟨j, by omega, by omega, h3, fun i i1 i2 => ?_, fun i i1 i2 => h5 i i1 (by omega)⟩
          rcases Nat.eq_or_lt_of_le i1 with rfl | i1
          · exact ⟨h0, hn⟩
          · exact h4 i (by omega) i2
        · rintro ⟨j, h1, h2, h3, h4, h5⟩
          rcases Nat.eq_or_lt_of_le h1 with rfl | h1
          · exact absurd h3 hn
          · exact ⟨j, by omega, by omega, h3, fun i i1 i2 => h4 i (by omega) i2, fun i i1 i2 => h5 i i1 (by omega)⟩
def standsF (T : List ByteArray) (S : List Int) (s : ByteArray) (n : Nat) : Bool := standsFrom T S s n S.length 0 false

def findF (T : List ByteArray) (s : ByteArray) : Int := if T.findIdx (fun x => decide (x = s)) < T.length then T.findIdx (fun x => decide (x = s)) else -1
theorem findF_no {T : List ByteArray} {s : ByteArray} : findF T s = -1 ↔ s ∉ T := by
  unfold findF
  split
  · rename_i h
    constructor
    · intro h'; omega
    · intro h'
      have := List.findIdx_getElem (w := h)
      simp at this
      exact absurd (this ▸ List.getElem_mem h) h'
  · rename_i h
    simp only [true_iff]
    intro hm
    exact h (List.findIdx_lt_length_of_exists ⟨s, hm, by simp⟩)
theorem findF_yes {T : List ByteArray} {s : ByteArray} {n : Nat} : findF T s = n ↔ ∃ h : n < T.length, T[n] = s ∧ ∀ i (hi : i < n), T[i] ≠ s := by
  unfold findF
  split
  · rename_i h
    constructor
    · intro e
      have e : T.findIdx (fun x => decide (x = s)) = n := by omega
      subst e
      refine ⟨h, by simpa using List.findIdx_getElem (w := h), fun i hi => ?_⟩
      have := List.not_of_lt_findIdx hi
      simpa using this
    · rintro ⟨hn, h1, h2⟩
      congr 1
      rw [List.findIdx_eq hn]
      exact ⟨by simpa using h1, fun j hj => by simpa using h2 j hj⟩
  · rename_i h
    constructor
    · intro e; omega
    · rintro ⟨hn, h1, h2⟩
      exact absurd (List.findIdx_lt_length_of_exists ⟨T[n], List.getElem_mem hn, by simpa using h1⟩) h
theorem findF_distinct {T : List ByteArray} (h : Distinct T) {n : Nat} (hn : n < T.length) : findF T T[n] = n :=
  findF_yes.2 ⟨hn, rfl, fun i hi e => by have := h i n (by omega) hn e; omega⟩
theorem findF_range (T : List ByteArray) (s : ByteArray) : -1 ≤ findF T s ∧ findF T s < T.length := by unfold findF; split <;> omega

theorem usedN_count (S : List Int) (n : Nat) : (S.filter (fun x => decide (0 < x))).count ((n : Int) + 1) = S.count ((n : Int) + 1) := count_pos S n
theorem getD_count {S : List Int} {p : Nat} {n : Nat} (h : S.getD p 0 = n + 1) : (n : Int) + 1 ∈ S := by
  have hp : p < S.length := by
    refine Classical.byContradiction fun hc => ?_
    simp [List.getD, show S.length ≤ p from by omega] at h
    omega
  rw [← h]; exact getD_mem hp
/-- Each number stands once. -/
theorem TabOK.once {T : List ByteArray} {S : List Int} (h : TabOK T S) (n : Nat) (hn : n < T.length) : S.count ((n : Int) + 1) = 1 := by
  rw [← count_pos]
  have hp := pigeon T.length (S.filter (fun x => decide (0 < x))) (fun i hi => by
    obtain ⟨p, _, p2⟩ := h.laid.at_ i hi hi
    exact List.mem_filter.2 ⟨getD_count p2, by simp⟩)
  exact (hp.2 h.laid.used).1 n hn
theorem at_once {S : List Int} {p q : Nat} {n : Nat} (h1 : S.count ((n : Int) + 1) = 1) (hp : p < S.length) (hq : q < S.length) (e1 : S.getD p 0 = n + 1) (e2 : S.getD q 0 = n + 1) : p = q := by
  rcases Nat.lt_trichotomy p q with h | h | h
  · have := two_le_count h hq e1 e2; omega
  · exact h
  · have := two_le_count h hp e2 e1; omega
theorem probe_inj (m : Nat) (s : ByteArray) (i j : Nat) (hi : i < m) (hj : j < m) (h : probe m s i = probe m s j) : i = j := by
  unfold probe at h
  rw [Nat.add_mod, Nat.add_mod (hashN s) j, Nat.mod_eq_of_lt hi, Nat.mod_eq_of_lt hj] at h
  have h0 := Nat.mod_lt (hashN s) (show 0 < m by omega)
  generalize hashN s % m = a at h h0
  have key : ∀ x, x < m → (a + x) % m = if a + x < m then a + x else a + x - m := by
    intro x hx
    split
    · rename_i h; exact Nat.mod_eq_of_lt h
    · rename_i h; rw [Nat.mod_eq_sub_mod (by omega), Nat.mod_eq_of_lt (by omega)]
  rw [key i hi, key j hj] at h
  split at h <;> split at h <;> omega

/-- The document's law. -/
structure RightP (T : List ByteArray) (S : List Int) : Prop where
  pow : ∃ e, S.length = 8 * 2 ^ e
  most : T.length ≤ 1024
  half : 2 * T.length ≤ S.length
  range : ∀ x ∈ S, 0 ≤ x ∧ x ≤ T.length
  at_ : ∀ n (h : n < T.length), findF T T[n] = n ∧ standsF T S T[n] n = true
theorem right_iff {T : List ByteArray} {S : List Int} : RightP T S ↔ TabOK T S := by
  constructor
  · intro h
    have hm : T.length < S.length := by
      obtain ⟨e, he⟩ := h.pow
      have := h.half
      have : 0 < 2 ^ e := Nat.pow_pos (by omega)
      omega
    have hd : Distinct T := by
      intro i j hi hj e
      have h1 := (h.at_ i hi).1
      have h2 := (h.at_ j hj).1
      rw [e, h2] at h1; omega
    have hst : ∀ n (hn : n < T.length), ∃ j, j < S.length ∧ S.getD (probe S.length T[n] j) 0 = n + 1 ∧ (∀ i, i < j → S.getD (probe S.length T[n] i) 0 ≠ 0 ∧ S.getD (probe S.length T[n] i) 0 ≠ n + 1) ∧ ∀ i, j < i → i < S.length → S.getD (probe S.length T[n] i) 0 ≠ n + 1 := by
      intro n hn
      obtain ⟨j, j1, j2, j3, j4, j5⟩ := (stands_false T S T[n] n S.length 0).1 (h.at_ n hn).2
      exact ⟨j, by omega, j3, fun i hi => j4 i (by omega) hi, fun i h1 h2 => j5 i h1 (by omega)⟩
    refine ⟨h.pow, h.most, h.half, h.range, ?_, ?_⟩
    · unfold usedN
      refine once_len T.length _ (fun x hx => ?_) (fun n hn => ?_)
      · obtain ⟨a, b⟩ := List.mem_filter.1 hx
        have := h.range x a
        simp at b; omega
      · rw [count_pos]
        obtain ⟨j, j1, j2, j3, j4⟩ := hst n hn
        refine Nat.le_antisymm ?_ (List.count_pos_iff.2 (getD_count j2))
        refine Classical.byContradiction fun hc => ?_
        have h2 : ∃ q, q < S.length ∧ q ≠ probe S.length T[n] j ∧ S.getD q 0 = n + 1 := by
          have hp := probe_lt S.length T[n] j (by omega)
          generalize probe S.length T[n] j = p at *
          refine Classical.byContradiction fun hne => hc ?_
          have e := List.take_append_drop p S
          have e2 : S.drop p = S[p] :: S.drop (p + 1) := List.drop_eq_getElem_cons hp
          rw [← e, e2, List.count_append, List.count_cons]
          have c1 : (S.take p).count ((n : Int) + 1) = 0 := List.count_eq_zero.2 fun hm => by
            obtain ⟨i, hi, hi2⟩ := List.mem_take_iff_getElem.1 hm
            have hip : i < p := Nat.lt_of_lt_of_le hi (Nat.min_le_left _ _)
            exact hne ⟨i, by omega, by omega, by rw [← hi2]; simp [List.getD, show i < S.length from by omega]⟩
          have c2 : (S.drop (p + 1)).count ((n : Int) + 1) = 0 := List.count_eq_zero.2 fun hm => by
            obtain ⟨i, hi, hi2⟩ := List.mem_drop_iff_getElem.1 hm
            exact hne ⟨p + 1 + i, by omega, by omega, by rw [← hi2]; simp [List.getD, show p + 1 + i < S.length from by omega]⟩
          rw [c1, c2]
          split <;> omega
        obtain ⟨q, q1, q2, q3⟩ := h2
        obtain ⟨i, i1, rfl⟩ := probe_onto S.length T[n] q q1
        rcases Nat.lt_trichotomy i j with h | h | h
        · exact (j3 i h).2 q3
        · exact q2 (by rw [h])
        · exact j4 i h i1 q3
    · intro n hn _
      obtain ⟨j, j1, j2, j3, j4⟩ := hst n hn
      refine ⟨probe S.length T[n] j, placeF_yes.2 ⟨j, j1, rfl, ?_, fun i hi => ?_⟩, j2⟩
      · unfold hit
        rw [j2, show ((n : Int) + 1 - 1).toNat = n from by omega, getD_at hn]
        simp
      · have hr := h.range _ (getD_mem (probe_lt S.length T[n] i (by omega)))
        have := j3 i hi
        unfold hit
        generalize S.getD (probe S.length T[n] i) 0 = x at hr this
        rw [Bool.or_eq_false_iff]
        refine ⟨by simpa using this.1, decide_eq_false fun e => ?_⟩
        rw [getD_at (show (x - 1).toNat < T.length by omega)] at e
        have := hd _ n (by omega) hn e
        omega
  · intro h
    refine ⟨h.pow, h.most, h.half, h.laid.range, fun n hn => ⟨findF_distinct h.distinct hn, ?_⟩⟩
    obtain ⟨p, p1, p2⟩ := h.laid.at_ n hn hn
    obtain ⟨j, j1, j2, j3, j4⟩ := placeF_yes.1 p1
    have hlt := h.lt
    refine (stands_false T S T[n] n S.length 0).2 ⟨j, by omega, by omega, by rw [j2]; exact p2, fun i _ hi => ⟨fun e => ?_, fun e => ?_⟩, fun i hi1 hi2 e => ?_⟩
    · have := j4 i hi; rw [hit_zero e] at this; cases this
    · have := at_once (h.once n hn) (probe_lt _ _ _ (by omega)) (placeF_lt p1) e p2
      rw [← j2] at this
      have := probe_inj _ _ _ _ (by omega) j1 this
      omega
    · have := at_once (h.once n hn) (probe_lt _ _ _ (by omega)) (placeF_lt p1) e p2
      rw [← j2] at this
      have := probe_inj _ _ _ _ (by omega) j1 this
      omega
end Go.Proofs.Ytkhmkgobmfhchaa
