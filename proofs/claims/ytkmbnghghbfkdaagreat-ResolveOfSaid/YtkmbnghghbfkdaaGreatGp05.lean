/- Which tables may be: the code's answer and the document's. Plain. -/
import Derived.Test.YtkmbnghghbfkdaaGreatGp04
import Derived.Test.YtkmbnghghbfkdaaGreatGp01
set_option linter.unusedSimpArgs false
set_option linter.unusedVariables false
set_option maxHeartbeats 2000000
set_option maxRecDepth 100000

namespace Go.Proofs.YtkmbnghghbfkdaaGreat
theorem pigeon (N : Nat) (U : List Int) (h : ∀ n : Nat, n < N → (n : Int) + 1 ∈ U) : N ≤ U.length ∧ (U.length = N → (∀ n : Nat, n < N → U.count ((n : Int) + 1) = 1) ∧ ∀ x ∈ U, 1 ≤ x ∧ x ≤ N) := by
 induction N generalizing U with
 | zero =>
  refine ⟨Nat.zero_le _, fun e => ⟨fun n hn => by omega, fun x hx => ?_⟩⟩
  rw [List.eq_nil_of_length_eq_zero e] at hx; simp at hx
 | succ N ih =>
  have hN := h N (by omega)
  have hc : 0 < U.count ((N : Int) + 1) := List.count_pos_iff.2 hN
  have hlen : U.length = (U.filter (fun x => !(x == (N : Int) + 1))).length + U.count ((N : Int) + 1) := by
   have := List.length_eq_countP_add_countP (fun x => x == (N : Int) + 1) (l := U)
   rw [this, List.count]
   rw [Nat.add_comm, List.countP_eq_length_filter, List.countP_eq_length_filter]
   congr 3
   funext x; rw [Bool.eq_iff_iff]; simp
  obtain ⟨i1, i2⟩ := ih (U.filter (fun x => !(x == (N : Int) + 1))) (fun n hn => List.mem_filter.2 ⟨h n (by omega), by simp; omega⟩)
  refine ⟨by omega, fun e => ?_⟩
  obtain ⟨i3, i4⟩ := i2 (by omega)
  refine ⟨fun n hn => ?_, fun x hx => ?_⟩
  ·by_cases e' : n = N
   ·subst e'; omega
   ·have := i3 n (by omega)
    rw [List.count_filter (by simp; omega)] at this
    exact this
  ·by_cases e' : x = (N : Int) + 1
   ·omega
   ·have := i4 x (List.mem_filter.2 ⟨hx, by simpa using e'⟩)
    omega
theorem once_len (N : Nat) (U : List Int) (h : ∀ x ∈ U, 1 ≤ x ∧ x ≤ N) (h1 : ∀ n : Nat, n < N → U.count ((n : Int) + 1) = 1) : U.length = N := by
 induction N generalizing U with
 | zero =>
  cases U with
  | nil => rfl
  | cons x U => have := h x (by simp); omega
 | succ N ih =>
  have hc := h1 N (by omega)
  have hlen : U.length = (U.filter (fun x => !(x == (N : Int) + 1))).length + U.count ((N : Int) + 1) := by
   have := List.length_eq_countP_add_countP (fun x => x == (N : Int) + 1) (l := U)
   rw [this, List.count]
   rw [Nat.add_comm, List.countP_eq_length_filter, List.countP_eq_length_filter]
   congr 3
   funext x; rw [Bool.eq_iff_iff]; simp
  have := ih (U.filter (fun x => !(x == (N : Int) + 1))) (fun x hx => by
   obtain ⟨a, b⟩ := List.mem_filter.1 hx
   have := h x a
   simp at b; omega) (fun n hn => by rw [List.count_filter (by simp; omega)]; exact h1 n (by omega))
  omega
theorem count_pos (S : List Int) (n : Nat) : (S.filter (fun x => decide (0 < x))).count ((n : Int) + 1) = S.count ((n : Int) + 1) := by
 rw [List.count_filter]
 simp
theorem two_le_count {S : List Int} {p q : Nat} {v : Int} (hpq : p < q) (hq : q < S.length) (h1 : S.getD p 0 = v) (h2 : S.getD q 0 = v) : 2 ≤ S.count v := by
 have hp : p < S.length := by omega
 have e := List.take_append_drop q S
 have m1 : v ∈ S.take q := List.mem_take_iff_getElem.2 ⟨p, by omega, by rw [← h1]; simp [List.getD, hp]⟩
 have m2 : v ∈ S.drop q := List.mem_drop_iff_getElem.2 ⟨0, by omega, by rw [← h2]; simp [List.getD, hq]⟩
 rw [← e, List.count_append]
 have := List.count_pos_iff.2 m1
 have := List.count_pos_iff.2 m2
 omega
def standsFrom (T : List ByteArray) (S : List Int) (s : ByteArray) (n : Nat) : Nat → Nat → Bool → Bool
 | 0, _, found => found
 | f + 1, k, found =>
  if S.getD (probe S.length s k) 0 = 0 ∧ found = false then false
  else if S.getD (probe S.length s k) 0 = n + 1 then (if found then false else standsFrom T S s n f (k + 1) true)
  else standsFrom T S s n f (k + 1) found
theorem stands_true (T : List ByteArray) (S : List Int) (s : ByteArray) (n f k : Nat) : standsFrom T S s n f k true = true ↔ ∀ j, k ≤ j → j < k + f → S.getD (probe S.length s j) 0 ≠ n + 1 := by
 induction f generalizing k with
 | zero => simp [standsFrom]; intro j h1 h2; omega
 | succ f ih =>
  unfold standsFrom
  rw [if_neg (by simp)]
  split
  ·rename_i h
   constructor
   ·intro h'; simp at h'
   ·intro h'; exact absurd h (h' k (Nat.le_refl _) (by omega))
  ·rename_i h
   rw [ih]
   constructor
   ·intro h' j h1 h2
    rcases Nat.eq_or_lt_of_le h1 with rfl | h1
    ·exact h
    ·exact h' j (by omega) (by omega)
   ·intro h' j h1 h2; exact h' j (by omega) (by omega)
theorem stands_false (T : List ByteArray) (S : List Int) (s : ByteArray) (n f k : Nat) : standsFrom T S s n f k false = true ↔
 ∃ j, k ≤ j ∧ j < k + f ∧ S.getD (probe S.length s j) 0 = n + 1 ∧ (∀ i, k ≤ i → i < j → S.getD (probe S.length s i) 0 ≠ 0 ∧ S.getD (probe S.length s i) 0 ≠ n + 1) ∧ ∀ i, j < i → i < k + f → S.getD (probe S.length s i) 0 ≠ n + 1 := by
 induction f generalizing k with
 | zero => simp [standsFrom]; intro j h1 h2; omega
 | succ f ih =>
  unfold standsFrom
  by_cases h0 : S.getD (probe S.length s k) 0 = 0
  ·rw [if_pos ⟨h0, rfl⟩]
   constructor
   ·intro h; cases h
   ·rintro ⟨j, h1, h2, h3, h4, h5⟩
    rcases Nat.eq_or_lt_of_le h1 with rfl | h1
    ·rw [h0] at h3; omega
    ·exact absurd h0 (h4 k (Nat.le_refl _) h1).1
  ·rw [if_neg (fun h => h0 h.1)]
   by_cases hn : S.getD (probe S.length s k) 0 = n + 1
   ·rw [if_pos hn, if_neg (by simp), stands_true]
    constructor
    ·intro h; exact ⟨k, Nat.le_refl _, by omega, hn, fun i h1 h2 => by omega, fun i h1 h2 => h i (by omega) (by omega)⟩
    ·rintro ⟨j, h1, h2, h3, h4, h5⟩
     rcases Nat.eq_or_lt_of_le h1 with rfl | h1
     ·intro i i1 i2; exact h5 i (by omega) (by omega)
     ·exact absurd hn (h4 k (Nat.le_refl _) h1).2
   ·rw [if_neg hn, ih]
    constructor
    ·rintro ⟨j, h1, h2, h3, h4, h5⟩
     refine ⟨j, by omega, by omega, h3, fun i i1 i2 => ?_, fun i i1 i2 => h5 i i1 (by omega)⟩
     rcases Nat.eq_or_lt_of_le i1 with rfl | i1
     ·exact ⟨h0, hn⟩
     ·exact h4 i (by omega) i2
    ·rintro ⟨j, h1, h2, h3, h4, h5⟩
     rcases Nat.eq_or_lt_of_le h1 with rfl | h1
     ·exact absurd h3 hn
     ·exact ⟨j, by omega, by omega, h3, fun i i1 i2 => h4 i (by omega) i2, fun i i1 i2 => h5 i i1 (by omega)⟩
def standsF (T : List ByteArray) (S : List Int) (s : ByteArray) (n : Nat) : Bool := standsFrom T S s n S.length 0 false
def findF (T : List ByteArray) (s : ByteArray) : Int := if T.findIdx (fun x => decide (x = s)) < T.length then T.findIdx (fun x => decide (x = s)) else -1
theorem findF_no {T : List ByteArray} {s : ByteArray} : findF T s = -1 ↔ s ∉ T := by
 unfold findF
 split
 ·rename_i h
  constructor
  ·intro h'; omega
  ·intro h'
   have := List.findIdx_getElem (w := h)
   simp at this
   exact absurd (this ▸ List.getElem_mem h) h'
 ·rename_i h
  simp only [true_iff]
  intro hm
  exact h (List.findIdx_lt_length_of_exists ⟨s, hm, by simp⟩)
theorem findF_yes {T : List ByteArray} {s : ByteArray} {n : Nat} : findF T s = n ↔ ∃ h : n < T.length, T[n] = s ∧ ∀ i (hi : i < n), T[i] ≠ s := by
 unfold findF
 split
 ·rename_i h
  constructor
  ·intro e
   have e : T.findIdx (fun x => decide (x = s)) = n := by omega
   subst e
   refine ⟨h, by simpa using List.findIdx_getElem (w := h), fun i hi => ?_⟩
   have := List.not_of_lt_findIdx hi
   simpa using this
  ·rintro ⟨hn, h1, h2⟩
   congr 1
   rw [List.findIdx_eq hn]
   exact ⟨by simpa using h1, fun j hj => by simpa using h2 j hj⟩
 ·rename_i h
  constructor
  ·intro e; omega
  ·rintro ⟨hn, h1, h2⟩
   exact absurd (List.findIdx_lt_length_of_exists ⟨T[n], List.getElem_mem hn, by simpa using h1⟩) h
theorem findF_distinct {T : List ByteArray} (h : Distinct T) {n : Nat} (hn : n < T.length) : findF T T[n] = n :=
 findF_yes.2 ⟨hn, rfl, fun i hi e => by have := h i n (by omega) hn e; omega⟩
theorem findF_range (T : List ByteArray) (s : ByteArray) : -1 ≤ findF T s ∧ findF T s < T.length := by unfold findF; split <;> omega
theorem getD_count {S : List Int} {p : Nat} {n : Nat} (h : S.getD p 0 = n + 1) : (n : Int) + 1 ∈ S := by
 have hp : p < S.length := by
  refine Classical.byContradiction fun hc => ?_
  simp [List.getD, show S.length ≤ p from by omega] at h
  omega
 rw [← h]; exact getD_mem hp
theorem TabOK.once {T : List ByteArray} {S : List Int} (h : TabOK T S) (n : Nat) (hn : n < T.length) : S.count ((n : Int) + 1) = 1 := by
 rw [← count_pos]
 have hp := pigeon T.length (S.filter (fun x => decide (0 < x))) (fun i hi => by
  obtain ⟨p, _, p2⟩ := h.laid.at_ i hi hi
  exact List.mem_filter.2 ⟨getD_count p2, by simp⟩)
 exact (hp.2 h.laid.used).1 n hn
theorem at_once {S : List Int} {p q : Nat} {n : Nat} (h1 : S.count ((n : Int) + 1) = 1) (hp : p < S.length) (hq : q < S.length) (e1 : S.getD p 0 = n + 1) (e2 : S.getD q 0 = n + 1) : p = q := by
 rcases Nat.lt_trichotomy p q with h | h | h
 ·have := two_le_count h hq e1 e2; omega
 ·exact h
 ·have := two_le_count h hp e2 e1; omega
theorem probe_inj (m : Nat) (s : ByteArray) (i j : Nat) (hi : i < m) (hj : j < m) (h : probe m s i = probe m s j) : i = j := by
 unfold probe at h
 rw [Nat.add_mod, Nat.add_mod (hashN s) j, Nat.mod_eq_of_lt hi, Nat.mod_eq_of_lt hj] at h
 have h0 := Nat.mod_lt (hashN s) (show 0 < m by omega)
 generalize hashN s % m = a at h h0
 have key : ∀ x, x < m → (a + x) % m = if a + x < m then a + x else a + x - m := by
  intro x hx
  split
  ·rename_i h; exact Nat.mod_eq_of_lt h
  ·rename_i h; rw [Nat.mod_eq_sub_mod (by omega), Nat.mod_eq_of_lt (by omega)]
 rw [key i hi, key j hj] at h
 split at h <;> split at h <;> omega
structure RightP (T : List ByteArray) (S : List Int) : Prop where
 pow : ∃ e, S.length = 8 * 2 ^ e
 most : T.length ≤ 1024
 half : 2 * T.length ≤ S.length
 range : ∀ x ∈ S, 0 ≤ x ∧ x ≤ T.length
 at_ : ∀ n (h : n < T.length), findF T T[n] = n ∧ standsF T S T[n] n = true
theorem right_iff {T : List ByteArray} {S : List Int} : RightP T S ↔ TabOK T S := by
 constructor
 ·intro h
  have hm : T.length < S.length := by
   obtain ⟨e, he⟩ := h.pow
   have := h.half
   have : 0 < 2 ^ e := Nat.pow_pos (by omega)
   omega
  have hd : Distinct T := by
   intro i j hi hj e
   have h1 := (h.at_ i hi).1
   have h2 := (h.at_ j hj).1
   rw [e, h2] at h1; omega
  have hst : ∀ n (hn : n < T.length), ∃ j, j < S.length ∧ S.getD (probe S.length T[n] j) 0 = n + 1 ∧ (∀ i, i < j → S.getD (probe S.length T[n] i) 0 ≠ 0 ∧ S.getD (probe S.length T[n] i) 0 ≠ n + 1) ∧ ∀ i, j < i → i < S.length → S.getD (probe S.length T[n] i) 0 ≠ n + 1 := by
   intro n hn
   obtain ⟨j, j1, j2, j3, j4, j5⟩ := (stands_false T S T[n] n S.length 0).1 (h.at_ n hn).2
   exact ⟨j, by omega, j3, fun i hi => j4 i (by omega) hi, fun i h1 h2 => j5 i h1 (by omega)⟩
  refine ⟨h.pow, h.most, h.half, h.range, ?_, ?_⟩
  ·unfold usedN
   refine once_len T.length _ (fun x hx => ?_) (fun n hn => ?_)
   ·obtain ⟨a, b⟩ := List.mem_filter.1 hx
    have := h.range x a
    simp at b; omega
   ·rw [count_pos]
    obtain ⟨j, j1, j2, j3, j4⟩ := hst n hn
    refine Nat.le_antisymm ?_ (List.count_pos_iff.2 (getD_count j2))
    refine Classical.byContradiction fun hc => ?_
    have h2 : ∃ q, q < S.length ∧ q ≠ probe S.length T[n] j ∧ S.getD q 0 = n + 1 := by
     have hp := probe_lt S.length T[n] j (by omega)
     generalize probe S.length T[n] j = p at *
     refine Classical.byContradiction fun hne => hc ?_
     have e := List.take_append_drop p S
     have e2 : S.drop p = S[p] :: S.drop (p + 1) := List.drop_eq_getElem_cons hp
     rw [← e, e2, List.count_append, List.count_cons]
     have c1 : (S.take p).count ((n : Int) + 1) = 0 := List.count_eq_zero.2 fun hm => by
      obtain ⟨i, hi, hi2⟩ := List.mem_take_iff_getElem.1 hm
      have hip : i < p := Nat.lt_of_lt_of_le hi (Nat.min_le_left _ _)
      exact hne ⟨i, by omega, by omega, by rw [← hi2]; simp [List.getD, show i < S.length from by omega]⟩
     have c2 : (S.drop (p + 1)).count ((n : Int) + 1) = 0 := List.count_eq_zero.2 fun hm => by
      obtain ⟨i, hi, hi2⟩ := List.mem_drop_iff_getElem.1 hm
      exact hne ⟨p + 1 + i, by omega, by omega, by rw [← hi2]; simp [List.getD, show p + 1 + i < S.length from by omega]⟩
     rw [c1, c2]
     split <;> omega
    obtain ⟨q, q1, q2, q3⟩ := h2
    obtain ⟨i, i1, rfl⟩ := probe_onto S.length T[n] q q1
    rcases Nat.lt_trichotomy i j with h | h | h
    ·exact (j3 i h).2 q3
    ·exact q2 (by rw [h])
    ·exact j4 i h i1 q3
  ·intro n hn _
   obtain ⟨j, j1, j2, j3, j4⟩ := hst n hn
   refine ⟨probe S.length T[n] j, placeF_yes.2 ⟨j, j1, rfl, ?_, fun i hi => ?_⟩, j2⟩
   ·unfold hit
    rw [j2, show ((n : Int) + 1 - 1).toNat = n from by omega, getD_at hn]
    simp
   ·have hr := h.range _ (getD_mem (probe_lt S.length T[n] i (by omega)))
    have := j3 i hi
    unfold hit
    generalize S.getD (probe S.length T[n] i) 0 = x at hr this
    rw [Bool.or_eq_false_iff]
    refine ⟨by simpa using this.1, decide_eq_false fun e => ?_⟩
    rw [getD_at (show (x - 1).toNat < T.length by omega)] at e
    have := hd _ n (by omega) hn e
    omega
 ·intro h
  refine ⟨h.pow, h.most, h.half, h.laid.range, fun n hn => ⟨findF_distinct h.distinct hn, ?_⟩⟩
  obtain ⟨p, p1, p2⟩ := h.laid.at_ n hn hn
  obtain ⟨j, j1, j2, j3, j4⟩ := placeF_yes.1 p1
  have hlt := h.lt
  refine (stands_false T S T[n] n S.length 0).2 ⟨j, by omega, by omega, by rw [j2]; exact p2, fun i _ hi => ⟨fun e => ?_, fun e => ?_⟩, fun i hi1 hi2 e => ?_⟩
  ·have := j4 i hi; rw [hit_zero e] at this; cases this
  ·have := at_once (h.once n hn) (probe_lt _ _ _ (by omega)) (placeF_lt p1) e p2
   rw [← j2] at this
   have := probe_inj _ _ _ _ (by omega) j1 this
   omega
  ·have := at_once (h.once n hn) (probe_lt _ _ _ (by omega)) (placeF_lt p1) e p2
   rw [← j2] at this
   have := probe_inj _ _ _ _ (by omega) j1 this
   omega
end Go.Proofs.YtkmbnghghbfkdaaGreat

/- The slots of a text, and its place. -/
namespace Go.Proofs.YtkmbnghghbfkdaaGreat
open Go.RowKit Go.Shelf
attribute [local go_sem] Oper.semAt_some wide_fn wide_depth
theorem slots_any (a : Option Addr) (n c : Nat) (b : Option Addr) (m d : Nat) (s : ByteArray) (w : World) : Calls Tryz.prog 135 #[.agg #[.slice a n c, .slice b m d], .string s] w fun e w' =>
 e = .returned (.func (.func 144) #[] #[.pointer (some ⟨w.heap.size, 0, none⟩), .pointer (some ⟨w.heap.size + 1, 0, none⟩)]) ∧ w' = (w.alloc (.cells #[.slice a n c, .slice b m d] 180)).alloc (.cells #[.string s] 9) := by
 go_enter Tryz.func135, Tryz.ntmps135
 go_wp2
 go_ret
 exact ⟨rfl, rfl⟩
theorem slots_iter (a : Option Addr) (n c : Nat) (b : Option Addr) (m d : Nat) (s : ByteArray) (w : World) (x y : Nat) (hx0 : w.cell? ⟨x, 0, none⟩ = some (.slice a n c)) (hx1 : w.cell? ⟨x, 1, none⟩ = some (.slice b m d)) (hy : w.cell? ⟨y, 0, none⟩ = some (.string s))
 (hm : m ≤ 1048576) (hs : s.size ≤ 9223372036854775807) :
 IterOf Tryz.prog 144 #[.pointer (some ⟨x, 0, none⟩), .pointer (some ⟨y, 0, none⟩)] w m (fun k _ args => args = #[.int .i64 (probe m s k)]) := by
 intro L W J Js hB hJ hJs hround h0
 refine callsIn_of_wp Tryz.func144 rfl trivial ?_
 simp only [Tryz.ntmps144, List.size_toArray, List.length_cons, List.length_nil, Nat.reduceAdd, Nat.reduceSub, Array.replicate_succ, Array.replicate_zero, List.push_toArray, List.append_toArray, List.nil_append, List.cons_append]
 have hB0 := hB 0 W h0
 have c0 := (hB0.cell (p := ⟨x, 0, none⟩) (cell_lt hx0)).trans hx0
 have c1 := (hB0.cell (p := ⟨x, 1, none⟩) (cell_lt hx1)).trans hx1
 have c2 := (hB0.cell (p := ⟨y, 0, none⟩) (cell_lt hy)).trans hy
 gi_wp2_with (gi_at_call 145; refine (callsIn_wide.2 (hash_any _ _ hs)).mono ?_; rintro e w' ⟨rfl, rfl⟩)
 obtain ⟨hh0, hh1⟩ := hashL_range 14695981039346656037 (sbt s) (by omega) (by omega)
 have hH : (hashN s : Int) = hashL 14695981039346656037 (sbt s) := by unfold hashN; omega
 rw [← hH] at hh0 hh1
 rw [← hH]
 clear hH
 have hP : ∀ (k X : Nat), X % m = probe m s k → (X % m + 1) % m = probe m s (k + 1) := fun k X h => by
  unfold probe at *; rw [h, ← Nat.add_assoc, Nat.mod_add_mod]
 have hP0 : hashN s % m = probe m s 0 := rfl
 have HP := Lib.hid hP
 generalize hashN s = H at hh0 hh1 hP0
 have HP0 := Lib.hid hP0
 have Hh1 := Lib.hid hh1
 clear hP hP0 hB0 hx0 hx1 hy hh1
 gi_loopw [5, 17] (fun at_ i wr => ∃ k X : Nat, k ≤ m ∧ i = .int .i64 k ∧ at_ = .int .u64 X ∧ (X : Int) < 18446744073709551616 ∧ X % m = probe m s k ∧ J k wr) (fun _ i _ => m - (intOf i).toNat)
 case atStart => exact ⟨0, H, Nat.zero_le _, rfl, rfl, Hh1.out, HP0.out, h0⟩
 case round =>
  obtain ⟨k, X, hk, rfl, rfl, hX, hXm, hj⟩ := hrel
  have HX := Lib.hid hX
  have HXm := Lib.hid hXm
  have hXp : 0 ≤ (X : Int) := by omega
  have hk0 : 0 ≤ k := Nat.zero_le _
  clear hX hXm
  by_cases hlt : k < m
  ·have hpl := probe_lt m s k (by omega)
   obtain ⟨fn', tmps', assign', body', hy, hR⟩ := hround k #[.int .i64 (probe m s k)] wr hlt hj rfl
   have e1 : ((X : Int) % (m : Int)) = ((probe m s k : Nat) : Int) := by rw [← HXm.out]; rfl
   have hm0 : 0 < (m : Int) := by omega
   gi_wp2
   refine hR.mono ?_
   rintro e W3 (⟨rfl, hj3⟩ | ⟨rfl, hj3⟩)
   ·gi_wp2
    exact ⟨⟨k + 1, probe m s k + 1, by omega, by go_num, int_congr (by omega), by omega, by rw [← HP.out k X HXm.out, HXm.out], hj3⟩, by simp [intOf]; omega⟩
   ·gi_wp2
    exact bodyPost_ret (results_none rfl _ _ _) rfl ⟨⟨_, rfl⟩, .inr hj3⟩
  ·gi_wp2
   go_end0
   exact ⟨⟨_, rfl⟩, .inl (by rw [show m = k from by omega]; exact hj)⟩
theorem placeFrom_hit {T : List ByteArray} {S : List Int} {s : ByteArray} {m k : Nat} (hm : S.length = m) (h : k < m) (hh : hit T S s (probe m s k) = true) : placeFrom T S s (m - k) k = probe m s k := by
 obtain ⟨f, hf⟩ : ∃ f, m - k = f + 1 := ⟨m - k - 1, by omega⟩
 rw [hf]; unfold placeFrom; rw [hm, if_pos hh]
theorem placeFrom_miss {T : List ByteArray} {S : List Int} {s : ByteArray} {m k : Nat} (hm : S.length = m) (h : k < m) (hh : hit T S s (probe m s k) = false) : placeFrom T S s (m - k) k = placeFrom T S s (m - (k + 1)) (k + 1) := by
 obtain ⟨f, hf⟩ : ∃ f, m - k = f + 1 := ⟨m - k - 1, by omega⟩
 have e : placeFrom T S s (f + 1) k = if hit T S s (probe S.length s k) then (probe S.length s k : Int) else placeFrom T S s f (k + 1) := rfl
 rw [hf, e, hm, if_neg (by rw [hh]; simp), show m - (k + 1) = f from by omega]
def PlX (w : World) (h : Nat) (v : Int) (W : World) : Prop := Below w.heap.size w W ∧ Boxed W h 3 (.int .i64 v)
theorem PlX.stab (w : World) (h : Nat) (v : Int) (B : Nat) (hB : w.heap.size ≤ B) : Stab B (PlX w h v) := by
 intro W W' row ⟨h1, h2⟩ hg hr
 exact ⟨h1.grown hg h1.size (fun k e => Nat.le_trans hB (hr k e).1), Stab.boxed B _ _ _ W W' row h2 hg hr⟩
theorem Stab.ext_ (w : World) : Stab w.heap.size (fun W => Ext w W) := Stab.below _ _ _ (Nat.le_refl _) (Nat.le_refl _)
set_option maxRecDepth 100000 in
set_option maxHeartbeats 1000000 in
theorem place_any (T : List ByteArray) (S : List Int) (s : ByteArray) (a : Option Addr) (n c : Nat) (b : Option Addr) (m d : Nat) (w : World) (hT : Strs w (.slice a n c) T) (hS : Ints w .i64 (.slice b m d) S)
 (hr : ∀ x ∈ S, 0 ≤ x ∧ x ≤ T.length) (hm : m ≤ 1048576) (hs : s.size ≤ 9223372036854775807) : Calls Tryz.prog 110 #[.agg #[.slice a n c, .slice b m d], .string s] w fun e w' => e = .returned (.int .i64 (placeF T S s)) ∧ Ext w w' := by
 refine calls_of_wp_marks Tryz.func110 rfl ?_
 simp only [Tryz.ntmps110, List.size_toArray, List.length_cons, List.length_nil, Nat.reduceAdd, Nat.reduceSub, Array.replicate_succ, Array.replicate_zero, List.push_toArray, List.append_toArray, List.nil_append, List.cons_append]
 go_wp2_with fail
 go_step3
 go_wp2_with fail
 go_step3
 go_wp2_with (go_at_call 135; refine (slots_any _ _ _ _ _ _ _ _).mono ?_; rintro e w' ⟨rfl, rfl⟩)
 generalize hw1 : (((((w.alloc _).alloc _).alloc _).alloc _).alloc _) = w1
 have q0 : w1.cell? ⟨w.heap.size, 0, none⟩ = some (.slice a n c) := by subst hw1; simp [go_sem]
 have q1 : w1.cell? ⟨w.heap.size, 1, none⟩ = some (.slice b m d) := by subst hw1; simp [go_sem]
 have q2 : w1.cell? ⟨w.heap.size + 1, 0, none⟩ = some (.string s) := by subst hw1; simp [go_sem]
 have q3 : Boxed w1 (w.heap.size + 1 + 1) 3 (.int .i64 (-1)) := by
  subst hw1
  have := Boxed.new ((w.alloc (.cells #[.slice a n c, .slice b m d] 180)).alloc (.cells #[.string s] 9)) 3 (.int .i64 (-1))
  exact (((by simpa using this) : Boxed _ (w.heap.size + 1 + 1) _ _).alloc _).alloc _
 have hx1 : Ext w w1 := by subst hw1; exact ((((Ext.alloc _ _).trans (Ext.alloc _ _)).trans (Ext.alloc _ _)).trans (Ext.alloc _ _)).trans (Ext.alloc _ _)
 have hT1 := hT.ext hx1
 have hS1 := hS.ext hx1
 have hlen : S.length = m := by obtain ⟨_, _, e, _⟩ := hS; cases e; rfl
 have hlenT : T.length = n := by obtain ⟨_, _, e, _⟩ := hT; cases e; rfl
 refine wp_over (w0 := w1) rfl (enters_of Tryz.func144 (by kernel_rfl) rfl) (slots_iter a n c b m d s w1 _ _ (by subst hw1; simp [go_sem]) (by subst hw1; simp [go_sem]) (by subst hw1; simp [go_sem]) hm hs)
  (by rintro k W args rfl; rfl) (fun k args => Stab.pure _ _)
  (fun k W => Ext w1 W ∧ placeF T S s = placeFrom T S s (m - k) k) (fun q W => q = .exit 0 ∧ PlX w (w.heap.size + 1 + 1) (placeF T S s) W)
  (fun k => (Stab.ext_ _).and (Stab.pure _ _)) (fun q => (Stab.pure _ _).and (PlX.stab _ _ _ _ hx1.size)) (fun k W h => h.1) ⟨Ext.refl _, by unfold placeF; rw [hlen]; rfl⟩ ?_ ?_ ?_
 ·rintro k args W L hk hL ⟨hxW, hpl⟩ rfl
  gi_wp2
  refine ⟨KeepsFrom.refl _ _, ⟨hxW, hpl⟩, trivial, ?_⟩
  rintro W2 ⟨hx2, _⟩ -
  have q0 := (hx2.cell (p := ⟨w.heap.size, 0, none⟩) (cell_lt q0)).trans q0
  have q1 := (hx2.cell (p := ⟨w.heap.size, 1, none⟩) (cell_lt q1)).trans q1
  have q2 := (hx2.cell (p := ⟨w.heap.size + 1, 0, none⟩) (cell_lt q2)).trans q2
  have q3 := q3.kept (grown_ext hx2) (by simp)
  have c3 := q3.cell
  have f3 := q3.frozen
  have Hb := Lib.hid (show Below w.heap.size w w1 from hx1)
  have Hw1 := Lib.hid hx1.size
  have Hpl := Lib.hid hpl
  have hpm := probe_lt m s k (by omega)
  have Hlen := Lib.hid hlen
  have HlenT := Lib.hid hlenT
  have hS2 := hS1.ext hx2
  have hT2 := hT1.ext hx2
  obtain ⟨sb, so, rfl, hck⟩ := hS2.atD (k := probe m s k) (by omega)
  have hrk := hr _ (getD_mem (show probe m s k < S.length by omega))
  generalize hxk : S.getD (probe m s k) 0 = x at hck hrk
  have Hxk := Lib.hid hxk
  clear hS2 hxk hx1 hxW hS hT hS1 hT1 hw1 hlen hlenT hpl
  by_cases hx0 : x = 0
  ·subst hx0
   gi_wp2
   refine wpIn_round_quiet (by kernel_rfl) (by kernel_rfl) (by kernel_rfl) ?_
   repeat (any_goals (first | go_big_quiet_step (fail) | quiet_step (fail)))
   refine wpQuiet_nil ?_
   intro _ hw'
   obtain ⟨nq, hw''⟩ := hw'
   subst hw''
   gi_wp2
   rw [show (probe m s k : Int) = placeF T S s from by rw [Hpl.out, placeFrom_hit Hlen.out hk (hit_zero Hxk.out)]]
   exact ⟨(keeps_ext _ (Ext.drewN _ _)).trans (keeps_set _ (show (W2.drewN nq).cell? _ = _ from c3) _), rfl, (Below.ext (Below.ext Hb.out hx2 Hw1.out) (Ext.drewN _ _) (Nat.le_trans Hw1.out hx2.size)).setCell (p := ⟨w.heap.size + 1 + 1, 0, none⟩) (by show w.heap.size ≤ w.heap.size + 1 + 1; omega) _, (q3.kept (grown_ext (Ext.drewN _ _)) (by simp)).set _⟩
  ·have hb0 : (x == 0) = false := by simpa using hx0
   have HT := HlenT.out
   have hxb : x ≤ 9223372036854775807 := by obtain ⟨_, _, e, h1, h2⟩ := Sl.shape hT2; simp only [Value.slice.injEq] at e; omega
   obtain ⟨tb, tq, rfl, htk⟩ := hT2.atD (k := (x - 1).toNat) (by omega)
   have hx1 : 1 ≤ x := by omega
   generalize hyk : T.getD (x - 1).toNat ⟨#[]⟩ = y at htk
   rw [show (x - 1).toNat = x.toNat - 1 from by omega] at htk
   have hx3 : 0 ≤ x - 1 := by omega
   have hx4 : x - 1 < (n : Int) := by omega
   clear hT2 hx0 HT
   have Hyk := Lib.hid hyk
   clear hyk
   by_cases hys : y = s
   ·have hys' := str_yes hys
    have Hys := Lib.hid hys
    clear hys
    gi_wp2
    refine wpIn_round_quiet (by kernel_rfl) (by kernel_rfl) (by kernel_rfl) ?_
    repeat (any_goals (first | go_big_quiet_step (fail) | quiet_step (fail)))
    refine wpQuiet_nil ?_
    intro _ hw'
    obtain ⟨nq, hw''⟩ := hw'
    subst hw''
    gi_wp2
    rw [show (probe m s k : Int) = placeF T S s from by rw [Hpl.out, placeFrom_hit Hlen.out hk]; unfold hit; rw [Hxk.out, Hyk.out, Hys.out]; simp]
    exact ⟨(keeps_ext _ (Ext.drewN _ _)).trans (keeps_set _ (show (W2.drewN nq).cell? _ = _ from c3) _), rfl, (Below.ext (Below.ext Hb.out hx2 Hw1.out) (Ext.drewN _ _) (Nat.le_trans Hw1.out hx2.size)).setCell (p := ⟨w.heap.size + 1 + 1, 0, none⟩) (by show w.heap.size ≤ w.heap.size + 1 + 1; omega) _, (q3.kept (grown_ext (Ext.drewN _ _)) (by simp)).set _⟩
   ·have hys' := str_no hys
    have Hys := Lib.hid hys
    clear hys
    gi_wp2
    refine wpIn_round_quiet (by kernel_rfl) (by kernel_rfl) (by kernel_rfl) ?_
    repeat (any_goals (first | go_big_quiet_step (fail) | quiet_step (fail)))
    refine wpQuiet_nil ?_
    intro _ hw'
    obtain ⟨nq, hw''⟩ := hw'
    subst hw''
    gi_wp2
    exact ⟨keeps_ext _ (Ext.drewN _ _), hx2.trans (Ext.drewN _ _), by rw [Hpl.out]; exact placeFrom_miss Hlen.out hk (by unfold hit; rw [Hxk.out, Hyk.out, hb0, decide_eq_false Hys.out]; rfl)⟩
 ·rintro D W hD ⟨hxW, hpl⟩ hdf
  have q3 := q3.kept (grown_ext hxW) (by simp)
  have c3 := q3.cell
  have hB := Below.ext hx1 hxW hx1.size
  rw [Nat.sub_self, show placeFrom T S s 0 m = -1 from rfl] at hpl
  have Hpl := Lib.hid hpl
  clear hpl hw1 hlen hlenT
  go_wp2
  rw [Exit.noGoto_ret]
  refine leave_marked hdf (fun _ => results_tmp rfl _ _ _) ⟨?_, below_mark hB (Nat.le_trans hx1.size hD)⟩
  show Ending.returned (.int .i64 (-1)) = _
  rw [Hpl.out]
 ·rintro D q W hD ⟨rfl, hB, q3⟩ hdf
  have c3 := q3.cell
  clear hw1 hlen hlenT
  go_wp2
  rw [Exit.noGoto_ret]
  exact leave_marked hdf (fun _ => results_tmp rfl _ _ _) ⟨rfl, below_mark hB (Nat.le_trans hx1.size hD)⟩
end Go.Proofs.YtkmbnghghbfkdaaGreat
