/- The document's state: what an atom comes to, against the plain law. -/
import Derived.Test.YtngnplghjaojhaaGp30
import Derived.Test.YtngnplghjaojhaaGp12
import Derived.Test.YtngnplghjaojhaaGp31
namespace Go.Proofs.Ytngnplghjaojhaa
set_option maxRecDepth 100000
set_option maxHeartbeats 2000000
set_option linter.unusedSimpArgs false
set_option linter.unusedVariables false

theorem takeR_bad {ts : List Tk} {k : Int} {p : Nat} : takeR ts k p true = (p, true, nilB) := by unfold takeR; rw [if_neg (by simp)]
theorem takeR_ok {ts : List Tk} {k : Int} {p : Nat} (h : kindAt ts p = k) : takeR ts k p false = (p + 1, false, textAt ts p) := by unfold takeR; rw [if_pos ⟨rfl, h⟩]
theorem takeR_no {ts : List Tk} {k : Int} {p : Nat} (h : kindAt ts p ≠ k) : takeR ts k p false = (p, true, nilB) := by unfold takeR; rw [if_neg (by simp [h])]
theorem takeR_P (ts : List Tk) (k : Int) (p : Nat) : takeR ts k p false = match takeP ts k p with | .ok (s, q) => (q, false, s) | .error q => (q, true, nilB) := by
  unfold takeP
  by_cases h : kindAt ts p = k
  · rw [if_pos h, takeR_ok h]
  · rw [if_neg h, takeR_no h]
/-- A bad state stays where it is. -/
theorem aTermF_bad (ts : List Tk) (T : List ByteArray) (p : Nat) : (aTermF ts T p true).1 = p ∧ (aTermF ts T p true).2.1 = true := by
  unfold aTermF
  rw [if_neg (by simp), takeR_bad, if_neg (by simp)]
  exact ⟨rfl, rfl⟩
theorem midF_bad (ts : List Tk) (p : Nat) : midF ts p true = (p, true, 1, nilB, nilB) := by
  unfold midF
  rw [if_neg (by simp), if_neg (by simp)]
/-- A name of a good token is not empty. -/
def Named (ts : List Tk) : Prop := ∀ p, kindAt ts p = 1 → textAt ts p ≠ nilB
theorem aTermF_P {ts : List Tk} (hN : Named ts) {T : List ByteArray} (hT : T.length ≤ 32) (p : Nat) : match termP ts T p with
    | .ok (t, V, q) => aTermF ts T p false = (q, false, t, V)
    | .error q => (aTermF ts T p false).1 = q ∧ (aTermF ts T p false).2.1 = true := by
  by_cases h2 : kindAt ts p = 2
  · have e : termP ts T p = .ok ((true, textAt ts p), T, p + 1) := by unfold termP; rw [if_pos h2]
    rw [e]
    unfold aTermF
    exact if_pos ⟨rfl, h2⟩
  have f : aTermF ts T p false = if (takeR ts 1 p false).2.1 = false ∧ 32 < (termS T (false, (takeR ts 1 p false).2.2)).length then (p, true, (false, (takeR ts 1 p false).2.2), termS T (false, (takeR ts 1 p false).2.2))
      else ((takeR ts 1 p false).1, (takeR ts 1 p false).2.1, (false, (takeR ts 1 p false).2.2), termS T (false, (takeR ts 1 p false).2.2)) := by
    unfold aTermF
    rw [if_neg (by simp [h2])]
  by_cases h1 : kindAt ts p = 1
  · rw [takeR_ok h1] at f
    dsimp only at f
    have hne := hN p h1
    by_cases hh : hasB (textAt ts p) T = true
    · have ht : termS T (false, textAt ts p) = T := by unfold termS; rw [if_pos (.inr (.inr hh))]
      have e : termP ts T p = .ok ((false, textAt ts p), T, p + 1) := by unfold termP; rw [if_neg h2, if_pos h1, if_pos hh]
      rw [e, f, ht, if_neg (by omega)]
    · have ht : termS T (false, textAt ts p) = T ++ [textAt ts p] := by unfold termS; rw [if_neg (by simp [hne, hh])]
      rw [ht, List.length_append, List.length_singleton] at f
      by_cases h32 : T.length = 32
      · have e : termP ts T p = .error p := by unfold termP; rw [if_neg h2, if_pos h1, if_neg hh, if_pos h32]
        rw [e, f, if_pos ⟨by trivial, by omega⟩]
        exact ⟨rfl, rfl⟩
      · have e : termP ts T p = .ok ((false, textAt ts p), T ++ [textAt ts p], p + 1) := by unfold termP; rw [if_neg h2, if_pos h1, if_neg hh, if_neg h32]
        rw [e, f, if_neg (by omega)]
  · have e : termP ts T p = .error p := by unfold termP; rw [if_neg h2, if_neg h1]
    rw [e, f, takeR_no h1, if_neg (by simp)]
    exact ⟨rfl, rfl⟩
theorem midF_P (ts : List Tk) (p : Nat) : match midP ts p with
    | .ok (k, s, v, q) => midF ts p false = (q, false, k, s, v)
    | .error q => (midF ts p false).1 = q ∧ (midF ts p false).2.1 = true := by
  by_cases h7 : kindAt ts p = 7
  · have e : midP ts p = (takeP ts 1 (p + 1)).bind fun (s, p) => .ok ((2 : Int), s, nilB, p) := by unfold midP; rw [if_pos h7]
    have f : midF ts p false = takeM (takeR ts 1 (p + 1) false) fun p b s => (p, b, 2, s, nilB) := by
      unfold midF; rw [if_pos ⟨rfl, h7⟩, takeR_ok h7]; rfl
    rw [e, f, takeR_P]
    cases takeP ts 1 (p + 1) with
    | error q => exact ⟨rfl, rfl⟩
    | ok r => obtain ⟨s, q⟩ := r; rfl
  by_cases h8 : kindAt ts p = 8
  · have e : midP ts p = (takeP ts 1 (p + 1)).bind fun (s, p) => (takeP ts 9 p).bind fun (_, p) => (takeP ts 3 p).bind fun (v, p) => .ok ((3 : Int), s, v, p) := by unfold midP; rw [if_neg h7, if_pos h8]
    have f : midF ts p false = takeM (takeR ts 1 (p + 1) false) fun p b s => takeM (takeR ts 9 p b) fun p b _ => takeM (takeR ts 3 p b) fun p b v => (p, b, 3, s, v) := by
      unfold midF; rw [if_neg (by simp [h7]), if_pos ⟨rfl, h8⟩, takeR_ok h8]; rfl
    rw [e, f, takeR_P]
    cases takeP ts 1 (p + 1) with
    | error q => simp only [takeM, takeR_bad]; exact ⟨by trivial, by trivial⟩
    | ok r =>
      obtain ⟨s, q⟩ := r
      simp only [takeM, Except.bind]
      rw [takeR_P]
      cases takeP ts 9 q with
      | error q => simp only [takeR_bad]; exact ⟨by trivial, by trivial⟩
      | ok r =>
        obtain ⟨s2, q2⟩ := r
        simp only []
        rw [takeR_P]
        cases takeP ts 3 q2 with
        | error q => exact ⟨rfl, rfl⟩
        | ok r => obtain ⟨s3, q3⟩ := r; rfl
  · have e : midP ts p = .ok ((1 : Int), nilB, nilB, p) := by unfold midP; rw [if_neg h7, if_neg h8]
    have f : midF ts p false = (p, false, 1, nilB, nilB) := by unfold midF; rw [if_neg (by simp [h7]), if_neg (by simp [h8])]
    rw [e, f]
theorem edgF_P {ts : List Tk} (hN : Named ts) {T : List ByteArray} (hT : T.length ≤ 32) (p : Nat) : match (takeP ts 1 p).bind fun (s, p) => (takeP ts 11 p).bind fun (_, p) => (takeP ts 4 p).bind fun (_, p) => (termP ts T p).bind fun (t, V, p) => (takeP ts 5 p).bind fun (_, p) => (.ok (s, t, V, p) : Except Nat (ByteArray × (Bool × ByteArray) × List ByteArray × Nat)) with
    | .ok (s, t, V, q) => edgF ts T p false = (q, false, s, t)
    | .error q => (edgF ts T p false).1 = q ∧ (edgF ts T p false).2.1 = true := by
  have hb : ∀ q, (takeR ts 5 (aTermF ts T q true).1 (aTermF ts T q true).2.1).1 = q ∧ (takeR ts 5 (aTermF ts T q true).1 (aTermF ts T q true).2.1).2.1 = true := fun q => by
    obtain ⟨h1, h2⟩ := aTermF_bad ts T q
    rw [h1, h2, takeR_bad]; exact ⟨rfl, rfl⟩
  unfold edgF takeM
  rw [takeR_P ts 1]
  cases takeP ts 1 p with
  | error q => simp only [Except.bind, takeR_bad]; exact hb q
  | ok r =>
    obtain ⟨s, q⟩ := r
    simp only [Except.bind]
    rw [takeR_P ts 11]
    cases takeP ts 11 q with
    | error q => simp only [takeR_bad]; exact hb q
    | ok r =>
      obtain ⟨s2, q2⟩ := r
      simp only []
      rw [takeR_P ts 4]
      cases takeP ts 4 q2 with
      | error q => exact hb q
      | ok r =>
        obtain ⟨s3, q3⟩ := r
        simp only []
        have ht := aTermF_P hN hT q3
        cases hp : termP ts T q3 with
        | error q =>
          rw [hp] at ht
          obtain ⟨h1, h2⟩ := ht
          simp only [h1, h2, takeR_bad]
          exact ⟨trivial, trivial⟩
        | ok r =>
          obtain ⟨t, V, q4⟩ := r
          rw [hp] at ht
          simp only at ht
          simp only [ht]
          rw [takeR_P ts 5]
          cases takeP ts 5 q4 with
          | error q => exact ⟨rfl, rfl⟩
          | ok r => obtain ⟨s5, q5⟩ := r; rfl
theorem termP_varsS {ts : List Tk} (hN : Named ts) {T V : List ByteArray} (hT : T.length ≤ 32) {p q : Nat} {t : Bool × ByteArray} (h : termP ts T p = .ok (t, V, q)) : V = termS T t ∧ V.length ≤ 32 := by
  unfold termP at h
  by_cases h2 : kindAt ts p = 2
  · rw [if_pos h2] at h
    cases h
    exact ⟨by unfold termS; rw [if_pos (.inl rfl)], hT⟩
  rw [if_neg h2] at h
  by_cases h1 : kindAt ts p = 1
  · rw [if_pos h1] at h
    have hne := hN p h1
    by_cases hh : hasB (textAt ts p) T = true
    · rw [if_pos hh] at h
      cases h
      exact ⟨by unfold termS; rw [if_pos (.inr (.inr hh))], hT⟩
    · rw [if_neg hh] at h
      by_cases h32 : T.length = 32
      · rw [if_pos h32] at h; cases h
      · rw [if_neg h32] at h
        cases h
        exact ⟨by unfold termS; rw [if_neg (by simp [hne, hh])], by rw [List.length_append, List.length_singleton]; omega⟩
  · rw [if_neg h1] at h; cases h
theorem varsS_snocS (A : List Atm) (x : Atm) : varsS (A ++ [x]) = termS (termS (varsS A) (x.fk, x.fn)) (x.tk, x.tn) := by
  unfold varsS
  rw [List.foldl_append]; rfl
theorem termS_nilS (T : List ByteArray) : termS T (false, nilB) = T := by unfold termS; rw [if_pos (.inr (.inl rfl))]
theorem midP_one {ts : List Tk} {p q : Nat} {s v : ByteArray} (h : midP ts p = .ok (1, s, v, q)) : v = nilB := by
  unfold midP at h
  split at h
  · cases h1 : takeP ts 1 (p + 1) with
    | error e => rw [h1] at h; cases h
    | ok r => obtain ⟨s1, q1⟩ := r; rw [h1] at h; simp [Except.bind] at h
  · split at h
    · cases h1 : takeP ts 1 (p + 1) with
      | error e => rw [h1] at h; cases h
      | ok r =>
        obtain ⟨s1, q1⟩ := r
        rw [h1] at h
        simp only [Except.bind] at h
        cases h2 : takeP ts 9 q1 with
        | error e => rw [h2] at h; cases h
        | ok r =>
          obtain ⟨s2, q2⟩ := r
          rw [h2] at h
          simp only [] at h
          cases h3 : takeP ts 3 q2 with
          | error e => rw [h3] at h; cases h
          | ok r => obtain ⟨s3, q3⟩ := r; rw [h3] at h; simp at h
    · simp at h
      exact h.2.1.symm
theorem anAtomF_P {ts : List Tk} (hN : Named ts) (A : List Atm) (p : Nat) (hV : (varsS A).length ≤ 32) : match atomP ts ⟨p, A, varsS A⟩ with
    | .ok s => anAtomF ts A p = (s.p, false, s.atoms) ∧ s.vars = varsS s.atoms ∧ s.vars.length ≤ 32
    | .error q => (anAtomF ts A p).1 = q ∧ (anAtomF ts A p).2.1 = true := by
  have ht := aTermF_P hN hV p
  unfold atomP anAtomF takeM
  dsimp only
  cases hp : termP ts (varsS A) p with
  | error q =>
    rw [hp] at ht
    obtain ⟨h1, h2⟩ := ht
    simp only [Except.bind, h1, h2, midF_bad, takeR_bad]
    rw [if_neg (by simp)]
    exact ⟨rfl, rfl⟩
  | ok r =>
    obtain ⟨t, V, p1⟩ := r
    rw [hp] at ht
    simp only at ht
    obtain ⟨hv1, hv2⟩ := termP_varsS hN hV hp
    simp only [Except.bind, ht]
    have hm := midF_P ts p1
    cases hq : midP ts p1 with
    | error q =>
      rw [hq] at hm
      obtain ⟨h1, h2⟩ := hm
      simp only [h1, h2, takeR_bad]
      rw [if_neg (by simp)]
      exact ⟨rfl, rfl⟩
    | ok r =>
      obtain ⟨k, s, v, p2⟩ := r
      rw [hq] at hm
      simp only at hm
      simp only [hm]
      rw [takeR_P ts 5]
      cases takeP ts 5 p2 with
      | error q =>
        simp only []
        rw [if_neg (by simp)]
        exact ⟨rfl, rfl⟩
      | ok r =>
        obtain ⟨s5, p3⟩ := r
        simp only []
        by_cases hk : k = 1 ∧ kindAt ts p3 = 10
        · obtain ⟨rfl, hk2⟩ := hk
          by_cases h6 : edgesOf A = 6
          · simp only [hk2, h6, and_self, if_true]
          · simp only [hk2, h6, and_self, if_true, if_false]
            have he := edgF_P hN hv2 (p3 + 1)
            have hv := midP_one hq
            subst hv
            cases h1 : takeP ts 1 (p3 + 1) with
            | error q => simp only [h1, Except.bind] at he ⊢; exact he
            | ok r =>
              obtain ⟨s1, q1⟩ := r
              simp only [h1, Except.bind] at he ⊢
              cases h2 : takeP ts 11 q1 with
              | error q => simp only [h2] at he ⊢; exact he
              | ok r =>
                obtain ⟨s2, q2⟩ := r
                simp only [h2] at he ⊢
                cases h3 : takeP ts 4 q2 with
                | error q => simp only [h3] at he ⊢; exact he
                | ok r =>
                  obtain ⟨s3, q3⟩ := r
                  simp only [h3] at he ⊢
                  cases h4 : termP ts V q3 with
                  | error q => simp only [h4] at he ⊢; exact he
                  | ok r =>
                    obtain ⟨g, V2, q4⟩ := r
                    obtain ⟨hw1, hw2⟩ := termP_varsS hN hv2 h4
                    simp only [h4] at he ⊢
                    cases h5 : takeP ts 5 q4 with
                    | error q => simp only [h5] at he ⊢; exact he
                    | ok r =>
                      obtain ⟨s5', q5⟩ := r
                      simp only [h5] at he ⊢
                      rw [he]
                      refine ⟨rfl, ?_, hw2⟩
                      rw [varsS_snocS, hw1, hv1]
        · have hk' : ¬ (k = 1 ∧ True ∧ kindAt ts p3 = 10) := fun h => hk ⟨h.1, h.2.2⟩
          simp only [hk, hk', if_false]
          refine ⟨trivial, ?_, hv2⟩
          rw [varsS_snocS]
          simp only
          rw [termS_nilS]
          exact hv1
end Go.Proofs.Ytngnplghjaojhaa

/- The document's state: items: what they come to. -/
namespace Go.Proofs.Ytngnplghjaojhaa
set_option maxRecDepth 100000
set_option maxHeartbeats 2000000
set_option linter.unusedSimpArgs false
open Go.RowKit Go.Shelf Go.Sort
attribute [local go_sem] Oper.semAt_some wide_fn wide_depth
set_option linter.unusedVariables false
theorem edgF_le {ts : List Tk} {T : List ByteArray} {p : Nat} (hp : p ≤ ts.length) (bad : Bool) : (edgF ts T p bad).1 ≤ ts.length := by
  unfold edgF takeM
  exact takeR_le (aTermF_le (takeR_le (takeR_le (takeR_le hp (by decide) _) (by decide) _) (by decide) _) _) (by decide) _
theorem anAtomF_le {ts : List Tk} (A : List Atm) {p : Nat} (hp : p ≤ ts.length) : (anAtomF ts A p).1 ≤ ts.length ∧ (anAtomF ts A p).2.2.length ≤ A.length + 1 := by
  have h1 := takeR_le (midF_le (aTermF_le (T := varsS A) hp false) (aTermF ts (varsS A) p false).2.1) (q := 5) (by decide) (midF ts (aTermF ts (varsS A) p false).1 (aTermF ts (varsS A) p false).2.1).2.1
  unfold anAtomF takeM
  dsimp only
  split
  · rename_i hh
    have hlt := kindAt_lt (ts := ts) (by rw [hh.2.2]; decide)
    split
    · exact ⟨h1, by simp⟩
    · exact ⟨edgF_le hlt _, by simp⟩
  · exact ⟨h1, by simp⟩
/-- A state against what the plain law says. -/
def ResS (r : Except Nat PS) (q : Nat) (qb : Bool) (A : List Atm) : Prop := match r with
  | .ok s => q = s.p ∧ qb = false ∧ A = s.atoms ∧ s.vars = varsS A
  | .error e => q = e ∧ qb = true
theorem anAtomF_res {ts : List Tk} (hN : Named ts) (A : List Atm) (p : Nat) (hV : (varsS A).length ≤ 32) : ResS (atomP ts ⟨p, A, varsS A⟩) (anAtomF ts A p).1 (anAtomF ts A p).2.1 (anAtomF ts A p).2.2 := by
  have h := anAtomF_P hN A p hV
  unfold ResS
  cases ha : atomP ts ⟨p, A, varsS A⟩ with
  | error q => rw [ha] at h; exact h
  | ok s =>
    rw [ha] at h
    obtain ⟨h1, h2, h3⟩ := h
    rw [h1]
    exact ⟨rfl, rfl, rfl, h2⟩
def ItemsC (ts : List Tk) (a : Option Addr) (k B op : Nat) : Prop := ∀ (w : World) (c : Sc) (p : Nat) (A : List Atm), TkQ w ts a k → p ≤ ts.length → c.op = op → w.ownsRow B 64 7 (.slice c.a1 c.n1 c.k1) A.length (A.flatMap atCells) → B ≤ w.heap.size → A.length ≤ 39 → (varsS A).length ≤ 32 → edgesOf A ≤ 6 →
  Calls Try.prog 32 #[.agg (stL c (.slice a ts.length k) p false).toArray] w fun e w' => ∃ b1 b2 b3 q qb A',
    e = .returned (.agg (stL { c with a1 := b1, n1 := b2, k1 := b3 } (.slice a ts.length k) q qb).toArray) ∧ w'.ownsRow B 64 7 (.slice b1 b2 b3) A'.length (A'.flatMap atCells) ∧ (q ≤ ts.length ∧ A'.length ≤ 100) ∧ (∃ r, ItemsR ts op ⟨p, A, varsS A⟩ r ∧ ResS r q qb A') ∧ Ext w w'
/-- What stands when an item is looked for. -/
def ItSI (w : World) (ts : List Tk) (a : Option Addr) (k B : Nat) (c : Sc) (y0 y1 p0 : Nat) (A0 : List Atm) (p : Nat) (A : List Atm) (W : World) : Prop := ∃ x1 x2 x3, Ext w W ∧ RowAt W y0 70 (stL { c with a1 := x1, n1 := x2, k1 := x3 } (.slice a ts.length k) p false) ∧
  RowAt W y1 70 [.slice none 0 0, .int .i64 0, .bool false, .slice none 0 0, .slice none 0 0, .bool false, .bool false, .bool false, .int .i64 0, .int .i64 0, .slice none 0 0, .int .i64 0] ∧
  W.ownsRow B 64 7 (.slice x1 x2 x3) A.length (A.flatMap atCells) ∧ p ≤ ts.length ∧ A.length ≤ 39 ∧ (varsS A).length ≤ 32 ∧ edgesOf A ≤ 6 ∧ ∀ r, ItemsR ts c.op ⟨p, A, varsS A⟩ r → ItemsR ts c.op ⟨p0, A0, varsS A0⟩ r
/-- What stands behind an item. -/
def ItSO (w : World) (ts : List Tk) (a : Option Addr) (k B : Nat) (c : Sc) (y0 y1 p : Nat) (A : List Atm) (W : World) : Prop := ∃ x1 x2 x3 q qb A', Ext w W ∧ RowAt W y0 70 (stL { c with a1 := x1, n1 := x2, k1 := x3 } (.slice a ts.length k) q qb) ∧
  RowAt W y1 70 [.slice none 0 0, .int .i64 0, .bool false, .slice none 0 0, .slice none 0 0, .bool false, .bool false, .bool false, .int .i64 0, .int .i64 0, .slice none 0 0, .int .i64 0] ∧
  W.ownsRow B 64 7 (.slice x1 x2 x3) A'.length (A'.flatMap atCells) ∧ q ≤ ts.length ∧ A'.length ≤ 100 ∧ ∃ r, ItemR ts c.op ⟨p, A, varsS A⟩ r ∧ ResS r q qb A' ∧ (qb = false → p < q ∧ A'.length ≤ 40 ∧ (varsS A').length ≤ 32 ∧ edgesOf A' ≤ 6)
theorem group_res {ts : List Tk} {d p : Nat} {A : List Atm} (h1 : kindAt ts p = 4) (h2 : kindAt ts (p + 1) = 4) (hd : d ≠ 4) {r : Except Nat PS} (hi : ItemsR ts (d + 1) ⟨p + 1, A, varsS A⟩ r) {q : Nat} {qb : Bool} {A' : List Atm} (hr : ResS r q qb A') {q2 : Nat} {qb2 : Bool} {s : ByteArray}
    (ht : takeR ts 5 q qb = (q2, qb2, s)) : ∃ r', ItemR ts d ⟨p, A, varsS A⟩ r' ∧ ResS r' q2 qb2 A' := by
  cases r with
  | error e =>
    obtain ⟨rfl, rfl⟩ := hr
    rw [takeR_bad] at ht
    cases ht
    exact ⟨_, ItemR.bad h1 h2 hd hi, rfl, rfl⟩
  | ok st =>
    obtain ⟨rfl, rfl, rfl, hv⟩ := hr
    refine ⟨_, ItemR.group h1 h2 hd hi, ?_⟩
    rw [takeR_P] at ht
    cases h5 : takeP ts 5 st.p with
    | error e => rw [h5] at ht; cases ht; exact ⟨rfl, rfl⟩
    | ok r => obtain ⟨s5, p5⟩ := r; rw [h5] at ht; cases ht; exact ⟨rfl, rfl, rfl, hv⟩
theorem ItemR.bd {ts : List Tk} {d p : Nat} {A : List Atm} {r : Except Nat PS} (hit : ItemR ts d ⟨p, A, varsS A⟩ r) {q : Nat} {qb : Bool} {A' : List Atm} (hres : ResS r q qb A') (ha : A.length ≤ 39) (hv : (varsS A).length ≤ 32) (he : edgesOf A ≤ 6) :
    qb = false → p < q ∧ A'.length ≤ 40 ∧ (varsS A').length ≤ 32 ∧ edgesOf A' ≤ 6 := by
  intro hqb
  cases r with
  | error e => rw [hres.2] at hqb; cases hqb
  | ok s =>
    obtain ⟨h1, h2, h3, h4⟩ := hres
    obtain ⟨g1, g2, g3⟩ := hit.good rfl ⟨hv, he⟩ ha
    subst h1 h3
    exact ⟨g1, g3, by rw [← h4]; exact g2.1, g2.2⟩
theorem ResS.err {r : Except Nat PS} {q : Nat} {A : List Atm} (h : ResS r q true A) : r = .error q := by
  cases r with
  | error e => rw [h.1]
  | ok s => cases h.2.1
theorem ResS.okk {r : Except Nat PS} {q : Nat} {A : List Atm} (h : ResS r q false A) : r = .ok ⟨q, A, varsS A⟩ := by
  cases r with
  | error e => cases h.2
  | ok s => obtain ⟨h1, _, h3, h4⟩ := h; obtain ⟨sp, sa, sv⟩ := s; simp only at h1 h3 h4; subst h1 h3; rw [h4]
structure RwS (w : World) (ts : List Tk) (a : Option Addr) (k B : Nat) (c : Sc) (y0 y1 : Nat) (A : List Atm) (p : Nat) (bad : Bool) (W : World) : Prop where
  ext : Ext w W
  r0 : RowAt W y0 70 (stL c (.slice a ts.length k) p bad)
  r1 : RowAt W y1 70 [.slice none 0 0, .int .i64 0, .bool false, .slice none 0 0, .slice none 0 0, .bool false, .bool false, .bool false, .int .i64 0, .int .i64 0, .slice none 0 0, .int .i64 0]
  own : W.ownsRow B 64 7 (.slice c.a1 c.n1 c.k1) A.length (A.flatMap atCells)
end Go.Proofs.Ytngnplghjaojhaa
