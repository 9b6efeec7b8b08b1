/- A group of its own around an atom changes nothing. Plain. -/
import Derived.Test.YtngnplghjaojhaaParLg
namespace Go.Proofs.Ytngnplghjaojhaa
set_option maxRecDepth 100000
set_option maxHeartbeats 2000000
set_option linter.unusedSimpArgs false
set_option linter.unusedVariables false

def isA (ts : List Tk) (i : Nat) : Bool := kindAt ts i == 4 && kindAt ts (i + 1) == 4
def isB (ts : List Tk) (i : Nat) : Bool := !isA ts i && (kindAt ts i == 4 && (i == 0 || kindAt ts (i - 1) != 11))
structure Ends (ts : List Tk) (a b : Nat) : Prop where
  lt : a < b
  le : b ≤ ts.length
  close : kindAt ts (b - 1) = 5
  after : kindAt ts b ≠ 10
  mid : ∀ e, a ≤ e → e < b - 1 → kindAt ts e = 5 → kindAt ts (e + 1) = 10
def cnt (p : Nat → Bool) (lo hi : Nat) : Nat := (List.range' lo (hi - lo)).countP p
theorem cnt_add (p : Nat → Bool) {lo mid hi : Nat} (h1 : lo ≤ mid) (h2 : mid ≤ hi) : cnt p lo hi = cnt p lo mid + cnt p mid hi := by
  unfold cnt
  rw [← List.countP_append]
  congr 1
  have := List.range'_append_1 (s := lo) (m := mid - lo) (n := hi - mid)
  rw [show lo + (mid - lo) = mid by omega, show (mid - lo) + (hi - mid) = hi - lo by omega] at this
  exact this.symm
theorem cnt_one (p : Nat → Bool) (lo : Nat) : cnt p lo (lo + 1) = if p lo = true then 1 else 0 := by
  unfold cnt
  rw [Nat.add_sub_cancel_left]
  cases h : p lo <;> simp [h]
theorem cnt_none (p : Nat → Bool) {lo hi : Nat} (h : ∀ i, lo ≤ i → i < hi → p i = false) : cnt p lo hi = 0 := by
  unfold cnt
  rw [List.countP_eq_zero]
  intro i hi
  rw [List.mem_range'_1] at hi
  rw [h i hi.1 (by omega)]; decide
theorem cnt_step (p : Nat → Bool) {lo hi : Nat} (h : lo < hi) : cnt p lo hi = (if p lo = true then 1 else 0) + cnt p (lo + 1) hi := by
  rw [cnt_add p (Nat.le_succ lo) h, cnt_one]
theorem isB_ne {ts : List Tk} {i : Nat} (h : kindAt ts i ≠ 4) : isB ts i = false := by unfold isB; simp [h]
theorem isB_to {ts : List Tk} {i : Nat} (h : kindAt ts i = 11) : isB ts (i + 1) = false := by unfold isB; simp [h]
theorem isA_ne {ts : List Tk} {i : Nat} (h : kindAt ts i ≠ 4) : isA ts i = false := by unfold isA; simp [h]
theorem termP_kind {ts : List Tk} {vars vars' : List ByteArray} {p q : Nat} {t : Bool × ByteArray} (h : termP ts vars p = .ok (t, vars', q)) : q = p + 1 ∧ (kindAt ts p = 1 ∨ kindAt ts p = 2) := by
  unfold termP at h
  split at h
  · rename_i h2; cases h; exact ⟨rfl, .inr h2⟩
  · split at h
    · rename_i h1
      split at h
      · cases h; exact ⟨rfl, .inl h1⟩
      · split at h
        · cases h
        · cases h; exact ⟨rfl, .inl h1⟩
    · cases h
/-- An atom's kinds, one by one. -/
inductive AtomK (ts : List Tk) : Nat → Nat → Prop
  | one {p : Nat} (h0 : kindAt ts p = 1 ∨ kindAt ts p = 2) (h1 : kindAt ts (p + 1) = 5) : AtomK ts p (p + 2)
  | two {p : Nat} (h0 : kindAt ts p = 1 ∨ kindAt ts p = 2) (h1 : kindAt ts (p + 1) = 7) (h2 : kindAt ts (p + 2) = 1) (h3 : kindAt ts (p + 3) = 5) : AtomK ts p (p + 4)
  | three {p : Nat} (h0 : kindAt ts p = 1 ∨ kindAt ts p = 2) (h1 : kindAt ts (p + 1) = 8) (h2 : kindAt ts (p + 2) = 1) (h3 : kindAt ts (p + 3) = 9) (h4 : kindAt ts (p + 4) = 3) (h5 : kindAt ts (p + 5) = 5) : AtomK ts p (p + 6)
  | edge {p : Nat} (h0 : kindAt ts p = 1 ∨ kindAt ts p = 2) (h1 : kindAt ts (p + 1) = 5) (h2 : kindAt ts (p + 2) = 10) (h3 : kindAt ts (p + 3) = 1) (h4 : kindAt ts (p + 4) = 11) (h5 : kindAt ts (p + 5) = 4) (h6 : kindAt ts (p + 6) = 1 ∨ kindAt ts (p + 6) = 2) (h7 : kindAt ts (p + 7) = 5) : AtomK ts p (p + 8)
theorem AtomK.le {ts : List Tk} {p q : Nat} (h : AtomK ts p q) : p + 2 ≤ q := by cases h <;> omega
theorem atomP_kinds {ts : List Tk} {st s : PS} (h : atomP ts st = .ok s) : AtomK ts st.p s.p ∧ s.atoms.length = st.atoms.length + 1 := by
  unfold atomP at h
  obtain ⟨⟨f, v1, p1⟩, h1, h2⟩ := bind_ok h
  obtain ⟨⟨k, n, v, p2⟩, h3, h4⟩ := bind_ok h2
  obtain ⟨⟨_, p3⟩, h5, h6⟩ := bind_ok h4
  obtain ⟨rfl, k1⟩ := termP_kind h1
  obtain ⟨k5, _⟩ := takeP_text h5
  obtain rfl := takeP_ok h5
  dsimp only at h6 h3
  have hm : (k = 1 ∧ p2 = st.p + 1) ∨ (k = 2 ∧ p2 = st.p + 3 ∧ kindAt ts (st.p + 1) = 7 ∧ kindAt ts (st.p + 2) = 1) ∨ (k = 3 ∧ p2 = st.p + 5 ∧ kindAt ts (st.p + 1) = 8 ∧ kindAt ts (st.p + 2) = 1 ∧ kindAt ts (st.p + 3) = 9 ∧ kindAt ts (st.p + 4) = 3) := by
    unfold midP at h3
    split at h3
    · rename_i e7
      obtain ⟨⟨_, q1⟩, g1, g2⟩ := bind_ok h3
      obtain ⟨j1, _⟩ := takeP_text g1
      obtain rfl := takeP_ok g1
      cases g2
      exact .inr (.inl ⟨rfl, rfl, e7, j1⟩)
    · split at h3
      · rename_i e8
        obtain ⟨⟨_, q1⟩, g1, g2⟩ := bind_ok h3
        obtain ⟨⟨_, q2⟩, g3, g4⟩ := bind_ok g2
        obtain ⟨⟨_, q3⟩, g5, g6⟩ := bind_ok g4
        obtain ⟨j1, _⟩ := takeP_text g1
        obtain rfl := takeP_ok g1
        obtain ⟨j2, _⟩ := takeP_text g3
        obtain rfl := takeP_ok g3
        obtain ⟨j3, _⟩ := takeP_text g5
        obtain rfl := takeP_ok g5
        cases g6
        exact .inr (.inr ⟨rfl, rfl, e8, j1, j2, j3⟩)
      · cases h3
        exact .inl ⟨rfl, rfl⟩
  split at h6
  · rename_i hk
    obtain ⟨rfl, k10⟩ := hk
    rcases hm with ⟨_, rfl⟩ | ⟨e, _⟩ | ⟨e, _⟩
    · split at h6
      · cases h6
      · obtain ⟨⟨n4, p4⟩, a1, h7⟩ := bind_ok h6
        obtain ⟨⟨_, p5⟩, a2, h8⟩ := bind_ok h7
        obtain ⟨⟨_, p6⟩, a3, h9⟩ := bind_ok h8
        obtain ⟨⟨t, v2, p7⟩, a4, h10⟩ := bind_ok h9
        obtain ⟨⟨_, p8⟩, a5, h11⟩ := bind_ok h10
        obtain ⟨b1, _⟩ := takeP_text a1
        obtain rfl := takeP_ok a1
        obtain ⟨b2, _⟩ := takeP_text a2
        obtain rfl := takeP_ok a2
        obtain ⟨b3, _⟩ := takeP_text a3
        obtain rfl := takeP_ok a3
        obtain ⟨rfl, b4⟩ := termP_kind a4
        obtain ⟨b5, _⟩ := takeP_text a5
        obtain rfl := takeP_ok a5
        cases h11
        exact ⟨.edge k1 k5 k10 b1 b2 b3 b4 b5, by simp⟩
    · cases e
    · cases e
  · cases h6
    rcases hm with ⟨_, rfl⟩ | ⟨_, rfl, m1, m2⟩ | ⟨_, rfl, m1, m2, m3, m4⟩
    · exact ⟨.one k1 k5, by simp⟩
    · exact ⟨.two k1 m1 m2 k5, by simp⟩
    · exact ⟨.three k1 m1 m2 m3 m4 k5, by simp⟩
/-- How the scan sees an atom that begins at p. -/
theorem AtomK.scan {ts : List Tk} {p q : Nat} (h : AtomK ts (p + 1) q) (h4 : kindAt ts p = 4) (hp : p = 0 ∨ kindAt ts (p - 1) ≠ 11) (h10 : kindAt ts q ≠ 10) :
    isB ts p = true ∧ isA ts p = false ∧ (∀ i, p < i → i < q → isB ts i = false ∧ isA ts i = false) ∧ Ends ts p q := by
  have hB : kindAt ts (p + 1) ≠ 4 → isB ts p = true ∧ isA ts p = false := fun hn => by
    have hA : isA ts p = false := by unfold isA; simp [hn]
    refine ⟨?_, hA⟩
    unfold isB
    rw [hA, h4]
    rcases hp with rfl | hp
    · rfl
    · simp [hp]
  have far : ∀ i, kindAt ts i = 5 → i + 1 ≤ ts.length := fun i hi => kindAt_lt (by rw [hi]; decide)
  cases h with
  | one h0 h1 =>
    obtain ⟨b1, b2⟩ := hB (by omega)
    refine ⟨b1, b2, fun i hi hq => ?_, by omega, far _ h1, h1, h10, fun e he hq hk => ?_⟩
    · have : i = p + 1 ∨ i = p + 2 := by omega
      rcases this with rfl | rfl
      · exact ⟨isB_ne (by omega), isA_ne (by omega)⟩
      · exact ⟨isB_ne (by rw [show p + 2 = p + 1 + 1 from rfl, h1]; decide), isA_ne (by rw [show p + 2 = p + 1 + 1 from rfl, h1]; decide)⟩
    · have : e = p ∨ e = p + 1 := by omega
      rcases this with rfl | rfl <;> omega
  | two h0 h1 h2 h3 =>
    obtain ⟨b1, b2⟩ := hB (by omega)
    have k1 : kindAt ts (p + 2) = 7 := h1
    have k2 : kindAt ts (p + 3) = 1 := h2
    have k3 : kindAt ts (p + 4) = 5 := h3
    refine ⟨b1, b2, fun i hi hq => ?_, by omega, far _ h3, h3, h10, fun e he hq hk => ?_⟩
    · have : i = p + 1 ∨ i = p + 2 ∨ i = p + 3 ∨ i = p + 4 := by omega
      rcases this with rfl | rfl | rfl | rfl <;> exact ⟨isB_ne (by omega), isA_ne (by omega)⟩
    · have : e = p ∨ e = p + 1 ∨ e = p + 2 ∨ e = p + 3 := by omega
      rcases this with rfl | rfl | rfl | rfl <;> omega
  | three h0 h1 h2 h3 h4' h5 =>
    obtain ⟨b1, b2⟩ := hB (by omega)
    have k1 : kindAt ts (p + 2) = 8 := h1
    have k2 : kindAt ts (p + 3) = 1 := h2
    have k3 : kindAt ts (p + 4) = 9 := h3
    have k4 : kindAt ts (p + 5) = 3 := h4'
    have k5 : kindAt ts (p + 6) = 5 := h5
    refine ⟨b1, b2, fun i hi hq => ?_, by omega, far _ h5, h5, h10, fun e he hq hk => ?_⟩
    · have : i = p + 1 ∨ i = p + 2 ∨ i = p + 3 ∨ i = p + 4 ∨ i = p + 5 ∨ i = p + 6 := by omega
      rcases this with rfl | rfl | rfl | rfl | rfl | rfl <;> exact ⟨isB_ne (by omega), isA_ne (by omega)⟩
    · have : e = p ∨ e = p + 1 ∨ e = p + 2 ∨ e = p + 3 ∨ e = p + 4 ∨ e = p + 5 := by omega
      rcases this with rfl | rfl | rfl | rfl | rfl | rfl <;> omega
  | edge h0 h1 h2 h3 h4' h5 h6 h7 =>
    obtain ⟨b1, b2⟩ := hB (by omega)
    have k1 : kindAt ts (p + 2) = 5 := h1
    have k2 : kindAt ts (p + 3) = 10 := h2
    have k3 : kindAt ts (p + 4) = 1 := h3
    have k4 : kindAt ts (p + 5) = 11 := h4'
    have k5 : kindAt ts (p + 6) = 4 := h5
    have k6 : kindAt ts (p + 7) = 1 ∨ kindAt ts (p + 7) = 2 := h6
    have k7 : kindAt ts (p + 8) = 5 := h7
    refine ⟨b1, b2, fun i hi hq => ?_, by omega, far _ h7, h7, h10, fun e he hq hk => ?_⟩
    · have : i = p + 1 ∨ i = p + 2 ∨ i = p + 3 ∨ i = p + 4 ∨ i = p + 5 ∨ i = p + 6 ∨ i = p + 7 ∨ i = p + 8 := by omega
      rcases this with rfl | rfl | rfl | rfl | rfl | rfl | rfl | rfl
      all_goals first
        | exact ⟨isB_ne (by omega), isA_ne (by omega)⟩
        | exact ⟨isB_to k4, by unfold isA; rw [show p + 6 + 1 = p + 7 from rfl]; rcases k6 with k6 | k6 <;> simp [k6]⟩
    · have : e = p ∨ e = p + 1 ∨ e = p + 2 ∨ e = p + 3 ∨ e = p + 4 ∨ e = p + 5 ∨ e = p + 6 ∨ e = p + 7 := by omega
      rcases this with rfl | rfl | rfl | rfl | rfl | rfl | rfl | rfl
      all_goals first
        | exact k2
        | omega
/-- A step of the items' reading. -/
theorem itemsF_step {ts : List Tk} {f d : Nat} {st s : PS} (h : itemsF ts (f + 1) d st = some (.ok s)) :
    ∃ s1 : PS, kindAt ts st.p = 4 ∧ ((kindAt ts (st.p + 1) ≠ 4 ∧ atomP ts ⟨st.p + 1, st.atoms, st.vars⟩ = .ok s1) ∨
        (kindAt ts (st.p + 1) = 4 ∧ d ≠ 4 ∧ ∃ s0 : PS, itemsF ts f (d + 1) ⟨st.p + 1, st.atoms, st.vars⟩ = some (.ok s0) ∧ kindAt ts s0.p = 5 ∧ s1 = ⟨s0.p + 1, s0.atoms, s0.vars⟩)) ∧
      (((s1.atoms.length = 40 ∨ kindAt ts s1.p ≠ 6) ∧ s = s1) ∨ (¬ (s1.atoms.length = 40 ∨ kindAt ts s1.p ≠ 6) ∧ kindAt ts s1.p = 6 ∧ itemsF ts f d ⟨s1.p + 1, s1.atoms, s1.vars⟩ = some (.ok s))) := by
  unfold itemsF at h
  have fin : ∀ s1 : PS, (if s1.atoms.length = 40 ∨ kindAt ts s1.p ≠ 6 then some (.ok s1) else itemsF ts f d ⟨s1.p + 1, s1.atoms, s1.vars⟩) = some (.ok s) →
      (((s1.atoms.length = 40 ∨ kindAt ts s1.p ≠ 6) ∧ s = s1) ∨ (¬ (s1.atoms.length = 40 ∨ kindAt ts s1.p ≠ 6) ∧ kindAt ts s1.p = 6 ∧ itemsF ts f d ⟨s1.p + 1, s1.atoms, s1.vars⟩ = some (.ok s))) := by
    intro s1 h4
    split at h4
    · rename_i hc; cases h4; exact .inl ⟨hc, rfl⟩
    · rename_i hc; exact .inr ⟨hc, by omega, h4⟩
  by_cases h4 : kindAt ts st.p = 4
  · by_cases h44 : kindAt ts (st.p + 1) = 4
    · by_cases hd : d = 4
      · simp [h4, h44, hd] at h
      · simp only [h4, h44, hd, if_true, if_false] at h
        cases hi : itemsF ts f (d + 1) ⟨st.p + 1, st.atoms, st.vars⟩ with
        | none => rw [hi] at h; simp at h
        | some x =>
          rw [hi] at h
          cases x with
          | error q => simp at h
          | ok s0 =>
            cases hb2 : ((takeP ts 5 s0.p).bind fun (_, p) => (.ok ⟨p, s0.atoms, s0.vars⟩ : Except Nat PS)) with
            | error q => simp only [hb2] at h; cases h
            | ok s' =>
              simp only [hb2] at h
              obtain ⟨⟨_, q1⟩, c1, c2⟩ := bind_ok hb2
              obtain ⟨j, _⟩ := takeP_text c1
              obtain rfl := takeP_ok c1
              cases c2
              exact ⟨_, h4, .inr ⟨h44, hd, s0, rfl, j, rfl⟩, fin _ h⟩
    · simp only [h4, h44, if_true, if_false] at h
      cases hat : atomP ts ⟨st.p + 1, st.atoms, st.vars⟩ with
      | error q => simp only [hat] at h; cases h
      | ok s' =>
        simp only [hat] at h
        exact ⟨s', h4, .inl ⟨h44, rfl⟩, fin _ h⟩
  · simp [h4] at h
def opn : Tk := ⟨4, nilB, 0⟩
def cls : Tk := ⟨5, nilB, 0⟩
/-- Tokens, with a group of its own around those from a to b. -/
def ins (ts : List Tk) (a b : Nat) : List Tk := ts.take a ++ (opn :: ((ts.drop a).take (b - a) ++ (cls :: ts.drop b)))
section
variable {ts : List Tk} {a b : Nat}
theorem ins_mid (h : a ≤ ts.length) : SH (ins ts a b) ((ts.drop a).take (b - a) ++ (cls :: ts.drop b)) (a + 1) := by
  have := SH.pre (ts.take a ++ [opn]) ((ts.drop a).take (b - a) ++ (cls :: ts.drop b))
  rw [List.length_append, List.length_take, Nat.min_eq_left h] at this
  have e : ins ts a b = (ts.take a ++ [opn]) ++ ((ts.drop a).take (b - a) ++ (cls :: ts.drop b)) := by unfold ins; simp
  rw [e]; exact this
theorem ins_end (h : a ≤ b) (hb : b ≤ ts.length) : SH (ins ts a b) (ts.drop b) (b + 2) := by
  have := SH.pre (ts.take a ++ (opn :: ((ts.drop a).take (b - a) ++ [cls]))) (ts.drop b)
  have hl : (ts.take a ++ (opn :: ((ts.drop a).take (b - a) ++ [cls]))).length = b + 2 := by
    simp only [List.length_append, List.length_cons, List.length_take, List.length_drop, List.length_nil]; omega
  rw [hl] at this
  have e : ins ts a b = (ts.take a ++ (opn :: ((ts.drop a).take (b - a) ++ [cls]))) ++ ts.drop b := by unfold ins; simp
  rw [e]; exact this
theorem drop_sh (h : b ≤ ts.length) : SH ts (ts.drop b) b := by
  have := SH.pre (ts.take b) (ts.drop b)
  rw [List.take_append_drop, List.length_take, Nat.min_eq_left h] at this
  exact this
theorem ins_agree (ha : ts[a]? = some opn) : Agree ts (ins ts a b) (a + 1) := by
  have hlt : a < ts.length := (List.getElem?_eq_some_iff.1 ha).1
  intro i hi
  unfold ins
  rcases Nat.lt_or_ge i a with h | h
  · rw [List.getElem?_append_left (by rw [List.length_take]; omega), List.getElem?_take, if_pos h]
  · have : i = a := by omega
    subst this
    rw [List.getElem?_append_right (by rw [List.length_take]; omega), List.length_take, Nat.min_eq_left (by omega), Nat.sub_self, ha]
    rfl
theorem ins_len (h : a ≤ b) (hb : b ≤ ts.length) : (ins ts a b).length = ts.length + 2 := by
  unfold ins
  simp only [List.length_append, List.length_cons, List.length_take, List.length_drop]; omega
theorem ins_kind (h : a ≤ b) (hb : b ≤ ts.length) {p : Nat} (hp : b ≤ p) : kindAt (ins ts a b) (p + 2) = kindAt ts p := by
  have h1 := (ins_end h hb).kind (p - b)
  have h2 := (drop_sh hb).kind (p - b)
  rw [show b + 2 + (p - b) = p + 2 by omega] at h1
  rw [show b + (p - b) = p by omega] at h2
  rw [h1, h2]
theorem map_ok {x : Option (Except Nat PS)} {o : Nat} {s : PS} (h : x.map (shE o (psS o)) = some (.ok s)) : ∃ s0, x = some (.ok s0) ∧ psS o s0 = s := by
  cases x with
  | none => cases h
  | some y =>
    cases y with
    | error q => cases h
    | ok s0 => exact ⟨s0, rfl, by simpa [shE] using h⟩
theorem items_after (h : a ≤ b) (hb : b ≤ ts.length) {f d : Nat} {st s : PS} (hp : b ≤ st.p) (hi : itemsF ts f d st = some (.ok s)) : itemsF (ins ts a b) f d ⟨st.p + 2, st.atoms, st.vars⟩ = some (.ok ⟨s.p + 2, s.atoms, s.vars⟩) := by
  have h1 := (drop_sh hb).items f d ⟨st.p - b, st.atoms, st.vars⟩
  have h2 := (ins_end h hb).items f d ⟨st.p - b, st.atoms, st.vars⟩
  rw [show psS b ⟨st.p - b, st.atoms, st.vars⟩ = st from by unfold psS; cases st; dsimp only at hp ⊢; congr 1; omega, hi] at h1
  obtain ⟨s0, e0, e1⟩ := map_ok h1.symm
  rw [e0, show psS (b + 2) ⟨st.p - b, st.atoms, st.vars⟩ = ⟨st.p + 2, st.atoms, st.vars⟩ from by unfold psS; dsimp only; congr 1; omega] at h2
  rw [h2, ← e1]
  simp only [Option.map_some, shE, psS]
  congr 3; omega
theorem told_after (h : a ≤ b) (hb : b ≤ ts.length) {st : PS} {P : Pat} {q : Nat} (hp : b ≤ st.p) (hi : toldP ts st = .ok (P, q)) : toldP (ins ts a b) ⟨st.p + 2, st.atoms, st.vars⟩ = .ok (P, q + 2) := by
  have h1 := (drop_sh hb).told ⟨st.p - b, st.atoms, st.vars⟩
  have h2 := (ins_end h hb).told ⟨st.p - b, st.atoms, st.vars⟩
  rw [show psS b ⟨st.p - b, st.atoms, st.vars⟩ = st from by unfold psS; cases st; dsimp only at hp ⊢; congr 1; omega, hi] at h1
  rw [show psS (b + 2) ⟨st.p - b, st.atoms, st.vars⟩ = ⟨st.p + 2, st.atoms, st.vars⟩ from by unfold psS; dsimp only; congr 1; omega] at h2
  rw [h2]
  cases e : toldP (ts.drop b) ⟨st.p - b, st.atoms, st.vars⟩ with
  | error x => rw [e] at h1; cases h1
  | ok y =>
    rw [e] at h1
    simp only [shE, s2, Except.ok.injEq, Prod.mk.injEq] at h1 ⊢
    obtain ⟨rfl, rfl⟩ := h1
    exact ⟨rfl, by omega⟩
end
theorem takeP_tight {ts us : List Tk} {k : Int} {p q : Nat} {s : ByteArray} (h : takeP ts k p = .ok (s, q)) (hg : ts[p]? = us[p]?) : takeP us k p = .ok (s, q) := by
  unfold takeP at h ⊢
  rw [kindAt_same hg, textAt_same hg]; exact h
theorem termP_tight {ts us : List Tk} {v : List ByteArray} {p : Nat} {r : (Bool × ByteArray) × List ByteArray × Nat} (h : termP ts v p = .ok r) (hg : ts[p]? = us[p]?) : termP us v p = .ok r := by
  unfold termP at h ⊢
  rw [kindAt_same hg, textAt_same hg]; exact h
/-- An atom is read alike where all its tokens stand, and no edge goes on behind it. -/
theorem atomP_tight {ts us : List Tk} {st s : PS} (h : atomP ts st = .ok s) (hg : Agree ts us s.p) (h10 : kindAt us s.p ≠ 10) : atomP us st = .ok s := by
  have hlt : st.p + 2 ≤ s.p := (atomP_kinds h).1.le
  unfold atomP at h ⊢
  obtain ⟨⟨f, v1, p1⟩, h1, h2⟩ := bind_ok h
  obtain ⟨⟨k, n, v, p2⟩, h3, h4⟩ := bind_ok h2
  obtain ⟨⟨_, p3⟩, h5, h6⟩ := bind_ok h4
  obtain ⟨rfl, k1⟩ := termP_kind h1
  have hp3 := takeP_ok h5
  dsimp only at h3 h5 h6
  have le3 : p3 ≤ s.p := by
    split at h6
    · split at h6
      · cases h6
      · obtain ⟨⟨_, p4⟩, a1, h7⟩ := bind_ok h6
        obtain ⟨⟨_, p5⟩, a2, h8⟩ := bind_ok h7
        obtain ⟨⟨_, p6⟩, a3, h9⟩ := bind_ok h8
        obtain ⟨⟨t, v2, p7⟩, a4, h10⟩ := bind_ok h9
        obtain ⟨⟨_, p8⟩, a5, h11⟩ := bind_ok h10
        have b1 := takeP_ok a1
        have b2 := takeP_ok a2
        have b3 := takeP_ok a3
        have b4 := (termP_kind a4).1
        have b5 := takeP_ok a5
        cases h11
        dsimp only at *; omega
    · cases h6; exact Nat.le_refl _
  have hm : midP us (st.p + 1) = .ok (k, n, v, p2) ∧ st.p + 1 ≤ p2 := by
    unfold midP at h3 ⊢
    rw [kindAt_same (hg (st.p + 1) (by omega))]
    split at h3
    · rename_i e7
      rw [if_pos e7]
      obtain ⟨⟨_, q1⟩, g1, g2⟩ := bind_ok h3
      have c1 := takeP_ok g1
      cases g2
      dsimp only at *
      rw [takeP_tight g1 (hg _ (by omega))]
      exact ⟨rfl, by omega⟩
    · rename_i e7
      rw [if_neg e7]
      split at h3
      · rename_i e8
        rw [if_pos e8]
        obtain ⟨⟨_, q1⟩, g1, g2⟩ := bind_ok h3
        obtain ⟨⟨_, q2⟩, g3, g4⟩ := bind_ok g2
        obtain ⟨⟨_, q3⟩, g5, g6⟩ := bind_ok g4
        have c1 := takeP_ok g1
        have c2 := takeP_ok g3
        have c3 := takeP_ok g5
        cases g6
        dsimp only at *
        rw [takeP_tight g1 (hg _ (by omega))]
        simp only [Except.bind]
        rw [takeP_tight g3 (hg _ (by omega))]
        simp only []
        rw [takeP_tight g5 (hg _ (by omega))]
        exact ⟨rfl, by omega⟩
      · rename_i e8
        rw [if_neg e8]
        cases h3
        exact ⟨rfl, Nat.le_refl _⟩
  rw [termP_tight h1 (hg _ (by omega))]
  simp only [Except.bind]
  rw [hm.1]
  simp only []
  rw [takeP_tight h5 (hg _ (by omega))]
  simp only []
  by_cases hc : k = 1 ∧ kindAt ts p3 = 10
  · rw [if_pos hc] at h6
    by_cases h66 : edgesOf st.atoms = 6
    · rw [if_pos h66] at h6; cases h6
    · rw [if_neg h66] at h6
      obtain ⟨⟨n4, p4⟩, a1, h7⟩ := bind_ok h6
      obtain ⟨⟨_, p5⟩, a2, h8⟩ := bind_ok h7
      obtain ⟨⟨_, p6⟩, a3, h9⟩ := bind_ok h8
      obtain ⟨⟨t, v2, p7⟩, a4, h10'⟩ := bind_ok h9
      obtain ⟨⟨_, p8⟩, a5, h11⟩ := bind_ok h10'
      have b1 := takeP_ok a1
      have b2 := takeP_ok a2
      have b3 := takeP_ok a3
      have b4 := (termP_kind a4).1
      have b5 := takeP_ok a5
      cases h11
      dsimp only at *
      rw [if_pos ⟨hc.1, by rw [kindAt_same (hg p3 (by omega))]; exact hc.2⟩, if_neg h66, takeP_tight a1 (hg _ (by omega))]
      simp only []
      rw [takeP_tight a2 (hg _ (by omega))]
      simp only []
      rw [takeP_tight a3 (hg _ (by omega))]
      simp only []
      rw [termP_tight a4 (hg _ (by omega))]
      simp only []
      rw [takeP_tight a5 (hg _ (by omega))]
  · rw [if_neg hc] at h6
    cases h6
    dsimp only at h10
    rw [if_neg (fun x => h10 x.2)]
end Go.Proofs.Ytngnplghjaojhaa
