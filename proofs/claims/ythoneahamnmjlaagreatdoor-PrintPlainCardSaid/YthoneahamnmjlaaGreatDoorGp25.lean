/- What a pattern's tokens come to is the pattern. Plain. -/
import Derived.Test.YthoneahamnmjlaaGreatDoorGp24
namespace Go.Proofs.YthoneahamnmjlaaGreatDoor
set_option maxRecDepth 100000
set_option maxHeartbeats 2000000
set_option linter.unusedSimpArgs false
open Go.Lib
set_option linter.unusedVariables false

theorem u8_nat {n : Nat} (h : n < 256) : (UInt8.ofNat n).toNat = n := by
  have : (UInt8.ofNat n).toNat = n % 256 := rfl
  omega
theorem dec_ne (n : Nat) : decDigits n ≠ [] := by
  rw [decDigits]; split <;> simp
theorem dec_digit (n : Nat) : ∀ c ∈ decDigits n, 48 ≤ c.toNat ∧ c.toNat ≤ 57 := by
  induction n using Nat.strongRecOn with
  | _ n ih =>
    intro c hc
    rw [decDigits] at hc
    split at hc
    · rename_i h
      rw [List.mem_singleton] at hc
      subst hc
      rw [u8_nat (by omega)]; omega
    · rename_i h
      rcases List.mem_append.1 hc with hc | hc
      · exact ih (n / 10) (by omega) c hc
      · rw [List.mem_singleton] at hc
        subst hc
        rw [u8_nat (by omega)]; omega
theorem dec_head (n : Nat) (h0 : 0 < n) : (decDigits n).head? ≠ some 48 := by
  induction n using Nat.strongRecOn with
  | _ n ih =>
    rw [decDigits]
    split
    · rename_i h
      intro e
      have e2 := congrArg UInt8.toNat (Option.some.inj e)
      rw [u8_nat (by omega)] at e2
      have : (48 : UInt8).toNat = 48 := rfl
      omega
    · rename_i h
      have := ih (n / 10) (by omega) (by omega)
      have hne := dec_ne (n / 10)
      cases hd : decDigits (n / 10) with
      | nil => exact absurd hd hne
      | cons c r => rw [hd] at this; exact this
theorem numL_dec (n : Nat) : n < 2147483648 → ∀ l, numL 0 (decDigits n ++ l) = numL n l := by
  induction n using Nat.strongRecOn with
  | _ n ih =>
    intro hn l
    rw [decDigits]
    split
    · rename_i h
      have e : (UInt8.ofNat (48 + n)).toNat = 48 + n := u8_nat (by omega)
      rw [List.singleton_append, numL_yes (by rw [e]; omega), e]
      congr 1; omega
    · rename_i h
      have e : (UInt8.ofNat (48 + n % 10)).toNat = 48 + n % 10 := u8_nat (by omega)
      rw [List.append_assoc, ih (n / 10) (by omega) (by omega), List.singleton_append, numL_yes (by rw [e]; omega), e]
      congr 1; omega
theorem itoa_of {n : Int} (h : 0 ≤ n) : itoa n = decDigits n.toNat := by unfold itoa; rw [if_neg (by omega)]
theorem number_itoa {n : Int} (h : numB n = true) : numberF 1 (itoa n) = some n := by
  unfold numB at h
  simp at h
  rw [itoa_of h.1]
  have h1 := numL_dec n.toNat (by omega) []
  rw [List.append_nil] at h1
  unfold numberF
  rw [if_neg, h1]
  · show some ((n.toNat : Nat) : Int) = some n
    congr 1; omega
  · rintro (h2 | h2 | ⟨h2, h3⟩)
    · exact h2 rfl
    · exact dec_ne _ h2
    · rcases Nat.eq_zero_or_pos n.toNat with h0 | h0
      · rw [h0] at h3; exact h3 (by rw [decDigits]; rfl)
      · exact dec_head _ h0 h2
theorem word_itoa {n : Int} (h : numB n = true) : wordB (txt (itoa n)) = true := by
  unfold numB at h
  simp at h
  rw [← wordB_all, bts_txt, itoa_of h.1]
  have hs : spanL letterC (decDigits n.toNat) = (decDigits n.toNat).length := by
    have := spanL_append letterC (decDigits n.toNat) [] (fun c hc => by
      have := dec_digit _ c hc
      unfold letterC
      exact decide_eq_true (by omega))
    rw [List.append_nil] at this
    rw [this]; rfl
  have hl := nDigits_le20 n.toNat (by omega)
  rw [← decDigits_length] at hl
  have hp := List.length_pos_iff.2 (dec_ne n.toNat)
  exact allB_iff.2 ⟨hs, by omega, by omega⟩

/-- What comes next. -/
def nextKd : List Tk → Int
  | [] => 0
  | t :: _ => if t.check then t.kind else 0
def nextTx : List Tk → ByteArray
  | [] => nilB
  | t :: _ => t.text
theorem kind_next (ts : List Tk) (p : Nat) : kindAt ts p = nextKd (ts.drop p) := by
  unfold kindAt
  rw [show ts[p]? = (ts.drop p).head? from (List.head?_drop).symm]
  cases ts.drop p <;> rfl
theorem text_next (ts : List Tk) (p : Nat) : textAt ts p = nextTx (ts.drop p) := by
  unfold textAt
  rw [List.getD_eq_getElem?_getD, show ts[p]? = (ts.drop p).head? from (List.head?_drop).symm]
  cases ts.drop p <;> rfl
theorem kind_at' {ts r : List Tk} {p : Nat} {t : Tk} (h : ts.drop p = t :: r) (ht : t.check = true) : kindAt ts p = t.kind := by
  rw [kind_next, h]; show (if t.check then t.kind else 0) = _; rw [if_pos ht]
theorem text_at' {ts r : List Tk} {p : Nat} {t : Tk} (h : ts.drop p = t :: r) : textAt ts p = t.text := by rw [text_next, h]; rfl
theorem drop_one {ts r : List Tk} {p : Nat} {t : Tk} (h : ts.drop p = t :: r) : ts.drop (p + 1) = r := by
  rw [← List.drop_drop, h]; rfl
theorem drop_app {ts l r : List Tk} {p : Nat} (h : ts.drop p = l ++ r) : ts.drop (p + l.length) = r := by
  rw [← List.drop_drop, h, List.drop_left]
theorem takeP_at {ts r : List Tk} {p : Nat} {t : Tk} {k : Int} (h : ts.drop p = t :: r) (ht : t.check = true) (hk : t.kind = k) : takeP ts k p = .ok (t.text, p + 1) := by
  unfold takeP
  rw [kind_at' h ht, if_pos hk, text_at' h]
theorem kindS_at {ts r : List Tk} {p : Nat} {k : Int} (h : ts.drop p = sg k :: r) (ht : (sg k).check = true) : kindAt ts p = k := kind_at' h ht
theorem takeS_at {ts r : List Tk} {p : Nat} {k : Int} (h : ts.drop p = sg k :: r) (ht : (sg k).check = true) : takeP ts k p = .ok (nilB, p + 1) := takeP_at h ht rfl
theorem takeW_at {ts r : List Tk} {p : Nat} {s : ByteArray} (h : ts.drop p = wd s :: r) (ht : wordB s = true) : takeP ts 1 p = .ok (s, p + 1) := takeP_at h ht rfl
theorem takeV_at {ts r : List Tk} {p : Nat} {s : ByteArray} (h : ts.drop p = ⟨3, s, 0⟩ :: r) (ht : worthB s = true) : takeP ts 3 p = .ok (s, p + 1) := takeP_at h ht rfl
theorem termP_at {ts r vars' : List Tk} {vars : List ByteArray} {p : Nat} {k : Bool} {n : ByteArray} (h : ts.drop p = tmK k n :: r) (hn : wordB n = true) (hr : k = true ∨ hasB n vars = true ∨ vars.length ≠ 32) :
    termP ts vars p = .ok ((k, n), termS vars (k, n), p + 1) := by
  have h1 := kind_at' h (tm_check hn)
  have h2 : textAt ts p = n := text_at' h
  unfold termP
  cases k with
  | true =>
    rw [if_pos (by rw [h1]; rfl), h2]
    rfl
  | false =>
    have hk : kindAt ts p = 1 := h1
    rw [if_neg (by rw [hk]; decide), if_pos hk, h2]
    show (if hasB n vars = true then _ else if vars.length = 32 then _ else _) = Except.ok ((false, n), termS vars (false, n), p + 1)
    unfold termS
    by_cases hb : hasB n vars = true
    · rw [if_pos hb, if_pos (.inr (.inr hb))]
    · rw [if_neg hb, if_neg (by
        rcases hr with h | h | h
        · cases h
        · exact absurd h hb
        · exact h), if_neg (by
        rintro (h | h | h)
        · cases h
        · exact word_nil hn h
        · exact hb h)]
theorem termS_ge (T : List ByteArray) (t : Bool × ByteArray) : T.length ≤ (termS T t).length := by
  unfold termS; split <;> simp
theorem termS_room {T : List ByteArray} {k : Bool} {n : ByteArray} (h : (termS T (k, n)).length ≤ 32) (hn : n ≠ nilB) : k = true ∨ hasB n T = true ∨ T.length ≠ 32 := by
  unfold termS at h
  split at h
  · rename_i hc
    rcases hc with hc | hc | hc
    · exact .inl hc
    · exact absurd hc hn
    · exact .inr (.inl hc)
  · refine .inr (.inr ?_)
    rw [List.length_append] at h
    simp at h
    omega
theorem varsF_ge (l : List Atm) : ∀ T : List ByteArray, T.length ≤ (l.foldl (fun T a => termS (termS T (a.fk, a.fn)) (a.tk, a.tn)) T).length := by
  induction l with
  | nil => intro T; exact Nat.le_refl _
  | cons a l ih =>
    intro T
    have h1 := termS_ge T (a.fk, a.fn)
    have h2 := termS_ge (termS T (a.fk, a.fn)) (a.tk, a.tn)
    have h3 := ih (termS (termS T (a.fk, a.fn)) (a.tk, a.tn))
    rw [List.foldl_cons]
    omega
theorem varsS_ge (l m : List Atm) : (varsS l).length ≤ (varsS (l ++ m)).length := by
  unfold varsS
  rw [List.foldl_append]
  exact varsF_ge _ _
/-- An atom's tokens, of which the first is taken, are read as the atom. -/
theorem atomP_at {ts r : List Tk} {p : Nat} {acc : List Atm} {vars : List ByteArray} {a : Atm} (h : ts.drop p = tmK a.fk a.fn :: (tailK a ++ sg 5 :: r)) (ha : atomB a = true)
    (hr1 : a.fk = true ∨ hasB a.fn vars = true ∨ vars.length ≠ 32) (hr2 : a.kind = 4 → a.tk = true ∨ hasB a.tn (termS vars (a.fk, a.fn)) = true ∨ (termS vars (a.fk, a.fn)).length ≠ 32)
    (he : a.kind = 4 → edgesOf acc ≠ 6) (hn : nextKd r ≠ 10) :
    atomP ts ⟨p, acc, vars⟩ = .ok ⟨p + ((tailK a).length + 2), acc ++ [a], termS (termS vars (a.fk, a.fn)) (a.tk, a.tn)⟩ := by
  obtain ⟨hf, hc⟩ := atom_facts ha
  have ht := termP_at (vars' := []) h hf hr1
  have h := drop_one h
  have hs5 := sg_check s5
  unfold atomP
  rw [ht]
  dsimp only [Except.bind]
  obtain ⟨kind, fk, fn, name, value, tk, tn⟩ := a
  dsimp only at *
  rcases hc with ⟨rfl, rfl, rfl, rfl, rfl⟩ | ⟨rfl, rfl, rfl, rfl, hw⟩ | ⟨rfl, rfl, rfl, hw, hv⟩ | ⟨rfl, rfl, hw, hw2⟩
  · have h5 : ts.drop (p + 1) = sg 5 :: r := h
    have hm : midP ts (p + 1) = .ok (1, nilB, nilB, p + 1) := by
      unfold midP
      rw [kindS_at h5 hs5, if_neg (by decide), if_neg (by decide)]
    have h10 : ¬ ((1 : Int) = 1 ∧ kindAt ts (p + 1 + 1) = 10) := by
      rw [kind_next, drop_one h5]; exact fun h => hn h.2
    rw [hm]
    dsimp only
    rw [takeS_at h5 hs5]
    dsimp only
    rw [if_neg h10, termS_nil]
    rfl
  · have h7 : ts.drop (p + 1) = sg 7 :: wd name :: sg 5 :: r := h
    have h1 := drop_one h7
    have h5 := drop_one h1
    have hm : midP ts (p + 1) = .ok (2, name, nilB, p + 1 + 1 + 1) := by
      unfold midP
      rw [kindS_at h7 (sg_check s7), if_pos rfl, takeW_at h1 hw]
      rfl
    rw [hm]
    dsimp only
    rw [takeS_at h5 hs5]
    dsimp only
    rw [if_neg (fun h => absurd h.1 (by decide)), termS_nil]
    rfl
  · have h8 : ts.drop (p + 1) = sg 8 :: wd name :: sg 9 :: ⟨3, value, 0⟩ :: sg 5 :: r := h
    have h1 := drop_one h8
    have h9 := drop_one h1
    have h3 := drop_one h9
    have h5 := drop_one h3
    have hm : midP ts (p + 1) = .ok (3, name, value, p + 1 + 1 + 1 + 1 + 1) := by
      unfold midP
      rw [kindS_at h8 (sg_check s8), if_neg (by decide), if_pos rfl, takeW_at h1 hw]
      dsimp only [Except.bind]
      rw [takeS_at h9 (sg_check s9)]
      dsimp only
      rw [takeV_at h3 hv]
    rw [hm]
    dsimp only
    rw [takeS_at h5 hs5]
    dsimp only
    rw [if_neg (fun h => absurd h.1 (by decide)), termS_nil]
    rfl
  · have h5 : ts.drop (p + 1) = sg 5 :: sg 10 :: wd name :: sg 11 :: sg 4 :: tmK tk tn :: sg 5 :: r := h
    have h10 := drop_one h5
    have h1 := drop_one h10
    have h11 := drop_one h1
    have h4 := drop_one h11
    have ht := drop_one h4
    have h5' := drop_one ht
    have hm : midP ts (p + 1) = .ok (1, nilB, nilB, p + 1) := by
      unfold midP
      rw [kindS_at h5 hs5, if_neg (by decide), if_neg (by decide)]
    rw [hm]
    dsimp only
    rw [takeS_at h5 hs5]
    dsimp only
    rw [if_pos ⟨rfl, kindS_at h10 (sg_check s10)⟩, if_neg (he rfl), takeW_at h1 hw]
    dsimp only
    rw [takeS_at h11 (sg_check s11)]
    dsimp only
    rw [takeS_at h4 (sg_check s4)]
    dsimp only
    rw [termP_at (vars' := []) ht hw2 (hr2 rfl)]
    dsimp only
    rw [takeS_at h5' hs5]
    rfl
theorem atomK_len (a : Atm) : (atomK a).length = (tailK a).length + 3 := by simp [atomK]
theorem edgesOf_app (l m : List Atm) : edgesOf (l ++ m) = edgesOf l + edgesOf m := by unfold edgesOf; rw [List.filter_append, List.length_append]
/-- What stands behind an atom's tokens. -/
def restK (r : List Tk) : List Atm → List Tk
  | [] => r
  | b :: l => sg 6 :: (sepK ((b :: l).map atomK) ++ r)
theorem sepK_rest (a : Atm) (l : List Atm) (r : List Tk) : sepK ((a :: l).map atomK) ++ r = sg 4 :: tmK a.fk a.fn :: (tailK a ++ sg 5 :: restK r l) := by
  cases l <;> simp [sepK, atomK, restK]
theorem itemsR_at {ts r : List Tk} (hn6 : nextKd r ≠ 6) (hn10 : nextKd r ≠ 10) (l : List Atm) : ∀ (p : Nat) (acc : List Atm), l ≠ [] → ts.drop p = sepK (l.map atomK) ++ r → (∀ a ∈ l, atomB a = true) → (acc ++ l).length ≤ 40 →
    edgesOf (acc ++ l) ≤ 6 → (varsS (acc ++ l)).length ≤ 32 → ItemsR ts 0 ⟨p, acc, varsS acc⟩ (.ok ⟨p + (sepK (l.map atomK)).length, acc ++ l, varsS (acc ++ l)⟩) := by
  induction l with
  | nil => intro p acc hne; exact absurd rfl hne
  | cons a l ih =>
    intro p acc _ hd hb h40 h6 h32
    obtain ⟨r', hr', hsp⟩ : ∃ r', ts.drop p = sg 4 :: tmK a.fk a.fn :: (tailK a ++ sg 5 :: r') ∧ r' = restK r l := ⟨_, hd.trans (sepK_rest a l r), rfl⟩
    have ha := hb a (by simp)
    have e1 : acc ++ a :: l = (acc ++ [a]) ++ l := by simp
    have hv := varsS_ge (acc ++ [a]) l
    rw [← e1] at hv
    have hvs : varsS (acc ++ [a]) = termS (termS (varsS acc) (a.fk, a.fn)) (a.tk, a.tn) := varsS_snoc acc a
    have hge := termS_ge (termS (varsS acc) (a.fk, a.fn)) (a.tk, a.tn)
    have hfn := word_nil (atom_facts ha).1
    have hat := atomP_at (acc := acc) (vars := varsS acc) (drop_one hr') ha (termS_room (by rw [hvs] at hv; omega) hfn)
      (fun hk => termS_room (by rw [hvs] at hv; omega) (by
        rcases (atom_facts ha).2 with h | h | h | h
        · omega
        · omega
        · omega
        · exact word_nil h.2.2.2))
      (fun hk => by
        rw [e1, edgesOf_app, edgesOf_app] at h6
        have : edgesOf [a] = 1 := by unfold edgesOf; simp [hk]
        omega)
      (by rw [hsp]; cases l with
        | nil => exact hn10
        | cons b l => show (if (sg 6).check then (6 : Int) else 0) ≠ 10; rw [if_pos (sg_check s6)]; decide)
    have hk4 : kindAt ts p = 4 := kindS_at hr' (sg_check s4)
    have hk44 : kindAt ts (p + 1) ≠ 4 := by
      rw [kind_at' (drop_one hr') (tm_check (atom_facts ha).1)]
      unfold tmK
      dsimp only
      split <;> decide
    have hitem : ItemR ts 0 ⟨p, acc, varsS acc⟩ (.ok ⟨p + ((tailK a).length + 3), acc ++ [a], varsS (acc ++ [a])⟩) := by
      have := ItemR.atom (ts := ts) (d := 0) (st := ⟨p, acc, varsS acc⟩) hk4 hk44
      rw [hat, ← hvs, show p + 1 + ((tailK a).length + 2) = p + ((tailK a).length + 3) by omega] at this
      exact this
    have hd2 : ts.drop (p + ((tailK a).length + 3)) = r' := by
      have := drop_app (l := atomK a) (r := r') (p := p) (ts := ts) (by rw [hr']; simp [atomK])
      rwa [atomK_len] at this
    cases l with
    | nil =>
      refine ItemsR.last ?_ (.inr ?_)
      · have e : p + (sepK ([a].map atomK)).length = p + ((tailK a).length + 3) := by simp [sepK, atomK_len]
        rw [e]
        exact hitem
      · show kindAt ts (p + (sepK ([a].map atomK)).length) ≠ 6
        have e : p + (sepK ([a].map atomK)).length = p + ((tailK a).length + 3) := by simp [sepK, atomK_len]
        rw [e, kind_next, hd2, hsp]
        exact hn6
    | cons b l =>
      have hd2 : ts.drop (p + ((tailK a).length + 3)) = sg 6 :: (sepK ((b :: l).map atomK) ++ r) := by rw [hd2, hsp]; rfl
      have hk6 : kindAt ts (p + ((tailK a).length + 3)) = 6 := kindS_at hd2 (sg_check s6)
      have hne40 : (acc ++ [a]).length ≠ 40 := by
        have := congrArg List.length e1
        simp at h40 ⊢
        omega
      have ih := ih (p + ((tailK a).length + 3) + 1) (acc ++ [a]) (by simp) (drop_one hd2) (fun x hx => hb x (List.mem_cons_of_mem _ hx)) (by rw [← e1]; exact h40) (by rw [← e1]; exact h6) (by rw [← e1]; exact h32)
      rw [← e1] at ih
      have e : p + (sepK ((a :: b :: l).map atomK)).length = p + ((tailK a).length + 3) + 1 + (sepK ((b :: l).map atomK)).length := by
        simp only [List.map_cons, sepK, List.length_append, List.length_cons, atomK_len]
        omega
      rw [e]
      exact ItemsR.more hitem (by
        rintro (h | h)
        · exact hne40 h
        · exact h hk6) ih
end Go.Proofs.YthoneahamnmjlaaGreatDoor
