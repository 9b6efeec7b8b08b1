/- What may be, what is a number, and reading on: plain. -/
import Derived.Test.YtngnplghjaojhaaGp08
import Derived.Test.YtngnplghjaojhaaGp03
import Derived.Test.YtngnplghjaojhaaGp05
import Derived.Test.YtngnplghjaojhaaGp01
import Derived.Test.YtngnplghjaojhaaGp02
namespace Go.Proofs.Ytngnplghjaojhaa
set_option maxRecDepth 100000
set_option maxHeartbeats 2000000
set_option linter.unusedSimpArgs false
set_option linter.unusedVariables false

/-- A token that may be. -/
inductive TokIs : Int → List UInt8 → Prop
  | word {l : List UInt8} (h : allB letterC 1 32 l = true) : TokIs 1 l
  | key {l : List UInt8} (h : allB letterC 1 32 l = true) : TokIs 2 l
  | text {l : List UInt8} (h : allB quotedC 0 40 l = true) : TokIs 3 l
  | sign {k : Int} {x : List UInt8} (h : (k, x) ∈ signs) : TokIs k []
theorem TokIs.of_right {k : Int} {l : List UInt8} {a : Int} (h : rightB k l a = true) : TokIs k l ∧ 0 ≤ a := by
  unfold rightB at h
  by_cases ha : a < 0
  · rw [if_pos ha] at h; cases h
  rw [if_neg ha] at h
  by_cases h1 : k = 1 ∨ k = 2
  · rw [if_pos h1] at h
    rcases h1 with rfl | rfl
    · exact ⟨.word h, by omega⟩
    · exact ⟨.key h, by omega⟩
  rw [if_neg h1] at h
  by_cases h3 : k = 3
  · rw [if_pos h3] at h; subst h3; exact ⟨.text h, by omega⟩
  rw [if_neg h3] at h
  obtain ⟨h4, h5, rfl⟩ := of_decide_eq_true h
  obtain ⟨x, hx, _⟩ := sign_in h4 h5
  exact ⟨.sign hx, by omega⟩
theorem TokIs.right {k : Int} {l : List UInt8} {a : Int} (h : TokIs k l) (ha : 0 ≤ a) : rightB k l a = true := by
  unfold rightB
  rw [if_neg (by omega)]
  cases h with
  | word h => rw [if_pos (.inl rfl)]; exact h
  | key h => rw [if_pos (.inr rfl)]; exact h
  | text h => rw [if_neg (by omega), if_pos rfl]; exact h
  | sign h =>
    have hk : ∀ x ∈ signs, 4 ≤ x.1 ∧ x.1 ≤ 11 := by decide
    have hk := hk _ h
    dsimp only at hk
    rw [if_neg (by omega), if_neg (by omega)]
    exact decide_eq_true ⟨hk.1, hk.2, rfl⟩
/-- What stands behind a token: nothing, or a blank. -/
def Stop (r : List UInt8) : Prop := r = [] ∨ ∃ c y, r = c :: y ∧ blankC c.toNat = true
theorem Stop.letter {r : List UInt8} (h : Stop r) : spanL letterC r = 0 := by
  rcases h with rfl | ⟨c, y, rfl, hc⟩
  · rfl
  · have := of_decide_eq_true hc
    exact spanL_no (decide_eq_false (by omega))
theorem TokIs.begins {k : Int} {l : List UInt8} (h : TokIs k l) {r : List UInt8} (hr : Stop r) : BegIs (standsL k l ++ r) k l (standsL k l).length := by
  cases h with
  | word h =>
    obtain ⟨h1, h2, h3⟩ := allB_iff.1 h
    have e := all_prefix (b := r) h1
    rw [hr.letter, Nat.add_zero] at e
    have := BegIs.word (l := l ++ r) (by omega) (by omega)
    rw [e, List.take_left] at this
    exact this
  | key h =>
    obtain ⟨h1, h2, h3⟩ := allB_iff.1 h
    have e := all_prefix (b := r) h1
    rw [hr.letter, Nat.add_zero] at e
    have := BegIs.key (r := l ++ r) (by omega) (by omega)
    rw [e, List.take_left] at this
    exact this
  | text h =>
    obtain ⟨h1, h2, h3⟩ := allB_iff.1 h
    have e := all_prefix (b := 34 :: r) h1
    rw [spanL_no (by decide), Nat.add_zero] at e
    have := BegIs.text (r := l ++ 34 :: r) (by omega) (by rw [e, List.getElem?_append_right (Nat.le_refl _), Nat.sub_self]; rfl)
    rw [e, List.take_left] at this
    have e2 : standsL 3 l ++ r = 34 :: (l ++ 34 :: r) := by
      show (34 :: (l ++ [34])) ++ r = _
      simp
    rw [e2]
    have e3 : (standsL 3 l).length = l.length + 2 := by
      show (34 :: (l ++ [34])).length = _
      simp
    rw [e3]; exact this
  | sign h => rw [standsL_sign h]; exact .sign h
theorem BegIs.tok {s : List UInt8} {k : Int} {l : List UInt8} {n : Nat} (h : BegIs s k l n) : TokIs k l := by
  cases h with
  | word h1 h2 =>
    have := spanL_le letterC s
    exact .word (allB_iff.2 ⟨by rw [spanL_take, List.length_take]; omega, by rw [List.length_take]; omega, by rw [List.length_take]; omega⟩)
  | @key r h1 h2 =>
    have := spanL_le letterC r
    exact .key (allB_iff.2 ⟨by rw [spanL_take, List.length_take]; omega, by rw [List.length_take]; omega, by rw [List.length_take]; omega⟩)
  | @text r h1 h2 =>
    have := spanL_le quotedC r
    exact .text (allB_iff.2 ⟨by rw [spanL_take, List.length_take]; omega, by rw [List.length_take]; omega, by rw [List.length_take]; omega⟩)
  | sign h => exact .sign h
theorem checkB_iff {k : Int} {l : List UInt8} {a : Int} : checkB k l a = true ↔ TokIs k l ∧ 0 ≤ a := by
  unfold checkB
  constructor
  · intro h
    simp only [Bool.and_eq_true, decide_eq_true_eq] at h
    obtain ⟨⟨⟨⟨h1, h2⟩, h3⟩, h4⟩, h5⟩ := h
    have := (begL_is (Nat.pos_of_ne_zero h1)).tok
    rw [h3, h4] at this
    exact ⟨this, h5⟩
  · rintro ⟨h, ha⟩
    have hb := h.begins (r := []) (.inl rfl)
    rw [List.append_nil] at hb
    have hp := hb.pos
    rw [begL_of hb]
    simp [ha]
    intro h0; rw [h0] at hp; simp at hp
theorem right_check (k : Int) (l : List UInt8) (a : Int) : rightB k l a = checkB k l a := by
  rw [Bool.eq_iff_iff, checkB_iff]
  exact ⟨TokIs.of_right, fun h => h.1.right h.2⟩

/-! Numbers. -/
theorem numL_numD (l : List UInt8) : ∀ n : Int, 0 ≤ n → n < 2147483648 → numL n l = match numD n l with | some m => if 2147483647 < m then none else some m | none => none := by
  induction l with
  | nil => intro n h0 h1; show some n = if 2147483647 < n then none else some n; rw [if_neg (by omega)]
  | cons c l ih =>
    intro n h0 h1
    by_cases hd : 48 ≤ c.toNat ∧ c.toNat ≤ 57
    · rw [numD_yes hd]
      by_cases hb : 10 * n + (c.toNat - 48 : Nat) < 2147483648
      · rw [numL_yes ⟨hd.1, hd.2, hb⟩, ih _ (by omega) hb]
      · rw [numL_no (fun h => hb h.2.2)]
        have hgrow : ∀ (l : List UInt8) (m : Int), 2147483648 ≤ m → ∀ x, numD m l = some x → 2147483648 ≤ x := fun l => by
          induction l with
          | nil => intro m hm x hx; cases hx; exact hm
          | cons c l ih =>
            intro m hm x hx
            by_cases hd : 48 ≤ c.toNat ∧ c.toNat ≤ 57
            · rw [numD_yes hd] at hx; exact ih _ (by omega) x hx
            · rw [numD_no hd] at hx; cases hx
        cases hx : numD (10 * n + (c.toNat - 48 : Nat)) l with
        | none => rfl
        | some x =>
          have := hgrow l _ (by omega) x hx
          show none = if 2147483647 < x then none else some x
          rw [if_pos (by omega)]
    · rw [numD_no hd, numL_no (fun h => hd ⟨h.1, h.2.1⟩)]
theorem numD_long (l : List UInt8) : ∀ (n : Int), 0 ≤ n → ∀ x, numD n l = some x → n * 10 ^ l.length ≤ x := by
  induction l with
  | nil => intro n h0 x hx; cases hx; simp
  | cons c l ih =>
    intro n h0 x hx
    by_cases hd : 48 ≤ c.toNat ∧ c.toNat ≤ 57
    · rw [numD_yes hd] at hx
      have := ih _ (by omega) x hx
      refine Int.le_trans ?_ this
      rw [List.length_cons, Int.pow_succ, Int.mul_comm (10 ^ l.length) 10, ← Int.mul_assoc]
      exact Int.mul_le_mul_of_nonneg_right (by omega) (Int.pow_nonneg (by omega))
    · rw [numD_no hd] at hx; cases hx
theorem number_ref (k : Int) (l : List UInt8) : numR k l = match numberF k l with | some n => n | none => -1 := by
  by_cases h1 : k = 1
  case neg =>
    have e1 : numberF k l = none := by unfold numberF; rw [if_pos (.inl h1)]
    rw [e1]; unfold numR; rw [if_pos (.inl h1)]
  by_cases h2 : l = []
  · have e1 : numberF k l = none := by unfold numberF; rw [if_pos (.inr (.inl h2))]
    rw [e1]; unfold numR; rw [if_pos (.inr (.inl h2))]
  have hcap : ∀ l : List UInt8, (match numL 0 l with | some n => n | none => -1) = capD (numD 0 l) := fun l => by
    rw [numL_numD l 0 (by omega) (by omega)]
    cases numD 0 l with
    | none => rfl
    | some x =>
      unfold capD
      dsimp only
      by_cases h : 2147483647 < x
      · rw [if_pos h, if_pos h]
      · rw [if_neg h, if_neg h]
  by_cases h3 : l.head? = some 48 ∧ l ≠ [48]
  · have e1 : numberF k l = none := by unfold numberF; rw [if_pos (.inr (.inr h3))]
    rw [e1]
    cases l with
    | nil => exact absurd rfl h2
    | cons c r =>
      cases r with
      | nil => obtain ⟨a, b⟩ := h3; simp at a; subst a; exact absurd rfl b
      | cons d r => unfold numR; rw [if_pos (.inr (.inr (.inr ⟨by simp, h3.1⟩)))]
  · have e1 : numberF k l = numL 0 l := by unfold numberF; rw [if_neg (by rintro (h | h | h); exact h h1; exact h2 h; exact h3 h)]
    rw [e1, hcap]
    by_cases h10 : 10 < l.length
    · unfold numR
      rw [if_pos (.inr (.inr (.inl h10)))]
      cases l with
      | nil => exact absurd rfl h2
      | cons c r =>
        have hc48 : c.toNat ≠ 48 := fun e => by
          refine h3 ⟨by simp; exact UInt8.toNat_inj.1 e, fun e' => ?_⟩
          rw [e'] at h10; simp at h10
        unfold capD
        by_cases hd : 48 ≤ c.toNat ∧ c.toNat ≤ 57
        · rw [numD_yes hd]
          cases hx : numD (10 * 0 + (c.toNat - 48 : Nat)) r with
          | none => rfl
          | some x =>
            have h4 := numD_long r _ (by omega) x hx
            have h5 : (10000000000 : Int) ≤ 10 ^ r.length := by
              have : 10 ≤ r.length := by simp at h10; omega
              have h6 : (10 : Int) ^ r.length = 10 ^ 10 * 10 ^ (r.length - 10) := by rw [← Int.pow_add]; congr 1; omega
              have h7 : (0 : Int) < 10 ^ (r.length - 10) := Int.pow_pos (by omega)
              rw [h6]; show 10000000000 ≤ 10000000000 * _; omega
            have h8 : 1 * 10 ^ r.length ≤ (10 * 0 + (c.toNat - 48 : Nat) : Int) * 10 ^ r.length := Int.mul_le_mul_of_nonneg_right (by omega) (by omega)
            dsimp only
            rw [if_pos (by omega)]
        · rw [numD_no hd]
    · unfold numR
      rw [if_neg]
      rintro (h | h | h | h)
      · exact h h1
      · exact h2 h
      · exact h10 h
      · refine h3 ⟨h.2, fun e => ?_⟩
        rw [e] at h; simp at h
end Go.Proofs.Ytngnplghjaojhaa

/- Reading what was laid: plain. -/
namespace Go.Proofs.Ytngnplghjaojhaa
set_option maxRecDepth 100000
set_option maxHeartbeats 2000000
set_option linter.unusedSimpArgs false
set_option linter.unusedVariables false

def kt (l : List Tk) : List (Int × ByteArray) := l.map fun t => (t.kind, t.text)
/-- What is read may be, and stands where it stood. -/
theorem yieldsF_check (s : List UInt8) : ∀ (f p : Nat), (∀ t ∈ yieldsF s f p, t.kind ≠ 0) → ∀ t ∈ yieldsF s f p, t.check = true ∧ t.text.size ≤ s.length
  | 0, p, _, t, h => by simp [yieldsF] at h
  | f + 1, p, hk, t, h => by
    unfold yieldsF at h hk
    by_cases hp : p < s.length
    · rw [if_pos hp] at h hk
      have hn : (begL (s.drop p)).2.2 ≠ 0 := fun e => hk _ List.mem_cons_self (begL_kind0 e)
      rw [if_neg hn] at h hk
      have hb := begL_is (Nat.pos_of_ne_zero hn)
      rcases List.mem_cons.1 h with rfl | h
      · refine ⟨?_, ?_⟩
        · unfold Tk.check
          dsimp only
          rw [bts_txt]
          exact checkB_iff.2 ⟨hb.tok, by omega⟩
        · dsimp only
          rw [txt_size]
          obtain ⟨h1, h2, h3⟩ := hb.stands
          have : (begL (s.drop p)).2.1.length ≤ (standsL (begL (s.drop p)).1 (begL (s.drop p)).2.1).length := by
            generalize (begL (s.drop p)).1 = k at *
            generalize (begL (s.drop p)).2.1 = l at *
            unfold standsL
            by_cases h1 : k = 1
            · rw [if_pos h1]; omega
            rw [if_neg h1]
            by_cases h2 : k = 2
            · rw [if_pos h2]; simp
            rw [if_neg h2]
            by_cases h3 : k = 3
            · rw [if_pos h3]; simp; omega
            · have htok := hb.tok
              cases htok with
              | word => exact absurd rfl h1
              | key => exact absurd rfl h2
              | text => exact absurd rfl h3
              | sign => simp
          rw [List.length_drop] at h3; omega
      · exact yieldsF_check s f _ (fun x hx => hk x (List.mem_cons_of_mem _ hx)) t h
    · rw [if_neg hp] at h; simp at h
/-- What Read tells of a text. -/
theorem readF_cases (s : List UInt8) : (500 < s.length ∧ readF s = ([], 500, 3)) ∨ (s.length ≤ 500 ∧ ∃ p : Int, 0 ≤ p ∧ p < s.length ∧ readF s = ([], p, 250)) ∨
    (s.length ≤ 500 ∧ ∃ l, readF s = (l, (s.length : Int), 0) ∧ l = yields s ∧ (∀ t ∈ l, t.kind ≠ 0) ∧ ∀ t ∈ l, t.check = true ∧ t.text.size ≤ s.length) := by
  by_cases h5 : 500 < s.length
  · exact .inl ⟨h5, by unfold readF; rw [if_pos h5]⟩
  refine .inr ?_
  cases hf : (yields s).find? (fun t => decide (t.kind = 0)) with
  | some t =>
    have hm := List.mem_of_find?_eq_some hf
    have ha := yields_at hm
    exact .inl ⟨by omega, t.at_, ha.1, ha.2, by unfold readF; rw [if_neg h5, hf]⟩
  | none =>
    have hk : ∀ t ∈ yields s, t.kind ≠ 0 := fun t ht => by have := List.find?_eq_none.1 hf t ht; simpa using this
    exact .inr ⟨by omega, yields s, readF_good (by omega) hk, rfl, hk, yieldsF_check s _ _ hk⟩
end Go.Proofs.Ytngnplghjaojhaa

/- What a pattern's tokens come to: plain, no program in sight. -/
namespace Go.Proofs.Ytngnplghjaojhaa
set_option maxRecDepth 100000
set_option maxHeartbeats 2000000
set_option linter.unusedSimpArgs false
set_option linter.unusedVariables false

/-- An atom. -/
structure Atm where
  kind : Int
  fk : Bool
  fn : ByteArray
  name : ByteArray
  value : ByteArray
  tk : Bool
  tn : ByteArray
deriving DecidableEq
/-- A pattern. -/
structure Pat where
  atoms : List Atm
  ret : List ByteArray
  count : Bool
  distinct : Bool
  limited : Bool
  limit : Int
  offset : Int
  hint : List ByteArray
def noPat : Pat := ⟨[], [], false, false, false, 0, 0, []⟩
def nilB : ByteArray := ⟨#[]⟩
/-- The token's kind where one is; 0: there is none, or it may not be. -/
def kindAt (ts : List Tk) (p : Nat) : Int := match ts[p]? with
  | none => 0
  | some t => if t.check then t.kind else 0
def tkNil : Tk := ⟨0, nilB, 0⟩
def textAt (ts : List Tk) (p : Nat) : ByteArray := (ts.getD p tkNil).text
theorem kindAt_lt {ts : List Tk} {p : Nat} (h : kindAt ts p ≠ 0) : p < ts.length := by
  unfold kindAt at h
  split at h
  · exact absurd rfl h
  · rename_i t ht
    exact (List.getElem?_eq_some_iff.1 ht).1
/-- Behind some tokens: where, and what has been read. -/
structure PS where
  p : Nat
  atoms : List Atm
  vars : List ByteArray
/-- Is a text among others? -/
def hasB (s : ByteArray) (l : List ByteArray) : Bool := l.any fun x => decide (x = s)
theorem hasB_iff {s : ByteArray} {l : List ByteArray} : hasB s l = true ↔ s ∈ l := by
  unfold hasB
  simp
theorem hasB_no {s : ByteArray} {l : List ByteArray} : hasB s l = false ↔ s ∉ l := by
  rw [← hasB_iff]
  cases hasB s l <;> simp
def takeP (ts : List Tk) (k : Int) (p : Nat) : Except Nat (ByteArray × Nat) := if kindAt ts p = k then .ok (textAt ts p, p + 1) else .error p
/-- A term: whether it is a key, and its name; the variables with it; the place behind. -/
def termP (ts : List Tk) (vars : List ByteArray) (p : Nat) : Except Nat ((Bool × ByteArray) × List ByteArray × Nat) :=
  if kindAt ts p = 2 then .ok ((true, textAt ts p), vars, p + 1)
  else if kindAt ts p = 1 then
    (if hasB (textAt ts p) vars = true then .ok ((false, textAt ts p), vars, p + 1)
     else if vars.length = 32 then .error p
     else .ok ((false, textAt ts p), vars ++ [textAt ts p], p + 1))
  else .error p
def edgesOf (l : List Atm) : Nat := (l.filter fun a => decide (a.kind = 4)).length
/-- What stands behind an atom's first term: the kind, the name, the value, and the place behind. -/
def midP (ts : List Tk) (p : Nat) : Except Nat (Int × ByteArray × ByteArray × Nat) :=
  if kindAt ts p = 7 then (takeP ts 1 (p + 1)).bind fun (s, p) => .ok (2, s, nilB, p)
  else if kindAt ts p = 8 then (takeP ts 1 (p + 1)).bind fun (s, p) => (takeP ts 9 p).bind fun (_, p) => (takeP ts 3 p).bind fun (v, p) => .ok (3, s, v, p)
  else .ok (1, nilB, nilB, p)
/-- An atom, of which the first token is taken. -/
def atomP (ts : List Tk) (st : PS) : Except Nat PS :=
  (termP ts st.vars st.p).bind fun (f, vars, p) => (midP ts p).bind fun (k, s, v, p) => (takeP ts 5 p).bind fun (_, p) =>
    if k = 1 ∧ kindAt ts p = 10 then
      (if edgesOf st.atoms = 6 then .error p
       else (takeP ts 1 (p + 1)).bind fun (s, p) => (takeP ts 11 p).bind fun (_, p) => (takeP ts 4 p).bind fun (_, p) => (termP ts vars p).bind fun (t, vars, p) => (takeP ts 5 p).bind fun (_, p) =>
        .ok ⟨p, st.atoms ++ [⟨4, f.1, f.2, s, nilB, t.1, t.2⟩], vars⟩)
    else .ok ⟨p, st.atoms ++ [⟨k, f.1, f.2, s, v, false, nilB⟩], vars⟩
/-- Items; none: the fuel is out. -/
def itemsF (ts : List Tk) : Nat → Nat → PS → Option (Except Nat PS)
  | 0, _, _ => none
  | f + 1, d, st =>
    let one : Option (Except Nat PS) := if kindAt ts st.p = 4 then
        (if kindAt ts (st.p + 1) = 4 then
          (if d = 4 then some (.error (st.p + 1))
           else match itemsF ts f (d + 1) ⟨st.p + 1, st.atoms, st.vars⟩ with
            | none => none
            | some (.error q) => some (.error q)
            | some (.ok s) => some ((takeP ts 5 s.p).bind fun (_, p) => .ok ⟨p, s.atoms, s.vars⟩))
         else some (atomP ts ⟨st.p + 1, st.atoms, st.vars⟩))
      else some (.error st.p)
    match one with
    | none => none
    | some (.error q) => some (.error q)
    | some (.ok s) => if s.atoms.length = 40 ∨ kindAt ts s.p ≠ 6 then some (.ok s) else itemsF ts f d ⟨s.p + 1, s.atoms, s.vars⟩
theorem itemsF_mono (ts : List Tk) : ∀ (f d : Nat) (st : PS) (r : Except Nat PS), itemsF ts f d st = some r → itemsF ts (f + 1) d st = some r
  | 0, _, _, _, h => by simp [itemsF] at h
  | f + 1, d, st, r, h => by
    have ih := itemsF_mono ts f
    unfold itemsF at h ⊢
    by_cases h4 : kindAt ts st.p = 4
    · by_cases h44 : kindAt ts (st.p + 1) = 4
      · by_cases hd : d = 4
        · simpa [h4, h44, hd] using h
        · simp only [h4, h44, hd, if_true, if_false] at h ⊢
          cases hi : itemsF ts f (d + 1) ⟨st.p + 1, st.atoms, st.vars⟩ with
          | none => rw [hi] at h; simp at h
          | some x =>
            rw [ih _ _ _ hi]
            rw [hi] at h
            cases x with
            | error q => exact h
            | ok s =>
              cases hb : ((takeP ts 5 s.p).bind fun (_, p) => (.ok ⟨p, s.atoms, s.vars⟩ : Except Nat PS)) with
              | error q => simp only [hb] at h ⊢; exact h
              | ok s' =>
                simp only [hb] at h ⊢
                split at h
                · rename_i hs; rw [if_pos hs]; exact h
                · rename_i hs; rw [if_neg hs]; exact ih _ _ _ h
      · simp only [h4, h44, if_true, if_false] at h ⊢
        cases ha : atomP ts ⟨st.p + 1, st.atoms, st.vars⟩ with
        | error q => simp only [ha] at h ⊢; exact h
        | ok s' =>
          simp only [ha] at h ⊢
          split at h
          · rename_i hs; rw [if_pos hs]; exact h
          · rename_i hs; rw [if_neg hs]; exact ih _ _ _ h
    · simpa [h4] using h
theorem itemsF_le {ts : List Tk} {f g d : Nat} {st : PS} {r : Except Nat PS} (h : itemsF ts f d st = some r) (hg : f ≤ g) : itemsF ts g d st = some r := by
  obtain ⟨k, rfl⟩ := Nat.le.dest hg
  induction k with
  | zero => exact h
  | succ k ih => exact itemsF_mono ts _ _ _ _ (ih (by omega))
/-- Items at a depth come to this. -/
def ItemsR (ts : List Tk) (d : Nat) (st : PS) (r : Except Nat PS) : Prop := ∃ f, itemsF ts f d st = some r
theorem ItemsR.same {ts : List Tk} {d : Nat} {st : PS} {r r' : Except Nat PS} (h : ItemsR ts d st r) (h' : ItemsR ts d st r') : r = r' := by
  obtain ⟨f, h⟩ := h
  obtain ⟨g, h'⟩ := h'
  have a := itemsF_le h (Nat.le_max_left f g)
  have b := itemsF_le h' (Nat.le_max_right f g)
  rw [a] at b
  exact Option.some.inj b
/-- One item at a depth comes to this. -/
inductive ItemR (ts : List Tk) (d : Nat) (st : PS) : Except Nat PS → Prop
  | no (h : kindAt ts st.p ≠ 4) : ItemR ts d st (.error st.p)
  | atom (h : kindAt ts st.p = 4) (h' : kindAt ts (st.p + 1) ≠ 4) : ItemR ts d st (atomP ts ⟨st.p + 1, st.atoms, st.vars⟩)
  | deep (h : kindAt ts st.p = 4) (h' : kindAt ts (st.p + 1) = 4) (hd : d = 4) : ItemR ts d st (.error (st.p + 1))
  | bad (h : kindAt ts st.p = 4) (h' : kindAt ts (st.p + 1) = 4) (hd : d ≠ 4) {q : Nat} (hi : ItemsR ts (d + 1) ⟨st.p + 1, st.atoms, st.vars⟩ (.error q)) : ItemR ts d st (.error q)
  | group (h : kindAt ts st.p = 4) (h' : kindAt ts (st.p + 1) = 4) (hd : d ≠ 4) {s : PS} (hi : ItemsR ts (d + 1) ⟨st.p + 1, st.atoms, st.vars⟩ (.ok s)) : ItemR ts d st ((takeP ts 5 s.p).bind fun (_, p) => .ok ⟨p, s.atoms, s.vars⟩)
def contF (ts : List Tk) (g d : Nat) : Except Nat PS → Option (Except Nat PS)
  | .error q => some (.error q)
  | .ok s => if s.atoms.length = 40 ∨ kindAt ts s.p ≠ 6 then some (.ok s) else itemsF ts g d ⟨s.p + 1, s.atoms, s.vars⟩
theorem ItemR.one {ts : List Tk} {d : Nat} {st : PS} {r : Except Nat PS} (h : ItemR ts d st r) : ∃ f, ∀ g, f ≤ g → itemsF ts (g + 1) d st = contF ts g d r := by
  cases h with
  | no h => exact ⟨0, fun g _ => by unfold itemsF contF; simp only [h, if_false]⟩
  | atom h h' => exact ⟨0, fun g _ => by
      unfold itemsF contF; simp only [h, h', if_true, if_false]
      cases atomP ts ⟨st.p + 1, st.atoms, st.vars⟩ <;> simp only []⟩
  | deep h h' hd => exact ⟨0, fun g _ => by unfold itemsF contF; simp only [h, h', hd, if_true]⟩
  | bad h h' hd hi =>
    obtain ⟨f, hf⟩ := hi
    exact ⟨f, fun g hg => by unfold itemsF contF; simp only [h, h', hd, if_true, if_false, itemsF_le hf hg]⟩
  | @group h h' hd s hi =>
    obtain ⟨f, hf⟩ := hi
    exact ⟨f, fun g hg => by
      unfold itemsF contF; simp only [h, h', hd, if_true, if_false, itemsF_le hf hg]
      cases ((takeP ts 5 s.p).bind fun (_, p) => (.ok ⟨p, s.atoms, s.vars⟩ : Except Nat PS)) <;> simp only []⟩
theorem ItemsR.bad {ts : List Tk} {d : Nat} {st : PS} {q : Nat} (h : ItemR ts d st (.error q)) : ItemsR ts d st (.error q) := by
  obtain ⟨f, hf⟩ := h.one
  exact ⟨f + 1, hf f (Nat.le_refl _)⟩
theorem ItemsR.last {ts : List Tk} {d : Nat} {st s : PS} (h : ItemR ts d st (.ok s)) (hs : s.atoms.length = 40 ∨ kindAt ts s.p ≠ 6) : ItemsR ts d st (.ok s) := by
  obtain ⟨f, hf⟩ := h.one
  have h1 := hf f (Nat.le_refl _)
  unfold contF at h1
  simp only at h1
  rw [if_pos hs] at h1
  exact ⟨f + 1, h1⟩
theorem ItemsR.more {ts : List Tk} {d : Nat} {st s : PS} {r : Except Nat PS} (h : ItemR ts d st (.ok s)) (hs : ¬ (s.atoms.length = 40 ∨ kindAt ts s.p ≠ 6)) (h2 : ItemsR ts d ⟨s.p + 1, s.atoms, s.vars⟩ r) : ItemsR ts d st r := by
  obtain ⟨f, hf⟩ := h.one
  obtain ⟨g, hg⟩ := h2
  have h1 := hf (max f g) (Nat.le_max_left _ _)
  unfold contF at h1
  simp only at h1
  rw [if_neg hs, itemsF_le hg (Nat.le_max_right _ _)] at h1
  exact ⟨_, h1⟩
/-- What is told: the pattern, and the place behind. -/
def varP (ts : List Tk) (vars some_ : List ByteArray) (p : Nat) : Except Nat (List ByteArray × Nat) :=
  (takeP ts 1 p).bind fun (s, p') => if hasB s vars = false ∨ hasB s some_ = true then .error p else .ok (some_ ++ [s], p')
/-- The variables behind 'return': k more may follow. -/
def retP (ts : List Tk) (vars : List ByteArray) : Nat → List ByteArray → Nat → Except Nat (List ByteArray × Nat)
  | 0, acc, p => .ok (acc, p)
  | k + 1, acc, p => (varP ts vars acc p).bind fun (acc, p) => if k ≠ 0 ∧ kindAt ts p = 6 then retP ts vars k acc (p + 1) else .ok (acc, p)
def hintP (ts : List Tk) (vars : List ByteArray) : Nat → List ByteArray → Nat → Except Nat (List ByteArray × Nat)
  | 0, acc, p => .ok (acc, p)
  | k + 1, acc, p => (varP ts vars acc p).bind fun (acc, p) => hintP ts vars k acc p
def numP (ts : List Tk) (p : Nat) : Except Nat (Int × Nat) :=
  (takeP ts 1 p).bind fun (_, p') => match (ts.getD p tkNil).number with
    | none => .error p
    | some n => .ok (n, p')
def saysP (ts : List Tk) (s : ByteArray) (p : Nat) : Bool := decide (kindAt ts p = 1) && decide (textAt ts p = s)
def wReturn : ByteArray := ⟨#[114, 101, 116, 117, 114, 110]⟩
def wCount : ByteArray := ⟨#[99, 111, 117, 110, 116]⟩
def wDistinct : ByteArray := ⟨#[100, 105, 115, 116, 105, 110, 99, 116]⟩
def wLimit : ByteArray := ⟨#[108, 105, 109, 105, 116]⟩
def wOffset : ByteArray := ⟨#[111, 102, 102, 115, 101, 116]⟩
def wHint : ByteArray := ⟨#[104, 105, 110, 116]⟩
/-- What of it stands behind 'return'. -/
def toldRet (ts : List Tk) (vars : List ByteArray) (p : Nat) : Except Nat (List ByteArray × Nat) :=
  if vars ≠ [] ∧ saysP ts wReturn p = true then retP ts vars vars.length [] (p + 1) else .ok ([], p)
/-- Whether it is counted, without duplicates, limited, by how many, from which on. -/
def toldPage (ts : List Tk) (p : Nat) : Except Nat ((Bool × Bool × Bool × Int × Int) × Nat) :=
  if saysP ts wCount p = true then (if saysP ts wDistinct (p + 1) = true then .ok ((true, true, false, 0, 0), p + 2) else .ok ((true, false, false, 0, 0), p + 1))
  else (if saysP ts wLimit p = true then (numP ts (p + 1)).bind fun (n, p) => .ok (true, n, p) else .ok (false, 0, p)).bind fun (l, n, p) =>
    (if saysP ts wOffset p = true then (numP ts (p + 1)).bind fun (m, p) => .ok (m, p) else .ok (0, p)).bind fun (m, p) => .ok ((false, false, l, n, m), p)
def toldHint (ts : List Tk) (vars : List ByteArray) (p : Nat) : Except Nat (List ByteArray × Nat) :=
  if vars ≠ [] ∧ saysP ts wHint p = true then hintP ts vars vars.length [] (p + 1) else .ok ([], p)
def toldP (ts : List Tk) (st : PS) : Except Nat (Pat × Nat) :=
  (toldRet ts st.vars st.p).bind fun (r, p) => (toldPage ts p).bind fun (g, p) => (toldHint ts st.vars p).bind fun (h, p) =>
    .ok (⟨st.atoms, r, g.1, g.2.1, g.2.2.1, g.2.2.2.1, g.2.2.2.2, h⟩, p)
/-- The pattern of tokens, or the place of the first wrong one. -/
def ToksR (ts : List Tk) (r : Except Nat Pat) : Prop := ∃ x, ItemsR ts 0 ⟨0, [], []⟩ x ∧ r = x.bind fun st => (toldP ts st).bind fun (P, p) => if p < ts.length then .error p else .ok P
theorem ToksR.same {ts : List Tk} {r r' : Except Nat Pat} (h : ToksR ts r) (h' : ToksR ts r') : r = r' := by
  obtain ⟨x, h1, rfl⟩ := h
  obtain ⟨y, h2, rfl⟩ := h'
  rw [h1.same h2]
end Go.Proofs.Ytngnplghjaojhaa

/- The reader in memory; one token. -/
namespace Go.Proofs.Ytngnplghjaojhaa
set_option maxRecDepth 100000
set_option maxHeartbeats 2000000
set_option linter.unusedSimpArgs false
open Go.RowKit Go.Shelf Go.Sort
attribute [local go_sem] Oper.semAt_some wide_fn wide_depth
set_option linter.unusedVariables false

/-- The reader's cells but for its tokens and its place. -/
structure Rc where
  c0 : Value
  c1 : Value
  c2 : Value
  c3 : Value
  c4 : Value
  c5 : Value
  c6 : Value
  c7 : Value
  c10 : Value
  c11 : Value
  c12 : Value
  c13 : Value
def rdRowP (c : Rc) (tv : Value) (p : Int) : List Value := [c.c0, c.c1, c.c2, c.c3, c.c4, c.c5, c.c6, c.c7, tv, .int .i64 p, c.c10, c.c11, c.c12, c.c13]
/-- The reader stands at a token. -/
structure RdT (w0 : World) (ts : List Tk) (tv : Value) (g : Nat) (c : Rc) (p : Nat) (W : World) : Prop where
  ext : Ext w0 W
  toks : Toks w0 tv ts
  lo : w0.heap.size ≤ g
  row : RowAt W g 68 (rdRowP c tv p)
  le : p ≤ ts.length
  szs : ∀ t ∈ ts, t.text.size ≤ 9223372036854775800
theorem RdT.grow {w0 : World} {ts : List Tk} {tv : Value} {g : Nat} {c : Rc} {p : Nat} {W W' : World} (h : RdT w0 ts tv g c p W) (hx : Ext W W') : RdT w0 ts tv g c p W' :=
  ⟨h.ext.trans hx, h.toks, h.lo, h.row.ext hx, h.le, h.szs⟩
theorem RdT.set {w0 : World} {ts : List Tk} {tv : Value} {g : Nat} {c : Rc} {p : Nat} {W : World} (h : RdT w0 ts tv g c p W) {q : Nat} (hq : q ≤ ts.length) : RdT w0 ts tv g c q (W.setCell ⟨g, 9, none⟩ (.int .i64 q)) :=
  ⟨Ext.set_of h.ext h.lo _, h.toks, h.lo, h.row.set 9 _, hq, h.szs⟩
theorem RdT.facts {w0 : World} {ts : List Tk} {tv : Value} {g : Nat} {c : Rc} {p : Nat} {W : World} (h : RdT w0 ts tv g c p W) : W.cell? ⟨g, 8, none⟩ = some tv ∧ W.cell? ⟨g, 9, none⟩ = some (.int .i64 p) ∧ W.frozen? ⟨g, 9, none⟩ = false :=
  ⟨h.row.cell (i := 8) rfl, h.row.cell (i := 9) rfl, h.row.frozen 9⟩
/-- What no pattern says. -/
def wrongE : Ending := .panicked [{ v := .iface 91 (.agg #[]), recovered := false }]
def groK1 : Nat → Gro
  | 3 => .read
  | 7 => .read
  | 14 => .read
  | 18 => .read
  | 20 => .read
  | 21 => .grow
  | _ => .pure
def groK3 : Nat → Gro
  | 3 => .read
  | 7 => .read
  | 10 => .read
  | _ => .pure
theorem kindAt_end {ts : List Tk} {p : Nat} (h : ¬ p < ts.length) : kindAt ts p = 0 := by
  unfold kindAt
  rw [List.getElem?_eq_none (by omega)]
theorem kindAt_at {ts : List Tk} {p : Nat} (h : p < ts.length) : kindAt ts p = if ts[p].check then ts[p].kind else 0 := by
  unfold kindAt
  rw [List.getElem?_eq_getElem h]
set_option maxHeartbeats 1000000 in
theorem kind_any {w0 : World} {ts : List Tk} {tv : Value} {g : Nat} {c : Rc} {p : Nat} {w : World} (h : RdT w0 ts tv g c p w) :
    Calls Try.prog 102 #[.pointer (some ⟨g, 0, none⟩)] w fun e w' => e = .returned (.int .i64 (kindAt ts p)) ∧ Ext w w' := by
  have hmo : Try.prog.follows .mixedOrders = true := by kernel_rfl
  obtain ⟨a, cap, rfl, hcap, hmax⟩ := h.toks.shape
  have H := Lib.hid h
  have hle := h.le
  clear h
  obtain ⟨f8, f9, _⟩ := H.out.facts
  go_enter Try.func102, Try.ntmps102
  go_upto_region 1 with fail
  refine wp_region_gro groK1 [0, 1, 2, 3, 4, 5, 6, 7, 8, 9, 10, 11, 12, 13, 14, 15, 16, 17, 18, 19, 20, 21, 22, 23] hmo (by kernel_rfl) rfl (by kernel_rfl) (fun _ _ _ _ _ h => h) ?_
  have hdr : Ext w w.drew := Ext.drewN w 1
  have HX := Lib.hid hdr
  have HD := Lib.hid (H.out.grow hdr)
  clear hdr f8 f9
  generalize w.drew = w1 at *
  obtain ⟨f8, f9, _⟩ := HD.out.facts
  by_cases hlt : p < ts.length
  · have hk := kindAt_at hlt
    have hne : ((p : Int) == (ts.length : Int)) = false := by simp; omega
    obtain ⟨b, o, rfl, t0, t1, t2⟩ := (Toks.ext HD.out.toks HD.out.ext).at_ hlt
    have hsz := HD.out.szs _ (List.getElem_mem hlt)
    have hck := check_any ts[p] w1 hsz
    generalize ts[p] = t at *
    obtain ⟨tk, tt, ta⟩ := t
    unfold tkV at hck
    dsimp only at t0 t1 t2 hck
    have HK := Lib.hid hk
    clear hk
    cases hc : Tk.check ⟨tk, tt, ta⟩ with
    | false =>
      rw [hc] at hck HK
      unfold checkC at hck
      have HC := Lib.hid hck
      clear hck hc
      repeat (first
        | (refine groL_pure rfl rfl ?_; intro K hK; go_simp; refine hK _ ?_; clear hK K)
        | (refine groL_read rfl rfl ?_; intro K S hS hK; go_simp; refine hK _ ?_; clear hK K hS S)
        | (refine groL_read rfl rfl ?_; intro K S hS hK; go_simp; refine ⟨hS _ ?_, hK _ ?_⟩; (clear hK K hS S; intro w' hx'; have hce := ext_some hx'; go_simp); clear hK K hS S)
        | (refine groL_write rfl rfl ?_; intro K hK; go_simp; refine hK _ _ ?_; clear hK K))
      refine groL_grow rfl rfl ?_
      intro K hK
      go_simp
      (refine HC.out.mono ?_; rintro e w2 ⟨rfl, hx2⟩)
      go_simp
      refine hK _ _ ⟨hx2, ?_⟩
      clear hK K
      repeat (first
        | (refine groL_pure rfl rfl ?_; intro K hK; go_simp; refine hK _ ?_; clear hK K)
        | (refine groL_read rfl rfl ?_; intro K S hS hK; go_simp; refine hK _ ?_; clear hK K hS S)
        | (refine groL_read rfl rfl ?_; intro K S hS hK; go_simp; refine ⟨hS _ ?_, hK _ ?_⟩; (clear hK K hS S; intro w' hx'; have hce := ext_some hx'; go_simp); clear hK K hS S)
        | (refine groL_write rfl rfl ?_; intro K hK; go_simp; refine hK _ _ ?_; clear hK K))
      refine groL_nil ?_
      have HX2 := Lib.hid (HX.out.trans hx2)
      clear hx2 f8 f9 t0 t1 t2
      go_wp2_with fail
      go_ret
      exact ⟨ret_int (by rw [HK.out]; rfl), HX2.out⟩
    | true =>
      rw [hc] at hck HK
      unfold checkC at hck
      have HC := Lib.hid hck
      clear hck hc
      repeat (first
        | (refine groL_pure rfl rfl ?_; intro K hK; go_simp; refine hK _ ?_; clear hK K)
        | (refine groL_read rfl rfl ?_; intro K S hS hK; go_simp; refine hK _ ?_; clear hK K hS S)
        | (refine groL_read rfl rfl ?_; intro K S hS hK; go_simp; refine ⟨hS _ ?_, hK _ ?_⟩; (clear hK K hS S; intro w' hx'; have hce := ext_some hx'; go_simp); clear hK K hS S)
        | (refine groL_write rfl rfl ?_; intro K hK; go_simp; refine hK _ _ ?_; clear hK K))
      refine groL_grow rfl rfl ?_
      intro K hK
      go_simp
      (refine HC.out.mono ?_; rintro e w2 ⟨rfl, hx2⟩)
      go_simp
      refine hK _ _ ⟨hx2, ?_⟩
      clear hK K
      repeat (first
        | (refine groL_pure rfl rfl ?_; intro K hK; go_simp; refine hK _ ?_; clear hK K)
        | (refine groL_read rfl rfl ?_; intro K S hS hK; go_simp; refine hK _ ?_; clear hK K hS S)
        | (refine groL_read rfl rfl ?_; intro K S hS hK; go_simp; refine ⟨hS _ ?_, hK _ ?_⟩; (clear hK K hS S; intro w' hx'; have hce := ext_some hx'; go_simp); clear hK K hS S)
        | (refine groL_write rfl rfl ?_; intro K hK; go_simp; refine hK _ _ ?_; clear hK K))
      refine groL_nil ?_
      have hx3 := hx2.trans (Ext.drewN w2 1)
      have HX3 := Lib.hid (HX.out.trans hx3)
      have HD3 := Lib.hid (HD.out.grow hx3)
      have u0 := ext_cell hx3 t0
      clear f8 f9 t0 t1 t2
      go_upto_region 3 with fail
      refine wp_region_gro groK3 [0, 1, 2, 3, 4, 5, 6, 7, 8, 9, 10, 11] hmo (by kernel_rfl) rfl (by kernel_rfl) (fun _ _ _ _ _ h => h) ?_
      replace HX3 : Hid (Ext w w2.drew) := HX3
      replace HD3 : Hid (RdT w0 ts (.slice (some ⟨b, o, none⟩) ts.length cap) g c p w2.drew) := HD3
      have u0' : w2.drew.cell? ⟨b, o + p * 3, none⟩ = some (.int .i64 tk) := u0
      clear u0 hx2 hx3
      generalize w2.drew = w3 at *
      obtain ⟨f8, f9, _⟩ := HD3.out.facts
      repeat (first
        | (refine groL_pure rfl rfl ?_; intro K hK; go_simp; refine hK _ ?_; clear hK K)
        | (refine groL_read rfl rfl ?_; intro K S hS hK; go_simp; refine hK _ ?_; clear hK K hS S)
        | (refine groL_read rfl rfl ?_; intro K S hS hK; go_simp; refine ⟨hS _ ?_, hK _ ?_⟩; (clear hK K hS S; intro w' hx'; have hce := ext_some hx'; go_simp); clear hK K hS S)
        | (refine groL_write rfl rfl ?_; intro K hK; go_simp; refine hK _ _ ?_; clear hK K))
      refine groL_nil ?_
      clear f8 f9 u0'
      go_wp2_with fail
      go_ret
      exact ⟨ret_int (by rw [HK.out]; rfl), HX3.out⟩
  · have hpe : p = ts.length := by omega
    have hk := kindAt_end hlt
    have HK := Lib.hid hk
    have hne : ((p : Int) == (ts.length : Int)) = true := by simp; omega
    clear hk hpe
    repeat (first
      | (refine groL_pure rfl rfl ?_; intro K hK; go_simp; refine hK _ ?_; clear hK K)
      | (refine groL_read rfl rfl ?_; intro K S hS hK; go_simp; refine hK _ ?_; clear hK K hS S)
      | (refine groL_read rfl rfl ?_; intro K S hS hK; go_simp; refine ⟨hS _ ?_, hK _ ?_⟩; (clear hK K hS S; intro w' hx'; have hce := ext_some hx'; go_simp); clear hK K hS S)
      | (refine groL_write rfl rfl ?_; intro K hK; go_simp; refine hK _ _ ?_; clear hK K))
    refine groL_grow rfl rfl ?_
    intro K hK
    go_simp
    refine hK _ _ ⟨Ext.refl _, ?_⟩
    clear hK K
    repeat (first
      | (refine groL_pure rfl rfl ?_; intro K hK; go_simp; refine hK _ ?_; clear hK K)
      | (refine groL_read rfl rfl ?_; intro K S hS hK; go_simp; refine hK _ ?_; clear hK K hS S)
      | (refine groL_read rfl rfl ?_; intro K S hS hK; go_simp; refine ⟨hS _ ?_, hK _ ?_⟩; (clear hK K hS S; intro w' hx'; have hce := ext_some hx'; go_simp); clear hK K hS S)
      | (refine groL_write rfl rfl ?_; intro K hK; go_simp; refine hK _ _ ?_; clear hK K))
    refine groL_nil ?_
    clear f8 f9
    go_wp2_with fail
    go_ret
    exact ⟨ret_int (by rw [HK.out]), HX.out⟩
end Go.Proofs.Ytngnplghjaojhaa
