/- Tokens of a text: plain, no program in sight. -/
import Derived.Test.YtogoejlbdbapoaaOpenB
namespace Go.Proofs.Ytogoejlbdbapoaa
set_option maxRecDepth 100000
set_option maxHeartbeats 2000000
set_option linter.unusedSimpArgs false
set_option linter.unusedVariables false

/-- A text's bytes. -/
def bts (s : ByteArray) : List UInt8 := s.data.toList
/-- A text of bytes. -/
def txt (l : List UInt8) : ByteArray := ⟨l.toArray⟩
theorem bts_txt (l : List UInt8) : bts (txt l) = l := by simp [bts, txt]
theorem txt_bts (s : ByteArray) : txt (bts s) = s := by cases s; simp [bts, txt]
theorem bts_len (s : ByteArray) : (bts s).length = s.size := by simp [bts]
theorem txt_size (l : List UInt8) : (txt l).size = l.length := by simp [txt, ByteArray.size]
theorem bts_inj {s t : ByteArray} (h : bts s = bts t) : s = t := by rw [← txt_bts s, h, txt_bts]
theorem txt_inj {l m : List UInt8} (h : txt l = txt m) : l = m := by rw [← bts_txt l, h, bts_txt]
theorem bts_extract (s : ByteArray) (a b : Nat) : bts (s.extract a b) = ((bts s).drop a).take (b - a) := by
  unfold bts
  rw [ByteArray.data_extract, Array.toList_extract, List.extract_eq_take_drop]
theorem bts_append (s t : ByteArray) : bts (s ++ t) = bts s ++ bts t := by
  unfold bts
  rw [ByteArray.data_append, Array.toList_append]
theorem extract_txt (s : ByteArray) (a b : Nat) : s.extract a b = txt (((bts s).drop a).take (b - a)) := by rw [← bts_extract, txt_bts]
theorem bts_get (s : ByteArray) (k : Nat) (h : k < s.size) : (bts s)[k]'(by rw [bts_len]; exact h) = s[k] := rfl
theorem bts_drop (s : ByteArray) (k : Nat) (h : k < s.size) : (bts s).drop k = s[k] :: (bts s).drop (k + 1) := by
  rw [List.drop_eq_getElem_cons (by rw [bts_len]; exact h)]; rfl

def letterC (c : Int) : Bool := decide (97 ≤ c ∧ c ≤ 122 ∨ 48 ≤ c ∧ c ≤ 57 ∨ c = 95)
def quotedC (c : Int) : Bool := decide (32 ≤ c ∧ c ≤ 126 ∧ c ≠ 34 ∧ c ≠ 92)
def blankC (c : Int) : Bool := decide (c = 32 ∨ c = 10)

/-- How many bytes hold, from the first on. -/
def spanL (p : Int → Bool) : List UInt8 → Nat
  | [] => 0
  | c :: l => if p c.toNat then spanL p l + 1 else 0
theorem spanL_le (p : Int → Bool) (l : List UInt8) : spanL p l ≤ l.length := by
  induction l with
  | nil => exact Nat.le_refl _
  | cons c l ih => unfold spanL; split <;> simp <;> omega
theorem spanL_yes {p : Int → Bool} {c : UInt8} {l : List UInt8} (h : p c.toNat = true) : spanL p (c :: l) = spanL p l + 1 := by simp [spanL, h]
theorem spanL_no {p : Int → Bool} {c : UInt8} {l : List UInt8} (h : p c.toNat = false) : spanL p (c :: l) = 0 := by simp [spanL, h]
theorem spanL_drop_yes {p : Int → Bool} {s : ByteArray} {k : Nat} (h : k < s.size) (hp : p s[k].toNat = true) : spanL p ((bts s).drop k) = spanL p ((bts s).drop (k + 1)) + 1 := by rw [bts_drop s k h, spanL_yes hp]
theorem spanL_drop_no {p : Int → Bool} {s : ByteArray} {k : Nat} (h : k < s.size) (hp : p s[k].toNat = false) : spanL p ((bts s).drop k) = 0 := by rw [bts_drop s k h, spanL_no hp]
theorem spanL_all (p : Int → Bool) (l : List UInt8) : ∀ c ∈ l.take (spanL p l), p c.toNat = true := by
  induction l with
  | nil => intro c hc; simp at hc
  | cons x l ih =>
    intro c hc
    cases hx : p x.toNat with
    | true => rw [spanL_yes hx, List.take_succ_cons] at hc; rcases List.mem_cons.1 hc with rfl | hc; exact hx; exact ih c hc
    | false => rw [spanL_no hx] at hc; simp at hc
theorem spanL_end (p : Int → Bool) (l : List UInt8) (h : spanL p l < l.length) : p l[spanL p l].toNat = false := by
  induction l with
  | nil => simp at h
  | cons x l ih =>
    cases hx : p x.toNat with
    | true =>
      have := ih (by rw [spanL_yes hx] at h; simpa using h)
      simp only [spanL_yes hx, List.getElem_cons_succ]; exact this
    | false => simp only [spanL_no hx, List.getElem_cons_zero]; exact hx
theorem spanL_append (p : Int → Bool) (a b : List UInt8) (h : ∀ c ∈ a, p c.toNat = true) : spanL p (a ++ b) = a.length + spanL p b := by
  induction a with
  | nil => simp
  | cons x a ih =>
    rw [List.cons_append, spanL_yes (h x (by simp)), ih (fun c hc => h c (List.mem_cons_of_mem _ hc)), List.length_cons]; omega

/-- How long a word is, from the first byte on; 0: none. -/
def wordN (l : List UInt8) : Nat := if 32 < spanL letterC l then 0 else spanL letterC l
theorem wordN_le (l : List UInt8) : wordN l ≤ l.length := by have := spanL_le letterC l; unfold wordN; split <;> omega
/-- A token's kind, its text, how many bytes stand for it; 0: there is none. -/
abbrev Beg := Int × List UInt8 × Nat
def begNo : Beg := (0, [], 0)
def ask1 (l : List UInt8) : Beg := (1, l.take (wordN l), wordN l)
def ask2 : List UInt8 → Beg
  | [] => begNo
  | c :: r => if c = 64 ∧ wordN r ≠ 0 then (2, r.take (wordN r), wordN r + 1) else begNo
def ask3 : List UInt8 → Beg
  | [] => begNo
  | c :: r => if c = 34 ∧ spanL quotedC r ≤ 40 ∧ r[spanL quotedC r]? = some 34 then (3, r.take (spanL quotedC r), spanL quotedC r + 2) else begNo
/-- What stands for a token of a kind that has no text. -/
def signs : List (Int × List UInt8) := [(4, [40]), (5, [41]), (6, [44]), (7, [58]), (8, [46]), (9, [61]), (10, [45, 91]), (11, [93, 45, 62])]
def ask4 (l : List UInt8) : Beg := match signs.find? (fun x => x.2.isPrefixOf l) with
  | some x => (x.1, [], x.2.length)
  | none => begNo
def begL (l : List UInt8) : Beg :=
  if 0 < (ask1 l).2.2 then ask1 l else if 0 < (ask2 l).2.2 then ask2 l else if 0 < (ask3 l).2.2 then ask3 l else ask4 l
theorem ask4_yes {l : List UInt8} {x : Int × List UInt8} (hx : x ∈ signs) (h : x.2.isPrefixOf l = true) : ask4 l = (x.1, [], x.2.length) := by
  obtain ⟨r, hr⟩ := List.isPrefixOf_iff_prefix.1 h
  simp only [signs, List.mem_cons, List.not_mem_nil, or_false] at hx
  rcases hx with rfl | rfl | rfl | rfl | rfl | rfl | rfl | rfl <;> subst hr <;> simp [ask4, signs, List.isPrefixOf, List.find?]
theorem ask4_no {l : List UInt8} (h : ∀ x ∈ signs, x.2.isPrefixOf l = false) : ask4 l = begNo := by
  unfold ask4
  rw [List.find?_eq_none.2 (fun x hx => by rw [h x hx]; simp)]
theorem begL_1 {l : List UInt8} (h : 0 < (ask1 l).2.2) : begL l = ask1 l := by unfold begL; rw [if_pos h]
theorem begL_2 {l : List UInt8} (h1 : ¬ 0 < (ask1 l).2.2) (h : 0 < (ask2 l).2.2) : begL l = ask2 l := by unfold begL; rw [if_neg h1, if_pos h]
theorem begL_3 {l : List UInt8} (h1 : ¬ 0 < (ask1 l).2.2) (h2 : ¬ 0 < (ask2 l).2.2) (h : 0 < (ask3 l).2.2) : begL l = ask3 l := by unfold begL; rw [if_neg h1, if_neg h2, if_pos h]
theorem begL_4 {l : List UInt8} (h1 : ¬ 0 < (ask1 l).2.2) (h2 : ¬ 0 < (ask2 l).2.2) (h3 : ¬ 0 < (ask3 l).2.2) : begL l = ask4 l := by unfold begL; rw [if_neg h1, if_neg h2, if_neg h3]
theorem ask4_zero {l : List UInt8} (h : ¬ 0 < (ask4 l).2.2) : ask4 l = begNo := by
  unfold ask4 at h ⊢
  cases hf : signs.find? (fun x => x.2.isPrefixOf l) with
  | none => rfl
  | some x =>
    rw [hf] at h
    have hx := List.mem_of_find?_eq_some hf
    have : ∀ x ∈ signs, 0 < x.2.length := by decide
    exact absurd (this x hx) h

/-- What the reference takes a text's first token for. -/
def candR : List UInt8 → Int × List UInt8
  | [] => (0, [])
  | c :: r => if letterC c.toNat then (1, (c :: r).take (spanL letterC (c :: r))) else if c = 64 then (2, r.take (spanL letterC r)) else if c = 34 then (3, r.take (spanL (fun x => decide (x ≠ 34)) r)) else
      match signs.find? (fun x => x.2.isPrefixOf (c :: r)) with | some x => (x.1, []) | none => (0, [])

/-- A token. -/
structure Tk where
  kind : Int
  text : ByteArray
  at_ : Int
/-- What stands for a token of a kind, with a text. -/
def standsL (k : Int) (l : List UInt8) : List UInt8 :=
  if k = 1 then l else if k = 2 then 64 :: l else if k = 3 then 34 :: (l ++ [34]) else ((signs.find? (fun x => decide (x.1 = k))).map (·.2)).getD []
theorem standsL_sign {k : Int} {x : List UInt8} (h : (k, x) ∈ signs) (l : List UInt8) : standsL k l = x := by
  simp only [signs, List.mem_cons, List.not_mem_nil, or_false, Prod.mk.injEq] at h
  rcases h with h | h | h | h | h | h | h | h <;> obtain ⟨rfl, rfl⟩ := h <;> rfl
theorem standsL_none {k : Int} (h1 : k ≠ 1) (h2 : k ≠ 2) (h3 : k ≠ 3) (h : ∀ x ∈ signs, x.1 ≠ k) (l : List UInt8) : standsL k l = [] := by
  unfold standsL
  rw [if_neg h1, if_neg h2, if_neg h3, List.find?_eq_none.2 (fun x hx => by simpa using h x hx)]
  rfl
/-- May a token be? -/
def checkB (k : Int) (l : List UInt8) (at_ : Int) : Bool :=
  decide ((begL (standsL k l)).2.2 ≠ 0) && decide ((begL (standsL k l)).2.2 = (standsL k l).length) && decide ((begL (standsL k l)).1 = k) && decide ((begL (standsL k l)).2.1 = l) && decide (0 ≤ at_)
def Tk.stands (t : Tk) : List UInt8 := standsL t.kind (bts t.text)
def Tk.check (t : Tk) : Bool := checkB t.kind (bts t.text) t.at_

/-- The number that bytes say behind n; none: they say none. -/
def numL : Int → List UInt8 → Option Int
  | n, [] => some n
  | n, c :: l => if 48 ≤ c.toNat ∧ c.toNat ≤ 57 ∧ 10 * n + (c.toNat - 48 : Nat) < 2147483648 then numL (10 * n + (c.toNat - 48 : Nat)) l else none
def numberF (k : Int) (l : List UInt8) : Option Int := if k ≠ 1 ∨ l = [] ∨ l.head? = some 48 ∧ l ≠ [48] then none else numL 0 l
def Tk.number (t : Tk) : Option Int := numberF t.kind (bts t.text)
theorem numL_no {n : Int} {c : UInt8} {l : List UInt8} (h : ¬ (48 ≤ c.toNat ∧ c.toNat ≤ 57 ∧ 10 * n + (c.toNat - 48 : Nat) < 2147483648)) : numL n (c :: l) = none := by unfold numL; rw [if_neg h]
theorem numL_yes {n : Int} {c : UInt8} {l : List UInt8} (h : 48 ≤ c.toNat ∧ c.toNat ≤ 57 ∧ 10 * n + (c.toNat - 48 : Nat) < 2147483648) : numL n (c :: l) = numL (10 * n + (c.toNat - 48 : Nat)) l := by conv => lhs; unfold numL
                                                                                                                                                                                                        rw [if_pos h]
end Go.Proofs.Ytogoejlbdbapoaa
