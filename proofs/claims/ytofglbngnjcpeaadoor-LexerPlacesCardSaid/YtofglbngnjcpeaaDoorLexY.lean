/- Few tokens; their plain text. -/
import Derived.Lib.Join
import Derived.Test.YtofglbngnjcpeaaDoorLexR
import Derived.Test.YtofglbngnjcpeaaDoorLexF
namespace Go.Proofs.YtofglbngnjcpeaaDoor
set_option maxRecDepth 100000
set_option maxHeartbeats 2000000
set_option linter.unusedVariables false
set_option linter.unusedSimpArgs false
open Go.RowKit

def cutTk (t : Tk) : Tk := ⟨t.kind, t.text.extract 0 (min (t.text.size : Int) 80).toNat, t.at_⟩
def fewL (l : List Tk) : List Tk := (l.take 60).map cutTk
theorem cutTk_size (t : Tk) : (cutTk t).text.size ≤ 80 := by unfold cutTk; dsimp only; simp; omega
theorem fewL_len (l : List Tk) : (fewL l).length ≤ 60 := by unfold fewL; simp; omega
theorem fewL_size (l : List Tk) : ∀ t ∈ fewL l, t.text.size ≤ 80 := fun t ht => by
  obtain ⟨x, _, rfl⟩ := List.mem_map.1 ht
  exact cutTk_size x
theorem fewL_more (l : List Tk) (k : Nat) (hk : k < l.length) (h : k < 60) : fewL (l.take (k + 1)) = fewL (l.take k) ++ [cutTk l[k]] := by
  unfold fewL
  rw [List.take_take, List.take_take, Nat.min_eq_right (by omega), Nat.min_eq_right (by omega), take_snoc l k hk, List.map_append]
  rfl
theorem fewL_same (l : List Tk) (k : Nat) (h : 60 ≤ k) : fewL (l.take (k + 1)) = fewL (l.take k) := by
  unfold fewL
  rw [List.take_take, List.take_take, Nat.min_eq_left (by omega), Nat.min_eq_left (by omega)]

/-- Texts, a blank between. -/
def joinB (xs : List (List UInt8)) : List UInt8 := Lib.join xs [32]
theorem joinB_nil : joinB [] = [] := rfl
theorem joinTail_snoc (sep y : List UInt8) (r : List (List UInt8)) : Lib.joinTail sep (r ++ [y]) = Lib.joinTail sep r ++ (sep ++ y) := by
  unfold Lib.joinTail
  rw [List.map_append, List.flatten_append]
  simp
theorem joinB_cons (x : List UInt8) (r : List (List UInt8)) : joinB (x :: r) = x ++ Lib.joinTail [32] r := Lib.join_cons x r [32]
theorem joinB_snoc (xs : List (List UInt8)) (y : List UInt8) : joinB (xs ++ [y]) = if xs = [] then y else joinB xs ++ 32 :: y := by
  cases xs with
  | nil => simp [joinB, Lib.join_one]
  | cons x r =>
    rw [if_neg (by simp), List.cons_append, joinB_cons, joinB_cons, joinTail_snoc, List.append_assoc]
    rfl
theorem joinB_len (xs : List (List UInt8)) (m : Nat) (h : ∀ x ∈ xs, x.length ≤ m) : (joinB xs).length ≤ xs.length * (m + 1) := by
  cases xs with
  | nil => simp [joinB_nil]
  | cons x r =>
    unfold joinB
    rw [Lib.join_length]
    have : ∀ xs : List (List UInt8), (∀ x ∈ xs, x.length ≤ m) → Lib.lens xs ≤ xs.length * m := fun xs => by
      induction xs with
      | nil => intro _; simp [Lib.lens]
      | cons y ys ih =>
        intro h
        have h1 := ih (fun z hz => h z (List.mem_cons_of_mem _ hz))
        have h2 := h y (by simp)
        simp only [Lib.lens, List.map_cons, List.sum_cons, List.length_cons] at h1 ⊢
        rw [Nat.add_mul]; omega
    have := this (x :: r) h
    simp only [List.length_cons, List.length_nil] at this ⊢
    rw [Nat.mul_add]; omega
/-- The plain text of tokens. -/
def joinT (l : List Tk) : List UInt8 := joinB (l.map Tk.stands)
def plainF (l : List Tk) : ByteArray × Int := if l.all Tk.check then (if 500 < (joinT l).length then (⟨#[]⟩, 3) else (txt (joinT l), 0)) else (⟨#[]⟩, 250)
theorem stands_size {t : Tk} (h : t.text.size ≤ 1000) : t.stands.length ≤ 1003 := by
  unfold Tk.stands
  have := standsL_len t.kind (bts t.text)
  rw [bts_len] at this; omega
end Go.Proofs.YtofglbngnjcpeaaDoor
