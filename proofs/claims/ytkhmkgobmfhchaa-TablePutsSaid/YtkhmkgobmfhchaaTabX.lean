/- All by parts: plain; cuts of rows. -/
import Derived.Test.YtkhmkgobmfhchaaTabS
import Derived.Test.YtkhmkgobmfhchaaTabV
namespace Go.Proofs.Ytkhmkgobmfhchaa
set_option linter.unusedVariables false
set_option linter.unusedSimpArgs false
open Go.RowKit

theorem allF_append (l1 l2 T : List ByteArray) (S ns : List Int) : allF (l1 ++ l2) T S ns = match allF l1 T S ns with
    | none => none
    | some (T1, S1, n1) => allF l2 T1 S1 n1 := by
  induction l1 generalizing T S ns with
  | nil => rfl
  | cons s l1 ih =>
    simp only [List.cons_append, allF]
    cases putF T S s with
    | none => rfl
    | some r => obtain ⟨T1, S1, n1⟩ := r; exact ih T1 S1 _
theorem allF_acc (l T : List ByteArray) (S ns : List Int) : allF l T S ns = (allF l T S []).map fun r => (r.1, r.2.1, ns ++ r.2.2) := by
  induction l generalizing T S ns with
  | nil => simp [allF]
  | cons s l ih =>
    simp only [allF]
    cases putF T S s with
    | none => rfl
    | some r =>
      obtain ⟨T1, S1, n1⟩ := r
      simp only []
      rw [ih T1 S1 (ns ++ [n1]), ih T1 S1 ([] ++ [n1])]
      cases allF l T1 S1 [] with
      | none => rfl
      | some r => simp
theorem putF_some {T : List ByteArray} {S : List Int} {s : ByteArray} (h : T.length < 1024) : ∃ T' S' n, putF T S s = some (T', S', n) := by
  unfold putF
  split
  · exact ⟨_, _, _, rfl⟩
  · rw [if_neg (by omega)]; exact ⟨_, _, _, rfl⟩
theorem putF_len {T : List ByteArray} {S : List Int} {s : ByteArray} {T' : List ByteArray} {S' : List Int} {n : Int} (hp : putF T S s = some (T', S', n)) : T'.length ≤ T.length + 1 := by
  unfold putF at hp
  split at hp
  · cases hp; omega
  · split at hp
    · cases hp
    · cases hp; simp
theorem allF_some (l T : List ByteArray) (S : List Int) (h : TabOK T S) (hl : T.length + l.length ≤ 1024) : ∃ T' S' ns, allF l T S [] = some (T', S', ns) ∧ TabOK T' S' ∧ (∀ x ∈ T', x ∈ T ∨ x ∈ l) ∧ S'.length ≤ max S.length 4096 ∧ ns.length = l.length ∧ T'.length ≤ T.length + l.length := by
  induction l generalizing T S with
  | nil => exact ⟨T, S, [], rfl, h, fun x hx => .inl hx, by omega, rfl, by simp⟩
  | cons s l ih =>
    simp only [List.length_cons] at hl
    obtain ⟨T1, S1, n1, h1⟩ := putF_some (S := S) (s := s) (show T.length < 1024 by omega)
    have ho := putF_ok h h1
    have hn := putF_len h1
    obtain ⟨T', S', ns, a1, a2, a3, a4, a5, a6⟩ := ih T1 S1 ho.1 (by omega)
    refine ⟨T', S', n1 :: ns, ?_, a2, fun x hx => ?_, by have := ho.2.2.1; omega, by simp [a5], by simp; omega⟩
    · simp only [allF, h1, List.nil_append]
      rw [allF_acc, a1]; rfl
    · rcases a3 x hx with h | h
      · rcases ho.2.1 x h with h | h
        · exact .inl h
        · exact .inr (by simp [h])
      · exact .inr (by simp [h])

theorem Ext.trans' {a b c : World} (h : Ext a b) (k : Below a.heap.size b c) : Ext a c := Below.trans h k
/-- A cut of a row of one-cell elements. -/
theorem Sl.take {w : World} {a : Option Addr} {n cap : Nat} {xs : List Value} (h : Sl w (.slice a n cap) n xs) (hx : xs.length = n) (m : Nat) (hm : m ≤ n) : Sl w (.slice a m cap) m (xs.take m) := by
  obtain ⟨a', cap', e, h1, h2, h3⟩ := h
  simp only [Value.slice.injEq] at e
  obtain ⟨rfl, _, rfl⟩ := e
  refine ⟨a, cap, rfl, by omega, h2, fun hp => ?_⟩
  obtain ⟨b, o, e, hc⟩ := h3 (by rw [List.length_take] at hp; omega)
  refine ⟨b, o, e, fun i u hu => hc i u ?_⟩
  rw [List.getElem?_take] at hu
  split at hu
  · exact hu
  · cases hu
def cutV (a : Option Addr) (cap l h : Nat) : Value := .slice (if cap = l then a else a.map (fun x => x.add l)) (h - l) (cap - l)
theorem Sl.drop {w : World} {a : Option Addr} {n cap : Nat} {xs : List Value} (h : Sl w (.slice a n cap) n xs) (hx : xs.length = n) (m : Nat) (hm : m ≤ n) : Sl w (cutV a cap m n) (n - m) (xs.drop m) := by
  obtain ⟨a', cap', e, h1, h2, h3⟩ := h
  simp only [Value.slice.injEq] at e
  obtain ⟨rfl, _, rfl⟩ := e
  refine ⟨_, cap - m, rfl, by omega, by omega, fun hp => ?_⟩
  rw [List.length_drop] at hp
  obtain ⟨b, o, rfl, hc⟩ := h3 (by omega)
  rw [if_neg (by omega)]
  refine ⟨b, o + m, by simp [addr_add], fun i u hu => ?_⟩
  rw [List.getElem?_drop] at hu
  have := hc _ u hu
  rwa [← Nat.add_assoc] at this
theorem Strs.take {w : World} {a : Option Addr} {n cap : Nat} {l : List ByteArray} (h : Strs w (.slice a n cap) l) (m : Nat) (hm : m ≤ n) : Strs w (.slice a m cap) (l.take m) := by
  have hl := h.len
  unfold Strs at *
  rw [hl] at h
  have := Sl.take h (by simp [hl]) m hm
  rw [List.map_take, List.length_take, hl, Nat.min_eq_left hm]
  exact this
theorem Strs.drop {w : World} {a : Option Addr} {n cap : Nat} {l : List ByteArray} (h : Strs w (.slice a n cap) l) (m : Nat) (hm : m ≤ n) : Strs w (cutV a cap m n) (l.drop m) := by
  have hl := h.len
  unfold Strs at *
  rw [hl] at h
  have := Sl.drop h (by simp [hl]) m hm
  rw [List.map_drop, List.length_drop, hl]
  exact this
end Go.Proofs.Ytkhmkgobmfhchaa
