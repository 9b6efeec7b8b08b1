/- What is read, put one by one, is a dictionary. -/
import Derived.Test.YtogoejlbdbapoaaDicSb
import Derived.Test.YtogoejlbdbapoaaDicL
namespace Go.Proofs.Ytogoejlbdbapoaa
set_option maxRecDepth 100000
set_option maxHeartbeats 2000000
set_option linter.unusedSimpArgs false
open Go.RowKit Go.Shelf Go.Sort
set_option linter.unusedVariables false

theorem dputF_fresh {T : List ByteArray} {S : List Int} {s : ByteArray} (h : TabOK T S) (hS : S.length ≤ 4096) (hf : findF T s < 0) (hl : T.length < 128) : ∃ S' n', dputF T S s = some (T ++ [s], S', n') ∧ TabOK (T ++ [s]) S' ∧ S'.length ≤ 4096 := by
  have hp : putF T S s = some (T ++ [s], laidN (T ++ [s]) (moreN T S.length) (T.length + 1), (T.length : Int)) := by
    unfold putF
    rw [if_neg (by omega), if_neg (by omega)]
  obtain ⟨h1, _, h3, _⟩ := putF_ok h hp
  refine ⟨_, (T.length : Int), ?_, h1, by omega⟩
  unfold dputF
  rw [if_neg (by omega), hp]
theorem readTs_is {k : Int} {b : List Int} (hb : Byt b) : ∀ (m p : Nat) (out l : List ByteArray) (q : Nat), readTs k b m p out = some (l, q) → p ≤ b.length →
    (∃ new, l = out ++ new ∧ new.length = m ∧ (∀ s ∈ new, mayB k (bts s) = true) ∧ ∀ S n, TabOK out S → S.length ≤ 4096 → out.length + m ≤ 128 → ∃ S' n', putsF new out S n = some (l, S', n') ∧ TabOK l S' ∧ S'.length ≤ 4096) ∧ q ≤ b.length
  | 0, p, out, l, q, h, hp => by
    unfold readTs at h
    cases h
    exact ⟨⟨[], by simp, rfl, fun s hs => by simp at hs, fun S n h1 h2 _ => ⟨S, n, rfl, h1, h2⟩⟩, hp⟩
  | m + 1, p, out, l, q, h, hp => by
    unfold readTs at h
    split at h
    · cases h
    · rename_i x used hx
      split at h
      · rename_i hc
        have hu := textB_small (hb.drop p) hx
        have hdl : (b.drop p).length = b.length - p := List.length_drop
        obtain ⟨⟨new, h1, h2, h3, h4⟩, h5⟩ := readTs_is hb m _ _ _ _ h (by omega)
        refine ⟨⟨strOfNums x :: new, by rw [h1]; simp, by simp [h2], fun s hs => ?_, fun S n t1 t2 t3 => ?_⟩, h5⟩
        · rcases List.mem_cons.1 hs with rfl | hs
          · exact hc.1
          · exact h3 s hs
        · obtain ⟨S1, n1, e1, e2, e3⟩ := dputF_fresh t1 t2 hc.2 (by omega)
          obtain ⟨S2, n2, f1, f2, f3⟩ := h4 S1 n1 e2 e3 (by simp; omega)
          exact ⟨S2, n2, by unfold putsF; rw [e1]; exact f1, f2, f3⟩
      · cases h
theorem mayB_bad {k : Int} {l : List ByteArray} (h : ∀ s ∈ l, mayB k (bts s) = true) : badB k l = false := by
  unfold badB
  rw [List.any_eq_false]
  intro s hs
  rw [h s hs]; simp
theorem readK_is {k : Int} {b : List Int} (hb : Byt b) {p q : Nat} {l : List ByteArray} (h : readK k b p = some (l, q)) (hp : p ≤ b.length) :
    l.length ≤ 128 ∧ badB k l = false ∧ q ≤ b.length ∧ (∀ s ∈ l, s.size ≤ 40) ∧ ∃ S' n', putsF l [] (List.replicate 8 0) 0 = some (l, S', n') ∧ TabOK l S' ∧ S'.length ≤ 4096 := by
  unfold readK at h
  split at h
  · cases h
  · rename_i many used hx
    split at h
    · rename_i hm
      have hu := rdNum_ok (hb.drop p) hx
      have hdl : (b.drop p).length = b.length - p := List.length_drop
      obtain ⟨⟨new, h1, h2, h3, h4⟩, h5⟩ := readTs_is hb _ _ _ _ _ h (by omega)
      simp only [List.nil_append] at h1
      subst h1
      refine ⟨by omega, mayB_bad h3, h5, fun s hs => by have := mayB_size (h3 s hs); rw [bts_len] at this; exact this, ?_⟩
      exact h4 _ 0 tabOK_new (by simp) (by simp; omega)
    · cases h
/-- The names of the first k kinds, read one behind the other. -/
def readTo (b : List Int) (p : Nat) : Nat → Option (Nms × Nat)
  | 0 => some (fun _ => [], p)
  | k + 1 => match readTo b p k with
    | none => none
    | some (N, q) => match readK (k : Int) b q with
      | none => none
      | some (l, q') => some (upd N k l, q')
theorem readTo_none {b : List Int} {p k j : Nat} (h : readTo b p k = none) (hj : k ≤ j) : readTo b p j = none := by
  induction j with
  | zero => obtain rfl : k = 0 := by omega
            exact h
  | succ j ih =>
    by_cases e : k = j + 1
    · subst e; exact h
    · unfold readTo; rw [ih (by omega)]
end Go.Proofs.Ytogoejlbdbapoaa
