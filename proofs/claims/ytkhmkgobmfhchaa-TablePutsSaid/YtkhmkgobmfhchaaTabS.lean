/- What Put comes to: plain. -/
import Derived.Test.YtkhmkgobmfhchaaTabN
namespace Go.Proofs.Ytkhmkgobmfhchaa
set_option linter.unusedSimpArgs false
set_option linter.unusedVariables false

theorem putF_find {T : List ByteArray} {S : List Int} {s : ByteArray} {T' : List ByteArray} {S' : List Int} {n : Int} (h : TabOK T S) (hp : putF T S s = some (T', S', n)) :
    ∃ k : Nat, n = k ∧ (∃ hk : k < T'.length, T'[k] = s) ∧ findF T' s = k ∧ (∀ i (hi : i < T.length), findF T' T[i] = i) ∧ (0 ≤ findF T s ∧ T' = T ∧ S' = S ∧ n = findF T s ∨ findF T s = -1 ∧ s ∉ T ∧ T' = T ++ [s] ∧ n = T.length) := by
  have hok := (putF_ok h hp).1
  unfold putF at hp
  split at hp
  · rename_i hf
    cases hp
    obtain ⟨k, hk⟩ := Int.eq_ofNat_of_zero_le hf
    obtain ⟨h1, h2, h3⟩ := findF_yes.1 hk
    exact ⟨k, hk, ⟨h1, h2⟩, hk, fun i hi => findF_distinct h.distinct hi, .inl ⟨hf, rfl, rfl, rfl⟩⟩
  · rename_i hf
    split at hp
    · cases hp
    · cases hp
      have hf1 : findF T s = -1 := by have := findF_range T s; omega
      have hs := findF_no.1 hf1
      have hl : T.length < (T ++ [s]).length := by simp
      have hg : (T ++ [s])[T.length] = s := by simp
      refine ⟨T.length, rfl, ⟨hl, hg⟩, ?_, fun i hi => ?_, .inr ⟨hf1, hs, rfl, rfl⟩⟩
      · have := findF_distinct hok.distinct hl
        rwa [hg] at this
      · have := findF_distinct hok.distinct (show i < (T ++ [s]).length by simp; omega)
        rwa [List.getElem_append_left hi] at this
end Go.Proofs.Ytkhmkgobmfhchaa
