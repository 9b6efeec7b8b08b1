/- What is written is read again; the dictionaries of the first look. -/
import Derived.Test.YtogoejlbdbapoaaDicPl
namespace Go.Proofs.Ytogoejlbdbapoaa
set_option maxRecDepth 100000
set_option maxHeartbeats 2000000
set_option linter.unusedSimpArgs false
open Go.RowKit Go.Shelf Go.Sort
set_option linter.unusedVariables false

theorem strOf_self (s : ByteArray) : strOfNums (sb s) = s := by
  have hb : Byt (sb s) := fun c hc => by
    unfold sb at hc
    obtain ⟨b, _, rfl⟩ := List.mem_map.1 hc
    have := b.toNat_lt
    omega
  exact sb_inj (sb_str hb)
theorem drop_mid {α : Type} (A X : List α) : (A ++ X).drop A.length = X := by simp
theorem readTs_texts (k : Int) : ∀ (new : List ByteArray) (A B : List Int) (out : List ByteArray), (∀ s ∈ new, mayB k (bts s) = true ∧ s.size ≤ 4000) → (out ++ new).Nodup →
    readTs k (A ++ (new.flatMap (fun s => textB (sb s)) ++ B)) new.length A.length out = some (out ++ new, A.length + (new.flatMap (fun s => textB (sb s))).length)
  | [], A, B, out, _, _ => by simp [readTs]
  | s :: new, A, B, out, h, hd => by
    have hs := h s (by simp)
    unfold readTs
    rw [List.length_cons]
    dsimp only
    rw [drop_mid, List.flatMap_cons, List.append_assoc, rdText_text (sb s) _ (by rw [sb_len]; omega)]
    dsimp only
    have hnot : findF out s = -1 := findF_no.2 (fun hm => by
      rw [List.nodup_append] at hd
      exact hd.2.2 s hm s (by simp) rfl)
    rw [strOf_self, if_pos ⟨hs.1, by omega⟩]
    have ih := readTs_texts k new (A ++ textB (sb s)) B (out ++ [s]) (fun x hx => h x (by simp [hx])) (by simpa using hd)
    rw [List.length_append, List.append_assoc] at ih
    rw [ih]
    simp [Nat.add_assoc]
theorem readK_kindB (k : Int) (l : List ByteArray) (A B : List Int) (hl : l.length ≤ 128) (h : ∀ s ∈ l, mayB k (bts s) = true ∧ s.size ≤ 4000) (hd : l.Nodup) :
    readK k (A ++ (kindB l ++ B)) A.length = some (l, A.length + (kindB l).length) := by
  unfold readK kindB
  rw [drop_mid, List.append_assoc, rdNum_num _ _ (by omega) (by omega)]
  dsimp only
  rw [if_pos (by omega)]
  have := readTs_texts k l (A ++ num 9 (l.length : Int)) B [] h (by simpa using hd)
  rw [List.length_append, List.append_assoc] at this
  rw [show ((l.length : Nat) : Int).toNat = l.length from rfl, this]
  simp [Nat.add_assoc]
/-- All that is asked of names. -/
def GoodN (N : Nms) : Prop := ∀ i, i < 5 → (N i).length ≤ 128 ∧ (∀ s ∈ N i, mayB i (bts s) = true ∧ s.size ≤ 4000) ∧ (N i).Nodup
theorem readTo_bytes {N : Nms} (h : GoodN N) (A B : List Int) : ∀ k, k ≤ 5 → ∀ C, bytesTo N k ++ C = bytesTo N 5 ++ B → ∃ M, readTo (A ++ (bytesTo N 5 ++ B)) A.length k = some (M, A.length + (bytesTo N k).length) ∧ ∀ i, i < k → M i = N i
  | 0, _, C, _ => ⟨_, rfl, fun i hi => by omega⟩
  | k + 1, hk, C, hC => by
    have hb : bytesTo N (k + 1) = bytesTo N k ++ kindB (N k) := rfl
    rw [hb, List.append_assoc] at hC
    obtain ⟨M, h1, h2⟩ := readTo_bytes h A B k (by omega) (kindB (N k) ++ C) hC
    obtain ⟨g1, g2, g3⟩ := h k (by omega)
    refine ⟨upd M k (N k), ?_, fun i hi => ?_⟩
    · unfold readTo
      rw [h1]
      dsimp only
      have := readK_kindB k (N k) (A ++ bytesTo N k) C g1 g2 g3
      rw [List.length_append, List.append_assoc] at this
      rw [show A ++ (bytesTo N 5 ++ B) = A ++ (bytesTo N k ++ (kindB (N k) ++ C)) from by rw [← hC], this]
      simp [bytesTo, Nat.add_assoc]
    · by_cases e : i = k
      · subst e; rw [upd_at]
      · rw [upd_ne _ _ e]; exact h2 i (by omega)
theorem readTo_all {N : Nms} (h : GoodN N) (A B : List Int) : ∃ M, readTo (A ++ (bytesTo N 5 ++ B)) A.length 5 = some (M, A.length + (bytesTo N 5).length) ∧ ∀ i, i < 5 → M i = N i := readTo_bytes h A B 5 (by omega) B rfl
end Go.Proofs.Ytogoejlbdbapoaa
