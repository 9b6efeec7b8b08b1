/- What is read is written as it stood there. -/
import Derived.Test.YtogoejlbdbapoaaDicPm
namespace Go.Proofs.Ytogoejlbdbapoaa
set_option maxRecDepth 100000
set_option maxHeartbeats 2000000
set_option linter.unusedSimpArgs false
open Go.RowKit Go.Shelf Go.Sort
set_option linter.unusedVariables false

theorem cut_join {α : Type} (b : List α) {p q r : Nat} (h1 : p ≤ q) (h2 : q ≤ r) : (b.drop p).take (q - p) ++ (b.drop q).take (r - q) = (b.drop p).take (r - p) := by
  have h : b.drop q = (b.drop p).drop (q - p) := by rw [List.drop_drop]; congr 1; omega
  have h3 : r - p = (q - p) + (r - q) := by omega
  rw [h, h3, List.take_add]
theorem readTs_inv {k : Int} {b : List Int} (hb : Byt b) : ∀ (m p : Nat) (out l : List ByteArray) (q : Nat), readTs k b m p out = some (l, q) → p ≤ b.length →
    ∃ new, l = out ++ new ∧ new.length = m ∧ (b.drop p).take (q - p) = new.flatMap (fun s => textB (sb s)) ∧ p ≤ q ∧ q ≤ b.length
  | 0, p, out, l, q, h, hp => by
    unfold readTs at h
    cases h
    exact ⟨[], by simp, rfl, by simp, Nat.le_refl _, hp⟩
  | m + 1, p, out, l, q, h, hp => by
    unfold readTs at h
    split at h
    · cases h
    · rename_i x used hx
      split at h
      · have hi := rdText_inv (hb.drop p) hx
        have hdl : (b.drop p).length = b.length - p := List.length_drop
        obtain ⟨new, h1, h2, h3, h4, h5⟩ := readTs_inv hb m _ _ _ _ h (by omega)
        refine ⟨strOfNums x :: new, by rw [h1]; simp, by simp [h2], ?_, by omega, h5⟩
        have hsb : sb (strOfNums x) = x := sb_str hi.2.2.2
        rw [List.flatMap_cons, hsb, ← hi.1, ← h3, ← cut_join b (show p ≤ p + used by omega) h4, Nat.add_sub_cancel_left]
      · cases h
theorem readK_inv {k : Int} {b : List Int} (hb : Byt b) {p q : Nat} {l : List ByteArray} (h : readK k b p = some (l, q)) (hp : p ≤ b.length) : (b.drop p).take (q - p) = kindB l ∧ p ≤ q ∧ q ≤ b.length := by
  unfold readK at h
  split at h
  · cases h
  · rename_i many used hx
    split at h
    · have hu := rdNum_ok (hb.drop p) hx
      have hi := rdNum_inv (hb.drop p) hx
      have hdl : (b.drop p).length = b.length - p := List.length_drop
      obtain ⟨new, h1, h2, h3, h4, h5⟩ := readTs_inv hb _ _ _ _ _ h (by omega)
      simp only [List.nil_append] at h1
      subst h1
      refine ⟨?_, by omega, h5⟩
      unfold kindB
      rw [← h3, ← cut_join b (show p ≤ p + used by omega) h4, Nat.add_sub_cancel_left, hi.1]
      congr 2
      omega
    · cases h
theorem bytesTo_congr {M N : Nms} : ∀ k, (∀ i, i < k → M i = N i) → bytesTo M k = bytesTo N k
  | 0, _ => rfl
  | k + 1, h => by
    have h1 : bytesTo M (k + 1) = bytesTo M k ++ kindB (M k) := rfl
    have h2 : bytesTo N (k + 1) = bytesTo N k ++ kindB (N k) := rfl
    rw [h1, h2, bytesTo_congr k (fun i hi => h i (by omega)), h k (by omega)]
theorem readTo_inv {b : List Int} (hb : Byt b) {p : Nat} (hp : p ≤ b.length) : ∀ (k : Nat) (N : Nms) (q : Nat), readTo b p k = some (N, q) → (b.drop p).take (q - p) = bytesTo N k ∧ p ≤ q ∧ q ≤ b.length
  | 0, N, q, h => by
    unfold readTo at h
    cases h
    exact ⟨by simp [bytesTo], Nat.le_refl _, hp⟩
  | k + 1, N, q, h => by
    unfold readTo at h
    split at h
    · cases h
    · rename_i M r hM
      obtain ⟨h1, h2, h3⟩ := readTo_inv hb hp k _ _ hM
      split at h
      · cases h
      · rename_i l q' hl
        cases h
        obtain ⟨g1, g2, g3⟩ := readK_inv hb hl h3
        refine ⟨?_, by omega, g3⟩
        have hb2 : bytesTo (upd M k l) (k + 1) = bytesTo (upd M k l) k ++ kindB (upd M k l k) := rfl
        rw [hb2, upd_at, bytesTo_congr (M := upd M k l) (N := M) k (fun i hi => upd_ne _ _ (by omega)), ← h1, ← g1, cut_join b h2 g2]
theorem num9_byt {m : Int} (h0 : 0 ≤ m) (h1 : m < 18446744073709551616) : Byt (num 9 m) := num_byt 9 m h0 (by omega)
theorem bytesTo_byt {N : Nms} (h : SmallN N) : ∀ k, k ≤ 5 → Byt (bytesTo N k)
  | 0, _ => Byt.nil
  | k + 1, hk => by
    have hb : bytesTo N (k + 1) = bytesTo N k ++ kindB (N k) := rfl
    rw [hb]
    refine (bytesTo_byt h k (by omega)).append ?_
    unfold kindB
    have hl := (h k (by omega)).1
    refine (num9_byt (by omega) (by omega)).append (fun c hc => ?_)
    obtain ⟨s, hs, hc⟩ := List.mem_flatMap.1 hc
    unfold textB at hc
    exact ((num9_byt (by omega) (by have := (h k (by omega)).2 s hs; rw [sb_len]; omega)).append (sb_byt s)) c hc
end Go.Proofs.Ytogoejlbdbapoaa
