/- What a put comes to: plain. -/
import Derived.Test.YtogoejlbdbapoaaDicTl
namespace Go.Proofs.Ytogoejlbdbapoaa
set_option maxRecDepth 100000
set_option maxHeartbeats 2000000
set_option linter.unusedSimpArgs false
open Go.RowKit
set_option linter.unusedVariables false

theorem putF_findD {T : List ByteArray} {S : List Int} {s : ByteArray} {T' : List ByteArray} {S' : List Int} {n : Int} (h : TabOK T S) (hp : putF T S s = some (T', S', n)) :
    ∃ k : Nat, n = k ∧ (∃ hk : k < T'.length, T'[k] = s) ∧ findF T' s = k ∧ (T' = T ∨ findF T s < 0 ∧ T' = T ++ [s]) := by
  have hok := (putF_ok h hp).1
  unfold putF at hp
  split at hp
  · rename_i hf
    cases hp
    obtain ⟨k, hk⟩ := Int.eq_ofNat_of_zero_le hf
    obtain ⟨h1, h2, h3⟩ := findF_yes.1 hk
    exact ⟨k, hk, ⟨h1, h2⟩, hk, .inl rfl⟩
  · rename_i hf
    split at hp
    · cases hp
    · cases hp
      have hl : T.length < (T ++ [s]).length := by simp
      have hg : (T ++ [s])[T.length] = s := by simp
      refine ⟨T.length, rfl, ⟨hl, hg⟩, ?_, .inr ⟨by omega, rfl⟩⟩
      have := findF_distinct hok.distinct hl
      rwa [hg] at this
structure Put1 (D D' : Dic) (kind n : Int) (s : ByteArray) (k m : Nat) : Prop where
  hkind : kind = k
  lt : k < 5
  id : n = m
  ok : DicOK D'
  sz : ∀ i, i < 5 → (D' i).2.length ≤ 4096
  may : mayB kind (bts s) = true
  rest : ∀ i, i ≠ k → D' i = D i
  ext : ∃ l, (D' k).1 = (D k).1 ++ l
  at_ : ∃ h : m < (D' k).1.length, (D' k).1[m] = s
  find : findF (D' k).1 s = m
  again : putD D' kind s = .ok (upd D' k (D' k), n)
theorem putD_is {D D' : Dic} {kind n : Int} {s : ByteArray} (hD : DicOK D) (hS : ∀ i, i < 5 → (D i).2.length ≤ 4096) (h : putD D kind s = .ok (D', n)) : ∃ k m, Put1 D D' kind n s k m := by
  unfold putD at h
  split at h
  · rename_i hm
    obtain ⟨hk0, hk5⟩ := mayB_kind hm
    obtain ⟨k, rfl⟩ := Int.eq_ofNat_of_zero_le hk0
    have hk : k < 5 := by omega
    rw [show ((k : Int)).toNat = k from rfl] at h
    split at h
    · cases h
    · rename_i T' S' n' hp
      cases h
      unfold dputF at hp
      split at hp
      · cases hp
      · rename_i hfull
        obtain ⟨hok, hmem, hsz, _, _⟩ := putF_ok (hD k hk).1 hp
        obtain ⟨m, hn, ⟨hlt, hat⟩, hfind, hcase⟩ := putF_findD (hD k hk).1 hp
        have hat' : ∃ hx : m < (upd D k (T', S') k).1.length, (upd D k (T', S') k).1[m] = s := by rw [upd_at]; exact ⟨hlt, hat⟩
        have hSk := hS k hk
        have h128 := (hD k hk).2.1
        have hlen : T'.length ≤ 128 := by
          rcases hcase with rfl | ⟨h1, rfl⟩
          · exact h128
          · simp
            omega
        have hmay : ∀ x ∈ T', mayB k (bts x) = true := fun x hx => by
          rcases hmem x hx with h1 | h1
          · exact badB_all (hD k hk).2.2 x h1
          · rw [h1]; exact hm
        refine ⟨k, m, rfl, hk, hn, hD.upd ⟨hok, hlen, mayB_bad hmay⟩, fun i hi => ?_, hm, fun i hi => upd_ne _ _ hi, ?_, hat', ?_, ?_⟩
        · by_cases e : i = k
          · subst e; rw [upd_at]; show S'.length ≤ 4096; omega
          · rw [upd_ne _ _ e]; exact hS i hi
        · rw [upd_at]
          rcases hcase with rfl | ⟨_, rfl⟩
          · exact ⟨[], by simp⟩
          · exact ⟨[s], rfl⟩
        · rw [upd_at]; exact hfind
        · unfold putD
          rw [if_pos hm, show ((k : Int)).toNat = k from rfl, upd_at]
          have hd : dputF T' S' s = some (T', S', n) := by
            unfold dputF
            rw [if_neg (by omega), putF_old hok hlt hat, hn]
          show (match dputF T' S' s with | none => _ | some (T, S, n) => _) = _
          rw [hd]
  · cases h
theorem putD_err {D : Dic} {kind c : Int} {s : ByteArray} (h : putD D kind s = .error c) : c = 2 ∨ c = 6 := by
  unfold putD at h
  split at h
  · split at h
    · cases h; exact .inr rfl
    · cases h
  · cases h; exact .inl rfl
theorem Put1.name {D D' : Dic} {kind n : Int} {s : ByteArray} {k m : Nat} (h : Put1 D D' kind n s k m) : nameF D' kind n = .tuple #[.string s, .int .i64 0] := by
  obtain ⟨h1, h2⟩ := h.at_
  have hl := h.lt
  unfold nameF textF
  rw [h.hkind, if_pos (by omega), show ((k : Int)).toNat = k from rfl, h.id, if_pos (by omega), show ((m : Int)).toNat = m from rfl, show (D' k).1.getD m ⟨#[]⟩ = s from by rw [← h2]; simp [List.getD, h1]]
theorem Put1.idf {D D' : Dic} {kind n : Int} {s : ByteArray} {k m : Nat} (h : Put1 D D' kind n s k m) : idF D' kind s = n := by
  have hl := h.lt
  unfold idF
  rw [h.hkind, if_pos (by omega), show ((k : Int)).toNat = k from rfl, h.find, h.id]
theorem Put1.same {D D' : Dic} {kind n : Int} {s : ByteArray} {k m : Nat} (h : Put1 D D' kind n s k m) : sameN (ofD (upd D' k (D' k))) (ofD D') = true := sameN_iff.2 fun i hi => by
  by_cases e : i = k
  · subst e; unfold ofD; rw [upd_at]
  · unfold ofD; rw [upd_ne _ _ e]
/-- The document's put. -/
theorem putD_ref {D : Dic} (hD : DicOK D) (kind : Int) (s : ByteArray) : match putD D kind s with
    | .error c => refPutD (ofD D) kind s = .error c
    | .ok (D', n) => ∃ N', refPutD (ofD D) kind s = .ok (N', n) ∧ ∀ i, i < 5 → (D' i).1 = N' i := by
  unfold putD refPutD
  by_cases hm : mayB kind (bts s) = true
  · rw [if_pos hm, if_pos hm]
    obtain ⟨hk0, hk5⟩ := mayB_kind hm
    obtain ⟨k, rfl⟩ := Int.eq_ofNat_of_zero_le hk0
    have hk : k < 5 := by omega
    rw [show ((k : Int)).toNat = k from rfl]
    have h128 := (hD k hk).2.1
    unfold dputF ofD
    by_cases hf : 0 ≤ findF (D k).1 s
    · rw [if_neg (by omega), if_pos hf]
      unfold putF
      rw [if_pos hf]
      refine ⟨_, rfl, fun i hi => ?_⟩
      by_cases e : i = k
      · subst e; rw [upd_at]
      · rw [upd_ne _ _ e]
    · by_cases hl : 128 ≤ (D k).1.length
      · rw [if_pos ⟨by omega, hl⟩, if_neg hf, if_pos (by omega)]
      · rw [if_neg (by omega), if_neg hf, if_neg (by omega)]
        unfold putF
        rw [if_neg hf, if_neg (by omega)]
        refine ⟨_, rfl, fun i hi => ?_⟩
        by_cases e : i = k
        · subst e; rw [upd_at, upd_at]
        · rw [upd_ne _ _ e, upd_ne _ _ e]
  · rw [if_neg hm, if_neg hm]
/-- What all the names of a kind are found by. -/
theorem keepId (r : Bool) {E : Dic} (hr : r = true → DicOK E) {k m : Nat} (hk : k < 5) (hm : m < (allN (seenN r E) (k : Int)).length) : idN (seenN r E) (k : Int) ((allN (seenN r E) (k : Int))[m]) = m := by
  cases r with
  | false =>
    have h : allN (seenN false E) (k : Int) = [] := by unfold allN seenN; split <;> rfl
    rw [h] at hm
    simp at hm
  | true =>
    have h : allN (seenN true E) (k : Int) = (E k).1 := by unfold allN seenN; rw [if_pos (by omega)]; rfl
    have h2 : ∀ s, idN (seenN true E) (k : Int) s = findF (E k).1 s := fun s => by unfold idN seenN; rw [if_pos (by omega)]; rfl
    rw [h2]
    simp only [h] at hm ⊢
    exact findF_distinct (hr rfl k hk).1.distinct hm
theorem keepLen (r : Bool) {E : Dic} (hr : r = true → DicOK E) {k : Nat} (hk : k < 5) : (allN (seenN r E) (k : Int)).length ≤ 128 := by
  cases r with
  | false =>
    have h : allN (seenN false E) (k : Int) = [] := by unfold allN seenN; split <;> rfl
    rw [h]; simp
  | true =>
    have h : allN (seenN true E) (k : Int) = (E k).1 := by unfold allN seenN; rw [if_pos (by omega)]; rfl
    rw [h]
    exact (hr rfl k hk).2.1
theorem seenSize (r : Bool) {E : Dic} (hS : DicS E) {k : Nat} (hk : k < 5) : ∀ s ∈ allN (seenN r E) (k : Int), s.size ≤ 9223372036854775807 := by
  cases r with
  | false =>
    have h : allN (seenN false E) (k : Int) = [] := by unfold allN seenN; split <;> rfl
    rw [h]; simp
  | true =>
    have h : allN (seenN true E) (k : Int) = (E k).1 := by unfold allN seenN; rw [if_pos (by omega)]; rfl
    rw [h]
    exact (hS k hk).2.2
/-- Each of a kind's names tells its place. -/
theorem keepIds (r : Bool) (vs : Nat → Value × Value) (E : Dic) (w : World) (hV : DicV w vs E) (hS : DicS E) (hr : r = true ↔ DicOK E) {k : Nat} (hk : k < 5) (m : Nat) (hm : m < (allN (seenN r E) (k : Int)).length) :
    Calls Try.prog 33 #[dv vs, .int .i64 k, .string ((allN (seenN r E) (k : Int))[m])] w fun e w' => e = .returned (.tuple #[.int .i64 m, .bool true]) ∧ Ext w w' := by
  refine (tellId r vs E w hV hS hr k _ (seenSize r hS hk _ (List.getElem_mem hm))).mono ?_
  rintro e w' ⟨rfl, hx⟩
  refine ⟨?_, hx⟩
  rw [keepId r hr.1 hk hm]
  unfold idRes
  rw [Int.max_eq_left (by omega), decide_eq_true (by omega)]
end Go.Proofs.Ytogoejlbdbapoaa
