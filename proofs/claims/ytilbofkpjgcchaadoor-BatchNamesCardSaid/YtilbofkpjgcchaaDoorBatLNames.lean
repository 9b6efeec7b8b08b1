/- The walk of BatchNames. -/
import Derived.Test.YtilbofkpjgcchaaDoorBatK
namespace Go.Proofs.YtilbofkpjgcchaaDoor
set_option maxRecDepth 100000
set_option maxHeartbeats 2000000
set_option linter.unusedVariables false
set_option linter.unusedSimpArgs false
open Go.RowKit

theorem nameB_iff {s : ByteArray} : nameB s = true ↔ (∀ c ∈ bts s, letterC c.toNat = true) ∧ 1 ≤ s.size ∧ s.size ≤ 32 := by
  unfold nameB
  rw [allB_iff, spanL_full, bts_len]
theorem valB_iff {s : ByteArray} : valB s = true ↔ (∀ c ∈ bts s, quotedC c.toNat = true) ∧ s.size ≤ 40 := by
  unfold valB
  rw [allB_iff, spanL_full, bts_len]; simp
theorem names_plain (s t : ByteArray) : nameB (s ++ t) = (decide (s.size + t.size ≤ 32) && (nameB s && nameB t || (decide (s = ⟨#[]⟩) && nameB t || decide (t = ⟨#[]⟩) && nameB s))) := by
  rw [Bool.eq_iff_iff]
  simp only [Bool.and_eq_true, Bool.or_eq_true, decide_eq_true_eq, nameB_iff, bts_append, ByteArray.size_append, List.mem_append]
  constructor
  · rintro ⟨h1, h2, h3⟩
    refine ⟨h3, ?_⟩
    by_cases hs : s = ⟨#[]⟩
    · subst hs
      have h0 : (⟨#[]⟩ : ByteArray).size = 0 := rfl
      exact .inr (.inl ⟨rfl, fun c hc => h1 c (.inr hc), by omega, by omega⟩)
    · by_cases ht : t = ⟨#[]⟩
      · subst ht
        have h0 : (⟨#[]⟩ : ByteArray).size = 0 := rfl
        exact .inr (.inr ⟨rfl, fun c hc => h1 c (.inl hc), by omega, by omega⟩)
      · have hs1 : 1 ≤ s.size := by
          rcases Nat.eq_zero_or_pos s.size with h | h
          · exact absurd ((empty_iff s).2 (List.eq_nil_of_length_eq_zero (by rw [bts_len]; exact h))) hs
          · exact h
        have ht1 : 1 ≤ t.size := by
          rcases Nat.eq_zero_or_pos t.size with h | h
          · exact absurd ((empty_iff t).2 (List.eq_nil_of_length_eq_zero (by rw [bts_len]; exact h))) ht
          · exact h
        exact .inl ⟨⟨fun c hc => h1 c (.inl hc), hs1, by omega⟩, fun c hc => h1 c (.inr hc), ht1, by omega⟩
  · rintro ⟨h3, ⟨⟨a1, a2, a3⟩, b1, b2, b3⟩ | ⟨rfl, b1, b2, b3⟩ | ⟨rfl, b1, b2, b3⟩⟩
    · exact ⟨fun c hc => hc.elim (a1 c) (b1 c), by omega, h3⟩
    · exact ⟨fun c hc => hc.elim (fun h => by cases h) (b1 c), by omega, h3⟩
    · exact ⟨fun c hc => hc.elim (b1 c) (fun h => by cases h), by omega, h3⟩
theorem name_val {s : ByteArray} (h : nameB s = true) : valB s = true ∧ errC ⟨1, s, ⟨#[]⟩, ⟨#[]⟩, ⟨#[]⟩⟩ = 0 := by
  have h' := nameB_iff.1 h
  constructor
  · refine valB_iff.2 ⟨fun c hc => ?_, by omega⟩
    have := h'.1 c hc
    unfold letterC at this
    unfold quotedC
    have := of_decide_eq_true this
    exact decide_eq_true (by omega)
  · unfold errC
    rw [if_pos]
    refine okC_iff.2 ⟨show (1 : Int) ≤ 1 by decide, show (1 : Int) ≤ 8 by decide, ?_, show okF 1 false ⟨#[]⟩ = true by decide, show okF 2 false ⟨#[]⟩ = true by decide, show okF 3 false ⟨#[]⟩ = true by decide⟩
    show okF 0 true s = true
    unfold okF
    simpa using h
set_option maxHeartbeats 4000000 in
theorem names_walk (s t : ByteArray) (w : World) (hs : s.size ≤ 9223372036854775807) (ht : t.size ≤ 9223372036854775807) (hW : Ways w) :
    Calls Tryd.prog 4 #[.string s, .string t] w fun e w' => e = .returned (.bool true) ∧ Ext w w' := by
  go_enter Tryd.func4, Tryd.ntmps4
  go_wp2_with fail
  refine (wakes_any _ hW).mono ?_
  rintro e w1 ⟨rfl, hx1⟩
  go_wp2_with fail
  go_quiet (fail)
  have z1 : (s.extract 0 (min (s.size : Int) 40).toNat).size ≤ 40 := by simp; omega
  have z2 : (t.extract 0 (min (t.size : Int) 40).toNat).size ≤ 40 := by simp; omega
  generalize s.extract 0 (min (s.size : Int) 40).toNat = a at *
  generalize t.extract 0 (min (t.size : Int) 40).toNat = b at *
  have hp := names_plain a b
  have hv := name_val (s := a)
  have ea := empty_beq a
  have eb := empty_beq b
  have hna := fun w => name_any a w (by omega)
  have hnb := fun w => name_any b w (by omega)
  have hnc := fun w => name_any (a ++ b) w (by rw [ByteArray.size_append]; omega)
  have hva := fun w => val_any a w (by omega)
  have hch := fun w' (h : Ext w w') => check_any ⟨1, a, ⟨#[]⟩, ⟨#[]⟩, ⟨#[]⟩⟩ w' ⟨by dsimp only; omega, Nat.zero_le _, Nat.zero_le _, Nat.zero_le _⟩ (hW.ext h)
  generalize nameB (a ++ b) = nc at *
  generalize nameB a = na at *
  generalize nameB b = nb at *
  generalize decide (a = ⟨#[]⟩) = da at *
  generalize decide (b = ⟨#[]⟩) = db at *
  generalize hvb : valB a = va at *
  generalize errC ⟨1, a, ⟨#[]⟩, ⟨#[]⟩, ⟨#[]⟩⟩ = er at *
  clear hvb
  unfold Ch.v at hch
  dsimp only at hch
  have HNA := Lib.hid hna
  have HNB := Lib.hid hnb
  have HNC := Lib.hid hnc
  have HVA := Lib.hid hva
  have HCH := Lib.hid hch
  clear hna hnb hnc hva hch
  by_cases hl : a.size + b.size ≤ 32
  all_goals
    cases na
    all_goals
      cases nb
      all_goals
        cases da
        all_goals
          cases db
          all_goals
            simp [hl] at hp hv
            subst hp
            try obtain ⟨rfl, rfl⟩ := hv
            go_wp2_with (first | (go_at_call 15; (first | refine (HNA.out _).mono ?_ | refine (HNB.out _).mono ?_ | refine (HNC.out _).mono ?_); rintro e w' ⟨rfl, rfl⟩) | (go_at_call 17; refine (HVA.out _).mono ?_; rintro e w' ⟨rfl, rfl⟩) | (go_at_call 12; refine (HCH.out _ (by repeat (first | exact Ext.refl _ | with_reducible assumption | with_reducible refine Ext.alloc_of ?_ _ | with_reducible refine Ext.drewN_of ?_ _ | with_reducible refine Ext.drew_of ?_ | (with_reducible refine Ext.set_of ?_ ?hsz _; case hsz => ((first | exact Nat.le_refl _ | omega | (simp; omega)))) | with_reducible refine Ext.via (by assumption) ?_))).mono ?_; rintro e w' ⟨rfl, hx2⟩))
            go_ret
            exact ⟨rfl, (by repeat (first | exact Ext.refl _ | with_reducible assumption | with_reducible refine Ext.alloc_of ?_ _ | with_reducible refine Ext.drewN_of ?_ _ | with_reducible refine Ext.drew_of ?_ | (with_reducible refine Ext.set_of ?_ ?hsz _; case hsz => ((first | exact Nat.le_refl _ | omega | (simp; omega)))) | with_reducible refine Ext.via (by assumption) ?_))⟩
end Go.Proofs.YtilbofkpjgcchaaDoor
