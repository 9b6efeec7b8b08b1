/- What a text holds ahead of a byte, and behind it. -/
import Derived.Test.YtilbofkpjgcchaaDoorBatD
namespace Go.Proofs.YtilbofkpjgcchaaDoor
set_option maxRecDepth 100000
set_option maxHeartbeats 2000000
set_option linter.unusedVariables false
set_option linter.unusedSimpArgs false
open Go.RowKit

def notB (x : UInt8) : Int → Bool := fun c => decide (c ≠ x.toNat)
theorem idx_span (l : List UInt8) (x : UInt8) : Lib.indexByte l x = if spanL (notB x) l < l.length then (spanL (notB x) l : Int) else -1 := by
  induction l with
  | nil => rfl
  | cons c l ih =>
    unfold Lib.indexByte
    by_cases h : c = x
    · subst h
      rw [if_pos (by simp), spanL_no (by simp [notB])]
      simp
    · have hn : notB x c.toNat = true := by
        unfold notB
        exact decide_eq_true (fun e => h (UInt8.toNat_inj.1 (by omega)))
      rw [if_neg (by simpa using h), spanL_yes hn, ih, List.length_cons]
      by_cases hl : spanL (notB x) l < l.length
      · have h2 : spanL (notB x) l + 1 < l.length + 1 := by omega
        simp only [if_pos hl, if_pos h2]
        have h3 : (((spanL (notB x) l : Nat) : Int) == -1) = false := by rw [beq_eq_false_iff_ne]; omega
        rw [h3]; simp
      · have h2 : ¬ spanL (notB x) l + 1 < l.length + 1 := by omega
        simp only [if_neg hl, if_neg h2]
        simp
/-- Ahead of the first blank; behind it. -/
def cut1 (s : ByteArray) : ByteArray := s.extract 0 (spanL (notB 32) (bts s))
def cut2 (s : ByteArray) : ByteArray := s.extract (spanL (notB 32) (bts s) + 1) s.size
theorem bts_cut1 (s : ByteArray) : bts (cut1 s) = (bts s).take (spanL (notB 32) (bts s)) := by unfold cut1; rw [bts_extract]; simp
theorem bts_cut2 (s : ByteArray) : bts (cut2 s) = (bts s).drop (spanL (notB 32) (bts s) + 1) := by
  unfold cut2
  rw [bts_extract, List.take_of_length_le]
  rw [List.length_drop, bts_len]; omega
theorem slite_cut (s : ByteArray) (w : World) (hs : s.size ≤ 9223372036854775806) :
    Calls Tryd.prog 55 #[.string s, .string ⟨#[32]⟩] w fun e w' => (∃ b, e = .returned (.tuple #[.string (cut1 s), .string (cut2 s), .bool b])) ∧ Ext w w' := by
  have hc := Tryd.stringslite_Index_one s 32
  rw [show s.data.toList = bts s from rfl, idx_span] at hc
  have hle := spanL_le (notB 32) (bts s)
  rw [bts_len] at hc hle
  by_cases h : spanL (notB 32) (bts s) < s.size
  · have e1 : cut1 s = s.extract 0 (spanL (notB 32) (bts s)) := rfl
    have e2 : cut2 s = s.extract (spanL (notB 32) (bts s) + 1) s.size := rfl
    have E1 := Lib.hid e1
    have E2 := Lib.hid e2
    clear e1 e2
    simp only [if_pos h] at hc
    have HC := Lib.hid hc
    clear hc
    generalize spanL (notB 32) (bts s) = n at *
    go_enter Tryd.func55, Tryd.ntmps55
    go_wp2_with fail
    refine (HC.out _).mono ?_
    rintro e w' ⟨rfl, rfl⟩
    go_wp2_with fail
    go_quiet (fail)
    go_wp2_with fail
    go_ret3
    exact ⟨⟨_, by rw [E1.out, E2.out]; rfl⟩, (by repeat (first | exact Ext.refl _ | with_reducible assumption | with_reducible refine Ext.alloc_of ?_ _ | with_reducible refine Ext.drewN_of ?_ _ | with_reducible refine Ext.drew_of ?_ | (with_reducible refine Ext.set_of ?_ ?hsz _; case hsz => ((first | exact Nat.le_refl _ | omega | (simp; omega)))) | with_reducible refine Ext.via (by assumption) ?_))⟩
  · have e1 : cut1 s = s := bts_inj (by rw [bts_cut1, List.take_of_length_le (by rw [bts_len]; omega)])
    have e2 : cut2 s = ⟨#[]⟩ := bts_inj (by rw [bts_cut2, List.drop_eq_nil_of_le (by rw [bts_len]; omega)]; rfl)
    have E1 := Lib.hid e1
    have E2 := Lib.hid e2
    clear e1 e2
    simp only [if_neg h] at hc
    have HC := Lib.hid hc
    clear hc
    go_enter Tryd.func55, Tryd.ntmps55
    go_wp2_with fail
    refine (HC.out _).mono ?_
    rintro e w' ⟨rfl, rfl⟩
    go_wp2_with fail
    go_ret3
    exact ⟨⟨_, by rw [E1.out, E2.out]; rfl⟩, Ext.refl _⟩
theorem cut_any (s : ByteArray) (w : World) (hs : s.size ≤ 9223372036854775806) :
    Calls Tryd.prog 42 #[.string s, .string ⟨#[32]⟩] w fun e w' => (∃ b, e = .returned (.tuple #[.string (cut1 s), .string (cut2 s), .bool b])) ∧ Ext w w' := by
  go_enter Tryd.func42, Tryd.ntmps42
  go_wp2_with fail
  refine (slite_cut s _ hs).mono ?_
  rintro e w' ⟨⟨b, rfl⟩, hx⟩
  go_wp2_with fail
  go_ret3
  exact ⟨⟨b, rfl⟩, hx⟩
end Go.Proofs.YtilbofkpjgcchaaDoor
