/- The reference's Number. -/
import Derived.Test.YtofglbngnjcpeaaLexN
namespace Go.Proofs.Ytofglbngnjcpeaa
set_option maxRecDepth 100000
set_option maxHeartbeats 2000000
set_option linter.unusedVariables false
set_option linter.unusedSimpArgs false
open Go.RowKit

def numD : Int → List UInt8 → Option Int
  | n, [] => some n
  | n, c :: l => if 48 ≤ c.toNat ∧ c.toNat ≤ 57 then numD (10 * n + (c.toNat - 48 : Nat)) l else none
theorem numD_no {n : Int} {c : UInt8} {l : List UInt8} (h : ¬ (48 ≤ c.toNat ∧ c.toNat ≤ 57)) : numD n (c :: l) = none := by unfold numD; rw [if_neg h]
theorem numD_yes {n : Int} {c : UInt8} {l : List UInt8} (h : 48 ≤ c.toNat ∧ c.toNat ≤ 57) : numD n (c :: l) = numD (10 * n + (c.toNat - 48 : Nat)) l := by
  show (if 48 ≤ c.toNat ∧ c.toNat ≤ 57 then _ else _) = _
  rw [if_pos h]
def capD (r : Option Int) : Int := match r with | some n => if 2147483647 < n then -1 else n | none => -1
def numR (k : Int) (l : List UInt8) : Int := if k ≠ 1 ∨ l = [] ∨ 10 < l.length ∨ 1 < l.length ∧ l.head? = some 48 then -1 else capD (numD 0 l)

theorem pow10 (k : Nat) (h : k ≤ 10) : (10 : Int) ^ k ≤ 10000000000 := by
  have : k = 0 ∨ k = 1 ∨ k = 2 ∨ k = 3 ∨ k = 4 ∨ k = 5 ∨ k = 6 ∨ k = 7 ∨ k = 8 ∨ k = 9 ∨ k = 10 := by omega
  rcases this with rfl | rfl | rfl | rfl | rfl | rfl | rfl | rfl | rfl | rfl | rfl <;> decide
theorem refNum_go (t : Tk) (w : World) (h1 : t.kind = 1) (h2 : t.text.toList.isEmpty = false) (h10 : t.text.size ≤ 10) (h3 : t.text.size ≤ 1 ∨ 1 < t.text.size ∧ ∃ h0 : 0 < t.text.size, ((t.text[0].toNat : Int) == 48) = false) :
    Calls Try.prog 18 #[tkV t] w fun e w' => e = .returned (.int .i64 (capD (numD 0 (bts t.text)))) ∧ Ext w w' := by
  obtain ⟨tk, tt, ta⟩ := t
  unfold tkV
  dsimp only at *
  subst h1
  have hr := RowAt.new w 29 [.int .i64 1, .string tt, .int .i64 ta]
  have hst := Lib.hid (show numD 0 (bts tt) = numD 0 ((bts tt).drop 0) by rw [List.drop_zero])
  rcases h3 with h3 | ⟨hs1, h0, h3⟩
  all_goals
    go_enter Try.func18, Try.ntmps18
    go_upto_region 1 with fail
    have hx0 := Ext.alloc w (.cells #[.int .i64 1, .string tt, .int .i64 ta] 29)
    generalize w.alloc (.cells #[.int .i64 1, .string tt, .int .i64 ta] 29) = w1 at *
    obtain ⟨c0, c1, c2, f0, f1, f2⟩ := hr.facts3
    clear hr
    go_wp2_with fail
    clear h3
    go_loop [3, 34] (fun v i => ∃ (k : Nat) (n : Int), k ≤ tt.size ∧ i = .int .i64 k ∧ v = .int .i64 n ∧ 0 ≤ n ∧ n < 10 ^ k ∧ numD 0 (bts tt) = numD n ((bts tt).drop k)) (fun _ i => tt.size - (intOf i).toNat)
    case atStart => exact ⟨0, 0, Nat.zero_le _, rfl, rfl, by omega, by decide, hst.out⟩
    case round =>
      obtain ⟨k, n, hk, rfl, rfl, hn0, hn1, hs⟩ := hrel
      have hp := pow10 k (by omega)
      have hn2 : n < 10000000000 := by omega
      have Hs := Lib.hid hs
      have Hn1 := Lib.hid hn1
      clear hs hn1 hp
      by_cases hlt : k < tt.size
      · have hb := bts_drop tt k hlt
        have hb256 : tt[k].toNat < 256 := tt[k].toNat_lt
        have Hb := Lib.hid hb
        clear hb
        by_cases hA : tt[k].toNat < 48
        · have HF : Hid (numD 0 (bts tt) = none) := Lib.hid (by rw [Hs.out, Hb.out, numD_no (by omega)])
          go_wp2_with fail
          go_ret
          exact ⟨by rw [HF.out]; rfl, hx0⟩
        by_cases hB : 57 < tt[k].toNat
        · have HF : Hid (numD 0 (bts tt) = none) := Lib.hid (by rw [Hs.out, Hb.out, numD_no (by omega)])
          go_wp2_with fail
          go_ret
          exact ⟨by rw [HF.out]; rfl, hx0⟩
        have hA' : 48 ≤ tt[k].toNat := by omega
        have hB' : tt[k].toNat ≤ 57 := by omega
        have HF : Hid (numD 0 (bts tt) = numD (10 * n + ((tt[k].toNat : Int) - 48)) ((bts tt).drop (k + 1))) := Lib.hid (by rw [Hs.out, Hb.out, numD_yes ⟨hA', hB'⟩]; congr 1; omega)
        clear hA hB
        go_wp2_with fail
        go_round
        case rel => exact ⟨k + 1, 10 * n + ((tt[k].toNat : Int) - 48), by omega, by go_num, rfl, by omega, by have := Hn1.out; rw [Int.pow_succ]; omega, HF.out⟩
        case measure => simp [intOf]; omega
      · have HF : Hid (numD 0 (bts tt) = some n) := Lib.hid (by rw [Hs.out, List.drop_eq_nil_of_le (by rw [bts_len]; omega)]; rfl)
        by_cases hbig : 2147483647 < n
        · go_wp2_with fail
          go_ret
          exact ⟨by rw [HF.out]; show _ = Ending.returned (.int .i64 (if 2147483647 < n then -1 else n)); rw [if_pos (by omega)]; rfl, hx0⟩
        · go_wp2_with fail
          go_ret
          exact ⟨by rw [HF.out]; show _ = Ending.returned (.int .i64 (if 2147483647 < n then -1 else n)); rw [if_neg (by omega)]; rfl, hx0⟩
theorem refNum_stop (t : Tk) (w : World) (h : (t.kind != 1) = true ∨ (t.kind != 1) = false ∧ t.text.toList.isEmpty = true ∨ (t.kind != 1) = false ∧ t.text.toList.isEmpty = false ∧ 10 < (t.text.size : Int) ∨ (t.kind != 1) = false ∧ t.text.toList.isEmpty = false ∧ (t.text.size : Int) ≤ 10 ∧ 1 < (t.text.size : Int) ∧ ∃ h0 : 0 < t.text.size, ((t.text[0].toNat : Int) == 48) = true) :
    Calls Try.prog 18 #[tkV t] w fun e w' => e = .returned (.int .i64 (-1)) ∧ Ext w w' := by
  obtain ⟨tk, tt, ta⟩ := t
  unfold tkV
  dsimp only at *
  rcases h with h | ⟨h, h'⟩ | ⟨h, h', h''⟩ | ⟨h, h', h'', h1, h0, h2⟩
  all_goals
    go_enter Try.func18, Try.ntmps18
    go_wp2_with fail
    go_ret
    exact ⟨rfl, (by repeat (first | exact Ext.refl _ | with_reducible refine Ext.alloc_of ?_ _ | with_reducible refine Ext.drewN_of ?_ _ | with_reducible refine Ext.drew_of ?_ | (with_reducible refine Ext.set_of ?_ ?hsz _; case hsz => ((first | exact Nat.le_refl _ | omega | (simp; omega)))) | with_reducible refine Ext.via (by assumption) ?_))⟩
theorem refNum_any (t : Tk) (w : World) : Calls Try.prog 18 #[tkV t] w fun e w' => e = .returned (.int .i64 (numR t.kind (bts t.text))) ∧ Ext w w' := by
  unfold numR
  by_cases h1 : t.kind = 1
  case neg => rw [if_pos (.inl h1)]; exact refNum_stop t w (.inl (by simpa using h1))
  by_cases h2 : bts t.text = []
  · rw [if_pos (.inr (.inl h2))]
    refine refNum_stop t w (.inr (.inl ⟨by simp [h1], ?_⟩))
    rw [ByteArray.toList_eq]; exact List.isEmpty_iff.2 h2
  have he : t.text.toList.isEmpty = false := by rw [ByteArray.toList_eq]; cases hb : t.text.data.toList with | nil => exact absurd hb h2 | cons _ _ => rfl
  have hpos : 0 < t.text.size := by rw [← bts_len]; exact List.length_pos_iff.2 h2
  by_cases h10 : 10 < (bts t.text).length
  · rw [if_pos (.inr (.inr (.inl h10)))]
    rw [bts_len] at h10
    exact refNum_stop t w (.inr (.inr (.inl ⟨by simp [h1], he, by omega⟩)))
  have hb := bts_drop t.text 0 hpos
  rw [List.drop_zero] at hb
  by_cases h3 : 1 < (bts t.text).length ∧ (bts t.text).head? = some 48
  · rw [if_pos (.inr (.inr (.inr h3)))]
    obtain ⟨h4, h5⟩ := h3
    rw [hb] at h5
    have h5 : t.text[0] = 48 := by simpa using h5
    rw [bts_len] at h4 h10
    exact refNum_stop t w (.inr (.inr (.inr ⟨by simp [h1], he, by omega, by omega, hpos, by rw [h5]; rfl⟩)))
  · rw [if_neg (by rintro (h | h | h | h); exact h h1; exact h2 h; exact h10 h; exact h3 h)]
    rw [bts_len] at h10 h3
    refine refNum_go t w h1 he (by omega) ?_
    by_cases hs1 : t.text.size ≤ 1
    · exact .inl hs1
    · refine .inr ⟨by omega, hpos, ?_⟩
      have : t.text[0].toNat ≠ 48 := fun e => h3 ⟨by omega, by rw [hb]; simp; exact UInt8.toNat_inj.1 e⟩
      simp; omega
end Go.Proofs.Ytofglbngnjcpeaa
