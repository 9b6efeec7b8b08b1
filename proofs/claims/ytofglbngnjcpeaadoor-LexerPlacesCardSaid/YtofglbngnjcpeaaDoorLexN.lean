/- The number that a token says. -/
import Derived.Test.YtofglbngnjcpeaaDoorLexE
import Derived.ScopeJumps
namespace Go.Proofs.YtofglbngnjcpeaaDoor
set_option maxRecDepth 100000
set_option maxHeartbeats 2000000
set_option linter.unusedVariables false
set_option linter.unusedSimpArgs false
open Go.RowKit

/-- What comes of a number. -/
def numE (r : Option Int) : Ending := .returned (match r with | some n => .tuple #[.int .i64 n, .bool true] | none => .tuple #[.int .i64 0, .bool false])
theorem number_go (t : Tk) (w : World) (hs : t.text.size ≤ 9223372036854775807) (h1 : t.kind = 1) (h2 : (t.text.toList.isEmpty) = false) (h3 : ¬ ((bts t.text).head? = some 48 ∧ bts t.text ≠ [48])) :
    Calls Tryd.prog 9 #[tkV t] w fun e w' => e = numE (numL 0 (bts t.text)) ∧ Ext w w' := by
  obtain ⟨tk, tt, ta⟩ := t
  unfold tkV
  dsimp only at *
  subst h1
  have hr := RowAt.new w 28 [.int .i64 1, .string tt, .int .i64 ta]
  go_enter Tryd.func9, Tryd.ntmps9
  go_wp2_with fail
  have hx0 := Ext.alloc w (.cells #[.int .i64 1, .string tt, .int .i64 ta] 28)
  generalize w.alloc (.cells #[.int .i64 1, .string tt, .int .i64 ta] 28) = w1 at *
  obtain ⟨c0, c1, c2, f0, f1, f2⟩ := hr.facts3
  clear hr
  have hpos : 0 < tt.size := by
    rcases Nat.eq_zero_or_pos tt.size with h | h
    · have : tt.toList = [] := by rw [ByteArray.toList_eq]; exact List.eq_nil_of_length_eq_zero (by simpa using h)
      rw [this] at h2; cases h2
    · exact h
  have hd : (((tt[0].toNat : Int) == 48) = false) ∨ (((tt[0].toNat : Int) == 48) = true ∧ (tt.toList == [48]) = true) := by
    by_cases h : tt[0].toNat = 48
    · refine .inr ⟨by simp [h], ?_⟩
      have hb := bts_drop tt 0 hpos
      rw [List.drop_zero] at hb
      have : bts tt = [48] := Classical.byContradiction fun hne => h3 ⟨by rw [hb]; simp; exact UInt8.toNat_inj.1 h, hne⟩
      rw [ByteArray.toList_eq]; exact beq_iff_eq.2 this
    · exact .inl (by simp; omega)
  have hst := Lib.hid (show numL 0 (bts tt) = numL 0 ((bts tt).drop 0) by rw [List.drop_zero])
  clear h3
  refine wp_scope_jumps 0 (fun a' w' => w' = w1 ∧ ∃ (i : Nat) (n : Int) (u7 u8 u9 u10 u11 u12 u13 u14 u15 u16 u17 u18 u19 u20 u21 u22 u23 u24 u25 u26 u27 u28 u29 u30 u31 u32 u33 u34 u35 u36 u37 u38 u39 u40 u41 u42 u43 u44 u45 u46 u47 u48 u49 u50 u51 : Value), a' = { tmps := #[.agg #[.int .i64 1, .string tt, .int .i64 ta], .pointer (some ⟨w.heap.size, 0, none⟩), .int .i64 0, .bool false, .string tt, .int .i64 n, .int .i64 i, u7, u8, u9, u10, u11, u12, u13, u14, u15, u16, u17, u18, u19, u20, u21, u22, u23, u24, u25, u26, u27, u28, u29, u30, u31, u32, u33, u34, u35, u36, u37, u38, u39, u40, u41, u42, u43, u44, u45, u46, u47, u48, u49, u50, u51], defers := [] } ∧ 0 ≤ n ∧ n < 2147483648 ∧ i ≤ tt.size ∧ numL 0 (bts tt) = numL n ((bts tt).drop i)) (fun a' _ => tt.size - (intOf (a'.tmps.getD 6 undef)).toNat) rfl ?_ ?_
  · rcases hd with hd | ⟨hd, hd'⟩
    all_goals
      go_wp2_with fail
      go_step3
      have Hst := hst
      have hlt := hpos
      have hb256 : tt[0].toNat < 256 := tt[0].toNat_lt
      have Hdrop := Lib.hid (bts_drop tt 0 hlt)
      by_cases hA : tt[0].toNat < 48
      · have HF : Hid (numL 0 (bts tt) = none) := Lib.hid (by rw [Hst.out, Hdrop.out, numL_no (by omega)])
        go_wp2_with fail
        simp only [Exit.jump]
        go_ret2
        exact ⟨by rw [HF.out]; rfl, hx0⟩
      by_cases hB : 57 < tt[0].toNat
      · have HF : Hid (numL 0 (bts tt) = none) := Lib.hid (by rw [Hst.out, Hdrop.out, numL_no (by omega)])
        go_wp2_with fail
        simp only [Exit.jump]
        go_ret2
        exact ⟨by rw [HF.out]; rfl, hx0⟩
      have hA' : 48 ≤ tt[0].toNat := by omega
      have hB' : tt[0].toNat ≤ 57 := by omega
      clear hA hB
      by_cases hC : 2147483648 ≤ 10 * (0 : Int) + ((tt[0].toNat : Int) - 48)
      · have HF : Hid (numL 0 (bts tt) = none) := Lib.hid (by rw [Hst.out, Hdrop.out, numL_no (by omega)])
        go_wp2_with fail
        all_goals (simp only [Exit.jump]; go_ret2; exact ⟨by rw [HF.out]; rfl, hx0⟩)
      · have hC' : 10 * (0 : Int) + ((tt[0].toNat : Int) - 48) < 2147483648 := by omega
        clear hC
        have HN : Hid (numL 0 (bts tt) = numL (10 * (0 : Int) + ((tt[0].toNat : Int) - 48)) ((bts tt).drop (0 + 1))) := Lib.hid (by rw [Hst.out, Hdrop.out, numL_yes (by omega)]; congr 1; omega)
        go_wp2_with fail
        go_step3
        refine ⟨rfl, rfl, 1, _, _, _, _, _, _, _, _, _, _, _, _, _, _, _, _, _, _, _, _, _, _, _, _, _, _, _, _, _, _, _, _, _, _, _, _, _, _, _, _, _, _, _, _, _, _, rfl, ?_, ?_, by omega, ?_⟩
        · omega
        · omega
        · simpa using HN.out
        skip
  · rintro a' w' ⟨rfl, i, n, u7, u8, u9, u10, u11, u12, u13, u14, u15, u16, u17, u18, u19, u20, u21, u22, u23, u24, u25, u26, u27, u28, u29, u30, u31, u32, u33, u34, u35, u36, u37, u38, u39, u40, u41, u42, u43, u44, u45, u46, u47, u48, u49, u50, u51, rfl, hn0, hn1, hi, hst⟩
    have Hst := Lib.hid hst
    clear hst hd
    by_cases hlt : i < tt.size
    · have hb256 : tt[i].toNat < 256 := tt[i].toNat_lt
      have Hdrop := Lib.hid (bts_drop tt i hlt)
      by_cases hA : tt[i].toNat < 48
      · have HF : Hid (numL 0 (bts tt) = none) := Lib.hid (by rw [Hst.out, Hdrop.out, numL_no (by omega)])
        go_wp2_with fail
        simp only [Exit.jump]
        go_ret2
        exact ⟨by rw [HF.out]; rfl, hx0⟩
      by_cases hB : 57 < tt[i].toNat
      · have HF : Hid (numL 0 (bts tt) = none) := Lib.hid (by rw [Hst.out, Hdrop.out, numL_no (by omega)])
        go_wp2_with fail
        simp only [Exit.jump]
        go_ret2
        exact ⟨by rw [HF.out]; rfl, hx0⟩
      have hA' : 48 ≤ tt[i].toNat := by omega
      have hB' : tt[i].toNat ≤ 57 := by omega
      clear hA hB
      by_cases hC : 2147483648 ≤ 10 * (n : Int) + ((tt[i].toNat : Int) - 48)
      · have HF : Hid (numL 0 (bts tt) = none) := Lib.hid (by rw [Hst.out, Hdrop.out, numL_no (by omega)])
        go_wp2_with fail
        all_goals (simp only [Exit.jump]; go_ret2; exact ⟨by rw [HF.out]; rfl, hx0⟩)
      · have hC' : 10 * (n : Int) + ((tt[i].toNat : Int) - 48) < 2147483648 := by omega
        clear hC
        have HN : Hid (numL 0 (bts tt) = numL (10 * (n : Int) + ((tt[i].toNat : Int) - 48)) ((bts tt).drop (i + 1))) := Lib.hid (by rw [Hst.out, Hdrop.out, numL_yes (by omega)]; congr 1; omega)
        go_wp2_with fail
        go_step3
        refine ⟨rfl, ⟨rfl, i + 1, _, _, _, _, _, _, _, _, _, _, _, _, _, _, _, _, _, _, _, _, _, _, _, _, _, _, _, _, _, _, _, _, _, _, _, _, _, _, _, _, _, _, _, _, _, _, rfl, ?_, ?_, by omega, ?_⟩, ?_⟩
        · omega
        · omega
        · simpa using HN.out
        (simp [intOf]; omega)
    · have HF : Hid (numL 0 (bts tt) = some n) := Lib.hid (by rw [Hst.out, List.drop_eq_nil_of_le (by rw [bts_len]; omega)]; rfl)
      go_wp2_with fail
      simp only [Exit.jump]
      go_ret2
      exact ⟨by rw [HF.out]; rfl, hx0⟩

theorem number_stop (t : Tk) (w : World) (hs : t.text.size ≤ 9223372036854775807) (h : (t.kind != 1) = true ∨ (t.kind != 1) = false ∧ t.text.toList.isEmpty = true ∨ (t.kind != 1) = false ∧ t.text.toList.isEmpty = false ∧ ∃ h0 : 0 < t.text.size, ((t.text[0].toNat : Int) == 48) = true ∧ (t.text.toList == [48]) = false) :
    Calls Tryd.prog 9 #[tkV t] w fun e w' => e = numE none ∧ Ext w w' := by
  obtain ⟨tk, tt, ta⟩ := t
  unfold tkV
  dsimp only at *
  rcases h with h | ⟨h, h'⟩ | ⟨h, h', h0, h1, h2⟩
  all_goals
    go_enter Tryd.func9, Tryd.ntmps9
    go_wp2_with fail
    go_step3
    go_wp2_with fail
    rw [Exit.noGoto_ret]
    go_ret2
    exact ⟨rfl, (by repeat (first | exact Ext.refl _ | with_reducible assumption | with_reducible refine Ext.alloc_of ?_ _ | with_reducible refine Ext.drewN_of ?_ _ | with_reducible refine Ext.drew_of ?_ | (with_reducible refine Ext.set_of ?_ ?hsz _; case hsz => ((first | exact Nat.le_refl _ | omega | (simp; omega)))) | with_reducible refine Ext.via (by assumption) ?_))⟩
theorem number_any (t : Tk) (w : World) (hs : t.text.size ≤ 9223372036854775807) :
    Calls Tryd.prog 9 #[tkV t] w fun e w' => e = numE t.number ∧ Ext w w' := by
  unfold Tk.number numberF
  by_cases h1 : t.kind = 1
  case neg => rw [if_pos (.inl h1)]; exact number_stop t w hs (.inl (by simpa using h1))
  by_cases h2 : bts t.text = []
  · rw [if_pos (.inr (.inl h2))]
    refine number_stop t w hs (.inr (.inl ⟨by simp [h1], ?_⟩))
    rw [ByteArray.toList_eq]; exact List.isEmpty_iff.2 h2
  by_cases h3 : (bts t.text).head? = some 48 ∧ bts t.text ≠ [48]
  · rw [if_pos (.inr (.inr h3))]
    have hpos : 0 < t.text.size := by rw [← bts_len]; exact List.length_pos_iff.2 h2
    refine number_stop t w hs (.inr (.inr ⟨by simp [h1], ?_, hpos, ?_, ?_⟩))
    · rw [ByteArray.toList_eq]; cases hb : t.text.data.toList with | nil => exact absurd hb h2 | cons _ _ => rfl
    · have hb := bts_drop t.text 0 hpos
      rw [List.drop_zero] at hb
      have h := h3.1
      rw [hb] at h
      have h : t.text[0] = 48 := by simpa using h
      rw [h]; rfl
    · rw [ByteArray.toList_eq]; exact beq_eq_false_iff_ne.2 h3.2
  · rw [if_neg (by rintro (h | h | h); exact h h1; exact h2 h; exact h3 h)]
    refine number_go t w hs h1 ?_ h3
    rw [ByteArray.toList_eq]; cases hb : t.text.data.toList with | nil => exact absurd hb h2 | cons _ _ => rfl
end Go.Proofs.YtofglbngnjcpeaaDoor
