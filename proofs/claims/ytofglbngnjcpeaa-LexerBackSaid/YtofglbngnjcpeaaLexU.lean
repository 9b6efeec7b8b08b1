/- The reference's Stands and Right. -/
import Derived.Test.YtofglbngnjcpeaaLexS
namespace Go.Proofs.Ytofglbngnjcpeaa
set_option maxRecDepth 100000
set_option maxHeartbeats 2000000
set_option linter.unusedVariables false
set_option linter.unusedSimpArgs false
open Go.RowKit

theorem standsL_signR {k : Int} (h1 : k ≠ 1) (h2 : k ≠ 2) (h3 : k ≠ 3) (l : List UInt8) : standsL k l = signR k := by unfold standsL signR; rw [if_neg h1, if_neg h2, if_neg h3]
theorem refStands_any (t : Tk) (w : World) (hs : t.text.size ≤ 9223372036854775800) :
    Calls Try.prog 16 #[tkV t] w fun e w' => e = .returned (.string (txt t.stands)) ∧ Ext w w' := by
  obtain ⟨tk, tt, ta⟩ := t
  by_cases h1 : tk = 1
  · subst h1
    unfold tkV Tk.stands
    dsimp only at *
    go_enter Try.func16, Try.ntmps16
    go_wp2
    go_ret
    exact ⟨by simp [standsL, txt_bts], (by repeat (first | exact Ext.refl _ | with_reducible refine Ext.alloc_of ?_ _ | with_reducible refine Ext.drewN_of ?_ _ | with_reducible refine Ext.drew_of ?_ | (with_reducible refine Ext.set_of ?_ ?hsz _; case hsz => ((first | exact Nat.le_refl _ | omega | (simp; omega)))) | with_reducible refine Ext.via (by assumption) ?_))⟩
  by_cases h2 : tk = 2
  · subst h2
    unfold tkV Tk.stands
    dsimp only at *
    go_enter Try.func16, Try.ntmps16
    go_wp2
    go_ret
    exact ⟨by
      have e : txt (standsL 2 (bts tt)) = (⟨#[64]⟩ : ByteArray) ++ tt := bts_inj (by rw [bts_txt, bts_append]; rfl)
      rw [e]; rfl, (by repeat (first | exact Ext.refl _ | with_reducible refine Ext.alloc_of ?_ _ | with_reducible refine Ext.drewN_of ?_ _ | with_reducible refine Ext.drew_of ?_ | (with_reducible refine Ext.set_of ?_ ?hsz _; case hsz => ((first | exact Nat.le_refl _ | omega | (simp; omega)))) | with_reducible refine Ext.via (by assumption) ?_))⟩
  by_cases h3 : tk = 3
  · subst h3
    unfold tkV Tk.stands
    dsimp only at *
    go_enter Try.func16, Try.ntmps16
    go_wp2
    go_ret
    exact ⟨by
      have e : txt (standsL 3 (bts tt)) = (⟨#[34]⟩ : ByteArray) ++ tt ++ ⟨#[34]⟩ := bts_inj (by rw [bts_txt, bts_append, bts_append]; rfl)
      rw [e]; rfl, (by repeat (first | exact Ext.refl _ | with_reducible refine Ext.alloc_of ?_ _ | with_reducible refine Ext.drewN_of ?_ _ | with_reducible refine Ext.drew_of ?_ | (with_reducible refine Ext.set_of ?_ ?hsz _; case hsz => ((first | exact Nat.le_refl _ | omega | (simp; omega)))) | with_reducible refine Ext.via (by assumption) ?_))⟩
  · unfold tkV Tk.stands
    dsimp only at *
    rw [standsL_signR h1 h2 h3]
    have d1 : (tk == 1) = false := by simpa using h1
    have d2 : (tk == 2) = false := by simpa using h2
    have d3 : (tk == 3) = false := by simpa using h3
    clear h1 h2 h3
    go_enter Try.func16, Try.ntmps16
    go_wp2_with fail
    refine (sign_any _ _).mono ?_
    rintro e w2 ⟨rfl, hx2⟩
    go_wp2
    go_ret
    exact ⟨rfl, (by repeat (first | exact Ext.refl _ | with_reducible refine Ext.alloc_of ?_ _ | with_reducible refine Ext.drewN_of ?_ _ | with_reducible refine Ext.drew_of ?_ | (with_reducible refine Ext.set_of ?_ ?hsz _; case hsz => ((first | exact Nat.le_refl _ | omega | (simp; omega)))) | with_reducible refine Ext.via (by assumption) ?_))⟩

/-- The reference: may a token be? -/
def rightB (k : Int) (l : List UInt8) (at_ : Int) : Bool :=
  if at_ < 0 then false else if k = 1 ∨ k = 2 then allB letterC 1 32 l else if k = 3 then allB quotedC 0 40 l else decide (4 ≤ k ∧ k ≤ 11 ∧ l = [])
theorem right_any (t : Tk) (w : World) (hs : t.text.size ≤ 9223372036854775800) :
    Calls Try.prog 14 #[tkV t] w fun e w' => e = .returned (.bool (rightB t.kind (bts t.text) t.at_)) ∧ Ext w w' := by
  obtain ⟨tk, tt, ta⟩ := t
  unfold tkV
  dsimp only at *
  have hwo := wordR tt
  have hwh := worthR tt
  by_cases h0 : ta < 0
  · have HF : Hid (rightB tk (bts tt) ta = false) := Lib.hid (by unfold rightB; rw [if_pos h0])
    clear hwo hwh
    go_enter Try.func14, Try.ntmps14
    go_wp2_with fail
    go_ret
    exact ⟨ret_bool HF.out.symm, (by repeat (first | exact Ext.refl _ | with_reducible refine Ext.alloc_of ?_ _ | with_reducible refine Ext.drewN_of ?_ _ | with_reducible refine Ext.drew_of ?_ | (with_reducible refine Ext.set_of ?_ ?hsz _; case hsz => ((first | exact Nat.le_refl _ | omega | (simp; omega)))) | with_reducible refine Ext.via (by assumption) ?_))⟩
  by_cases h1 : tk = 1 ∨ tk = 2
  · have HF : Hid (rightB tk (bts tt) ta = allB letterC 1 32 (bts tt)) := Lib.hid (by unfold rightB; rw [if_neg h0, if_pos h1])
    generalize allB letterC 1 32 (bts tt) = r at *
    generalize rightB tk (bts tt) ta = R at *
    have HW := Lib.hid hwo
    clear hwo hwh
    rcases h1 with rfl | rfl
    all_goals
      go_enter Try.func14, Try.ntmps14
      go_wp2_with fail
      refine (HW.out _ (by omega)).mono ?_
      rintro e w2 ⟨rfl, rfl⟩
      go_wp2
      go_ret
      exact ⟨ret_bool HF.out.symm, (by repeat (first | exact Ext.refl _ | with_reducible refine Ext.alloc_of ?_ _ | with_reducible refine Ext.drewN_of ?_ _ | with_reducible refine Ext.drew_of ?_ | (with_reducible refine Ext.set_of ?_ ?hsz _; case hsz => ((first | exact Nat.le_refl _ | omega | (simp; omega)))) | with_reducible refine Ext.via (by assumption) ?_))⟩
  by_cases h3 : tk = 3
  · have HF : Hid (rightB tk (bts tt) ta = allB quotedC 0 40 (bts tt)) := Lib.hid (by unfold rightB; rw [if_neg h0, if_neg h1, if_pos h3])
    generalize allB quotedC 0 40 (bts tt) = r at *
    generalize rightB tk (bts tt) ta = R at *
    have HW := Lib.hid hwh
    clear hwo hwh
    subst h3
    go_enter Try.func14, Try.ntmps14
    go_wp2_with fail
    refine (HW.out _ (by omega)).mono ?_
    rintro e w2 ⟨rfl, rfl⟩
    go_wp2
    go_ret
    exact ⟨ret_bool HF.out.symm, (by repeat (first | exact Ext.refl _ | with_reducible refine Ext.alloc_of ?_ _ | with_reducible refine Ext.drewN_of ?_ _ | with_reducible refine Ext.drew_of ?_ | (with_reducible refine Ext.set_of ?_ ?hsz _; case hsz => ((first | exact Nat.le_refl _ | omega | (simp; omega)))) | with_reducible refine Ext.via (by assumption) ?_))⟩
  · have HF : Hid (rightB tk (bts tt) ta = decide (4 ≤ tk ∧ tk ≤ 11 ∧ bts tt = [])) := Lib.hid (by unfold rightB; rw [if_neg h0, if_neg h1, if_neg h3])
    have d1 : (tk == 1) = false := by simp; omega
    have d2 : (tk == 2) = false := by simp; omega
    have d3 : (tk == 3) = false := by simpa using h3
    clear hwo hwh h1 h3
    have he : tt.toList.isEmpty = decide (bts tt = []) := by
      rw [ByteArray.toList_eq]; change (bts tt).isEmpty = _
      cases bts tt <;> simp
    by_cases h4 : 4 ≤ tk
    · by_cases h11 : tk ≤ 11
      · cases he2 : decide (bts tt = []) with
        | true =>
          rw [he2] at he
          have HG : Hid (rightB tk (bts tt) ta = true) := Lib.hid (by rw [HF.out]; exact decide_eq_true ⟨h4, h11, of_decide_eq_true he2⟩)
          clear HF he2
          go_enter Try.func14, Try.ntmps14
          go_wp2_with fail
          go_ret
          exact ⟨ret_bool HG.out.symm, (by repeat (first | exact Ext.refl _ | with_reducible refine Ext.alloc_of ?_ _ | with_reducible refine Ext.drewN_of ?_ _ | with_reducible refine Ext.drew_of ?_ | (with_reducible refine Ext.set_of ?_ ?hsz _; case hsz => ((first | exact Nat.le_refl _ | omega | (simp; omega)))) | with_reducible refine Ext.via (by assumption) ?_))⟩
        | false =>
          rw [he2] at he
          have HG : Hid (rightB tk (bts tt) ta = false) := Lib.hid (by rw [HF.out]; exact decide_eq_false (fun h => by have := of_decide_eq_false he2; exact this h.2.2))
          clear HF he2
          go_enter Try.func14, Try.ntmps14
          go_wp2_with fail
          go_ret
          exact ⟨ret_bool HG.out.symm, (by repeat (first | exact Ext.refl _ | with_reducible refine Ext.alloc_of ?_ _ | with_reducible refine Ext.drewN_of ?_ _ | with_reducible refine Ext.drew_of ?_ | (with_reducible refine Ext.set_of ?_ ?hsz _; case hsz => ((first | exact Nat.le_refl _ | omega | (simp; omega)))) | with_reducible refine Ext.via (by assumption) ?_))⟩
      · have HG : Hid (rightB tk (bts tt) ta = false) := Lib.hid (by rw [HF.out]; exact decide_eq_false (fun h => h11 h.2.1))
        clear HF he
        go_enter Try.func14, Try.ntmps14
        go_wp2_with fail
        go_ret
        exact ⟨ret_bool HG.out.symm, (by repeat (first | exact Ext.refl _ | with_reducible refine Ext.alloc_of ?_ _ | with_reducible refine Ext.drewN_of ?_ _ | with_reducible refine Ext.drew_of ?_ | (with_reducible refine Ext.set_of ?_ ?hsz _; case hsz => ((first | exact Nat.le_refl _ | omega | (simp; omega)))) | with_reducible refine Ext.via (by assumption) ?_))⟩
    · have HG : Hid (rightB tk (bts tt) ta = false) := Lib.hid (by rw [HF.out]; exact decide_eq_false (fun h => h4 h.1))
      clear HF he
      go_enter Try.func14, Try.ntmps14
      go_wp2_with fail
      go_ret
      exact ⟨ret_bool HG.out.symm, (by repeat (first | exact Ext.refl _ | with_reducible refine Ext.alloc_of ?_ _ | with_reducible refine Ext.drewN_of ?_ _ | with_reducible refine Ext.drew_of ?_ | (with_reducible refine Ext.set_of ?_ ?hsz _; case hsz => ((first | exact Nat.le_refl _ | omega | (simp; omega)))) | with_reducible refine Ext.via (by assumption) ?_))⟩
end Go.Proofs.Ytofglbngnjcpeaa
