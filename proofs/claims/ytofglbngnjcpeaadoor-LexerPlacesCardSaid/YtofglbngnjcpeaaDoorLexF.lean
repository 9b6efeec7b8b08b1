/- Which tokens may be; what stands for them. -/
import Derived.Test.YtofglbngnjcpeaaDoorLexE
namespace Go.Proofs.YtofglbngnjcpeaaDoor
set_option maxRecDepth 100000
set_option maxHeartbeats 2000000
set_option linter.unusedVariables false
set_option linter.unusedSimpArgs false
open Go.RowKit

theorem standsL_len (k : Int) (l : List UInt8) : (standsL k l).length ≤ l.length + 3 := by
  by_cases hx : ∃ x, (k, x) ∈ signs
  · obtain ⟨x, hx⟩ := hx
    rw [standsL_sign hx]
    have : ∀ y ∈ signs, y.2.length ≤ 3 := by decide
    have := this _ hx
    dsimp only at this; omega
  · unfold standsL
    split
    · omega
    split
    · simp
    split
    · simp
    · rw [List.find?_eq_none.2 (fun x hm => by simp; intro e; exact hx ⟨x.2, by rw [← e]; exact hm⟩)]; simp
/-- The number of the error: of what may be none. -/
def checkC (b : Bool) : Int := if b then 0 else 250
theorem check_any (t : Tk) (w : World) (hs : t.text.size ≤ 9223372036854775800) :
    Calls Tryd.prog 11 #[tkV t] w fun e w' => e = .returned (.int .i64 (checkC t.check)) ∧ Ext w w' := by
  obtain ⟨tk, tt, ta⟩ := t
  have hst := stands_any ⟨tk, tt, ta⟩
  have hlen : (txt (Tk.stands ⟨tk, tt, ta⟩)).size ≤ 9223372036854775803 := by
    rw [txt_size]; unfold Tk.stands; have := standsL_len tk (bts tt); rw [bts_len] at this; dsimp only at *; omega
  have hbe := begin_any (txt (Tk.stands ⟨tk, tt, ta⟩))
  rw [bts_txt] at hbe
  have hchk : Tk.check ⟨tk, tt, ta⟩ = (decide ((begL (Tk.stands ⟨tk, tt, ta⟩)).2.2 ≠ 0) && decide ((begL (Tk.stands ⟨tk, tt, ta⟩)).2.2 = (txt (Tk.stands ⟨tk, tt, ta⟩)).size) && decide ((begL (Tk.stands ⟨tk, tt, ta⟩)).1 = tk) && decide (txt (begL (Tk.stands ⟨tk, tt, ta⟩)).2.1 = tt) && decide (0 ≤ ta)) := by
    rw [txt_size]
    have : decide (txt (begL (Tk.stands ⟨tk, tt, ta⟩)).2.1 = tt) = decide ((begL (Tk.stands ⟨tk, tt, ta⟩)).2.1 = bts tt) := by
      rw [Bool.eq_iff_iff, decide_eq_true_iff, decide_eq_true_iff]
      exact ⟨fun h => by have := congrArg bts h; rwa [bts_txt] at this, fun h => by rw [h, txt_bts]⟩
    rw [this]
    rfl
  generalize Tk.stands ⟨tk, tt, ta⟩ = st at *
  generalize txt st = s at *
  generalize begL st = r at *
  obtain ⟨rk, rt, rn⟩ := r
  unfold begV tokV at hbe
  dsimp only at *
  have HC := Lib.hid hchk
  have hr := RowAt.new w 28 [.int .i64 tk, .string tt, .int .i64 ta]
  have HST := Lib.hid hst
  have HBE := Lib.hid hbe
  clear hchk hst hbe
  unfold tkV
  go_enter Tryd.func11, Tryd.ntmps11
  go_upto_region 1 with fail
  have hx0 := Ext.alloc w (.cells #[.int .i64 tk, .string tt, .int .i64 ta] 28)
  generalize w.alloc (.cells #[.int .i64 tk, .string tt, .int .i64 ta] 28) = w1 at *
  obtain ⟨c0, c1, c2, f0, f1, f2⟩ := hr.facts3
  go_wp2_with fail
  refine (HST.out _ hs).mono ?_
  rintro e w2 ⟨rfl, hx2⟩
  obtain ⟨c0, c1, c2, f0, f1, f2⟩ := (hr.ext hx2).facts3
  go_wp2_with fail
  refine (HBE.out _ (by omega)).mono ?_
  rintro e w3 ⟨rfl, hx3⟩
  obtain ⟨c0, c1, c2, f0, f1, f2⟩ := ((hr.ext hx2).ext hx3).facts3
  have hlt := ((hr.ext hx2).ext hx3).lt
  clear hr
  have HX : Hid (Ext w w3) := Lib.hid (by repeat (first | exact Ext.refl _ | with_reducible assumption | with_reducible refine Ext.alloc_of ?_ _ | with_reducible refine Ext.drewN_of ?_ _ | with_reducible refine Ext.drew_of ?_ | (with_reducible refine Ext.set_of ?_ ?hsz _; case hsz => ((first | exact Nat.le_refl _ | omega | (simp; omega)))) | with_reducible refine Ext.via (by assumption) ?_))
  clear hx0 hx2 hx3
  by_cases h1 : rn = 0
  · have d1 : ((rn : Int) == 0) = true := by simp [h1]
    have HF : Hid (checkC (Tk.check ⟨tk, tt, ta⟩) = 250) := Lib.hid (by rw [HC.out, h1]; rfl)
    clear h1
    go_wp2_with fail
    go_ret
    exact ⟨ret_int HF.out.symm, HX.out.trans (Ext.alloc _ _)⟩
  have d1 : ((rn : Int) == 0) = false := by simpa using h1
  by_cases h2 : rn = s.size
  case neg =>
    have d2 : ((rn : Int) != (s.size : Int)) = true := by simp; omega
    have HF : Hid (checkC (Tk.check ⟨tk, tt, ta⟩) = 250) := Lib.hid (by rw [HC.out, decide_eq_false h2]; simp [checkC])
    clear h1 h2
    go_wp2_with fail
    go_ret
    exact ⟨ret_int HF.out.symm, HX.out.trans (Ext.alloc _ _)⟩
  have d2 : ((rn : Int) != (s.size : Int)) = false := by simp; omega
  by_cases h3 : rk = tk
  case neg =>
    have d3 : (rk != tk) = true := by simpa using h3
    have HF : Hid (checkC (Tk.check ⟨tk, tt, ta⟩) = 250) := Lib.hid (by rw [HC.out, decide_eq_false h3]; simp [checkC])
    clear h1 h2 h3
    go_wp2_with fail
    go_ret
    exact ⟨ret_int HF.out.symm, HX.out.trans (Ext.alloc _ _)⟩
  have d3 : (rk != tk) = false := by simpa using h3
  by_cases h4 : txt rt = tt
  case neg =>
    have d4 : ((txt rt).toList == tt.toList) = false := str_no h4
    have HF : Hid (checkC (Tk.check ⟨tk, tt, ta⟩) = 250) := Lib.hid (by rw [HC.out, decide_eq_false h4]; simp [checkC])
    clear h1 h2 h3 h4
    go_wp2_with fail
    go_ret
    exact ⟨ret_int HF.out.symm, HX.out.trans (Ext.alloc _ _)⟩
  have d4 : ((txt rt).toList == tt.toList) = true := str_yes h4
  by_cases h5 : ta < 0
  · have d5 : decide (ta < 0) = true := by simpa using h5
    have HF : Hid (checkC (Tk.check ⟨tk, tt, ta⟩) = 250) := Lib.hid (by rw [HC.out, decide_eq_false (show ¬ 0 ≤ ta by omega)]; simp [checkC])
    clear h1 h2 h3 h4
    go_wp2_with fail
    go_ret
    exact ⟨ret_int HF.out.symm, HX.out.trans (Ext.alloc _ _)⟩
  · have d5 : decide (ta < 0) = false := by simpa using h5
    have HF : Hid (checkC (Tk.check ⟨tk, tt, ta⟩) = 0) := Lib.hid (by rw [HC.out, decide_eq_true h1, decide_eq_true h2, decide_eq_true h3, decide_eq_true h4, decide_eq_true (show 0 ≤ ta by omega)]; rfl)
    clear h1 h2 h3 h4
    go_wp2_with fail
    go_ret
    exact ⟨ret_int HF.out.symm, HX.out.trans (Ext.alloc _ _)⟩
theorem check_yes {t : Tk} (w : World) (hs : t.text.size ≤ 9223372036854775800) (h : t.check = true) : Calls Tryd.prog 11 #[tkV t] w fun e w' => e = .returned (.int .i64 0) ∧ Ext w w' :=
  (check_any t w hs).mono fun e w' ⟨he, hx⟩ => ⟨by rw [he, h]; rfl, hx⟩
theorem check_no {t : Tk} (w : World) (hs : t.text.size ≤ 9223372036854775800) (h : t.check = false) : Calls Tryd.prog 11 #[tkV t] w fun e w' => e = .returned (.int .i64 250) ∧ Ext w w' :=
  (check_any t w hs).mono fun e w' ⟨he, hx⟩ => ⟨by rw [he, h]; rfl, hx⟩

theorem Stands_yes {t : Tk} (w : World) (hs : t.text.size ≤ 9223372036854775800) (h : t.check = true) : Calls Tryd.prog 6 #[tkV t] w fun e w' => e = .returned (.tuple #[.string (txt t.stands), .int .i64 0]) ∧ Ext w w' := by
  have hch := fun w' => check_yes w' hs h
  have hst := stands_any t
  obtain ⟨tk, tt, ta⟩ := t
  have hr := RowAt.new w 28 [.int .i64 tk, .string tt, .int .i64 ta]
  have HC := Lib.hid hch
  have HS := Lib.hid hst
  clear hch hst h
  unfold tkV at *
  dsimp only at *
  go_enter Tryd.func6, Tryd.ntmps6
  go_upto_region 1 with fail
  have hx0 := Ext.alloc w (.cells #[.int .i64 tk, .string tt, .int .i64 ta] 28)
  generalize w.alloc (.cells #[.int .i64 tk, .string tt, .int .i64 ta] 28) = w1 at *
  obtain ⟨c0, c1, c2, f0, f1, f2⟩ := hr.facts3
  go_wp2_with fail
  refine (HC.out _).mono ?_
  rintro e w2 ⟨rfl, hx2⟩
  obtain ⟨c0, c1, c2, f0, f1, f2⟩ := (hr.ext hx2).facts3
  go_wp2_with fail
  refine (HS.out _ hs).mono ?_
  rintro e w3 ⟨rfl, hx3⟩
  go_wp2
  go_ret2
  exact ⟨rfl, (by repeat (first | exact Ext.refl _ | with_reducible assumption | with_reducible refine Ext.alloc_of ?_ _ | with_reducible refine Ext.drewN_of ?_ _ | with_reducible refine Ext.drew_of ?_ | (with_reducible refine Ext.set_of ?_ ?hsz _; case hsz => ((first | exact Nat.le_refl _ | omega | (simp; omega)))) | with_reducible refine Ext.via (by assumption) ?_))⟩
theorem Stands_no {t : Tk} (w : World) (hs : t.text.size ≤ 9223372036854775800) (h : t.check = false) : Calls Tryd.prog 6 #[tkV t] w fun e w' => e = .returned (.tuple #[.string ⟨#[]⟩, .int .i64 250]) ∧ Ext w w' := by
  have hch := fun w' => check_no w' hs h
  have hst := stands_any t
  obtain ⟨tk, tt, ta⟩ := t
  have hr := RowAt.new w 28 [.int .i64 tk, .string tt, .int .i64 ta]
  have HC := Lib.hid hch
  have HS := Lib.hid hst
  clear hch hst h
  unfold tkV at *
  dsimp only at *
  go_enter Tryd.func6, Tryd.ntmps6
  go_upto_region 1 with fail
  have hx0 := Ext.alloc w (.cells #[.int .i64 tk, .string tt, .int .i64 ta] 28)
  generalize w.alloc (.cells #[.int .i64 tk, .string tt, .int .i64 ta] 28) = w1 at *
  obtain ⟨c0, c1, c2, f0, f1, f2⟩ := hr.facts3
  go_wp2_with fail
  refine (HC.out _).mono ?_
  rintro e w2 ⟨rfl, hx2⟩
  obtain ⟨c0, c1, c2, f0, f1, f2⟩ := (hr.ext hx2).facts3
  go_wp2_with fail
  go_ret2
  exact ⟨rfl, (by repeat (first | exact Ext.refl _ | with_reducible assumption | with_reducible refine Ext.alloc_of ?_ _ | with_reducible refine Ext.drewN_of ?_ _ | with_reducible refine Ext.drew_of ?_ | (with_reducible refine Ext.set_of ?_ ?hsz _; case hsz => ((first | exact Nat.le_refl _ | omega | (simp; omega)))) | with_reducible refine Ext.via (by assumption) ?_))⟩
end Go.Proofs.YtofglbngnjcpeaaDoor
