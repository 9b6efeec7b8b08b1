/- Whether tokens are the same. -/
import Derived.Test.YtofglbngnjcpeaaToks
namespace Go.Proofs.Ytofglbngnjcpeaa
set_option maxRecDepth 100000
set_option maxHeartbeats 2000000
set_option linter.unusedVariables false
set_option linter.unusedSimpArgs false
open Go.RowKit

def Tk.same (x y : Tk) : Bool := decide (x.kind = y.kind) && decide (x.text = y.text)
theorem sameOne_any (x y : Tk) (w : World) : Calls Try.prog 26 #[tkV x, tkV y] w fun e w' => e = .returned (.bool (x.same y)) ∧ Ext w w' := by
  obtain ⟨xk, xt, xa⟩ := x
  obtain ⟨yk, yt, ya⟩ := y
  unfold tkV Tk.same
  dsimp only
  by_cases h1 : xk = yk
  · have d1 : (xk == yk) = true := by simpa using h1
    rw [decide_eq_true h1, Bool.true_and, ← str_beq]
    clear h1
    go_enter Try.func26, Try.ntmps26
    go_wp2
    go_ret
    exact ⟨rfl, (by repeat (first | exact Ext.refl _ | with_reducible refine Ext.alloc_of ?_ _ | with_reducible refine Ext.drewN_of ?_ _ | with_reducible refine Ext.drew_of ?_ | (with_reducible refine Ext.set_of ?_ ?hsz _; case hsz => ((first | exact Nat.le_refl _ | omega | (simp; omega)))) | with_reducible refine Ext.via (by assumption) ?_))⟩
  · have d1 : (xk == yk) = false := by simpa using h1
    rw [decide_eq_false h1, Bool.false_and]
    clear h1
    go_enter Try.func26, Try.ntmps26
    go_wp2
    go_ret
    exact ⟨rfl, (by repeat (first | exact Ext.refl _ | with_reducible refine Ext.alloc_of ?_ _ | with_reducible refine Ext.drewN_of ?_ _ | with_reducible refine Ext.drew_of ?_ | (with_reducible refine Ext.set_of ?_ ?hsz _; case hsz => ((first | exact Nat.le_refl _ | omega | (simp; omega)))) | with_reducible refine Ext.via (by assumption) ?_))⟩

def sameL : List Tk → List Tk → Bool
  | [], [] => true
  | x :: l, y :: m => x.same y && sameL l m
  | _, _ => false
theorem sameL_len {l m : List Tk} (h : l.length ≠ m.length) : sameL l m = false := by
  induction l generalizing m with
  | nil => cases m with | nil => exact absurd rfl h | cons y m => rfl
  | cons x l ih => cases m with
    | nil => rfl
    | cons y m => rw [sameL, ih (by simpa using h), Bool.and_false]
theorem sameL_drop {l m : List Tk} {k : Nat} (h1 : k < l.length) (h2 : k < m.length) : sameL (l.drop k) (m.drop k) = (l[k].same m[k] && sameL (l.drop (k + 1)) (m.drop (k + 1))) := by
  rw [List.drop_eq_getElem_cons h1, List.drop_eq_getElem_cons h2, sameL]

theorem same_fun (v u : Value) (l m : List Tk) (w : World) (hv : Toks w v l) (hu : Toks w u m) :
    Calls Try.prog 25 #[v, u, .func (.func 26) #[] #[]] w fun e w' => e = .returned (.bool (sameL l m)) ∧ Ext w w' := by
  obtain ⟨a, c, rfl, hc1, hc2⟩ := hv.shape
  obtain ⟨a', c', rfl, hc1', hc2'⟩ := hu.shape
  by_cases hlen : l.length = m.length
  · have hne : ((l.length : Int) != (m.length : Int)) = false := by simp [hlen]
    have Hlen := Lib.hid hlen
    have HV := Lib.hid hv
    have HU := Lib.hid hu
    clear hlen hv hu
    go_enter Try.func25, Try.ntmps25
    go_wp2_with fail
    go_loopg [17] l.length (fun g i wr => ∃ k : Nat, k ≤ l.length ∧ g = l.length - k ∧ i = .int .i64 k ∧ Ext w wr ∧ sameL l m = sameL (l.drop k) (m.drop k))
    case atStart => exact ⟨0, Nat.zero_le _, rfl, rfl, Ext.refl _, rfl⟩
    case round =>
      obtain ⟨k, hk, hg, rfl, hx, hs⟩ := hrel
      have Hg := Lib.hid hg
      have Hs := Lib.hid hs
      clear hg hs
      by_cases hlt : k < l.length
      · have hlt' : k < m.length := by have := Hlen.out; omega
        obtain ⟨b, o, rfl, c0, c1, c2⟩ := (HV.out.ext hx).at_ hlt
        obtain ⟨b', o', rfl, d0, d1, d2⟩ := (HU.out.ext hx).at_ hlt'
        have Hd := Lib.hid (sameL_drop hlt hlt')
        generalize l[k] = x at *
        generalize m[k] = y at *
        have hb1 := cell_lt c0
        have hb2 := cell_lt d0
        go_wp2_with fail
        refine (sameOne_any x y _).mono ?_
        rintro e w2 ⟨rfl, hx2⟩
        cases hs : x.same y with
        | true =>
          have HN : Hid (sameL l m = sameL (l.drop (k + 1)) (m.drop (k + 1))) := Lib.hid (by rw [Hs.out, Hd.out, hs, Bool.true_and])
          clear hs
          go_wp2_with fail
          go_roundg (l.length - (k + 1))
          case measure => have := Hg.out; omega
          case rel => exact ⟨k + 1, by omega, rfl, by go_num, (by repeat (first | exact Ext.refl _ | with_reducible refine Ext.alloc_of ?_ _ | with_reducible refine Ext.drewN_of ?_ _ | with_reducible refine Ext.drew_of ?_ | (with_reducible refine Ext.set_of ?_ ?hsz _; case hsz => ((first | exact Nat.le_refl _ | omega | (simp; omega)))) | with_reducible refine Ext.via (by assumption) ?_)), HN.out⟩
        | false =>
          have HN : Hid (sameL l m = false) := Lib.hid (by rw [Hs.out, Hd.out, hs, Bool.false_and])
          clear hs
          go_wp2_with fail
          go_ret
          exact ⟨ret_bool HN.out.symm, (by repeat (first | exact Ext.refl _ | with_reducible refine Ext.alloc_of ?_ _ | with_reducible refine Ext.drewN_of ?_ _ | with_reducible refine Ext.drew_of ?_ | (with_reducible refine Ext.set_of ?_ ?hsz _; case hsz => ((first | exact Nat.le_refl _ | omega | (simp; omega)))) | with_reducible refine Ext.via (by assumption) ?_))⟩
      · have HN : Hid (sameL l m = true) := Lib.hid (by rw [Hs.out, List.drop_eq_nil_of_le (by omega), List.drop_eq_nil_of_le (by have := Hlen.out; omega)]; rfl)
        go_wp2_with fail
        go_ret
        exact ⟨ret_bool HN.out.symm, (by repeat (first | exact Ext.refl _ | with_reducible refine Ext.alloc_of ?_ _ | with_reducible refine Ext.drewN_of ?_ _ | with_reducible refine Ext.drew_of ?_ | (with_reducible refine Ext.set_of ?_ ?hsz _; case hsz => ((first | exact Nat.le_refl _ | omega | (simp; omega)))) | with_reducible refine Ext.via (by assumption) ?_))⟩
  · have hne : ((l.length : Int) != (m.length : Int)) = true := by simp; omega
    have Hf := Lib.hid (sameL_len hlen)
    clear hlen
    go_enter Try.func25, Try.ntmps25
    go_wp2
    go_ret
    exact ⟨ret_bool Hf.out.symm, Ext.refl _⟩
theorem same_any (v u : Value) (l m : List Tk) (w : World) (hv : Toks w v l) (hu : Toks w u m) :
    Calls Try.prog 13 #[v, u] w fun e w' => e = .returned (.bool (sameL l m)) ∧ Ext w w' := by
  go_enter Try.func13, Try.ntmps13
  go_wp2_with fail
  refine (same_fun v u l m w hv hu).mono ?_
  rintro e w2 ⟨rfl, hx2⟩
  go_wp2
  go_ret
  exact ⟨rfl, hx2⟩
end Go.Proofs.Ytofglbngnjcpeaa
