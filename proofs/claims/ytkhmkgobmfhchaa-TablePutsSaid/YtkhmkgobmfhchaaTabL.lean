/- Rows held against one another; small, cut, same. -/
import Derived.Test.YtkhmkgobmfhchaaTabK
namespace Go.Proofs.Ytkhmkgobmfhchaa
open Go.RowKit Go.Shelf Go.Sort
set_option linter.unusedVariables false

set_option maxHeartbeats 400000 in
theorem equalS (v u : Value) (l m : List ByteArray) (w : World) (hv : Strs w  v l) (hu : Strs w  u m) :
    Calls Try.prog 22 #[v, u] w fun e w' => e = .returned (.bool (decide (l = m))) ∧ ∃ n, w' = w.drewN n := by
  obtain ⟨a, cap, rfl, hcap, hmax⟩ := Sl.shape hv
  obtain ⟨a', cap', rfl, hcap', hmax'⟩ := Sl.shape hu
  by_cases hlen : l.length = m.length
  · have hne : ((l.length : Int) != (m.length : Int)) = false := by simp [hlen]
    have Hlen := Lib.hid hlen
    clear hlen
    go_enter Try.func22, Try.ntmps22
    go_wp2
    go_loopg [13] l.length (fun g i wr => ∃ k n : Nat, k ≤ l.length ∧ g = l.length - k ∧ i = .int .i64 k ∧ wr = w.drewN n ∧ l.take k = m.take k)
    case atStart => exact ⟨0, 0, Nat.zero_le _, rfl, rfl, rfl, rfl⟩
    case round =>
      obtain ⟨k, n, hk, hg, rfl, rfl, heq⟩ := hrel
      have Heq := Lib.hid heq
      have Hg := Lib.hid hg
      clear heq hg
      by_cases hlt : k < l.length
      · have hltm : k < m.length := by have := Hlen.out; omega
        obtain ⟨b, o, rfl, hck⟩ := hv.atD hlt
        obtain ⟨b', o', rfl, hck'⟩ := hu.atD hltm
        have e1 := take_snoc l k hlt
        have e2 := take_snoc m k hltm
        have e3 : l.getD k ⟨#[]⟩ = l[k] := by simp [List.getD, hlt]
        have e4 : m.getD k ⟨#[]⟩ = m[k] := by simp [List.getD, hltm]
        rw [e3] at hck
        rw [e4] at hck'
        generalize l[k] = x at e1 hck
        generalize m[k] = y at e2 hck'
        have E1 := Lib.hid e1
        have E2 := Lib.hid e2
        clear e1 e2 e3 e4
        by_cases hx : x = y
        · have hb1 : (x.toList != y.toList) = false := by rw [hx]; simp
          have hb2 : (x.toList == y.toList) = true := by rw [hx]; simp
          have Hx := Lib.hid hx
          clear hx
          go_wp2
          go_quiet (fail)
          go_wp2
          go_roundg (l.length - (k + 1))
          case measure => have := Hg.out; omega
          case rel => exact ⟨k + 1, _, by omega, rfl, by go_num, rfl, by rw [E1.out, E2.out, Heq.out, Hx.out]⟩
        · have hb2 : (x.toList == y.toList) = false := by exact str_no hx
          have hb1 : (x.toList != y.toList) = true := by unfold bne; rw [hb2]; rfl
          have hno : l ≠ m := fun h => hx (by
            have a1 := E1.out
            have a2 := E2.out
            rw [h, a2] at a1
            have := List.append_cancel_left a1
            simpa using this.symm)
          have Hno := Lib.hid hno
          clear hx hno
          go_wp2
          go_quiet (fail)
          go_wp2
          go_ret
          exact ⟨ret_bool (decide_eq_false Hno.out).symm, _, World.drewN_drewN _ _ _⟩
      · have hl : l = m := by have h1 := Heq.out; have h2 := Hlen.out; rw [List.take_of_length_le (by omega), List.take_of_length_le (by omega)] at h1; exact h1
        have Hl := Lib.hid hl
        clear hl
        go_wp2
        go_ret
        exact ⟨ret_bool (decide_eq_true Hl.out).symm, _, rfl⟩
  · have hne : ((l.length : Int) != (m.length : Int)) = true := by simp; omega
    have hno : l ≠ m := fun h => hlen (by rw [h])
    have Hno := Lib.hid hno
    clear hno hlen
    go_enter Try.func22, Try.ntmps22
    go_wp2
    go_ret
    exact ⟨ret_bool (decide_eq_false Hno.out).symm, 0, rfl⟩
theorem equalS_yes (v u : Value) (l m : List ByteArray) (w : World) (hv : Strs w  v l) (hu : Strs w  u m) (h : l = m) :
    Calls Try.prog 22 #[v, u] w fun e w' => e = .returned (.bool true) ∧ ∃ n, w' = w.drewN n :=
  (equalS v u l m w hv hu).mono fun e w' ⟨he, hx⟩ => ⟨by rw [he, decide_eq_true h], hx⟩
theorem equalS_no (v u : Value) (l m : List ByteArray) (w : World) (hv : Strs w  v l) (hu : Strs w  u m) (h : l ≠ m) :
    Calls Try.prog 22 #[v, u] w fun e w' => e = .returned (.bool false) ∧ ∃ n, w' = w.drewN n :=
  (equalS v u l m w hv hu).mono fun e w' ⟨he, hx⟩ => ⟨by rw [he, decide_eq_false h], hx⟩
set_option maxHeartbeats 400000 in
theorem equalI (v u : Value) (l m : List Int) (w : World) (hv : Ints w .i64 v l) (hu : Ints w .i64 u m) :
    Calls Try.prog 24 #[v, u] w fun e w' => e = .returned (.bool (decide (l = m))) ∧ ∃ n, w' = w.drewN n := by
  obtain ⟨a, cap, rfl, hcap, hmax⟩ := Sl.shape hv
  obtain ⟨a', cap', rfl, hcap', hmax'⟩ := Sl.shape hu
  by_cases hlen : l.length = m.length
  · have hne : ((l.length : Int) != (m.length : Int)) = false := by simp [hlen]
    have Hlen := Lib.hid hlen
    clear hlen
    go_enter Try.func24, Try.ntmps24
    go_wp2
    go_loopg [13] l.length (fun g i wr => ∃ k n : Nat, k ≤ l.length ∧ g = l.length - k ∧ i = .int .i64 k ∧ wr = w.drewN n ∧ l.take k = m.take k)
    case atStart => exact ⟨0, 0, Nat.zero_le _, rfl, rfl, rfl, rfl⟩
    case round =>
      obtain ⟨k, n, hk, hg, rfl, rfl, heq⟩ := hrel
      have Heq := Lib.hid heq
      have Hg := Lib.hid hg
      clear heq hg
      by_cases hlt : k < l.length
      · have hltm : k < m.length := by have := Hlen.out; omega
        obtain ⟨b, o, rfl, hck⟩ := hv.atD hlt
        obtain ⟨b', o', rfl, hck'⟩ := hu.atD hltm
        have e1 := take_snoc l k hlt
        have e2 := take_snoc m k hltm
        have e3 : l.getD k 0 = l[k] := by simp [List.getD, hlt]
        have e4 : m.getD k 0 = m[k] := by simp [List.getD, hltm]
        rw [e3] at hck
        rw [e4] at hck'
        generalize l[k] = x at e1 hck
        generalize m[k] = y at e2 hck'
        have E1 := Lib.hid e1
        have E2 := Lib.hid e2
        clear e1 e2 e3 e4
        by_cases hx : x = y
        · have hb1 : (x != y) = false := by rw [hx]; simp
          have hb2 : (x == y) = true := by rw [hx]; simp
          have Hx := Lib.hid hx
          clear hx
          go_wp2
          go_quiet (fail)
          go_wp2
          go_roundg (l.length - (k + 1))
          case measure => have := Hg.out; omega
          case rel => exact ⟨k + 1, _, by omega, rfl, by go_num, rfl, by rw [E1.out, E2.out, Heq.out, Hx.out]⟩
        · have hb2 : (x == y) = false := by simpa using hx
          have hb1 : (x != y) = true := by unfold bne; rw [hb2]; rfl
          have hno : l ≠ m := fun h => hx (by
            have a1 := E1.out
            have a2 := E2.out
            rw [h, a2] at a1
            have := List.append_cancel_left a1
            simpa using this.symm)
          have Hno := Lib.hid hno
          clear hx hno
          go_wp2
          go_quiet (fail)
          go_wp2
          go_ret
          exact ⟨ret_bool (decide_eq_false Hno.out).symm, _, World.drewN_drewN _ _ _⟩
      · have hl : l = m := by have h1 := Heq.out; have h2 := Hlen.out; rw [List.take_of_length_le (by omega), List.take_of_length_le (by omega)] at h1; exact h1
        have Hl := Lib.hid hl
        clear hl
        go_wp2
        go_ret
        exact ⟨ret_bool (decide_eq_true Hl.out).symm, _, rfl⟩
  · have hne : ((l.length : Int) != (m.length : Int)) = true := by simp; omega
    have hno : l ≠ m := fun h => hlen (by rw [h])
    have Hno := Lib.hid hno
    clear hno hlen
    go_enter Try.func24, Try.ntmps24
    go_wp2
    go_ret
    exact ⟨ret_bool (decide_eq_false Hno.out).symm, 0, rfl⟩
theorem equalI_yes (v u : Value) (l m : List Int) (w : World) (hv : Ints w .i64 v l) (hu : Ints w .i64 u m) (h : l = m) :
    Calls Try.prog 24 #[v, u] w fun e w' => e = .returned (.bool true) ∧ ∃ n, w' = w.drewN n :=
  (equalI v u l m w hv hu).mono fun e w' ⟨he, hx⟩ => ⟨by rw [he, decide_eq_true h], hx⟩
theorem equalI_no (v u : Value) (l m : List Int) (w : World) (hv : Ints w .i64 v l) (hu : Ints w .i64 u m) (h : l ≠ m) :
    Calls Try.prog 24 #[v, u] w fun e w' => e = .returned (.bool false) ∧ ∃ n, w' = w.drewN n :=
  (equalI v u l m w hv hu).mono fun e w' ⟨he, hx⟩ => ⟨by rw [he, decide_eq_false h], hx⟩
end Go.Proofs.Ytkhmkgobmfhchaa
