/- Clones, and the rows held against one another. -/
import Derived.Test.YtkhmkgobmfhchaaTabF
namespace Go.Proofs.Ytkhmkgobmfhchaa
open Go.RowKit Go.Shelf Go.Sort
set_option linter.unusedVariables false

theorem eqNil_cloneS0 (a : Option Addr) (n c n' c' : Nat) (w : World) : (binOp .eql 22 (.slice a n c) (.slice none n' c')).run Try.prog w = .ok (.bool a.isNone) w :=
  Lib.run_eql_slice_nil w _ _ a n c n' c' Try.underlying22
set_option maxHeartbeats 400000 in
theorem cloneS0 (v : Value) (n : Nat) (xs : List Value) (w : World) (hv : Sl w v n xs) (hl : xs.length = n) (h1 : ∀ x ∈ xs, x.oneCell' = true) (hn : n ≤ 1048576) :
    Calls Try.prog 28 #[v] w fun e w' => ∃ u, e = .returned u ∧ w'.ownsRow w.heap.size 9 1 u n xs ∧ Ext w w' := by
  have hv' := hv
  obtain ⟨a, cap, rfl, hcap, hmax, hc⟩ := hv'.open_
  have hq := eqNil_cloneS0
  have H1 := Lib.hid h1
  have HL := Lib.hid hl
  cases a with
  | none =>
    have hl' : xs = [] := List.eq_nil_of_length_eq_zero (by rcases Nat.eq_zero_or_pos xs.length with h | h; exact h; obtain ⟨_, _, h, _⟩ := hc 0 h; cases h)
    clear hv' hc
    subst hl'
    obtain rfl : n = 0 := by simpa using hl.symm
    clear h1 hl
    go_enter Try.func28, Try.ntmps28
    go_wp2
    go_ret
    exact ⟨_, rfl, World.ownsRow_nil _ _ _ _, Ext.refl _⟩
  | some ad =>
    have HV := Lib.hid hv
    clear hv' hc h1 hl hv
    go_enter Try.func28, Try.ntmps28
    go_wp2_with (at_builtin; refine wpList_append_sl _ rfl _ _ _ rfl elS rfl (own_new w w.heap.size #[] 9 1 0 (Nat.le_refl _) rfl (Nat.zero_le _)) rfl (HV.out.ext (Ext.alloc _ _)) ?_ H1.out ?_ ?_ ?_ ?_)
    · rw [HL.out, Nat.mul_one]
    · omega
    · unfold maxLen; omega
    · simp
    intro v1 w1 hown hb _ _
    go_wp2
    go_ret
    exact ⟨_, rfl, by simpa using hown, Below.trans (Ext.alloc w _) hb⟩
theorem eqNil_cloneI0 (a : Option Addr) (n c n' c' : Nat) (w : World) : (binOp .eql 23 (.slice a n c) (.slice none n' c')).run Try.prog w = .ok (.bool a.isNone) w :=
  Lib.run_eql_slice_nil w _ _ a n c n' c' Try.underlying23
set_option maxHeartbeats 400000 in
theorem cloneI0 (v : Value) (n : Nat) (xs : List Value) (w : World) (hv : Sl w v n xs) (hl : xs.length = n) (h1 : ∀ x ∈ xs, x.oneCell' = true) (hn : n ≤ 1048576) :
    Calls Try.prog 29 #[v] w fun e w' => ∃ u, e = .returned u ∧ w'.ownsRow w.heap.size 3 1 u n xs ∧ Ext w w' := by
  have hv' := hv
  obtain ⟨a, cap, rfl, hcap, hmax, hc⟩ := hv'.open_
  have hq := eqNil_cloneI0
  have H1 := Lib.hid h1
  have HL := Lib.hid hl
  cases a with
  | none =>
    have hl' : xs = [] := List.eq_nil_of_length_eq_zero (by rcases Nat.eq_zero_or_pos xs.length with h | h; exact h; obtain ⟨_, _, h, _⟩ := hc 0 h; cases h)
    clear hv' hc
    subst hl'
    obtain rfl : n = 0 := by simpa using hl.symm
    clear h1 hl
    go_enter Try.func29, Try.ntmps29
    go_wp2
    go_ret
    exact ⟨_, rfl, World.ownsRow_nil _ _ _ _, Ext.refl _⟩
  | some ad =>
    have HV := Lib.hid hv
    clear hv' hc h1 hl hv
    go_enter Try.func29, Try.ntmps29
    go_wp2_with (at_builtin; refine wpList_append_sl _ rfl _ _ _ rfl elI rfl (own_new w w.heap.size #[] 3 1 0 (Nat.le_refl _) rfl (Nat.zero_le _)) rfl (HV.out.ext (Ext.alloc _ _)) ?_ H1.out ?_ ?_ ?_ ?_)
    · rw [HL.out, Nat.mul_one]
    · omega
    · unfold maxLen; omega
    · simp
    intro v1 w1 hown hb _ _
    go_wp2
    go_ret
    exact ⟨_, rfl, by simpa using hown, Below.trans (Ext.alloc w _) hb⟩
theorem own_sl {w : World} {B size n : Nat} {e : TypeId} {v : Value} {xs : List Value} (h : w.ownsRow B e size v n xs) : ∃ a c, v = .slice a n c := by
  rcases h.2 with ⟨h1, h2⟩ | ⟨g, cap, cur, h1, _⟩
  · exact ⟨none, 0, by rw [h1, h2]⟩
  · exact ⟨_, _, h1⟩
theorem cloneS (v : Value) (T : List ByteArray) (w : World) (hT : Strs w v T) (hn : T.length ≤ 1048576) :
    Calls Try.prog 28 #[v] w fun e w' => ∃ a c, e = .returned (.slice a T.length c) ∧ w'.ownsRow w.heap.size 9 1 (.slice a T.length c) T.length (T.map Value.string) ∧ Ext w w' :=
  (cloneS0 v T.length _ w hT (by simp) (str_one _) hn).mono fun e w' ⟨u, he, ho, hx⟩ => by obtain ⟨a, c, rfl⟩ := own_sl ho; exact ⟨a, c, he, ho, hx⟩
theorem cloneI (v : Value) (S : List Int) (w : World) (hS : Ints w .i64 v S) (hn : S.length ≤ 1048576) :
    Calls Try.prog 29 #[v] w fun e w' => ∃ a c, e = .returned (.slice a S.length c) ∧ w'.ownsRow w.heap.size 3 1 (.slice a S.length c) S.length (S.map (Value.int .i64)) ∧ Ext w w' :=
  (cloneI0 v S.length _ w hS (by simp) (ints_one _ _) hn).mono fun e w' ⟨u, he, ho, hx⟩ => by obtain ⟨a, c, rfl⟩ := own_sl ho; exact ⟨a, c, he, ho, hx⟩
end Go.Proofs.Ytkhmkgobmfhchaa
