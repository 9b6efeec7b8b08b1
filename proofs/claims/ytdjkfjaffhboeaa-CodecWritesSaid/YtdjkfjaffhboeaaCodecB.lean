/- Clone, few. -/
import Derived.Test.YtdjkfjaffhboeaaCodecA
namespace Go.Proofs.Ytdjkfjaffhboeaa
open Go.RowKit

theorem elB : ElT Try.prog 24 5 (.int .u8 0) 1 1 := by
  obtain ⟨i, hi⟩ := info_parts (P := Try.prog) (e := 5) (z := .int .u8 0) (size := 1) (bytes := 1) (by kernel_rfl)
  exact ⟨Try.underlying24, ⟨i, hi⟩, rfl, by decide⟩
theorem elU : ElT Try.prog 28 22 (.int .u64 0) 1 8 := by
  obtain ⟨i, hi⟩ := info_parts (P := Try.prog) (e := 22) (z := .int .u64 0) (size := 1) (bytes := 8) (by kernel_rfl)
  exact ⟨Try.underlying28, ⟨i, hi⟩, rfl, by decide⟩

/-- A result that is owned, a slice of integers of base block B on. -/
def Own (w : World) (B : Nat) (e : TypeId) (k : IntKind) (v : Value) (l : List Int) : Prop := w.ownsRow B e 1 v l.length (l.map (Value.int k))
theorem Own.ints {w : World} {B : Nat} {e : TypeId} {k : IntKind} {v : Value} {l : List Int} (h : Own w B e k v l) : Ints w k v l := Sl.of_own h

theorem eqNilB (a : Option Addr) (n c n' c' : Nat) (w : World) : (binOp .eql 24 (.slice a n c) (.slice none n' c')).run Try.prog w = .ok (.bool a.isNone) w :=
  Lib.run_eql_slice_nil w _ _ a n c n' c' Try.underlying24

theorem eqNilU (a : Option Addr) (n c n' c' : Nat) (w : World) : (binOp .eql 28 (.slice a n c) (.slice none n' c')).run Try.prog w = .ok (.bool a.isNone) w :=
  Lib.run_eql_slice_nil w _ _ a n c n' c' Try.underlying28

set_option maxHeartbeats 400000 in
theorem cloneB (v : Value) (l : List Int) (w : World) (hv : Ints w .u8 v l) (hn : l.length ≤ 1099511627776) :
    Calls Try.prog 20 #[v] w fun e w' => ∃ u, e = .returned u ∧ Own w' w.heap.size 5 .u8 u l ∧ Ext w w' := by
  have hv' := hv
  obtain ⟨a, cap, rfl, hcap, hmax, hc⟩ := hv'.open_
  have hq := eqNilB
  cases a with
  | none =>
    have hl : l = [] := List.eq_nil_of_length_eq_zero (by rcases Nat.eq_zero_or_pos l.length with h | h; exact h; obtain ⟨_, _, h, _⟩ := hc 0 h; cases h)
    clear hv' hc
    subst hl
    go_enter Try.func20, Try.ntmps20
    go_wp2
    go_ret
    exact ⟨_, rfl, World.ownsRow_nil _ _ _ _, Ext.refl _⟩
  | some ad =>
    clear hv' hc
    go_enter Try.func20, Try.ntmps20
    go_wp2_with (at_builtin; refine wpList_append_sl _ rfl _ _ _ rfl elB rfl (own_new w w.heap.size #[] 5 1 0 (Nat.le_refl _) rfl (Nat.zero_le _)) rfl (hv.ext (Ext.alloc _ _)) ?_ (ints_one _ _) ?_ ?_ ?_ ?_)
    · simp
    · omega
    · unfold maxLen; omega
    · simp
    intro v1 w1 hown hb _ _
    go_wp2
    go_ret
    exact ⟨_, rfl, by simpa [Own] using hown, Below.trans (Ext.alloc w _) hb⟩

set_option maxHeartbeats 400000 in
theorem cloneU (v : Value) (l : List Int) (w : World) (hv : Ints w .u64 v l) (hn : l.length ≤ 1099511627776) :
    Calls Try.prog 14 #[v] w fun e w' => ∃ u, e = .returned u ∧ Own w' w.heap.size 22 .u64 u l ∧ Ext w w' := by
  have hv' := hv
  obtain ⟨a, cap, rfl, hcap, hmax, hc⟩ := hv'.open_
  have hq := eqNilU
  cases a with
  | none =>
    have hl : l = [] := List.eq_nil_of_length_eq_zero (by rcases Nat.eq_zero_or_pos l.length with h | h; exact h; obtain ⟨_, _, h, _⟩ := hc 0 h; cases h)
    clear hv' hc
    subst hl
    go_enter Try.func14, Try.ntmps14
    go_wp2
    go_ret
    exact ⟨_, rfl, World.ownsRow_nil _ _ _ _, Ext.refl _⟩
  | some ad =>
    clear hv' hc
    go_enter Try.func14, Try.ntmps14
    go_wp2_with (at_builtin; refine wpList_append_sl _ rfl _ _ _ rfl elU rfl (own_new w w.heap.size #[] 22 1 0 (Nat.le_refl _) rfl (Nat.zero_le _)) rfl (hv.ext (Ext.alloc _ _)) ?_ (ints_one _ _) ?_ ?_ ?_ ?_)
    · simp
    · omega
    · unfold maxLen; omega
    · simp
    intro v1 w1 hown hb _ _
    go_wp2
    go_ret
    exact ⟨_, rfl, by simpa [Own] using hown, Below.trans (Ext.alloc w _) hb⟩

/-- A slice expression's address. -/
theorem Ints.cut {w : World} {k : IntKind} {a : Option Addr} {n cap : Nat} {l : List Int} (h : Ints w k (.slice a n cap) l) (m : Nat) (hm : m ≤ l.length) : Ints w k (.slice a m cap) (l.take m) := by
  obtain ⟨a', cap', e, h1, h2, h3⟩ := h
  simp only [Value.slice.injEq] at e
  obtain ⟨rfl, rfl, rfl⟩ := e
  have hlen : (l.take m).length = m := by simp; omega
  refine ⟨a, cap, by rw [hlen], by omega, h2, fun hp => ?_⟩
  obtain ⟨b, o, e, hc⟩ := h3 (by simp at hp ⊢; omega)
  refine ⟨b, o, e, fun i u hu => hc i u ?_⟩
  rw [List.getElem?_map, List.getElem?_take] at hu
  split at hu
  · simpa using hu
  · simp at hu

set_option maxHeartbeats 400000 in
theorem few_any (v : Value) (l : List Int) (w : World) (hv : Ints w .u8 v l) :
    Calls Try.prog 18 #[v] w fun e w' => ∃ u, e = .returned u ∧ Own w' w.heap.size 5 .u8 u (l.take 300) ∧ Ext w w' := by
  have hv' := hv
  obtain ⟨a, cap, rfl, hcap, hmax, hc⟩ := hv'.open_
  clear hv' hc
  go_enter Try.func18, Try.ntmps18
  go_wp2_with fail
  · have hlt : 300 < l.length := by omega
    refine (cloneB _ _ _ (hv.cut 300 (by omega)) (by simp; omega)).mono ?_
    rintro e w' ⟨u, rfl, ho, hx⟩
    go_wp2
    go_ret
    exact ⟨_, rfl, ho, hx⟩
  · have hlt : l.length ≤ 300 := by omega
    refine (cloneB _ _ _ hv (by omega)).mono ?_
    rintro e w' ⟨u, rfl, ho, hx⟩
    go_wp2
    go_ret
    exact ⟨_, rfl, by rw [List.take_of_length_le hlt]; exact ho, hx⟩
end Go.Proofs.Ytdjkfjaffhboeaa
