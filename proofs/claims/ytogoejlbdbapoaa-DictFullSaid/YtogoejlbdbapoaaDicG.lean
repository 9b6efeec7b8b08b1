/- The ids of names, the names of ids, and all of a kind. -/
import Derived.Test.YtogoejlbdbapoaaDicF
import Derived.Test.YtogoejlbdbapoaaTabX2
import Derived.Test.YtogoejlbdbapoaaTabX4
namespace Go.Proofs.Ytogoejlbdbapoaa
set_option maxRecDepth 100000
set_option maxHeartbeats 2000000
set_option linter.unusedSimpArgs false
open Go.RowKit Go.Shelf Go.Sort
attribute [local go_sem] Oper.semAt_some wide_fn wide_depth
set_option linter.unusedVariables false

theorem dcells_at (vs : Nat → Value × Value) {k : Nat} (h : k < 5) : (dcells vs)[k * 2]? = some (vs k).1 ∧ (dcells vs)[k * 2 + 1]? = some (vs k).2 := by
  have hc : k = 0 ∨ k = 1 ∨ k = 2 ∨ k = 3 ∨ k = 4 := by omega
  rcases hc with rfl | rfl | rfl | rfl | rfl <;> exact ⟨rfl, rfl⟩
theorem dcheck_yes (vs : Nat → Value × Value) (D : Dic) (w : World) (hV : DicV w vs D) (hS : DicS D) (h : DicOK D) : Calls Try.prog 13 #[dv vs] w fun e w' => e = .returned (.int .i64 0) ∧ Ext w w' :=
  (dcheck_any vs D w hV hS).mono fun e w' ⟨r, he, _, h2, hx⟩ => ⟨by rw [he, h2.2 h], hx⟩
theorem dcheck_no (vs : Nat → Value × Value) (D : Dic) (w : World) (hV : DicV w vs D) (hS : DicS D) (h : ¬ DicOK D) : Calls Try.prog 13 #[dv vs] w fun e w' => e = .returned (.int .i64 160) ∧ Ext w w' :=
  (dcheck_any vs D w hV hS).mono fun e w' ⟨r, he, h1, h2, hx⟩ => ⟨by rw [he]; rcases h1 with rfl | rfl; exact absurd (h2.1 rfl) h; rfl, hx⟩

/-- A name's id. -/
def idF (D : Dic) (kind : Int) (s : ByteArray) : Int := if 0 ≤ kind ∧ kind < 5 then findF (D kind.toNat).1 s else -1
def idRes (f : Int) : Ending := .returned (.tuple #[.int .i64 (max f 0), .bool (decide (0 ≤ f))])
/-- The name of an id. -/
def nameF (D : Dic) (kind q : Int) : Value := if 0 ≤ kind ∧ kind < 5 then textF (D kind.toNat).1 q else .tuple #[.string ⟨#[]⟩, .int .i64 2]
/-- All of a kind. -/
def namesF (D : Dic) (kind : Int) : List ByteArray := if 0 ≤ kind ∧ kind < 5 then (D kind.toNat).1 else []
theorem id_no (vs : Nat → Value × Value) (D : Dic) (w : World) (hV : DicV w vs D) (hS : DicS D) (h : ¬ DicOK D) (kind : Int) (s : ByteArray) :
    Calls Try.prog 33 #[dv vs, .int .i64 kind, .string s] w fun e w' => e = .returned (.tuple #[.int .i64 0, .bool false]) ∧ Ext w w' := by
  have hc := fun w' (hx : Ext w w') => dcheck_no vs D w' (hV.ext hx) hS h
  have HC := Lib.hid hc
  clear hc hV hS
  unfold dv dcells at *
  go_enter Try.func33, Try.ntmps33
  go_wp2_with fail
  refine (HC.out _ (Ext.alloc _ _)).mono ?_
  rintro e w1 ⟨rfl, hx1⟩
  go_wp2_with fail
  go_ret2
  exact ⟨rfl, (Ext.alloc _ _).trans hx1⟩
theorem name_no (vs : Nat → Value × Value) (D : Dic) (w : World) (hV : DicV w vs D) (hS : DicS D) (h : ¬ DicOK D) (kind q : Int) :
    Calls Try.prog 35 #[dv vs, .int .i64 kind, .int .i64 q] w fun e w' => e = .returned (.tuple #[.string ⟨#[]⟩, .int .i64 160]) ∧ Ext w w' := by
  have hc := fun w' (hx : Ext w w') => dcheck_no vs D w' (hV.ext hx) hS h
  have HC := Lib.hid hc
  clear hc hV hS
  unfold dv dcells at *
  go_enter Try.func35, Try.ntmps35
  go_wp2_with fail
  refine (HC.out _ (Ext.alloc _ _)).mono ?_
  rintro e w1 ⟨rfl, hx1⟩
  go_wp2_with fail
  go_ret2
  exact ⟨rfl, (Ext.alloc _ _).trans hx1⟩
theorem names_no (vs : Nat → Value × Value) (D : Dic) (w : World) (hV : DicV w vs D) (hS : DicS D) (h : ¬ DicOK D) (kind : Int) :
    Calls Try.prog 31 #[dv vs, .int .i64 kind] w fun e w' => ∃ u, e = .returned u ∧ w'.ownsRow w.heap.size 9 1 u 0 [] ∧ Ext w w' := by
  have hc := fun w' (hx : Ext w w') => dcheck_no vs D w' (hV.ext hx) hS h
  have HC := Lib.hid hc
  clear hc hV hS
  unfold dv dcells at *
  go_enter Try.func31, Try.ntmps31
  go_wp2_with fail
  refine (HC.out _ (Ext.alloc _ _)).mono ?_
  rintro e w1 ⟨rfl, hx1⟩
  go_wp2_with fail
  go_ret
  exact ⟨_, rfl, World.ownsRow_nil _ _ _ _, (Ext.alloc _ _).trans hx1⟩
set_option maxHeartbeats 1000000 in
theorem id_yes (vs : Nat → Value × Value) (D : Dic) (w : World) (hV : DicV w vs D) (hS : DicS D) (h : DicOK D) (kind : Int) (s : ByteArray) (hs : s.size ≤ 9223372036854775807) :
    Calls Try.prog 33 #[dv vs, .int .i64 kind, .string s] w fun e w' => e = idRes (idF D kind s) ∧ Ext w w' := by
  have hc := fun w' (hx : Ext w w') => dcheck_yes vs D w' (hV.ext hx) hS h
  have HC := Lib.hid hc
  have HV := Lib.hid hV
  have HS := Lib.hid hS
  have HK := Lib.hid h
  have hrow := RowAt.new w 28 (dcells vs)
  have HR := Lib.hid hrow
  clear hc hV hS h hrow
  unfold dv dcells at *
  go_enter Try.func33, Try.ntmps33
  go_wp2_with fail
  refine (HC.out _ (Ext.alloc _ _)).mono ?_
  rintro e w1 ⟨rfl, hx1⟩
  by_cases hk : 0 ≤ kind ∧ kind < 5
  · obtain ⟨k, rfl⟩ := Int.eq_ofNat_of_zero_le hk.1
    have hk5 : k < 5 := by omega
    obtain ⟨a, n, c, b, m, d, hv, hT, hSl⟩ := HV.out k hk5
    obtain ⟨hD1, hD2, hD3⟩ := HS.out k hk5
    obtain ⟨e1, e2⟩ := fst_eq hv
    have hrow : RowAt w1 w.heap.size 28 (dcells vs) := HR.out.ext hx1
    have p1 := hrow.cell (i := k * 2) (dcells_at vs hk5).1
    have p2 := hrow.cell (i := k * 2 + 1) (dcells_at vs hk5).2
    rw [e1] at p1
    rw [e2] at p2
    have hmm : m ≤ 1048576 := by have := hSl.len; omega
    have hnT := hT.len
    subst hnT
    have hf := fun w' (hx : Ext w w') => find_yes (D k).1 (D k).2 s a _ c b m d w' (hT.ext hx) (hSl.ext hx) hmm hD3 hs (HK.out k hk5).1
    have HF := Lib.hid hf
    have hrr : Hid (idF D (k : Int) s = findF (D k).1 s) := Lib.hid (by unfold idF; rw [if_pos (by omega)]; rfl)
    clear hf hT hSl hD1 hD2 hD3 hv e1 e2 hrow
    have hkn := fun w' => known_any (k : Int) w'
    rw [show (decide (0 ≤ (k : Int)) && decide ((k : Int) < 5)) = true by simp; omega] at hkn
    go_wp2_with (go_at_call 45; refine (hkn _).mono ?_; rintro e w2 ⟨rfl, rfl⟩)
    refine (HF.out _ ((Ext.alloc _ _).trans hx1)).mono ?_
    rintro e w2 ⟨rfl, hx2⟩
    go_wp2_with fail
    go_ret2
    exact ⟨by rw [hrr.out]; rfl, ((Ext.alloc _ _).trans hx1).trans hx2⟩
  · have hrr : Hid (idF D kind s = -1) := Lib.hid (by unfold idF; rw [if_neg hk])
    have hkn := fun w' => known_any kind w'
    rw [show (decide (0 ≤ kind) && decide (kind < 5)) = false by simp; omega] at hkn
    go_wp2_with (go_at_call 45; refine (hkn _).mono ?_; rintro e w2 ⟨rfl, rfl⟩)
    go_ret2
    exact ⟨by rw [hrr.out]; rfl, (Ext.alloc _ _).trans hx1⟩
set_option maxHeartbeats 1000000 in
theorem name_yes (vs : Nat → Value × Value) (D : Dic) (w : World) (hV : DicV w vs D) (hS : DicS D) (h : DicOK D) (kind q : Int) :
    Calls Try.prog 35 #[dv vs, .int .i64 kind, .int .i64 q] w fun e w' => e = .returned (nameF D kind q) ∧ Ext w w' := by
  have hc := fun w' (hx : Ext w w') => dcheck_yes vs D w' (hV.ext hx) hS h
  have HC := Lib.hid hc
  have HV := Lib.hid hV
  have HS := Lib.hid hS
  have HK := Lib.hid h
  have hrow := RowAt.new w 28 (dcells vs)
  have HR := Lib.hid hrow
  clear hc hV hS h hrow
  unfold dv dcells at *
  go_enter Try.func35, Try.ntmps35
  go_wp2_with fail
  refine (HC.out _ (Ext.alloc _ _)).mono ?_
  rintro e w1 ⟨rfl, hx1⟩
  by_cases hk : 0 ≤ kind ∧ kind < 5
  · obtain ⟨k, rfl⟩ := Int.eq_ofNat_of_zero_le hk.1
    have hk5 : k < 5 := by omega
    obtain ⟨a, n, c, b, m, d, hv, hT, hSl⟩ := HV.out k hk5
    obtain ⟨hD1, hD2, hD3⟩ := HS.out k hk5
    obtain ⟨e1, e2⟩ := fst_eq hv
    have hrow : RowAt w1 w.heap.size 28 (dcells vs) := HR.out.ext hx1
    have p1 := hrow.cell (i := k * 2) (dcells_at vs hk5).1
    have p2 := hrow.cell (i := k * 2 + 1) (dcells_at vs hk5).2
    rw [e1] at p1
    rw [e2] at p2
    have hmm : m ≤ 1048576 := by have := hSl.len; omega
    have hnT := hT.len
    subst hnT
    have hf := fun w' (hx : Ext w w') => text_yes (D k).1 (D k).2 q a _ c b m d w' (hT.ext hx) (hSl.ext hx) hmm hD3 (HK.out k hk5).1
    have HF := Lib.hid hf
    have hrr : Hid (nameF D (k : Int) q = textF (D k).1 q) := Lib.hid (by unfold nameF; rw [if_pos (by omega)]; rfl)
    clear hf hT hSl hD1 hD2 hD3 hv e1 e2 hrow
    have hkn := fun w' => known_any (k : Int) w'
    rw [show (decide (0 ≤ (k : Int)) && decide ((k : Int) < 5)) = true by simp; omega] at hkn
    go_wp2_with (go_at_call 45; refine (hkn _).mono ?_; rintro e w2 ⟨rfl, rfl⟩)
    refine (HF.out _ ((Ext.alloc _ _).trans hx1)).mono ?_
    rintro e w2 ⟨rfl, hx2⟩
    obtain ⟨ts, tc, ht⟩ : ∃ ts tc, textF (D k).1 q = .tuple #[.string ts, .int .i64 tc] := by unfold textF; split <;> exact ⟨_, _, rfl⟩
    rw [ht] at hrr ⊢
    clear ht
    go_wp2_with fail
    go_ret2
    exact ⟨by rw [hrr.out]; rfl, ((Ext.alloc _ _).trans hx1).trans hx2⟩
  · have hrr : Hid (nameF D kind q = .tuple #[.string ⟨#[]⟩, .int .i64 2]) := Lib.hid (by unfold nameF; rw [if_neg hk])
    have hkn := fun w' => known_any kind w'
    rw [show (decide (0 ≤ kind) && decide (kind < 5)) = false by simp; omega] at hkn
    go_wp2_with (go_at_call 45; refine (hkn _).mono ?_; rintro e w2 ⟨rfl, rfl⟩)
    go_ret2
    exact ⟨by rw [hrr.out]; rfl, (Ext.alloc _ _).trans hx1⟩
set_option maxHeartbeats 1000000 in
theorem names_yes (vs : Nat → Value × Value) (D : Dic) (w : World) (hV : DicV w vs D) (hS : DicS D) (h : DicOK D) (kind : Int) :
    Calls Try.prog 31 #[dv vs, .int .i64 kind] w fun e w' => ∃ u, e = .returned u ∧ w'.ownsRow w.heap.size 9 1 u (namesF D kind).length ((namesF D kind).map Value.string) ∧ Ext w w' := by
  have hc := fun w' (hx : Ext w w') => dcheck_yes vs D w' (hV.ext hx) hS h
  have HC := Lib.hid hc
  have HV := Lib.hid hV
  have HS := Lib.hid hS
  have HK := Lib.hid h
  have hrow := RowAt.new w 28 (dcells vs)
  have HR := Lib.hid hrow
  clear hc hV hS h hrow
  unfold dv dcells at *
  go_enter Try.func31, Try.ntmps31
  go_wp2_with fail
  refine (HC.out _ (Ext.alloc _ _)).mono ?_
  rintro e w1 ⟨rfl, hx1⟩
  by_cases hk : 0 ≤ kind ∧ kind < 5
  · obtain ⟨k, rfl⟩ := Int.eq_ofNat_of_zero_le hk.1
    have hk5 : k < 5 := by omega
    obtain ⟨a, n, c, b, m, d, hv, hT, hSl⟩ := HV.out k hk5
    obtain ⟨hD1, hD2, hD3⟩ := HS.out k hk5
    obtain ⟨e1, e2⟩ := fst_eq hv
    have hrow : RowAt w1 w.heap.size 28 (dcells vs) := HR.out.ext hx1
    have p1 := hrow.cell (i := k * 2) (dcells_at vs hk5).1
    have p2 := hrow.cell (i := k * 2 + 1) (dcells_at vs hk5).2
    rw [e1] at p1
    rw [e2] at p2
    have hmm : m ≤ 1048576 := by have := hSl.len; omega
    have hnT := hT.len
    subst hnT
    have hf := fun w' (hx : Ext w w') => cloneS (.slice a _ c) (D k).1 w' (hT.ext hx) (by omega)
    have HF := Lib.hid hf
    have hrr : Hid (namesF D (k : Int) = (D k).1) := Lib.hid (by unfold namesF; rw [if_pos (by omega)]; rfl)
    clear hf hT hSl hD1 hD2 hD3 hv e1 e2 hrow
    have hkn := fun w' => known_any (k : Int) w'
    rw [show (decide (0 ≤ (k : Int)) && decide ((k : Int) < 5)) = true by simp; omega] at hkn
    go_wp2_with (go_at_call 45; refine (hkn _).mono ?_; rintro e w2 ⟨rfl, rfl⟩)
    refine (HF.out _ ((Ext.alloc _ _).trans hx1)).mono ?_
    rintro e w2 ⟨u, cu, rfl, ho2, hx2⟩
    go_wp2_with fail
    go_ret
    exact ⟨_, rfl, by rw [hrr.out]; exact own_base ho2 ((Ext.alloc _ _).trans hx1).size, ((Ext.alloc _ _).trans hx1).trans hx2⟩
  · have hrr : Hid (namesF D kind = []) := Lib.hid (by unfold namesF; rw [if_neg hk])
    have hkn := fun w' => known_any kind w'
    rw [show (decide (0 ≤ kind) && decide (kind < 5)) = false by simp; omega] at hkn
    go_wp2_with (go_at_call 45; refine (hkn _).mono ?_; rintro e w2 ⟨rfl, rfl⟩)
    go_ret
    exact ⟨_, rfl, by rw [hrr.out]; exact World.ownsRow_nil _ _ _ _, (Ext.alloc _ _).trans hx1⟩
end Go.Proofs.Ytogoejlbdbapoaa
