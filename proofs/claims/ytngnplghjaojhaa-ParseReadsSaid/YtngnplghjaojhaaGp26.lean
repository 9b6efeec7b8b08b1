/- What stands between tokens changes nothing. Plain. -/
import Derived.Test.YtngnplghjaojhaaGp25
import Derived.Test.YtngnplghjaojhaaGp03
import Derived.Test.YtngnplghjaojhaaGp15
import Derived.Test.YtngnplghjaojhaaGp02
import Derived.Test.YtngnplghjaojhaaGp01
import Derived.Test.YtngnplghjaojhaaGp08
namespace Go.Proofs.Ytngnplghjaojhaa
set_option maxRecDepth 100000
set_option maxHeartbeats 2000000
set_option linter.unusedSimpArgs false
set_option linter.unusedVariables false

section
variable {ts us : List Tk}
end
end Go.Proofs.Ytngnplghjaojhaa

/- A region that draws its order: what each operation comes to is known, or it leaves. No program in sight. -/
namespace Go.Proofs.Ytngnplghjaojhaa
set_option maxRecDepth 100000
set_option maxHeartbeats 2000000
set_option linter.unusedSimpArgs false
open Go.RowKit Go.Sort
set_option linter.unusedVariables false

/-- Each operation that is listed has come to its value; what holds of the world hangs on whether the last one is listed. -/
structure PlF (I : Bool → World → Prop) (vals : List (Option Value)) (last : Nat) (S : Nat → Bool) (us : List Value) (W : World) : Prop where
  inv : I (S last) W
  len : us.length = vals.length
  val : ∀ i, S i = true → i < vals.length → ∃ v, vals[i]? = some (some v) ∧ us[i]? = some v
section
variable {I : Bool → World → Prop} {vals : List (Option Value)} {last : Nat} {S : Nat → Bool} {us : List Value} {W W' : World}
theorem PlF.start (hl : us.length = vals.length) (h : I false W) : PlF I vals last (fun _ => false) us W := ⟨h, hl, nofun⟩
theorem PlF.put (h : PlF I vals last S us W) {i : Nat} {v : Value} (hi : vals[i]? = some (some v)) (hne : last ≠ i) (hI : I (S last) W') : PlF I vals last (updB S i) (us.set i v) W' := by
  refine ⟨by rw [updB_ne S hne]; exact hI, by rw [List.length_set]; exact h.len, fun j hj hl => ?_⟩
  by_cases e : j = i
  · subst e
    exact ⟨v, hi, by rw [List.getElem?_set_self (by have := h.len; omega)]⟩
  · rw [updB_ne S e] at hj
    obtain ⟨u, h1, h2⟩ := h.val j hj hl
    exact ⟨u, h1, by rw [List.getElem?_set_ne (Ne.symm e)]; exact h2⟩
end
/-- As PlF, but for the world: what holds of it hangs on all that is listed. -/
structure PlS (vals : List (Option Value)) (S : Nat → Bool) (us : List Value) : Prop where
  len : us.length = vals.length
  val : ∀ i, S i = true → i < vals.length → ∃ v, vals[i]? = some (some v) ∧ us[i]? = some v
section
variable {vals : List (Option Value)} {S : Nat → Bool} {us : List Value}
theorem PlS.start (hl : us.length = vals.length) : PlS vals (fun _ => false) us := ⟨hl, nofun⟩
theorem PlS.put (h : PlS vals S us) {i : Nat} {v : Value} (hi : vals[i]? = some (some v)) : PlS vals (updB S i) (us.set i v) := by
  refine ⟨by rw [List.length_set]; exact h.len, fun j hj hl => ?_⟩
  by_cases e : j = i
  · subst e
    exact ⟨v, hi, by rw [List.getElem?_set_self (by have := h.len; omega)]⟩
  · rw [updB_ne S e] at hj
    obtain ⟨u, h1, h2⟩ := h.val j hj hl
    exact ⟨u, h1, by rw [List.getElem?_set_ne (Ne.symm e)]; exact h2⟩
theorem PlS.get (h : PlS vals S us) {i : Nat} (hS : S i = true) {o : Option Value} (hi : vals[i]? = some o) : ∃ v, o = some v ∧ us[i]? = some v := by
  obtain ⟨v, h1, h2⟩ := h.val i hS (List.getElem?_eq_some_iff.1 hi).1
  rw [hi] at h1
  exact ⟨v, Option.some.inj h1, h2⟩
theorem PlS.got (h : PlS vals S us) {i : Nat} (hS : S i = true) {v u : Value} (hi : vals[i]? = some (some v)) (hu : us[i]? = some u) : u = v := by
  obtain ⟨v', h1, h2⟩ := h.get hS hi
  rw [hu] at h2
  cases h1
  exact Option.some.inj h2
end
section
variable {P : Program} {Q : Exit → Act → World → Prop} {K : Act → World → Prop} {ops : Array Oper} {o : Oper} {a : Act} {w : World} {E : Prop}
end
theorem len6 {l : List Value} {vals : List (Option Value)} (h : l.length = vals.length) (hv : vals.length = 6) : ∃ u0 u1 u2 u3 u4 u5, l = [u0, u1, u2, u3, u4, u5] := by
  rw [hv] at h
  match l, h with
  | [u0, u1, u2, u3, u4, u5], _ => exact ⟨u0, u1, u2, u3, u4, u5, rfl⟩
theorem len7 {l : List Value} {vals : List (Option Value)} (h : l.length = vals.length) (hv : vals.length = 7) : ∃ u0 u1 u2 u3 u4 u5 u6, l = [u0, u1, u2, u3, u4, u5, u6] := by
  rw [hv] at h
  match l, h with
  | [u0, u1, u2, u3, u4, u5, u6], _ => exact ⟨u0, u1, u2, u3, u4, u5, u6, rfl⟩
end Go.Proofs.Ytngnplghjaojhaa

/- The document's state: a term that is a key. -/
namespace Go.Proofs.Ytngnplghjaojhaa
set_option maxRecDepth 100000
set_option maxHeartbeats 2000000
set_option linter.unusedSimpArgs false
open Go.RowKit Go.Shelf Go.Sort
attribute [local go_sem] Oper.semAt_some wide_fn wide_depth
set_option linter.unusedVariables false
set_option maxRecDepth 100000 in
set_option maxHeartbeats 2000000 in
theorem aTermS_key {w : World} {ts : List Tk} {tv : Value} {p : Nat} (h : TkS w ts tv p) (c : Sc) (vv : Value) (hk : kindAt ts p = 2) (hl : ts.length ≤ 1000000) :
    Calls Try.prog 87 #[stV c tv p false, vv] w fun e w' => e = .returned (.tuple #[stV c tv (p + 1) false, .agg #[.bool true, .string (textAt ts p)], vv]) ∧ Ext w w' := by
  obtain ⟨a, cap, rfl, hcap, hmax⟩ := h.toks.shape
  obtain ⟨tx, htx⟩ : ∃ tx, textAt ts p = tx := ⟨_, rfl⟩
  have HTK := fun w' (hx : Ext w w') => takeS_yes (h.ext hx) c 2 hk (by decide) hl
  have HKS := fun w' (hx : Ext w w') => kindS_any (h.ext hx) c false
  rw [hk] at HKS
  rw [htx] at HTK ⊢
  obtain ⟨a1, n1, k1, a2, n2, k2, cn, ds, lm, li, off, a3, n3, k3, op⟩ := c
  unfold stV at HTK HKS ⊢
  dsimp only at HTK HKS ⊢
  have hx0 : Ext w (((w.alloc (.cells #[.slice a ts.length cap, .int .i64 p, .bool false, .slice a1 n1 k1, .slice a2 n2 k2, .bool cn, .bool ds, .bool lm, .int .i64 li, .int .i64 off, .slice a3 n3 k3, .int .i64 op] 70)).alloc (.cells #[.slice none 0 0, .int .i64 0, .bool false, .slice none 0 0, .slice none 0 0, .bool false, .bool false, .bool false, .int .i64 0, .int .i64 0, .slice none 0 0, .int .i64 0] 70)).alloc (.cells #[.bool false, .string ⟨#[]⟩] 62)) := ((Ext.alloc _ _).trans (Ext.alloc _ _)).trans (Ext.alloc _ _)
  replace HTK := Lib.hid HTK
  replace HKS := Lib.hid HKS
  have HX := Lib.hid hx0
  have H := Lib.hid h
  have hb0 : RowAt (((w.alloc (.cells #[.slice a ts.length cap, .int .i64 p, .bool false, .slice a1 n1 k1, .slice a2 n2 k2, .bool cn, .bool ds, .bool lm, .int .i64 li, .int .i64 off, .slice a3 n3 k3, .int .i64 op] 70)).alloc (.cells #[.slice none 0 0, .int .i64 0, .bool false, .slice none 0 0, .slice none 0 0, .bool false, .bool false, .bool false, .int .i64 0, .int .i64 0, .slice none 0 0, .int .i64 0] 70)).alloc (.cells #[.bool false, .string ⟨#[]⟩] 62)) w.heap.size 70 [.slice a ts.length cap, .int .i64 p, .bool false, .slice a1 n1 k1, .slice a2 n2 k2, .bool cn, .bool ds, .bool lm, .int .i64 li, .int .i64 off, .slice a3 n3 k3, .int .i64 op] := ((RowAt.new w 70 [.slice a ts.length cap, .int .i64 p, .bool false, .slice a1 n1 k1, .slice a2 n2 k2, .bool cn, .bool ds, .bool lm, .int .i64 li, .int .i64 off, .slice a3 n3 k3, .int .i64 op]).ext (Ext.alloc _ _)).ext (Ext.alloc _ _)
  have HB := Lib.hid hb0
  have hb4 : RowAt (((w.alloc (.cells #[.slice a ts.length cap, .int .i64 p, .bool false, .slice a1 n1 k1, .slice a2 n2 k2, .bool cn, .bool ds, .bool lm, .int .i64 li, .int .i64 off, .slice a3 n3 k3, .int .i64 op] 70)).alloc (.cells #[.slice none 0 0, .int .i64 0, .bool false, .slice none 0 0, .slice none 0 0, .bool false, .bool false, .bool false, .int .i64 0, .int .i64 0, .slice none 0 0, .int .i64 0] 70)).alloc (.cells #[.bool false, .string ⟨#[]⟩] 62)) (w.heap.size + 1) 70 zeroS := (row_at (xs := zeroS) (by simp)).ext (Ext.alloc _ _)
  have hb5 : RowAt (((w.alloc (.cells #[.slice a ts.length cap, .int .i64 p, .bool false, .slice a1 n1 k1, .slice a2 n2 k2, .bool cn, .bool ds, .bool lm, .int .i64 li, .int .i64 off, .slice a3 n3 k3, .int .i64 op] 70)).alloc (.cells #[.slice none 0 0, .int .i64 0, .bool false, .slice none 0 0, .slice none 0 0, .bool false, .bool false, .bool false, .int .i64 0, .int .i64 0, .slice none 0 0, .int .i64 0] 70)).alloc (.cells #[.bool false, .string ⟨#[]⟩] 62)) (w.heap.size + 1 + 1) 62 [.bool false, .string ⟨#[]⟩] := row_at (xs := [.bool false, .string ⟨#[]⟩]) (by simp)
  unfold zeroS at hb4
  have HB4 := Lib.hid hb4
  have HB5 := Lib.hid hb5
  clear h hx0 hk htx hb0 hb4 hb5
  go_enter Try.func87, Try.ntmps87
  go_upto_region 1 with fail
  generalize ((w.alloc (.cells #[.slice a ts.length cap, .int .i64 p, .bool false, .slice a1 n1 k1, .slice a2 n2 k2, .bool cn, .bool ds, .bool lm, .int .i64 li, .int .i64 off, .slice a3 n3 k3, .int .i64 op] 70)).alloc (.cells #[.slice none 0 0, .int .i64 0, .bool false, .slice none 0 0, .slice none 0 0, .bool false, .bool false, .bool false, .int .i64 0, .int .i64 0, .slice none 0 0, .int .i64 0] 70)).alloc (.cells #[.bool false, .string ⟨#[]⟩] 62) = w1 at *
  obtain ⟨f0, f1, f2, f3, f4, f5, f6, f7, f8, f9, f10, f11⟩ := stL_facts HB.out
  go_wp2_with fail
  refine (HKS.out _ HX.out).mono ?_
  rintro e w2 ⟨rfl, hx2⟩
  have HB2 := Lib.hid (HB.out.ext hx2)
  have HX2 := Lib.hid (HX.out.trans hx2)
  replace HB4 := Lib.hid (HB4.out.ext hx2)
  replace HB5 := Lib.hid (HB5.out.ext hx2)
  clear hx2 f0 f1 f2 f3 f4 f5 f6 f7 f8 f9 f10 f11
  obtain ⟨f0, f1, f2, f3, f4, f5, f6, f7, f8, f9, f10, f11⟩ := stL_facts HB2.out
  go_wp2_with fail
  refine (HTK.out _ HX2.out).mono ?_
  rintro e w3 ⟨rfl, hx3⟩
  have HX3 := Lib.hid (HX2.out.trans hx3)
  replace HB4 := Lib.hid (HB4.out.ext hx3)
  replace HB5 := Lib.hid (HB5.out.ext hx3)
  clear hx3 f0 f1 f2 f3 f4 f5 f6 f7 f8 f9 f10 f11
  go_upto_region 3 with fail
  have hx4 := Ext.alloc w3 (.cells #[.slice a ts.length cap, .int .i64 ((p : Int) + 1), .bool false, .slice a1 n1 k1, .slice a2 n2 k2, .bool cn, .bool ds, .bool lm, .int .i64 li, .int .i64 off, .slice a3 n3 k3, .int .i64 op] 70)
  have hb7 : RowAt (w3.alloc (.cells #[.slice a ts.length cap, .int .i64 ((p : Int) + 1), .bool false, .slice a1 n1 k1, .slice a2 n2 k2, .bool cn, .bool ds, .bool lm, .int .i64 li, .int .i64 off, .slice a3 n3 k3, .int .i64 op] 70)) w3.heap.size 70 [.slice a ts.length cap, .int .i64 ((p : Int) + 1), .bool false, .slice a1 n1 k1, .slice a2 n2 k2, .bool cn, .bool ds, .bool lm, .int .i64 li, .int .i64 off, .slice a3 n3 k3, .int .i64 op] := RowAt.new _ _ _
  have hlt := HB5.out.lt
  have HZ3 := Lib.hid (HB4.out.ext hx4)
  have HT3 := Lib.hid (HB5.out.ext hx4)
  have HX4 := Lib.hid (HX3.out.trans hx4)
  have HB7 := Lib.hid hb7
  clear hx4 hb7 HB4 HB5 HX3 HB HB2 HX HX2 HKS HTK
  generalize w3.alloc (.cells #[.slice a ts.length cap, .int .i64 ((p : Int) + 1), .bool false, .slice a1 n1 k1, .slice a2 n2 k2, .bool cn, .bool ds, .bool lm, .int .i64 li, .int .i64 off, .slice a3 n3 k3, .int .i64 op] 70) = w4 at *
  obtain ⟨u, hu⟩ : ∃ u, w3.heap.size = u := ⟨_, rfl⟩
  obtain ⟨z, hz⟩ : ∃ z, w.heap.size + 1 = z := ⟨_, rfl⟩
  obtain ⟨t, ht⟩ : ∃ t, z + 1 = t := ⟨_, rfl⟩
  rw [hu] at HB7 hlt
  rw [hz, ht] at HT3 hlt
  rw [hz] at HZ3
  simp only [hu, hz, ht]
  have hzw : w.heap.size ≤ z := by omega
  have htz : ¬ t = z := by omega
  have hzt : ¬ z = t := by omega
  clear hu hz
  apply wp_region_lit
  refine wpList_load_row rfl _ _ rfl u rfl _ _ _ _ HB7.out Try.underlying70 rfl (by kernel_rfl) ?_
  go_simp
  refine wpList_plain rfl fun K1 hK1 => ?_
  go_simp
  refine hK1 _ _ ?_
  clear hK1 K1
  refine wpList_plain rfl fun K1 hK1 => ?_
  go_simp
  refine hK1 _ _ ?_
  clear hK1 K1
  refine wpList_plain rfl fun K1 hK1 => ?_
  go_simp
  refine hK1 _ _ ?_
  clear hK1 K1
  refine wpList_store_row rfl _ _ _ rfl z _ rfl rfl _ _ HZ3.out (by kernel_rfl) rfl (by simp [Value.oneCell']) ?_
  have HZ5 := Lib.hid (show RowAt (w4.setRow z #[.slice a ts.length cap, .int .i64 ((p : Int) + 1), .bool false, .slice a1 n1 k1, .slice a2 n2 k2, .bool cn, .bool ds, .bool lm, .int .i64 li, .int .i64 off, .slice a3 n3 k3, .int .i64 op]) z 70 [.slice a ts.length cap, .int .i64 ((p : Int) + 1), .bool false, .slice a1 n1 k1, .slice a2 n2 k2, .bool cn, .bool ds, .bool lm, .int .i64 li, .int .i64 off, .slice a3 n3 k3, .int .i64 op] from setRow_heap _ _ _ _ _ _ HZ3.out)
  have HT5 := Lib.hid (show RowAt (w4.setRow z #[.slice a ts.length cap, .int .i64 ((p : Int) + 1), .bool false, .slice a1 n1 k1, .slice a2 n2 k2, .bool cn, .bool ds, .bool lm, .int .i64 li, .int .i64 off, .slice a3 n3 k3, .int .i64 op]) t 62 [.bool false, .string ⟨#[]⟩] from (setRow_other _ _ _ _ htz).trans HT3.out)
  have HX5 := Lib.hid (show Ext w (w4.setRow z #[.slice a ts.length cap, .int .i64 ((p : Int) + 1), .bool false, .slice a1 n1 k1, .slice a2 n2 k2, .bool cn, .bool ds, .bool lm, .int .i64 li, .int .i64 off, .slice a3 n3 k3, .int .i64 op]) from below_setRow HX4.out hzw _)
  go_simp
  generalize w4.setRow z #[.slice a ts.length cap, .int .i64 ((p : Int) + 1), .bool false, .slice a1 n1 k1, .slice a2 n2 k2, .bool cn, .bool ds, .bool lm, .int .i64 li, .int .i64 off, .slice a3 n3 k3, .int .i64 op] = w5 at *
  refine wpList_store_row rfl _ _ _ rfl t _ rfl rfl _ _ HT5.out (by kernel_rfl) rfl (by simp [Value.oneCell']) ?_
  have hz6 := (setRow_other w5 t z #[.bool true, .string tx] hzt).trans HZ5.out
  have ht6 := setRow_heap w5 t _ #[.bool true, .string tx] _ _ HT5.out
  have HX6 := Lib.hid (show Ext w (w5.setRow t #[.bool true, .string tx]) from below_setRow HX5.out (by omega) _)
  have HZ6 := Lib.hid hz6
  have HT6 := Lib.hid ht6
  clear hz6 ht6
  go_simp
  generalize w5.setRow t #[.bool true, .string tx] = w6 at *
  refine wpList_plain rfl fun K1 hK1 => ?_
  go_simp
  refine hK1 _ _ ?_
  clear hK1 K1
  apply wpList_nil
  go_wp2_with fail
  obtain ⟨r0, r1, r2, r3, r4, r5, r6, r7, r8, r9, r10, r11⟩ := stL_facts (show RowAt w6 z 70 [.slice a ts.length cap, .int .i64 ((p : Int) + 1), .bool false, .slice a1 n1 k1, .slice a2 n2 k2, .bool cn, .bool ds, .bool lm, .int .i64 li, .int .i64 off, .slice a3 n3 k3, .int .i64 op] from HZ6.out)
  have s0 := (show RowAt w6 t 62 [.bool true, .string tx] from HT6.out).cell (i := 0) rfl
  have s1 := (show RowAt w6 t 62 [.bool true, .string tx] from HT6.out).cell (i := 1) rfl
  exact bodyPost_ret (v := .tuple #[.agg #[.slice a ts.length cap, .int .i64 ((p : Int) + 1), .bool false, .slice a1 n1 k1, .slice a2 n2 k2, .bool cn, .bool ds, .bool lm, .int .i64 li, .int .i64 off, .slice a3 n3 k3, .int .i64 op], .agg #[.bool true, .string tx], vv]) (by simp [results, Try.results87, go_sem, r0, r1, r2, r3, r4, r5, r6, r7, r8, r9, r10, r11, s0, s1]) rfl ⟨rfl, HX6.out⟩
end Go.Proofs.Ytngnplghjaojhaa

/- A region that draws its order: as wp_region_inv, ten slots, and what the slots come to is reckoned once. No program in sight. -/
namespace Go.Proofs.Ytngnplghjaojhaa
set_option maxRecDepth 100000
set_option maxHeartbeats 2000000
set_option linter.unusedSimpArgs false
open Go.RowKit Go.Sort
set_option linter.unusedVariables false
section
variable {P : Program} {Q : Exit → Act → World → Prop}
abbrev V10 (α : Type) := Value → Value → Value → Value → Value → Value → Value → Value → Value → Value → α
def stepsN (P : Program) (Q : Exit → Act → World → Prop) (l : Array Oper) (nf : V10 Act) (dep : Nat → List Nat) (F : (Nat → Bool) → V10 (World → Prop)) : List Oper → Nat → Prop
  | [], _ => True
  | o :: r, i => (∀ S u0 u1 u2 u3 u4 u5 u6 u7 u8 u9 w', (∀ d ∈ dep i, S d = true) → S i = false → F S u0 u1 u2 u3 u4 u5 u6 u7 u8 u9 w' → ∀ K : Act → World → Prop,
      (∀ v0 v1 v2 v3 v4 v5 v6 v7 v8 v9 w'', F (updB S i) v0 v1 v2 v3 v4 v5 v6 v7 v8 v9 w'' → K (nf v0 v1 v2 v3 v4 v5 v6 v7 v8 v9) w'') →
      if Region.wanted o (yielded l (nf u0 u1 u2 u3 u4 u5 u6 u7 u8 u9).tmps) = true then o.wp P (nf u0 u1 u2 u3 u4 u5 u6 u7 u8 u9) w' K Q else K ((nf u0 u1 u2 u3 u4 u5 u6 u7 u8 u9).put o.dst undef) w') ∧ stepsN P Q l nf dep F r (i + 1)
theorem stepsN_I {l : Array Oper} {a0 : Act} {slots : List Tmp} {nf : V10 Act} {dep : Nat → List Nat} {F : (Nat → Bool) → V10 (World → Prop)} (hnf : ∀ u0 u1 u2 u3 u4 u5 u6 u7 u8 u9, puts a0 slots [u0, u1, u2, u3, u4, u5, u6, u7, u8, u9] = nf u0 u1 u2 u3 u4 u5 u6 u7 u8 u9) :
    ∀ (r : List Oper) (i : Nat), stepsN P Q l nf dep F r i → stepsI P Q l a0 slots dep (fun S us W => ∃ u0 u1 u2 u3 u4 u5 u6 u7 u8 u9, us = [u0, u1, u2, u3, u4, u5, u6, u7, u8, u9] ∧ F S u0 u1 u2 u3 u4 u5 u6 u7 u8 u9 W) r i
  | [], _, _ => trivial
  | o :: r, i, h => by
    refine ⟨?_, stepsN_I hnf r (i + 1) h.2⟩
    rintro S us w' hd hn ⟨u0, u1, u2, u3, u4, u5, u6, u7, u8, u9, rfl, hF⟩ K hK
    rw [hnf]
    refine h.1 S u0 u1 u2 u3 u4 u5 u6 u7 u8 u9 w' hd hn hF K (fun v0 v1 v2 v3 v4 v5 v6 v7 v8 v9 w'' h' => ?_)
    rw [← hnf]
    exact hK _ w'' ⟨v0, v1, v2, v3, v4, v5, v6, v7, v8, v9, rfl, h'⟩
theorem wp_region_invN {id : Nat} {a0 : Act} {w : World} {l : List Oper} (slots : List Tmp) {nf : V10 Act} (hnf : ∀ u0 u1 u2 u3 u4 u5 u6 u7 u8 u9, puts a0 slots [u0, u1, u2, u3, u4, u5, u6, u7, u8, u9] = nf u0 u1 u2 u3 u4 u5 u6 u7 u8 u9)
    (us0 : List Value) (dep : Nat → List Nat) (F : (Nat → Bool) → V10 (World → Prop))
    (hm : P.follows .mixedOrders = true) (hB : acycB .any l.toArray = true) (hD : depB .any l.toArray dep = true)
    (ha : puts a0 slots us0 = a0) (hl : us0.length = 10) (h0 : ∀ u0 u1 u2 u3 u4 u5 u6 u7 u8 u9, F (fun _ => false) u0 u1 u2 u3 u4 u5 u6 u7 u8 u9 w.drew)
    (hst : stepsN P Q l.toArray nf dep F l 0)
    (he : ∀ S u0 u1 u2 u3 u4 u5 u6 u7 u8 u9 w', (∀ j, j < l.length → S j = true) → F S u0 u1 u2 u3 u4 u5 u6 u7 u8 u9 w' → Q .normal (nf u0 u1 u2 u3 u4 u5 u6 u7 u8 u9) w') : (Code.region id l.toArray true).wp P Q a0 w := by
  refine wp_region_inv slots us0 dep (fun S us W => ∃ u0 u1 u2 u3 u4 u5 u6 u7 u8 u9, us = [u0, u1, u2, u3, u4, u5, u6, u7, u8, u9] ∧ F S u0 u1 u2 u3 u4 u5 u6 u7 u8 u9 W) hm hB hD ha ?_ (stepsN_I hnf _ _ hst) ?_
  · match us0, hl with
    | [u0, u1, u2, u3, u4, u5, u6, u7, u8, u9], _ => exact ⟨_, _, _, _, _, _, _, _, _, _, rfl, h0 _ _ _ _ _ _ _ _ _ _⟩
  · rintro S us w' hS ⟨u0, u1, u2, u3, u4, u5, u6, u7, u8, u9, rfl, hF⟩
    rw [hnf]
    exact he S _ _ _ _ _ _ _ _ _ _ w' hS hF
end
end Go.Proofs.Ytngnplghjaojhaa

/- The document's state: steps in one form; a state's row is named. -/
namespace Go.Proofs.Ytngnplghjaojhaa
set_option maxRecDepth 100000
set_option maxHeartbeats 2000000
set_option linter.unusedSimpArgs false
open Go.RowKit Go.Shelf Go.Sort
attribute [local go_sem] Oper.semAt_some wide_fn wide_depth
set_option linter.unusedVariables false

theorem boxes2 (w : World) (xs : List Value) (t : TypeId) (ys : List Value) (u : TypeId) :
    Ext w ((w.alloc (.cells xs.toArray t)).alloc (.cells ys.toArray u)) ∧ RowAt ((w.alloc (.cells xs.toArray t)).alloc (.cells ys.toArray u)) w.heap.size t xs ∧ RowAt ((w.alloc (.cells xs.toArray t)).alloc (.cells ys.toArray u)) (w.heap.size + 1) u ys := by
  refine ⟨(Ext.alloc _ _).trans (Ext.alloc _ _), (RowAt.new w t xs).ext (Ext.alloc _ _), ?_⟩
  have := RowAt.new (w.alloc (.cells xs.toArray t)) u ys
  rwa [World.size_alloc] at this
theorem row_far {w : World} {y z : Nat} {t : TypeId} {xs : List Value} (h : RowAt w y t xs) (cs : Array Value) (hne : y ≠ z) : RowAt (w.setRow z cs) y t xs := (setRow_other w z y cs hne).trans h
/-- Where texts may lie: below A, or from B on. -/
def Far (A B : Nat) (v : Value) (l : List ByteArray) : Prop := 0 < l.length → ∃ g o n c, v = .slice (some ⟨g, o, none⟩) n c ∧ (g < A ∨ B ≤ g)
theorem Far.old {w : World} {v : Value} {l : List ByteArray} (h : Strs w v l) (B : Nat) : Far w.heap.size B v l := fun hn => by
  obtain ⟨a, cap, rfl, h1, h2, h3⟩ := h
  obtain ⟨g, o, rfl, hc⟩ := h3 (by rw [List.length_map]; exact hn)
  exact ⟨g, o, _, cap, rfl, .inl (cell_lt (hc 0 (.string l[0]) (by rw [List.getElem?_map, List.getElem?_eq_getElem hn]; rfl)))⟩
theorem Far.own {w : World} {A B : Nat} {e : TypeId} {v : Value} {l : List ByteArray} (h : w.ownsRow B e 1 v l.length (l.map Value.string)) : Far A B v l := fun hn => by
  obtain ⟨hl, ⟨rfl, h0⟩ | ⟨g, cap, cur, rfl, hg, _⟩⟩ := h
  · omega
  · exact ⟨g, 0, _, cap, rfl, .inr hg⟩
theorem Far.stay {w : World} {A B : Nat} {v : Value} {l : List ByteArray} (hf : Far A B v l) (h : Strs w v l) {y : Nat} (h1 : A ≤ y) (h2 : y < B) (cs : Array Value) : Strs (w.setRow y cs) v l := by
  obtain ⟨a, cap, rfl, k1, k2, k3⟩ := h
  refine ⟨a, cap, rfl, k1, k2, fun hn => ?_⟩
  obtain ⟨g, o, n, c, e, hg⟩ := hf (by rw [List.length_map] at hn; exact hn)
  obtain ⟨g', o', rfl, hc⟩ := k3 hn
  cases e
  exact ⟨g, o, rfl, fun i u hu => (World.cell?_of_block (w := w) (setRow_other w y g cs (by omega))).trans (hc i u hu)⟩
theorem Fresh.stay {w : World} {B : Nat} {v : Value} {l : List ByteArray} (hf : Fresh B v l) (h : Strs w v l) {y : Nat} (h2 : y < B) (cs : Array Value) : Strs (w.setRow y cs) v l :=
  Far.stay (A := 0) (B := B) (fun hn => by obtain ⟨g, o, n, c, e, hg⟩ := hf hn; exact ⟨g, o, n, c, e, .inr hg⟩) h (Nat.zero_le _) h2 cs
theorem Fresh.stayC {w : World} {B : Nat} {v : Value} {l : List ByteArray} (hf : Fresh B v l) (h : Strs w v l) {y : Nat} (h2 : y < B) (i : Nat) (u : Value) : Strs (w.setCell ⟨y, i, none⟩ u) v l := by
  obtain ⟨a, cap, rfl, k1, k2, k3⟩ := h
  refine ⟨a, cap, rfl, k1, k2, fun hn => ?_⟩
  obtain ⟨g, o, n, c, e, hg⟩ := hf (by rw [List.length_map] at hn; exact hn)
  obtain ⟨g', o', rfl, hc⟩ := k3 hn
  cases e
  refine ⟨g, o, rfl, fun j x hx => ?_⟩
  have hlt := cell_lt (hc j x hx)
  exact (World.cell?_of_block (w := w) ((grown_set w y i u).block g hlt (fun e => by have := Option.some.inj e; omega))).trans (hc j x hx)
theorem stL_one (c : Sc) (a : Option Addr) (n k p : Nat) (bad : Bool) : ∀ v ∈ stL c (.slice a n k) p bad, v.oneCell' = true := by
  unfold stL
  simp [Value.oneCell']
theorem stQ_facts {w : World} {g : Nat} {t : TypeId} {c : Sc} {tv : Value} {p : Nat} {bad : Bool} (h : RowAt w g t (stL c tv p bad)) : w.cell? ⟨g, 0, none⟩ = some tv ∧ w.cell? ⟨g, 1, none⟩ = some (.int .i64 p) ∧ w.cell? ⟨g, 2, none⟩ = some (.bool bad) ∧
    w.cell? ⟨g, 3, none⟩ = some (.slice c.a1 c.n1 c.k1) ∧ w.cell? ⟨g, 4, none⟩ = some (.slice c.a2 c.n2 c.k2) ∧ w.cell? ⟨g, 5, none⟩ = some (.bool c.cn) ∧ w.cell? ⟨g, 6, none⟩ = some (.bool c.ds) ∧ w.cell? ⟨g, 7, none⟩ = some (.bool c.lm) ∧
    w.cell? ⟨g, 8, none⟩ = some (.int .i64 c.li) ∧ w.cell? ⟨g, 9, none⟩ = some (.int .i64 c.off) ∧ w.cell? ⟨g, 10, none⟩ = some (.slice c.a3 c.n3 c.k3) ∧ w.cell? ⟨g, 11, none⟩ = some (.int .i64 c.op) := stL_facts h
/-- What a state reads, and how much there may be of it. -/
structure TkQ (w : World) (ts : List Tk) (a : Option Addr) (k : Nat) : Prop where
  toks : Toks w (.slice a ts.length k) ts
  szs : ∀ t ∈ ts, t.text.size ≤ 9223372036854775800
  few : ts.length ≤ 1000000
theorem TkQ.ext {w w' : World} {ts : List Tk} {a : Option Addr} {k : Nat} (h : TkQ w ts a k) (hx : Ext w w') : TkQ w' ts a k := ⟨h.toks.ext hx, h.szs, h.few⟩
section
variable {w : World} {ts : List Tk} {a : Option Addr} {k p : Nat}
theorem kindQ (h : TkQ w ts a k) (hp : p ≤ ts.length) (c : Sc) (bad : Bool) :
    Calls Try.prog 57 #[.agg (stL c (.slice a ts.length k) p bad).toArray] w fun e w' => e = .returned (.int .i64 (kindAt ts p)) ∧ Ext w w' := kindS_any ⟨h.toks, hp, h.szs⟩ c bad
theorem takeR_le (hp : p ≤ ts.length) {q : Int} (hq : q ≠ 0) (bad : Bool) : (takeR ts q p bad).1 ≤ ts.length := by
  unfold takeR
  split
  · rename_i hh
    have := kindAt_lt (ts := ts) (p := p) (by rw [hh.2]; exact hq)
    simp only; omega
  · exact hp
theorem takeQ (h : TkQ w ts a k) (hp : p ≤ ts.length) (c : Sc) (bad : Bool) (q : Int) (hq : q ≠ 0) :
    Calls Try.prog 55 #[.agg (stL c (.slice a ts.length k) p bad).toArray, .int .i64 q] w fun e w' =>
      e = .returned (.tuple #[.agg (stL c (.slice a ts.length k) (takeR ts q p bad).1 (takeR ts q p bad).2.1).toArray, .string (takeR ts q p bad).2.2]) ∧ Ext w w' := by
  unfold takeR
  cases bad with
  | true =>
    rw [if_neg (by simp)]
    exact takeS_bad c _ p q ⟨_, _, _, rfl⟩
  | false =>
    by_cases hk : kindAt ts p = q
    · rw [if_pos ⟨rfl, hk⟩]
      exact takeS_yes ⟨h.toks, hp, h.szs⟩ c q hk hq h.few
    · rw [if_neg (by simp [hk])]
      exact takeS_no ⟨h.toks, hp, h.szs⟩ c q hk
theorem saysQ (h : TkQ w ts a k) (hp : p ≤ ts.length) (c : Sc) (bad : Bool) (word : ByteArray) :
    Calls Try.prog 54 #[.agg (stL c (.slice a ts.length k) p bad).toArray, .string word] w fun e w' => e = .returned (.bool (saysR ts p bad word)) ∧ Ext w w' := by
  cases bad with
  | true => exact says_bad c _ p word ⟨_, _, _, rfl⟩
  | false => exact says_good ⟨h.toks, hp, h.szs⟩ c word h.few
theorem wrongQ (h : TkQ w ts a k) (hp : p + 1 ≤ ts.length) (c : Sc) (bad : Bool) :
    Calls Try.prog 85 #[.agg (stL c (.slice a ts.length k) (p + 1) bad).toArray] w fun e w' => e = .returned (.agg (stL c (.slice a ts.length k) p true).toArray) ∧ Ext w w' :=
  wrongS_any c _ p bad ⟨_, _, _, rfl⟩ (by have := h.few; omega)
end
/-- What a term comes to: the place, whether it is bad, the term, the variables with it. -/
def aTermF (ts : List Tk) (T : List ByteArray) (p : Nat) (bad : Bool) : Nat × Bool × (Bool × ByteArray) × List ByteArray :=
  if bad = false ∧ kindAt ts p = 2 then (p + 1, false, (true, textAt ts p), T)
  else if (takeR ts 1 p bad).2.1 = false ∧ 32 < (termS T (false, (takeR ts 1 p bad).2.2)).length then (p, true, (false, (takeR ts 1 p bad).2.2), termS T (false, (takeR ts 1 p bad).2.2))
  else ((takeR ts 1 p bad).1, (takeR ts 1 p bad).2.1, (false, (takeR ts 1 p bad).2.2), termS T (false, (takeR ts 1 p bad).2.2))
theorem aTermF_le {ts : List Tk} {T : List ByteArray} {p : Nat} (hp : p ≤ ts.length) (bad : Bool) : (aTermF ts T p bad).1 ≤ ts.length := by
  unfold aTermF
  split
  · rename_i hh
    have := kindAt_lt (ts := ts) (p := p) (by rw [hh.2]; decide)
    simp only; omega
  · split
    · exact hp
    · exact takeR_le hp (by decide) bad
theorem termS_len1 (T : List ByteArray) (t : Bool × ByteArray) : (termS T t).length ≤ T.length + 1 := by
  unfold termS; split <;> simp
theorem aTermF_len {ts : List Tk} {T : List ByteArray} {p : Nat} (bad : Bool) : (aTermF ts T p bad).2.2.2.length ≤ T.length + 1 := by
  unfold aTermF
  split
  · simp
  · split <;> exact termS_len1 _ _
end Go.Proofs.Ytngnplghjaojhaa
