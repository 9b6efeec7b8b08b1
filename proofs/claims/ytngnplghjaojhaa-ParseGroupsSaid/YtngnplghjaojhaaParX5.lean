/- The document's state: the kind of a token, and taking it. -/
import Derived.Test.YtngnplghjaojhaaParX1
import Derived.Test.YtngnplghjaojhaaLexX2
import Derived.Test.YtngnplghjaojhaaLexX6
import Derived.Test.YtngnplghjaojhaaGenX4
import Derived.Test.YtngnplghjaojhaaGenX3
namespace Go.Proofs.Ytngnplghjaojhaa
set_option maxRecDepth 100000
set_option maxHeartbeats 2000000
set_option linter.unusedSimpArgs false
open Go.RowKit Go.Shelf Go.Sort
attribute [local go_sem] Oper.semAt_some wide_fn wide_depth
set_option linter.unusedVariables false

/-- A state's cells but for the tokens, the place, and whether it is bad. -/
structure Sc where
  a1 : Option Addr
  n1 : Nat
  k1 : Nat
  a2 : Option Addr
  n2 : Nat
  k2 : Nat
  cn : Bool
  ds : Bool
  lm : Bool
  li : Int
  off : Int
  a3 : Option Addr
  n3 : Nat
  k3 : Nat
  op : Nat
def stL (c : Sc) (tv : Value) (p : Nat) (bad : Bool) : List Value := [tv, .int .i64 p, .bool bad, .slice c.a1 c.n1 c.k1, .slice c.a2 c.n2 c.k2, .bool c.cn, .bool c.ds, .bool c.lm, .int .i64 c.li, .int .i64 c.off, .slice c.a3 c.n3 c.k3, .int .i64 c.op]
def stV (c : Sc) (tv : Value) (p : Nat) (bad : Bool) : Value := .agg #[tv, .int .i64 p, .bool bad, .slice c.a1 c.n1 c.k1, .slice c.a2 c.n2 c.k2, .bool c.cn, .bool c.ds, .bool c.lm, .int .i64 c.li, .int .i64 c.off, .slice c.a3 c.n3 c.k3, .int .i64 c.op]
/-- The tokens that a state reads. -/
structure TkS (w : World) (ts : List Tk) (tv : Value) (p : Nat) : Prop where
  toks : Toks w tv ts
  le : p ≤ ts.length
  szs : ∀ t ∈ ts, t.text.size ≤ 9223372036854775800
theorem TkS.ext {w w' : World} {ts : List Tk} {tv : Value} {p : Nat} (h : TkS w ts tv p) (hx : Ext w w') : TkS w' ts tv p := ⟨h.toks.ext hx, h.le, h.szs⟩
theorem kindAt_endS {ts : List Tk} {p : Nat} (h : ¬ p < ts.length) : kindAt ts p = 0 := by
  unfold kindAt
  rw [List.getElem?_eq_none (by omega)]
theorem kindAt_atS {ts : List Tk} {p : Nat} (h : p < ts.length) : kindAt ts p = if ts[p].check then ts[p].kind else 0 := by
  unfold kindAt
  rw [List.getElem?_eq_getElem h]
theorem rightS (t : Tk) (w : World) (hs : t.text.size ≤ 9223372036854775800) : Calls Try.prog 75 #[tkV t] w fun e w' => e = .returned (.bool t.check) ∧ Ext w w' := by
  have h := right_any t w hs
  rw [right_check] at h
  exact h
set_option maxHeartbeats 1000000 in
theorem kindS_any {w : World} {ts : List Tk} {tv : Value} {p : Nat} (h : TkS w ts tv p) (c : Sc) (bad : Bool) :
    Calls Try.prog 57 #[stV c tv p bad] w fun e w' => e = .returned (.int .i64 (kindAt ts p)) ∧ Ext w w' := by
  obtain ⟨a, cap, rfl, hcap, hmax⟩ := h.toks.shape
  obtain ⟨a1, n1, k1, a2, n2, k2, cn, ds, lm, li, off, a3, n3, k3, op⟩ := c
  have hx0 := Ext.alloc w (.cells (stL ⟨a1, n1, k1, a2, n2, k2, cn, ds, lm, li, off, a3, n3, k3, op⟩ (.slice a ts.length cap) p bad).toArray 70)
  have hb0 : RowAt (w.alloc (.cells (stL ⟨a1, n1, k1, a2, n2, k2, cn, ds, lm, li, off, a3, n3, k3, op⟩ (.slice a ts.length cap) p bad).toArray 70)) w.heap.size 70 (stL ⟨a1, n1, k1, a2, n2, k2, cn, ds, lm, li, off, a3, n3, k3, op⟩ (.slice a ts.length cap) p bad) := RowAt.new _ _ _
  have H := Lib.hid (h.ext hx0)
  have HB := Lib.hid hb0
  have HX := Lib.hid hx0
  have hle := h.le
  unfold stL at HB HX H
  dsimp only at HB HX H
  unfold stV
  dsimp only
  clear h hx0 hb0
  go_enter Try.func57, Try.ntmps57
  go_upto_region 1 with fail
  generalize w.alloc (.cells #[.slice a ts.length cap, .int .i64 p, .bool bad, .slice a1 n1 k1, .slice a2 n2 k2, .bool cn, .bool ds, .bool lm, .int .i64 li, .int .i64 off, .slice a3 n3 k3, .int .i64 op] 70) = w1 at *
  have f0 := HB.out.cell (i := 0) rfl
  have f1 := HB.out.cell (i := 1) rfl
  by_cases hlt : p < ts.length
  · have hk := kindAt_atS hlt
    have hne : ((p : Int) == (ts.length : Int)) = false := by simp; omega
    obtain ⟨b, o, rfl, t0, t1, t2⟩ := H.out.toks.at_ hlt
    have hck := rightS ts[p] w1 (H.out.szs _ (List.getElem_mem hlt))
    generalize ts[p] = t at *
    obtain ⟨tk, tt, ta⟩ := t
    unfold tkV at hck
    dsimp only at t0 t1 t2 hck hk
    cases hc : Tk.check ⟨tk, tt, ta⟩ with
    | false =>
      rw [hc] at hck hk
      have HC := Lib.hid hck
      have HK := Lib.hid hk
      clear hck hc hk
      go_wp2_with fail
      refine HC.out.mono ?_
      rintro e w2 ⟨rfl, hx2⟩
      have HX2 := Lib.hid (HX.out.trans hx2)
      clear hx2 f0 f1 t0 t1 t2
      go_wp2_with fail
      go_ret
      exact ⟨ret_int (by rw [HK.out]; rfl), HX2.out⟩
    | true =>
      rw [hc] at hck hk
      have HC := Lib.hid hck
      have HK := Lib.hid hk
      clear hck hc hk
      go_wp2_with fail
      refine HC.out.mono ?_
      rintro e w2 ⟨rfl, hx2⟩
      have HX2 := Lib.hid (HX.out.trans hx2)
      have u0 := ext_cell hx2 t0
      have g0 := ext_cell hx2 f0
      have g1 := ext_cell hx2 f1
      clear hx2 f0 f1 t0 t1 t2
      go_wp2_with fail
      go_ret
      exact ⟨ret_int (by rw [HK.out]; rfl), HX2.out⟩
  · have hk := kindAt_endS hlt
    have HK := Lib.hid hk
    have hne : ((p : Int) == (ts.length : Int)) = true := by simp; omega
    clear hk
    go_wp2_with fail
    go_ret
    exact ⟨ret_int (by rw [HK.out]), HX.out⟩
end Go.Proofs.Ytngnplghjaojhaa

/- The document's state: a token is taken. -/
namespace Go.Proofs.Ytngnplghjaojhaa
set_option maxRecDepth 100000
set_option maxHeartbeats 2000000
set_option linter.unusedSimpArgs false
open Go.RowKit Go.Shelf Go.Sort
attribute [local go_sem] Oper.semAt_some wide_fn wide_depth
set_option linter.unusedVariables false

theorem stL_facts {w : World} {g : Nat} {t : TypeId} {x0 x1 x2 x3 x4 x5 x6 x7 x8 x9 x10 x11 : Value} (h : RowAt w g t [x0, x1, x2, x3, x4, x5, x6, x7, x8, x9, x10, x11]) : w.cell? ⟨g, 0, none⟩ = some x0 ∧ w.cell? ⟨g, 1, none⟩ = some x1 ∧ w.cell? ⟨g, 2, none⟩ = some x2 ∧ w.cell? ⟨g, 3, none⟩ = some x3 ∧ w.cell? ⟨g, 4, none⟩ = some x4 ∧ w.cell? ⟨g, 5, none⟩ = some x5 ∧
    w.cell? ⟨g, 6, none⟩ = some x6 ∧ w.cell? ⟨g, 7, none⟩ = some x7 ∧ w.cell? ⟨g, 8, none⟩ = some x8 ∧ w.cell? ⟨g, 9, none⟩ = some x9 ∧ w.cell? ⟨g, 10, none⟩ = some x10 ∧ w.cell? ⟨g, 11, none⟩ = some x11 :=
  ⟨h.cell (i := 0) rfl, h.cell (i := 1) rfl, h.cell (i := 2) rfl, h.cell (i := 3) rfl, h.cell (i := 4) rfl, h.cell (i := 5) rfl, h.cell (i := 6) rfl, h.cell (i := 7) rfl, h.cell (i := 8) rfl, h.cell (i := 9) rfl, h.cell (i := 10) rfl, h.cell (i := 11) rfl⟩
set_option maxRecDepth 100000 in
set_option maxHeartbeats 1000000 in
theorem wrongS_any {w : World} (c : Sc) (tv : Value) (p : Nat) (bad : Bool) (htv : ∃ a n cap, tv = .slice a n cap) (hp : p ≤ 1000000) :
    Calls Try.prog 85 #[stV c tv (p + 1) bad] w fun e w' => e = .returned (stV c tv p true) ∧ Ext w w' := by
  obtain ⟨a, n, cap, rfl⟩ := htv
  obtain ⟨a1, n1, k1, a2, n2, k2, cn, ds, lm, li, off, a3, n3, k3, op⟩ := c
  unfold stV
  dsimp only
  go_enter Try.func85, Try.ntmps85
  have hwr : IntKind.i64.wrap (p : Int) = (p : Int) := IntWalk.i64_in _ (by omega)
  go_wp2_with fail
  exact bodyPost_ret (v := .agg #[.slice a n cap, .int .i64 p, .bool true, .slice a1 n1 k1, .slice a2 n2 k2, .bool cn, .bool ds, .bool lm, .int .i64 li, .int .i64 off, .slice a3 n3 k3, .int .i64 op]) (by simp [results, Try.results85, go_sem]) rfl ⟨rfl, (Ext.alloc _ _).trans (Ext.alloc _ _)⟩
/-- What taking a token comes to: the place, whether it is bad, the text. -/
def takeR (ts : List Tk) (k : Int) (p : Nat) (bad : Bool) : Nat × Bool × ByteArray := if bad = false ∧ kindAt ts p = k then (p + 1, false, textAt ts p) else (p, true, nilB)
def zeroS : List Value := [.slice none 0 0, .int .i64 0, .bool false, .slice none 0 0, .slice none 0 0, .bool false, .bool false, .bool false, .int .i64 0, .int .i64 0, .slice none 0 0, .int .i64 0]
theorem row_put12 {w : World} {g : Nat} {t : TypeId} {xs ys : List Value} (h : RowAt w g t ys) (hl : ys.length = xs.length) : RowAt (setC w g 0 xs) g t xs := row_setC xs [] ys h hl
def groT5 : Nat → Gro
  | 0 => .read
  | 2 => .read
  | 4 => .read
  | 8 => .read
  | 9 => .grow
  | _ => .pure
set_option maxRecDepth 100000 in
set_option maxHeartbeats 2000000 in
theorem takeS_bad {w : World} (c : Sc) (tv : Value) (p : Nat) (k : Int) (htv : ∃ a n cap, tv = .slice a n cap) :
    Calls Try.prog 55 #[stV c tv p true, .int .i64 k] w fun e w' => e = .returned (.tuple #[stV c tv p true, .string nilB]) ∧ Ext w w' := by
  obtain ⟨a, n, cap, rfl⟩ := htv
  obtain ⟨a1, n1, k1, a2, n2, k2, cn, ds, lm, li, off, a3, n3, k3, op⟩ := c
  unfold stV
  dsimp only
  go_enter Try.func55, Try.ntmps55
  go_wp2_with fail
  exact bodyPost_ret (v := .tuple #[.agg #[.slice a n cap, .int .i64 p, .bool true, .slice a1 n1 k1, .slice a2 n2 k2, .bool cn, .bool ds, .bool lm, .int .i64 li, .int .i64 off, .slice a3 n3 k3, .int .i64 op], .string nilB]) (by simp [results, Try.results55, go_sem, nilB]) rfl ⟨rfl, (Ext.alloc _ _).trans (Ext.alloc _ _)⟩
set_option maxRecDepth 100000 in
set_option maxHeartbeats 2000000 in
theorem takeS_no {w : World} {ts : List Tk} {tv : Value} {p : Nat} (h : TkS w ts tv p) (c : Sc) (k : Int) (hk : kindAt ts p ≠ k) :
    Calls Try.prog 55 #[stV c tv p false, .int .i64 k] w fun e w' => e = .returned (.tuple #[stV c tv p true, .string nilB]) ∧ Ext w w' := by
  obtain ⟨kk, hkk⟩ : ∃ kk, kindAt ts p = kk := ⟨_, rfl⟩
  rw [hkk] at hk
  have hkb : (kk != k) = true := by simp [hk]
  obtain ⟨a, cap, rfl, hcap, hmax⟩ := h.toks.shape
  obtain ⟨a1, n1, k1, a2, n2, k2, cn, ds, lm, li, off, a3, n3, k3, op⟩ := c
  have hx0 : Ext w ((w.alloc (.cells #[.slice a ts.length cap, .int .i64 p, .bool false, .slice a1 n1 k1, .slice a2 n2 k2, .bool cn, .bool ds, .bool lm, .int .i64 li, .int .i64 off, .slice a3 n3 k3, .int .i64 op] 70)).alloc (.cells #[.slice none 0 0, .int .i64 0, .bool false, .slice none 0 0, .slice none 0 0, .bool false, .bool false, .bool false, .int .i64 0, .int .i64 0, .slice none 0 0, .int .i64 0] 70)) := (Ext.alloc _ _).trans (Ext.alloc _ _)
  have hb0 : RowAt ((w.alloc (.cells #[.slice a ts.length cap, .int .i64 p, .bool false, .slice a1 n1 k1, .slice a2 n2 k2, .bool cn, .bool ds, .bool lm, .int .i64 li, .int .i64 off, .slice a3 n3 k3, .int .i64 op] 70)).alloc (.cells #[.slice none 0 0, .int .i64 0, .bool false, .slice none 0 0, .slice none 0 0, .bool false, .bool false, .bool false, .int .i64 0, .int .i64 0, .slice none 0 0, .int .i64 0] 70)) w.heap.size 70 (stL ⟨a1, n1, k1, a2, n2, k2, cn, ds, lm, li, off, a3, n3, k3, op⟩ (.slice a ts.length cap) p false) := (RowAt.new w 70 (stL ⟨a1, n1, k1, a2, n2, k2, cn, ds, lm, li, off, a3, n3, k3, op⟩ (.slice a ts.length cap) p false)).ext (Ext.alloc _ _)
  have hb4 : RowAt ((w.alloc (.cells #[.slice a ts.length cap, .int .i64 p, .bool false, .slice a1 n1 k1, .slice a2 n2 k2, .bool cn, .bool ds, .bool lm, .int .i64 li, .int .i64 off, .slice a3 n3 k3, .int .i64 op] 70)).alloc (.cells #[.slice none 0 0, .int .i64 0, .bool false, .slice none 0 0, .slice none 0 0, .bool false, .bool false, .bool false, .int .i64 0, .int .i64 0, .slice none 0 0, .int .i64 0] 70)) (w.heap.size + 1) 70 zeroS := row_at (xs := zeroS) (by simp)
  have H := Lib.hid (h.ext hx0)
  have HB := Lib.hid hb0
  have HB4 := Lib.hid hb4
  have HX := Lib.hid hx0
  have hle := h.le
  have hks := kindS_any (h.ext hx0) ⟨a1, n1, k1, a2, n2, k2, cn, ds, lm, li, off, a3, n3, k3, op⟩ false
  unfold stV at hks
  dsimp only at hks
  rw [show kindAt ts p = kk from hkk] at hks
  have HKS := Lib.hid hks
  unfold stL at HB
  dsimp only at HB
  unfold zeroS at HB4
  unfold stV
  dsimp only
  clear h hx0 hb0 hb4 hks
  go_enter Try.func55, Try.ntmps55
  go_upto_region 1 with fail
  generalize (w.alloc (.cells #[.slice a ts.length cap, .int .i64 p, .bool false, .slice a1 n1 k1, .slice a2 n2 k2, .bool cn, .bool ds, .bool lm, .int .i64 li, .int .i64 off, .slice a3 n3 k3, .int .i64 op] 70)).alloc (.cells #[.slice none 0 0, .int .i64 0, .bool false, .slice none 0 0, .slice none 0 0, .bool false, .bool false, .bool false, .int .i64 0, .int .i64 0, .slice none 0 0, .int .i64 0] 70) = w1 at *
  obtain ⟨y, hy⟩ : ∃ y, w.heap.size = y := ⟨_, rfl⟩
  rw [hy] at HB HB4
  try simp only [hy]
  have HY := Lib.hid hy
  clear hy
  obtain ⟨z, hz⟩ : ∃ z, y + 1 = z := ⟨_, rfl⟩
  rw [hz] at HB4
  try simp only [hz]
  have HZ := Lib.hid hz
  clear hz
  obtain ⟨f0, f1, f2, f3, f4, f5, f6, f7, f8, f9, f10, f11⟩ := stL_facts HB.out
  clear hkk hk
  go_wp2_with fail
  refine HKS.out.mono ?_
  rintro e w2 ⟨rfl, hx2⟩
  have HB2 := Lib.hid (HB.out.ext hx2)
  have HZ2 := Lib.hid (HB4.out.ext hx2)
  have HX2 := Lib.hid (HX.out.trans hx2)
  have H2 := Lib.hid (H.out.ext hx2)
  clear hx2 HKS HB HB4 H HX f0 f1 f2 f3 f4 f5 f6 f7 f8 f9 f10 f11
  obtain ⟨f0, f1, f2, f3, f4, f5, f6, f7, f8, f9, f10, f11⟩ := stL_facts HB2.out
  have ff2 := HB2.out.frozen 2
  have hs2 := HB2.out.set 2 (.bool true)
  have hz2 := HZ2.out.kept (grown_set w2 y 2 (.bool true)) (fun e => by have := Option.some.inj e; have := HZ.out; omega)
  have HX3 := Lib.hid (Ext.set_of HX2.out (show w.heap.size ≤ y by have := HY.out; omega) (o := 2) (.bool true))
  have HB3 := Lib.hid hs2
  have HZ3 := Lib.hid hz2
  clear hs2 hz2 HB2 HZ2 HX2 H2
  go_upto_region 3 with fail
  clear hkb
  clear f0 f1 f2 f3 f4 f5 f6 f7 f8 f9 f10 f11 ff2
  generalize w2.setCell ⟨y, 2, none⟩ (.bool true) = w3 at *
  obtain ⟨f0, f1, f2, f3, f4, f5, f6, f7, f8, f9, f10, f11⟩ := stL_facts (show RowAt w3 y 70 [.slice a ts.length cap, .int .i64 p, .bool true, .slice a1 n1 k1, .slice a2 n2 k2, .bool cn, .bool ds, .bool lm, .int .i64 li, .int .i64 off, .slice a3 n3 k3, .int .i64 op] from HB3.out)
  obtain ⟨z0, z1, z2, z3, z4, z5, z6, z7, z8, z9, z10, z11⟩ := stL_facts HZ3.out
  have zz0 := HZ3.out.frozen 0
  have zz1 := HZ3.out.frozen 1
  have zz2 := HZ3.out.frozen 2
  have zz3 := HZ3.out.frozen 3
  have zz4 := HZ3.out.frozen 4
  have zz5 := HZ3.out.frozen 5
  have zz6 := HZ3.out.frozen 6
  have zz7 := HZ3.out.frozen 7
  have zz8 := HZ3.out.frozen 8
  have zz9 := HZ3.out.frozen 9
  have zz10 := HZ3.out.frozen 10
  have zz11 := HZ3.out.frozen 11
  have hr := row_put12 HZ3.out (xs := [.slice a ts.length cap, .int .i64 p, (.bool true), .slice a1 n1 k1, .slice a2 n2 k2, .bool cn, .bool ds, .bool lm, .int .i64 li, .int .i64 off, .slice a3 n3 k3, .int .i64 op]) rfl
  have hxf : Ext w (setC w3 z 0 [.slice a ts.length cap, .int .i64 p, (.bool true), .slice a1 n1 k1, .slice a2 n2 k2, .bool cn, .bool ds, .bool lm, .int .i64 li, .int .i64 off, .slice a3 n3 k3, .int .i64 op]) := below_setC (by have := HY.out; have := HZ.out; omega) _ 0 HX3.out
  have HR := Lib.hid hr
  have HXF := Lib.hid hxf
  clear hr hxf
  go_wp2_with fail
  obtain ⟨r0, r1, r2, r3, r4, r5, r6, r7, r8, r9, r10, r11⟩ := stL_facts HR.out
  simp only [setC] at r0 r1 r2 r3 r4 r5 r6 r7 r8 r9 r10 r11
  exact bodyPost_ret (v := .tuple #[.agg #[.slice a ts.length cap, .int .i64 p, .bool true, .slice a1 n1 k1, .slice a2 n2 k2, .bool cn, .bool ds, .bool lm, .int .i64 li, .int .i64 off, .slice a3 n3 k3, .int .i64 op], .string nilB]) (by simp [results, Try.results55, go_sem, nilB, r0, r1, r2, r3, r4, r5, r6, r7, r8, r9, r10, r11]) rfl ⟨rfl, HXF.out⟩
end Go.Proofs.Ytngnplghjaojhaa

/- The document's state: the token that is looked for is taken. -/
namespace Go.Proofs.Ytngnplghjaojhaa
set_option maxRecDepth 100000
set_option maxHeartbeats 2000000
set_option linter.unusedSimpArgs false
open Go.RowKit Go.Shelf Go.Sort
attribute [local go_sem] Oper.semAt_some wide_fn wide_depth
set_option linter.unusedVariables false
set_option maxRecDepth 100000 in
set_option maxHeartbeats 2000000 in
theorem takeS_yes {w : World} {ts : List Tk} {tv : Value} {p : Nat} (h : TkS w ts tv p) (c : Sc) (k : Int) (hk : kindAt ts p = k) (hk0 : k ≠ 0) (hl : ts.length ≤ 1000000) :
    Calls Try.prog 55 #[stV c tv p false, .int .i64 k] w fun e w' => e = .returned (.tuple #[stV c tv (p + 1) false, .string (textAt ts p)]) ∧ Ext w w' := by
  have hmo : Try.prog.follows .mixedOrders = true := by kernel_rfl
  have hlt : p < ts.length := kindAt_lt (by rw [hk]; exact hk0)
  obtain ⟨tx, htx⟩ : ∃ tx, textAt ts p = tx := ⟨_, rfl⟩
  have htx2 : ts[p].text = tx := by rw [← htx]; unfold textAt; rw [List.getD_eq_getElem?_getD, List.getElem?_eq_getElem hlt]; rfl
  rw [htx]
  have HT := Lib.hid htx2
  have HLT := Lib.hid hlt
  have H0 := Lib.hid h
  have hbw : ∀ b o n cap, tv = .slice (some ⟨b, o, none⟩) n cap → b < w.heap.size := by
    rintro b o n cap rfl
    obtain ⟨b', o', e, t0, t1, t2⟩ := h.toks.at_ hlt
    cases e
    exact World.block_lt_of_cell? w _ t0
  have HBW := Lib.hid hbw
  clear hbw htx htx2
  obtain ⟨a, cap, rfl, hcap, hmax⟩ := h.toks.shape
  obtain ⟨a1, n1, k1, a2, n2, k2, cn, ds, lm, li, off, a3, n3, k3, op⟩ := c
  have hx0 : Ext w ((w.alloc (.cells #[.slice a ts.length cap, .int .i64 p, .bool false, .slice a1 n1 k1, .slice a2 n2 k2, .bool cn, .bool ds, .bool lm, .int .i64 li, .int .i64 off, .slice a3 n3 k3, .int .i64 op] 70)).alloc (.cells #[.slice none 0 0, .int .i64 0, .bool false, .slice none 0 0, .slice none 0 0, .bool false, .bool false, .bool false, .int .i64 0, .int .i64 0, .slice none 0 0, .int .i64 0] 70)) := (Ext.alloc _ _).trans (Ext.alloc _ _)
  have hb0 : RowAt ((w.alloc (.cells #[.slice a ts.length cap, .int .i64 p, .bool false, .slice a1 n1 k1, .slice a2 n2 k2, .bool cn, .bool ds, .bool lm, .int .i64 li, .int .i64 off, .slice a3 n3 k3, .int .i64 op] 70)).alloc (.cells #[.slice none 0 0, .int .i64 0, .bool false, .slice none 0 0, .slice none 0 0, .bool false, .bool false, .bool false, .int .i64 0, .int .i64 0, .slice none 0 0, .int .i64 0] 70)) w.heap.size 70 (stL ⟨a1, n1, k1, a2, n2, k2, cn, ds, lm, li, off, a3, n3, k3, op⟩ (.slice a ts.length cap) p false) := (RowAt.new w 70 (stL ⟨a1, n1, k1, a2, n2, k2, cn, ds, lm, li, off, a3, n3, k3, op⟩ (.slice a ts.length cap) p false)).ext (Ext.alloc _ _)
  have hb4 : RowAt ((w.alloc (.cells #[.slice a ts.length cap, .int .i64 p, .bool false, .slice a1 n1 k1, .slice a2 n2 k2, .bool cn, .bool ds, .bool lm, .int .i64 li, .int .i64 off, .slice a3 n3 k3, .int .i64 op] 70)).alloc (.cells #[.slice none 0 0, .int .i64 0, .bool false, .slice none 0 0, .slice none 0 0, .bool false, .bool false, .bool false, .int .i64 0, .int .i64 0, .slice none 0 0, .int .i64 0] 70)) (w.heap.size + 1) 70 zeroS := row_at (xs := zeroS) (by simp)
  have H := Lib.hid (h.ext hx0)
  have HB := Lib.hid hb0
  have HB4 := Lib.hid hb4
  have HX := Lib.hid hx0
  have hle := h.le
  have hks := kindS_any (h.ext hx0) ⟨a1, n1, k1, a2, n2, k2, cn, ds, lm, li, off, a3, n3, k3, op⟩ false
  unfold stV at hks
  dsimp only at hks
  rw [show kindAt ts p = k from hk] at hks
  have HKS := Lib.hid hks
  unfold stL at HB
  dsimp only at HB
  unfold zeroS at HB4
  unfold stV
  dsimp only
  clear h hx0 hb0 hb4 hks
  go_enter Try.func55, Try.ntmps55
  go_upto_region 1 with fail
  generalize (w.alloc (.cells #[.slice a ts.length cap, .int .i64 p, .bool false, .slice a1 n1 k1, .slice a2 n2 k2, .bool cn, .bool ds, .bool lm, .int .i64 li, .int .i64 off, .slice a3 n3 k3, .int .i64 op] 70)).alloc (.cells #[.slice none 0 0, .int .i64 0, .bool false, .slice none 0 0, .slice none 0 0, .bool false, .bool false, .bool false, .int .i64 0, .int .i64 0, .slice none 0 0, .int .i64 0] 70) = w1 at *
  obtain ⟨y, hy⟩ : ∃ y, w.heap.size = y := ⟨_, rfl⟩
  rw [hy] at HB HB4
  try simp only [hy]
  have HY := Lib.hid hy
  clear hy
  obtain ⟨z, hz⟩ : ∃ z, y + 1 = z := ⟨_, rfl⟩
  rw [hz] at HB4
  try simp only [hz]
  have HZ := Lib.hid hz
  clear hz
  obtain ⟨f0, f1, f2, f3, f4, f5, f6, f7, f8, f9, f10, f11⟩ := stL_facts HB.out
  clear hk
  have hwr : IntKind.i64.wrap ((p : Int) + 1) = (p : Int) + 1 := IntWalk.i64_in _ (by omega)
  go_wp2_with fail
  refine HKS.out.mono ?_
  rintro e w2 ⟨rfl, hx2⟩
  have HB2 := Lib.hid (HB.out.ext hx2)
  have HZ2 := Lib.hid (HB4.out.ext hx2)
  have HX2 := Lib.hid (HX.out.trans hx2)
  have H2 := Lib.hid (H.out.ext hx2)
  clear hx2 HKS HB HB4 H HX f0 f1 f2 f3 f4 f5 f6 f7 f8 f9 f10 f11
  obtain ⟨f0, f1, f2, f3, f4, f5, f6, f7, f8, f9, f10, f11⟩ := stL_facts HB2.out
  have ff1 := HB2.out.frozen 1
  have hs2 := HB2.out.set 1 (.int .i64 ((p : Int) + 1))
  have hz2 := HZ2.out.kept (grown_set w2 y 1 (.int .i64 ((p : Int) + 1))) (fun e => by have := Option.some.inj e; have := HZ.out; omega)
  have HX3 := Lib.hid (Ext.set_of HX2.out (show w.heap.size ≤ y by have := HY.out; omega) (o := 1) (.int .i64 ((p : Int) + 1)))
  have HB3 := Lib.hid hs2
  have HZ3' := Lib.hid hz2
  clear hs2 hz2 HB2 HZ2 HX2 H2
  go_upto_region 5 with fail
  clear f0 f1 f2 f3 f4 f5 f6 f7 f8 f9 f10 f11 ff1
  generalize w2.setCell ⟨y, 1, none⟩ (.int .i64 ((p : Int) + 1)) = w5 at *
  refine wp_region_grob z groT5 [0, 1, 2, 3, 4, 5, 6, 7, 8, 9, 10] hmo (by kernel_rfl) rfl (by kernel_rfl) (fun _ _ _ _ _ h => h) ?_
  have hxd : Ext w5 w5.drew := Ext.drewN w5 1
  have HB4 := Lib.hid (HB3.out.ext hxd)
  have HZ3 := Lib.hid (HZ3'.out.ext hxd)
  replace HX3 := Lib.hid (HX3.out.trans hxd)
  clear hxd HB3 HZ3'
  generalize w5.drew = w3 at *
  obtain ⟨f0, f1, f2, f3, f4, f5, f6, f7, f8, f9, f10, f11⟩ := stL_facts (show RowAt w3 y 70 [.slice a ts.length cap, .int .i64 ((p : Int) + 1), .bool false, .slice a1 n1 k1, .slice a2 n2 k2, .bool cn, .bool ds, .bool lm, .int .i64 li, .int .i64 off, .slice a3 n3 k3, .int .i64 op] from HB4.out)
  obtain ⟨z0, z1, z2, z3, z4, z5, z6, z7, z8, z9, z10, z11⟩ := stL_facts HZ3.out
  have zz0 := HZ3.out.frozen 0
  have zz1 := HZ3.out.frozen 1
  have zz2 := HZ3.out.frozen 2
  have zz3 := HZ3.out.frozen 3
  have zz4 := HZ3.out.frozen 4
  have zz5 := HZ3.out.frozen 5
  have zz6 := HZ3.out.frozen 6
  have zz7 := HZ3.out.frozen 7
  have zz8 := HZ3.out.frozen 8
  have zz9 := HZ3.out.frozen 9
  have zz10 := HZ3.out.frozen 10
  have zz11 := HZ3.out.frozen 11
  have hr := row_put12 HZ3.out (xs := [.slice a ts.length cap, .int .i64 ((p : Int) + 1), (.bool false), .slice a1 n1 k1, .slice a2 n2 k2, .bool cn, .bool ds, .bool lm, .int .i64 li, .int .i64 off, .slice a3 n3 k3, .int .i64 op]) rfl
  have hxf : Ext w (setC w3 z 0 [.slice a ts.length cap, .int .i64 ((p : Int) + 1), (.bool false), .slice a1 n1 k1, .slice a2 n2 k2, .bool cn, .bool ds, .bool lm, .int .i64 li, .int .i64 off, .slice a3 n3 k3, .int .i64 op]) := below_setC (by have := HY.out; have := HZ.out; omega) _ 0 HX3.out
  have HR := Lib.hid hr
  have HXF := Lib.hid hxf
  clear hr hxf
  obtain ⟨b, o, rfl, t0, t1, t2⟩ := (Toks.ext H0.out.toks HX3.out).at_ HLT.out
  rw [HT.out] at t1
  have hyz : ¬ y = z := by have := HZ.out; omega
  have hbz : ¬ b = z := by have := HZ.out; have := HY.out; have := HBW.out b o ts.length cap rfl; omega
  have hsub : IntKind.i64.wrap (p : Int) = (p : Int) := IntWalk.i64_in _ (by omega)
  have hlt := HLT.out
  clear t0 t2
  repeat (first
    | (refine groB_pure rfl rfl ?_; intro K hK; go_simp; refine hK _ ?_; clear hK K)
    | (refine groB_read rfl rfl ?_; intro K S hS hK; go_simp; refine hK _ ?_; clear hK K hS S)
    | (refine groB_read rfl rfl ?_; intro K S hS hK; go_simp; refine ⟨hS _ ?_, hK _ ?_⟩; (clear hK K hS S; intro w' hx'; have hce := grown_some hx'; go_simp); clear hK K hS S))
  refine groB_grow rfl rfl ?_
  intro K hK
  go_simp
  refine hK _ _ ⟨grown_setC [.slice (some ⟨b, o, none⟩) ts.length cap, .int .i64 ((p : Int) + 1), .bool false, .slice a1 n1 k1, .slice a2 n2 k2, .bool cn, .bool ds, .bool lm, .int .i64 li, .int .i64 off, .slice a3 n3 k3, .int .i64 op] 0 w3, ?_⟩
  clear hK K
  repeat (first
    | (refine groB_pure rfl rfl ?_; intro K hK; go_simp; refine hK _ ?_; clear hK K)
    | (refine groB_read rfl rfl ?_; intro K S hS hK; go_simp; refine hK _ ?_; clear hK K hS S)
    | (refine groB_read rfl rfl ?_; intro K S hS hK; go_simp; refine ⟨hS _ ?_, hK _ ?_⟩; (clear hK K hS S; intro w' hx'; have hce := grown_some hx'; go_simp); clear hK K hS S))
  refine groB_nil ?_
  go_wp2_with fail
  obtain ⟨r0, r1, r2, r3, r4, r5, r6, r7, r8, r9, r10, r11⟩ := stL_facts HR.out
  simp only [setC] at r0 r1 r2 r3 r4 r5 r6 r7 r8 r9 r10 r11
  exact bodyPost_ret (v := .tuple #[.agg #[.slice (some ⟨b, o, none⟩) ts.length cap, .int .i64 ((p : Int) + 1), .bool false, .slice a1 n1 k1, .slice a2 n2 k2, .bool cn, .bool ds, .bool lm, .int .i64 li, .int .i64 off, .slice a3 n3 k3, .int .i64 op], .string tx]) (by simp [results, Try.results55, go_sem, nilB, r0, r1, r2, r3, r4, r5, r6, r7, r8, r9, r10, r11]) rfl ⟨rfl, HXF.out⟩
end Go.Proofs.Ytngnplghjaojhaa

/- The document's state: is a word told here? -/
namespace Go.Proofs.Ytngnplghjaojhaa
set_option maxRecDepth 100000
set_option maxHeartbeats 2000000
set_option linter.unusedSimpArgs false
open Go.RowKit Go.Shelf Go.Sort
attribute [local go_sem] Oper.semAt_some wide_fn wide_depth
set_option linter.unusedVariables false
theorem str_dec (x y : ByteArray) : (x.toList == y.toList) = decide (x = y) := by
  by_cases h : x = y
  · rw [str_yes h, decide_eq_true h]
  · rw [str_no h, decide_eq_false h]
/-- Does the word stand here? -/
def saysR (ts : List Tk) (p : Nat) (bad : Bool) (word : ByteArray) : Bool := !bad && (decide (kindAt ts p = 1) && decide (textAt ts p = word))
set_option maxRecDepth 100000 in
set_option maxHeartbeats 1000000 in
theorem says_bad {w : World} (c : Sc) (tv : Value) (p : Nat) (word : ByteArray) (htv : ∃ a n cap, tv = .slice a n cap) :
    Calls Try.prog 54 #[stV c tv p true, .string word] w fun e w' => e = .returned (.bool false) ∧ Ext w w' := by
  obtain ⟨a, n, cap, rfl⟩ := htv
  obtain ⟨a1, n1, k1, a2, n2, k2, cn, ds, lm, li, off, a3, n3, k3, op⟩ := c
  unfold stV
  dsimp only
  go_enter Try.func54, Try.ntmps54
  go_wp2_with fail
  go_ret
  exact ⟨rfl, Ext.alloc _ _⟩
set_option maxRecDepth 100000 in
set_option maxHeartbeats 1000000 in
theorem says_good {w : World} {ts : List Tk} {tv : Value} {p : Nat} (h : TkS w ts tv p) (c : Sc) (word : ByteArray) (hl : ts.length ≤ 1000000) :
    Calls Try.prog 54 #[stV c tv p false, .string word] w fun e w' => e = .returned (.bool (saysR ts p false word)) ∧ Ext w w' := by
  obtain ⟨a, cap, rfl, hcap, hmax⟩ := h.toks.shape
  obtain ⟨a1, n1, k1, a2, n2, k2, cn, ds, lm, li, off, a3, n3, k3, op⟩ := c
  have hx0 := Ext.alloc w (.cells (stL ⟨a1, n1, k1, a2, n2, k2, cn, ds, lm, li, off, a3, n3, k3, op⟩ (.slice a ts.length cap) p false).toArray 70)
  have hb0 : RowAt (w.alloc (.cells (stL ⟨a1, n1, k1, a2, n2, k2, cn, ds, lm, li, off, a3, n3, k3, op⟩ (.slice a ts.length cap) p false).toArray 70)) w.heap.size 70 (stL ⟨a1, n1, k1, a2, n2, k2, cn, ds, lm, li, off, a3, n3, k3, op⟩ (.slice a ts.length cap) p false) := RowAt.new _ _ _
  have H := Lib.hid (h.ext hx0)
  have HB := Lib.hid hb0
  have HX := Lib.hid hx0
  have hks := kindS_any (h.ext hx0) ⟨a1, n1, k1, a2, n2, k2, cn, ds, lm, li, off, a3, n3, k3, op⟩ false
  unfold stV at hks
  dsimp only at hks
  have HKS := Lib.hid hks
  unfold stL at HB HX H HKS
  dsimp only at HB HX H HKS
  unfold stV
  dsimp only
  clear h hx0 hb0 hks
  by_cases hk : kindAt ts p = 1
  · have hlt : p < ts.length := kindAt_lt (by rw [hk]; decide)
    obtain ⟨tx, htx⟩ : ∃ tx, textAt ts p = tx := ⟨_, rfl⟩
    have htx2 : ts[p].text = tx := by rw [← htx]; unfold textAt; rw [List.getD_eq_getElem?_getD, List.getElem?_eq_getElem hlt]; rfl
    have hres : saysR ts p false word = decide (tx = word) := by unfold saysR; rw [hk, htx]; simp
    rw [hres]
    rw [hk] at HKS
    have HT := Lib.hid htx2
    have HLT := Lib.hid hlt
    clear hk htx htx2 hres
    go_enter Try.func54, Try.ntmps54
    go_upto_region 1 with fail
    generalize w.alloc (.cells #[.slice a ts.length cap, .int .i64 p, .bool false, .slice a1 n1 k1, .slice a2 n2 k2, .bool cn, .bool ds, .bool lm, .int .i64 li, .int .i64 off, .slice a3 n3 k3, .int .i64 op] 70) = w1 at *
    obtain ⟨f0, f1, f2, f3, f4, f5, f6, f7, f8, f9, f10, f11⟩ := stL_facts HB.out
    go_wp2_with fail
    refine HKS.out.mono ?_
    rintro e w2 ⟨rfl, hx2⟩
    have g0 := ext_cell hx2 f0
    have g1 := ext_cell hx2 f1
    have HX2 := Lib.hid (HX.out.trans hx2)
    obtain ⟨b, o, rfl, t0, t1, t2⟩ := (Toks.ext H.out.toks hx2).at_ HLT.out
    rw [HT.out] at t1
    clear hx2 f0 f1 f2 f3 f4 f5 f6 f7 f8 f9 f10 f11 t0 t2 H HB HX HKS
    go_wp2_with fail
    go_ret
    exact ⟨congrArg (fun b => Ending.returned (Value.bool b)) (str_dec tx word), HX2.out⟩
  · have hres : saysR ts p false word = false := by unfold saysR; simp [hk]
    rw [hres]
    have hkb : (kindAt ts p == 1) = false := by simp [hk]
    generalize kindAt ts p = kk at *
    clear hk hres
    go_enter Try.func54, Try.ntmps54
    go_upto_region 1 with fail
    generalize w.alloc (.cells #[.slice a ts.length cap, .int .i64 p, .bool false, .slice a1 n1 k1, .slice a2 n2 k2, .bool cn, .bool ds, .bool lm, .int .i64 li, .int .i64 off, .slice a3 n3 k3, .int .i64 op] 70) = w1 at *
    obtain ⟨f0, f1, f2, f3, f4, f5, f6, f7, f8, f9, f10, f11⟩ := stL_facts HB.out
    go_wp2_with fail
    refine HKS.out.mono ?_
    rintro e w2 ⟨rfl, hx2⟩
    have HX2 := Lib.hid (HX.out.trans hx2)
    clear hx2 f0 f1 f2 f3 f4 f5 f6 f7 f8 f9 f10 f11 H HB HX HKS
    go_wp2_with fail
    go_ret
    exact ⟨rfl, HX2.out⟩
end Go.Proofs.Ytngnplghjaojhaa

/- The document: is a text among others? -/
namespace Go.Proofs.Ytngnplghjaojhaa
set_option maxRecDepth 100000
set_option maxHeartbeats 2000000
set_option linter.unusedSimpArgs false
open Go.RowKit Go.Shelf Go.Sort
attribute [local go_sem] Oper.semAt_some wide_fn wide_depth
set_option linter.unusedVariables false
theorem hasB_take (s : ByteArray) (T : List ByteArray) (i : Nat) (h : i < T.length) : hasB s (T.take (i + 1)) = (hasB s (T.take i) || decide (T[i] = s)) := by
  unfold hasB
  rw [List.take_succ_eq_append_getElem h, List.any_append]; simp
theorem hasB_mem {s : ByteArray} {T : List ByteArray} {i : Nat} (h : i < T.length) (hb : T[i] = s) : hasB s T = true := by
  rw [hasB_iff]
  exact hb ▸ List.getElem_mem h
set_option maxHeartbeats 1000000 in
theorem hasS_any (s : ByteArray) (v : Value) (T : List ByteArray) (w : World) (hT : Strs w v T) :
    Calls Try.prog 70 #[v, .string s] w fun e w' => e = .returned (.bool (hasB s T)) ∧ Ext w w' := by
  obtain ⟨a, c, rfl, hc1, hc2⟩ := Sl.shape hT
  have HT := Lib.hid hT
  clear hT
  go_enter Try.func70, Try.ntmps70
  go_wp2_with fail
  go_loopg [9] T.length (fun g i wr => ∃ j : Nat, j ≤ T.length ∧ g = T.length - j ∧ i = .int .i64 j ∧ hasB s (T.take j) = false ∧ Ext w wr)
  case atStart => exact ⟨0, Nat.zero_le _, rfl, rfl, rfl, Ext.refl _⟩
  case round =>
    obtain ⟨j, hj, hg, rfl, hb, hxr⟩ := hrel
    have Hg := Lib.hid hg
    have HB := Lib.hid hb
    clear hg hb
    by_cases hlt : j < T.length
    · obtain ⟨b, o, rfl, c0⟩ := (HT.out.ext hxr).at_ hlt
      have hsn := hasB_take s T j hlt
      have hmem := fun h => hasB_mem (s := s) hlt h
      rw [HB.out, Bool.false_or] at hsn
      generalize T[j] = x at *
      have HSN := Lib.hid hsn
      have HMEM := Lib.hid hmem
      clear hsn hmem
      by_cases hxs : x = s
      · have hs : (x.toList == s.toList) = true := str_yes hxs
        have HF := Lib.hid (HMEM.out hxs)
        clear hxs
        go_wp2_with fail
        go_ret
        exact ⟨by rw [HF.out]; rfl, hxr⟩
      · have hs : (x.toList == s.toList) = false := str_no hxs
        have HD := Lib.hid hxs
        clear hxs
        go_wp2_with fail
        go_roundg (T.length - (j + 1))
        case measure => have := Hg.out; omega
        case rel => exact ⟨j + 1, by omega, rfl, by go_num, by rw [HSN.out]; exact decide_eq_false HD.out, hxr⟩
    · have he : j = T.length := by omega
      subst he
      go_wp2_with fail
      go_ret
      exact ⟨by rw [← HB.out, List.take_length]; rfl, hxr⟩
end Go.Proofs.Ytngnplghjaojhaa
