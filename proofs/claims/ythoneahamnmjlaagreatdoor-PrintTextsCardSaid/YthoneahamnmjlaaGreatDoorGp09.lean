/- The reader in memory; one token. -/
import Derived.Test.YthoneahamnmjlaaGreatDoorGp08
import Derived.Test.YthoneahamnmjlaaGreatDoorGp06
import Derived.Test.YthoneahamnmjlaaGreatDoorGp01
import Derived.Test.YthoneahamnmjlaaGreatDoorGp02
import Derived.Test.YthoneahamnmjlaaGreatDoorGp00
namespace Go.Proofs.YthoneahamnmjlaaGreatDoor
set_option maxRecDepth 100000
set_option maxHeartbeats 2000000
set_option linter.unusedSimpArgs false
open Go.RowKit Go.Shelf Go.Sort
attribute [local go_sem] Oper.semAt_some wide_fn wide_depth
set_option linter.unusedVariables false

/-- The reader's cells but for its tokens and its place. -/
structure Rc where
  c0 : Value
  c1 : Value
  c2 : Value
  c3 : Value
  c4 : Value
  c5 : Value
  c6 : Value
  c7 : Value
  c10 : Value
  c11 : Value
  c12 : Value
  c13 : Value
def rdRowP (c : Rc) (tv : Value) (p : Int) : List Value := [c.c0, c.c1, c.c2, c.c3, c.c4, c.c5, c.c6, c.c7, tv, .int .i64 p, c.c10, c.c11, c.c12, c.c13]
/-- The reader stands at a token. -/
structure RdT (w0 : World) (ts : List Tk) (tv : Value) (g : Nat) (c : Rc) (p : Nat) (W : World) : Prop where
  ext : Ext w0 W
  toks : Toks w0 tv ts
  lo : w0.heap.size ≤ g
  row : RowAt W g 119 (rdRowP c tv p)
  le : p ≤ ts.length
  szs : ∀ t ∈ ts, t.text.size ≤ 9223372036854775800
theorem RdT.grow {w0 : World} {ts : List Tk} {tv : Value} {g : Nat} {c : Rc} {p : Nat} {W W' : World} (h : RdT w0 ts tv g c p W) (hx : Ext W W') : RdT w0 ts tv g c p W' :=
  ⟨h.ext.trans hx, h.toks, h.lo, h.row.ext hx, h.le, h.szs⟩
theorem RdT.set {w0 : World} {ts : List Tk} {tv : Value} {g : Nat} {c : Rc} {p : Nat} {W : World} (h : RdT w0 ts tv g c p W) {q : Nat} (hq : q ≤ ts.length) : RdT w0 ts tv g c q (W.setCell ⟨g, 9, none⟩ (.int .i64 q)) :=
  ⟨Ext.set_of h.ext h.lo _, h.toks, h.lo, h.row.set 9 _, hq, h.szs⟩
theorem RdT.facts {w0 : World} {ts : List Tk} {tv : Value} {g : Nat} {c : Rc} {p : Nat} {W : World} (h : RdT w0 ts tv g c p W) : W.cell? ⟨g, 8, none⟩ = some tv ∧ W.cell? ⟨g, 9, none⟩ = some (.int .i64 p) ∧ W.frozen? ⟨g, 9, none⟩ = false :=
  ⟨h.row.cell (i := 8) rfl, h.row.cell (i := 9) rfl, h.row.frozen 9⟩
/-- What no pattern says. -/
def wrongE : Ending := .panicked [{ v := .iface 130 (.agg #[]), recovered := false }]
def groK1 : Nat → Gro
  | 3 => .read
  | 7 => .read
  | 14 => .read
  | 18 => .read
  | 20 => .read
  | 21 => .grow
  | _ => .pure
def groK3 : Nat → Gro
  | 3 => .read
  | 7 => .read
  | 10 => .read
  | _ => .pure
theorem kindAt_end {ts : List Tk} {p : Nat} (h : ¬ p < ts.length) : kindAt ts p = 0 := by
  unfold kindAt
  rw [List.getElem?_eq_none (by omega)]
theorem kindAt_at {ts : List Tk} {p : Nat} (h : p < ts.length) : kindAt ts p = if ts[p].check then ts[p].kind else 0 := by
  unfold kindAt
  rw [List.getElem?_eq_getElem h]
set_option maxHeartbeats 1000000 in
theorem kind_any {w0 : World} {ts : List Tk} {tv : Value} {g : Nat} {c : Rc} {p : Nat} {w : World} (h : RdT w0 ts tv g c p w) :
    Calls Tryz.prog 133 #[.pointer (some ⟨g, 0, none⟩)] w fun e w' => e = .returned (.int .i64 (kindAt ts p)) ∧ Ext w w' := by
  have hmo : Tryz.prog.follows .mixedOrders = true := by kernel_rfl
  obtain ⟨a, cap, rfl, hcap, hmax⟩ := h.toks.shape
  have H := Lib.hid h
  have hle := h.le
  clear h
  obtain ⟨f8, f9, _⟩ := H.out.facts
  go_enter Tryz.func133, Tryz.ntmps133
  go_upto_region 1 with fail
  refine wp_region_gro groK1 [0, 1, 2, 3, 4, 5, 6, 7, 8, 9, 10, 11, 12, 13, 14, 15, 16, 17, 18, 19, 20, 21, 22, 23] hmo (by kernel_rfl) rfl (by kernel_rfl) (fun _ _ _ _ _ h => h) ?_
  have hdr : Ext w w.drew := Ext.drewN w 1
  have HX := Lib.hid hdr
  have HD := Lib.hid (H.out.grow hdr)
  clear hdr f8 f9
  generalize w.drew = w1 at *
  obtain ⟨f8, f9, _⟩ := HD.out.facts
  by_cases hlt : p < ts.length
  · have hk := kindAt_at hlt
    have hne : ((p : Int) == (ts.length : Int)) = false := by simp; omega
    obtain ⟨b, o, rfl, t0, t1, t2⟩ := (Toks.ext HD.out.toks HD.out.ext).at_ hlt
    have hsz := HD.out.szs _ (List.getElem_mem hlt)
    have hck := check_any ts[p] w1 hsz
    generalize ts[p] = t at *
    obtain ⟨tk, tt, ta⟩ := t
    unfold tkV at hck
    dsimp only at t0 t1 t2 hck
    have HK := Lib.hid hk
    clear hk
    cases hc : Tk.check ⟨tk, tt, ta⟩ with
    | false =>
      rw [hc] at hck HK
      unfold checkC at hck
      have HC := Lib.hid hck
      clear hck hc
      repeat (first
        | (refine groL_pure rfl rfl ?_; intro K hK; go_simp; refine hK _ ?_; clear hK K)
        | (refine groL_read rfl rfl ?_; intro K S hS hK; go_simp; refine hK _ ?_; clear hK K hS S)
        | (refine groL_read rfl rfl ?_; intro K S hS hK; go_simp; refine ⟨hS _ ?_, hK _ ?_⟩; (clear hK K hS S; intro w' hx'; have hce := ext_some hx'; go_simp); clear hK K hS S)
        | (refine groL_write rfl rfl ?_; intro K hK; go_simp; refine hK _ _ ?_; clear hK K))
      refine groL_grow rfl rfl ?_
      intro K hK
      go_simp
      (refine HC.out.mono ?_; rintro e w2 ⟨rfl, hx2⟩)
      go_simp
      refine hK _ _ ⟨hx2, ?_⟩
      clear hK K
      repeat (first
        | (refine groL_pure rfl rfl ?_; intro K hK; go_simp; refine hK _ ?_; clear hK K)
        | (refine groL_read rfl rfl ?_; intro K S hS hK; go_simp; refine hK _ ?_; clear hK K hS S)
        | (refine groL_read rfl rfl ?_; intro K S hS hK; go_simp; refine ⟨hS _ ?_, hK _ ?_⟩; (clear hK K hS S; intro w' hx'; have hce := ext_some hx'; go_simp); clear hK K hS S)
        | (refine groL_write rfl rfl ?_; intro K hK; go_simp; refine hK _ _ ?_; clear hK K))
      refine groL_nil ?_
      have HX2 := Lib.hid (HX.out.trans hx2)
      clear hx2 f8 f9 t0 t1 t2
      go_wp2_with fail
      go_ret
      exact ⟨ret_int (by rw [HK.out]; rfl), HX2.out⟩
    | true =>
      rw [hc] at hck HK
      unfold checkC at hck
      have HC := Lib.hid hck
      clear hck hc
      repeat (first
        | (refine groL_pure rfl rfl ?_; intro K hK; go_simp; refine hK _ ?_; clear hK K)
        | (refine groL_read rfl rfl ?_; intro K S hS hK; go_simp; refine hK _ ?_; clear hK K hS S)
        | (refine groL_read rfl rfl ?_; intro K S hS hK; go_simp; refine ⟨hS _ ?_, hK _ ?_⟩; (clear hK K hS S; intro w' hx'; have hce := ext_some hx'; go_simp); clear hK K hS S)
        | (refine groL_write rfl rfl ?_; intro K hK; go_simp; refine hK _ _ ?_; clear hK K))
      refine groL_grow rfl rfl ?_
      intro K hK
      go_simp
      (refine HC.out.mono ?_; rintro e w2 ⟨rfl, hx2⟩)
      go_simp
      refine hK _ _ ⟨hx2, ?_⟩
      clear hK K
      repeat (first
        | (refine groL_pure rfl rfl ?_; intro K hK; go_simp; refine hK _ ?_; clear hK K)
        | (refine groL_read rfl rfl ?_; intro K S hS hK; go_simp; refine hK _ ?_; clear hK K hS S)
        | (refine groL_read rfl rfl ?_; intro K S hS hK; go_simp; refine ⟨hS _ ?_, hK _ ?_⟩; (clear hK K hS S; intro w' hx'; have hce := ext_some hx'; go_simp); clear hK K hS S)
        | (refine groL_write rfl rfl ?_; intro K hK; go_simp; refine hK _ _ ?_; clear hK K))
      refine groL_nil ?_
      have hx3 := hx2.trans (Ext.drewN w2 1)
      have HX3 := Lib.hid (HX.out.trans hx3)
      have HD3 := Lib.hid (HD.out.grow hx3)
      have u0 := ext_cell hx3 t0
      clear f8 f9 t0 t1 t2
      go_upto_region 3 with fail
      refine wp_region_gro groK3 [0, 1, 2, 3, 4, 5, 6, 7, 8, 9, 10, 11] hmo (by kernel_rfl) rfl (by kernel_rfl) (fun _ _ _ _ _ h => h) ?_
      replace HX3 : Hid (Ext w w2.drew) := HX3
      replace HD3 : Hid (RdT w0 ts (.slice (some ⟨b, o, none⟩) ts.length cap) g c p w2.drew) := HD3
      have u0' : w2.drew.cell? ⟨b, o + p * 3, none⟩ = some (.int .i64 tk) := u0
      clear u0 hx2 hx3
      generalize w2.drew = w3 at *
      obtain ⟨f8, f9, _⟩ := HD3.out.facts
      repeat (first
        | (refine groL_pure rfl rfl ?_; intro K hK; go_simp; refine hK _ ?_; clear hK K)
        | (refine groL_read rfl rfl ?_; intro K S hS hK; go_simp; refine hK _ ?_; clear hK K hS S)
        | (refine groL_read rfl rfl ?_; intro K S hS hK; go_simp; refine ⟨hS _ ?_, hK _ ?_⟩; (clear hK K hS S; intro w' hx'; have hce := ext_some hx'; go_simp); clear hK K hS S)
        | (refine groL_write rfl rfl ?_; intro K hK; go_simp; refine hK _ _ ?_; clear hK K))
      refine groL_nil ?_
      clear f8 f9 u0'
      go_wp2_with fail
      go_ret
      exact ⟨ret_int (by rw [HK.out]; rfl), HX3.out⟩
  · have hpe : p = ts.length := by omega
    have hk := kindAt_end hlt
    have HK := Lib.hid hk
    have hne : ((p : Int) == (ts.length : Int)) = true := by simp; omega
    clear hk hpe
    repeat (first
      | (refine groL_pure rfl rfl ?_; intro K hK; go_simp; refine hK _ ?_; clear hK K)
      | (refine groL_read rfl rfl ?_; intro K S hS hK; go_simp; refine hK _ ?_; clear hK K hS S)
      | (refine groL_read rfl rfl ?_; intro K S hS hK; go_simp; refine ⟨hS _ ?_, hK _ ?_⟩; (clear hK K hS S; intro w' hx'; have hce := ext_some hx'; go_simp); clear hK K hS S)
      | (refine groL_write rfl rfl ?_; intro K hK; go_simp; refine hK _ _ ?_; clear hK K))
    refine groL_grow rfl rfl ?_
    intro K hK
    go_simp
    refine hK _ _ ⟨Ext.refl _, ?_⟩
    clear hK K
    repeat (first
      | (refine groL_pure rfl rfl ?_; intro K hK; go_simp; refine hK _ ?_; clear hK K)
      | (refine groL_read rfl rfl ?_; intro K S hS hK; go_simp; refine hK _ ?_; clear hK K hS S)
      | (refine groL_read rfl rfl ?_; intro K S hS hK; go_simp; refine ⟨hS _ ?_, hK _ ?_⟩; (clear hK K hS S; intro w' hx'; have hce := ext_some hx'; go_simp); clear hK K hS S)
      | (refine groL_write rfl rfl ?_; intro K hK; go_simp; refine hK _ _ ?_; clear hK K))
    refine groL_nil ?_
    clear f8 f9
    go_wp2_with fail
    go_ret
    exact ⟨ret_int (by rw [HK.out]), HX.out⟩
end Go.Proofs.YthoneahamnmjlaaGreatDoor

/- A token is taken, or found wrong. -/
namespace Go.Proofs.YthoneahamnmjlaaGreatDoor
set_option maxRecDepth 100000
set_option maxHeartbeats 2000000
set_option linter.unusedSimpArgs false
open Go.RowKit Go.Shelf Go.Sort
attribute [local go_sem] Oper.semAt_some wide_fn wide_depth
set_option linter.unusedVariables false

/-- What a step of the reader comes to. -/
def OutT (w0 : World) (ts : List Tk) (tv : Value) (g : Nat) (c : Rc) (w : World) {α : Type} (V : α → Value) (r : Except Nat (α × Nat)) (e : Ending) (w' : World) : Prop := match r with
  | .ok (a, q) => e = .returned (V a) ∧ RdT w0 ts tv g c q w' ∧ w.grownBy w' (some g)
  | .error q => e = wrongE ∧ RdT w0 ts tv g c q w' ∧ w.grownBy w' (some g)
theorem grown_of_ext {w w' : World} (h : Ext w w') (g : Nat) : w.grownBy w' (some g) := (grown_ext h).but _
theorem bad_any {w0 : World} {ts : List Tk} {tv : Value} {g : Nat} {c : Rc} {p : Nat} {w : World} (h : RdT w0 ts tv g c p w) (k : Nat) (hk : k ≤ p) (hl : ts.length ≤ 9223372036854775807) :
    Calls Tryz.prog 98 #[.pointer (some ⟨g, 0, none⟩), .int .i64 k] w fun e w' => e = wrongE ∧ RdT w0 ts tv g c (p - k) w' ∧ w.grownBy w' (some g) := by
  have H := Lib.hid h
  have hle := h.le
  clear h
  obtain ⟨f8, f9, f10⟩ := H.out.facts
  obtain ⟨q, rfl⟩ : ∃ q, p = q + k := ⟨p - k, by omega⟩
  have hq : ((q + k : Nat) : Int) - (k : Int) = (q : Int) := by omega
  have HQ := Lib.hid hq
  have hqk : q + k - k = q := by omega
  rw [hqk]
  have hs := H.out.set (q := q) (by omega)
  have hg := grown_set w g 9 (.int .i64 q)
  have HS := Lib.hid hs
  have HG := Lib.hid hg
  clear hs hg hqk
  go_enter Tryz.func98, Tryz.ntmps98
  go_wp2
  exact ⟨rfl, rfl, HS.out, HG.out⟩
theorem textAt_at {ts : List Tk} {p : Nat} (h : p < ts.length) : textAt ts p = ts[p].text := by
  unfold textAt
  simp [List.getD, h]
def groK4 : Nat → Gro
  | 3 => .read
  | 7 => .read
  | 11 => .read
  | _ => .pure
set_option maxHeartbeats 1000000 in
theorem take_any {w0 : World} {ts : List Tk} {tv : Value} {g : Nat} {c : Rc} {p : Nat} {w : World} (h : RdT w0 ts tv g c p w) (k : Int) (hk0 : k ≠ 0) (hl : ts.length ≤ 1000000) :
    Calls Tryz.prog 132 #[.pointer (some ⟨g, 0, none⟩), .int .i64 k] w (OutT w0 ts tv g c w Value.string (takeP ts k p)) := by
  have hmo : Tryz.prog.follows .mixedOrders = true := by kernel_rfl
  have hkd := kind_any h
  obtain ⟨a, cap, rfl, hcap, hmax⟩ := h.toks.shape
  have H := Lib.hid h
  have HKD := Lib.hid hkd
  have hle := h.le
  clear h hkd
  by_cases hk : kindAt ts p = k
  · have hlt : p < ts.length := kindAt_lt (by rw [hk]; exact hk0)
    have hres : takeP ts k p = .ok (ts[p].text, p + 1) := by unfold takeP; rw [if_pos hk, textAt_at hlt]
    rw [hres]
    have HLT := Lib.hid hlt
    rw [hk] at HKD
    clear hres hk
    go_enter Tryz.func132, Tryz.ntmps132
    go_wp2_with fail
    refine HKD.out.mono ?_
    rintro e w1 ⟨rfl, hx1⟩
    have HR1 := Lib.hid (H.out.grow hx1)
    have HX1 := Lib.hid hx1
    clear hx1 HKD
    obtain ⟨f8, f9, f10⟩ := HR1.out.facts
    have hs := HR1.out.set (q := p + 1) (by omega)
    have HS := Lib.hid hs
    have HG := Lib.hid ((grown_of_ext HX1.out g).trans (grown_set w1 g 9 (.int .i64 (p + 1 : Nat))))
    have hcast : ((p + 1 : Nat) : Int) = (p : Int) + 1 := by omega
    rw [hcast] at HS HG
    clear hs
    go_upto_region 4 with fail
    clear f8 f9 f10 hcast
    refine wp_region_gro groK4 [0, 1, 2, 3, 4, 5, 6, 7, 8, 9, 10, 11, 12] hmo (by kernel_rfl) rfl (by kernel_rfl) (fun _ _ _ _ _ h => h) ?_
    have HSD := Lib.hid (HS.out.grow (Ext.drewN (w1.setCell ⟨g, 9, none⟩ (.int .i64 ((p : Int) + 1))) 1))
    have HGD := Lib.hid (HG.out.trans (grown_of_ext (Ext.drewN (w1.setCell ⟨g, 9, none⟩ (.int .i64 ((p : Int) + 1))) 1) g))
    clear HS HG
    replace HSD : Hid (RdT w0 ts (.slice a ts.length cap) g c (p + 1) (w1.setCell ⟨g, 9, none⟩ (.int .i64 ((p : Int) + 1))).drew) := HSD
    replace HGD : Hid (w.grownBy (w1.setCell ⟨g, 9, none⟩ (.int .i64 ((p : Int) + 1))).drew (some g)) := HGD
    generalize (w1.setCell ⟨g, 9, none⟩ (.int .i64 ((p : Int) + 1))).drew = w2 at *
    obtain ⟨f8, f9, f10⟩ := HSD.out.facts
    obtain ⟨b, o, rfl, t0, t1, t2⟩ := (Toks.ext HSD.out.toks HSD.out.ext).at_ HLT.out
    have hcast : ((p + 1 : Nat) : Int) = (p : Int) + 1 := by omega
    rw [hcast] at f9
    have hsub : IntKind.i64.wrap (p : Int) = (p : Int) := IntWalk.i64_in _ (by omega)
    have hlt := HLT.out
    have HTX : Hid (∃ tx, ts[p].text = tx) := Lib.hid ⟨_, rfl⟩
    obtain ⟨tx, htx⟩ := HTX.out
    rw [htx] at t1
    have HT := Lib.hid htx
    clear hcast t0 t2 f10 htx HTX
    repeat (first
      | (refine groL_pure rfl rfl ?_; intro K hK; go_simp; refine hK _ ?_; clear hK K)
      | (refine groL_read rfl rfl ?_; intro K S hS hK; go_simp; refine hK _ ?_; clear hK K hS S)
      | (refine groL_read rfl rfl ?_; intro K S hS hK; go_simp; refine ⟨hS _ ?_, hK _ ?_⟩; (clear hK K hS S; intro w' hx'; have hce := ext_some hx'; go_simp); clear hK K hS S)
      | (refine groL_write rfl rfl ?_; intro K hK; go_simp; refine hK _ _ ?_; clear hK K))
    refine groL_nil ?_
    clear f8 f9 t1 hsub
    go_wp2_with fail
    go_ret
    exact ⟨by rw [HT.out]; rfl, HSD.out, HGD.out⟩
  · have hres : takeP ts k p = .error p := by unfold takeP; rw [if_neg hk]
    rw [hres]
    have hkb : (kindAt ts p != k) = true := by simp [hk]
    generalize kindAt ts p = kk at *
    clear hres hk
    go_enter Tryz.func132, Tryz.ntmps132
    go_wp2_with fail
    refine HKD.out.mono ?_
    rintro e w1 ⟨rfl, hx1⟩
    have hb := bad_any (H.out.grow hx1) 0 (by omega) (by omega)
    have HB := Lib.hid hb
    have HX1 := Lib.hid hx1
    clear hx1 HKD hb
    go_wp2_with fail
    refine HB.out.mono ?_
    rintro e w2 ⟨rfl, hr2, hg2⟩
    have HR2 := Lib.hid hr2
    have HG2 := Lib.hid ((grown_of_ext HX1.out g).trans hg2)
    clear hr2 hg2
    unfold wrongE
    go_wp2_with fail
    exact ⟨rfl, rfl, HR2.out, HG2.out⟩
/-- What a question of the reader comes to. -/
def SayT (w0 : World) (ts : List Tk) (tv : Value) (g : Nat) (c : Rc) (w : World) (b : Bool) (p : Nat) (e : Ending) (w' : World) : Prop :=
  e = .returned (.bool b) ∧ RdT w0 ts tv g c (if b = true then p + 1 else p) w' ∧ w.grownBy w' (some g)
set_option maxHeartbeats 1000000 in
theorem may_any' {w0 : World} {ts : List Tk} {tv : Value} {g : Nat} {c : Rc} {p : Nat} {w : World} (h : RdT w0 ts tv g c p w) (k : Int) (hk0 : k ≠ 0) (hl : ts.length ≤ 1000000) :
    Calls Tryz.prog 117 #[.pointer (some ⟨g, 0, none⟩), .int .i64 k] w (SayT w0 ts tv g c w (decide (kindAt ts p = k)) p) := by
  have hkd := kind_any h
  have H := Lib.hid h
  have HKD := Lib.hid hkd
  have hle := h.le
  clear h hkd
  by_cases hk : kindAt ts p = k
  · have hlt : p < ts.length := kindAt_lt (by rw [hk]; exact hk0)
    have HLT := Lib.hid hlt
    rw [decide_eq_true hk]
    rw [hk] at HKD
    clear hk
    go_enter Tryz.func117, Tryz.ntmps117
    go_wp2_with fail
    refine HKD.out.mono ?_
    rintro e w1 ⟨rfl, hx1⟩
    have HR1 := Lib.hid (H.out.grow hx1)
    have HX1 := Lib.hid hx1
    clear hx1 HKD
    obtain ⟨f8, f9, f10⟩ := HR1.out.facts
    have hs := HR1.out.set (q := p + 1) (by omega)
    have HS := Lib.hid hs
    have HG := Lib.hid ((grown_of_ext HX1.out g).trans (grown_set w1 g 9 (.int .i64 (p + 1 : Nat))))
    have hcast : ((p + 1 : Nat) : Int) = (p : Int) + 1 := by omega
    rw [hcast] at HS HG
    clear hs hcast
    go_wp2_with fail
    go_ret
    exact ⟨rfl, HS.out, HG.out⟩
  · rw [decide_eq_false hk]
    have hkb : (kindAt ts p == k) = false := by simp [hk]
    generalize kindAt ts p = kk at *
    clear hk
    go_enter Tryz.func117, Tryz.ntmps117
    go_wp2_with fail
    refine HKD.out.mono ?_
    rintro e w1 ⟨rfl, hx1⟩
    have HR1 := Lib.hid (H.out.grow hx1)
    have HX1 := Lib.hid hx1
    clear hx1 HKD
    go_wp2_with fail
    go_ret
    exact ⟨rfl, HR1.out, grown_of_ext HX1.out g⟩
end Go.Proofs.YthoneahamnmjlaaGreatDoor

/- A word, a number, tokens one behind the other. -/
namespace Go.Proofs.YthoneahamnmjlaaGreatDoor
set_option maxRecDepth 100000
set_option maxHeartbeats 2000000
set_option linter.unusedSimpArgs false
open Go.RowKit Go.Shelf Go.Sort
attribute [local go_sem] Oper.semAt_some wide_fn wide_depth
set_option linter.unusedVariables false

def groW1 : Nat → Gro
  | 1 => .grow
  | 7 => .read
  | 11 => .read
  | 14 => .read
  | _ => .pure
set_option maxHeartbeats 1000000 in
theorem word_any' {w0 : World} {ts : List Tk} {tv : Value} {g : Nat} {c : Rc} {p : Nat} {w : World} (h : RdT w0 ts tv g c p w) (s : ByteArray) (hl : ts.length ≤ 1000000) :
    Calls Tryz.prog 118 #[.pointer (some ⟨g, 0, none⟩), .string s] w (SayT w0 ts tv g c w (saysP ts s p) p) := by
  have hmo : Tryz.prog.follows .mixedOrders = true := by kernel_rfl
  obtain ⟨a, cap, rfl, hcap, hmax⟩ := h.toks.shape
  have hdr : Ext w w.drew := Ext.drewN w 1
  have hd := h.grow hdr
  have HKD := Lib.hid (kind_any hd)
  have HD := Lib.hid hd
  have HX := Lib.hid hdr
  have hle := h.le
  clear h hd hdr
  by_cases hk : kindAt ts p = 1
  · have hlt : p < ts.length := kindAt_lt (by rw [hk]; decide)
    have HLT := Lib.hid hlt
    obtain ⟨tx, htx⟩ : ∃ tx, textAt ts p = tx := ⟨_, rfl⟩
    have hsy : saysP ts s p = decide (tx = s) := by unfold saysP; rw [hk, htx]; rfl
    rw [hsy]
    have HTX := Lib.hid htx
    rw [hk] at HKD
    clear hk hsy htx
    go_enter Tryz.func118, Tryz.ntmps118
    go_upto_region 1 with fail
    refine wp_region_gro groW1 [0, 1, 2, 3, 4, 5, 6, 7, 8, 9, 10, 11, 12, 13, 14, 15, 16, 17, 18] hmo (by kernel_rfl) rfl (by kernel_rfl) (fun _ _ _ _ _ h => h) ?_
    replace HX : Hid (Ext w w.drew) := HX
    generalize w.drew = w1 at *
    repeat (first
      | (refine groL_pure rfl rfl ?_; intro K hK; go_simp; refine hK _ ?_; clear hK K)
      | (refine groL_read rfl rfl ?_; intro K S hS hK; go_simp; refine hK _ ?_; clear hK K hS S)
      | (refine groL_read rfl rfl ?_; intro K S hS hK; go_simp; refine ⟨hS _ ?_, hK _ ?_⟩; (clear hK K hS S; intro w' hx'; have hce := ext_some hx'; go_simp); clear hK K hS S)
      | (refine groL_write rfl rfl ?_; intro K hK; go_simp; refine hK _ _ ?_; clear hK K))
    refine groL_grow rfl rfl ?_
    intro K hK
    go_simp
    (refine HKD.out.mono ?_; rintro e w2 ⟨rfl, hx2⟩)
    go_simp
    refine hK _ _ ⟨hx2, ?_⟩
    clear hK K
    have HR2 := Lib.hid (HD.out.grow hx2)
    have HX2 := Lib.hid (HX.out.trans hx2)
    obtain ⟨f8, f9, f10⟩ := HR2.out.facts
    obtain ⟨b, o, rfl, t0, t1, t2⟩ := (Toks.ext HR2.out.toks HR2.out.ext).at_ HLT.out
    rw [← textAt_at HLT.out, HTX.out] at t1
    clear hx2 HKD t0 t2 f10 HTX
    by_cases he : tx = s
    · subst he
      have hs := HR2.out.set (q := p + 1) (by omega)
      have HS := Lib.hid hs
      have HG := Lib.hid ((grown_of_ext HX2.out g).trans (grown_set w2 g 9 (.int .i64 (p + 1 : Nat))))
      have hcast : ((p + 1 : Nat) : Int) = (p : Int) + 1 := by omega
      rw [hcast] at HS HG
      have f11 := HR2.out.facts.2.2
      clear hs hcast
      repeat (first
        | (refine groL_pure rfl rfl ?_; intro K hK; go_simp; refine hK _ ?_; clear hK K)
        | (refine groL_read rfl rfl ?_; intro K S hS hK; go_simp; refine hK _ ?_; clear hK K hS S)
        | (refine groL_read rfl rfl ?_; intro K S hS hK; go_simp; refine ⟨hS _ ?_, hK _ ?_⟩; (clear hK K hS S; intro w' hx'; have hce := ext_some hx'; go_simp); clear hK K hS S)
        | (refine groL_write rfl rfl ?_; intro K hK; go_simp; refine hK _ _ ?_; clear hK K))
      refine groL_nil ?_
      go_wp2_with fail
      go_ret
      exact ⟨by simp, HS.out, HG.out⟩
    · have he1 : (tx.toList == s.toList) = false := str_no he
      have he2 : decide (tx = s) = false := decide_eq_false he
      have HSY := Lib.hid he2
      clear he
      repeat (first
        | (refine groL_pure rfl rfl ?_; intro K hK; go_simp; refine hK _ ?_; clear hK K)
        | (refine groL_read rfl rfl ?_; intro K S hS hK; go_simp; refine hK _ ?_; clear hK K hS S)
        | (refine groL_read rfl rfl ?_; intro K S hS hK; go_simp; refine ⟨hS _ ?_, hK _ ?_⟩; (clear hK K hS S; intro w' hx'; have hce := ext_some hx'; go_simp); clear hK K hS S)
        | (refine groL_write rfl rfl ?_; intro K hK; go_simp; refine hK _ _ ?_; clear hK K))
      refine groL_nil ?_
      clear f8 f9 t1
      go_wp2_with fail
      go_ret
      exact ⟨by rw [HSY.out]; rfl, by rw [HSY.out]; exact HR2.out, grown_of_ext HX2.out g⟩
  · have hsy : saysP ts s p = false := by unfold saysP; rw [decide_eq_false hk]; rfl
    rw [hsy]
    have hkb : (kindAt ts p == 1) = false := by simp [hk]
    generalize kindAt ts p = kk at *
    clear hk hsy
    go_enter Tryz.func118, Tryz.ntmps118
    go_upto_region 1 with fail
    refine wp_region_gro groW1 [0, 1, 2, 3, 4, 5, 6, 7, 8, 9, 10, 11, 12, 13, 14, 15, 16, 17, 18] hmo (by kernel_rfl) rfl (by kernel_rfl) (fun _ _ _ _ _ h => h) ?_
    replace HX : Hid (Ext w w.drew) := HX
    generalize w.drew = w1 at *
    repeat (first
      | (refine groL_pure rfl rfl ?_; intro K hK; go_simp; refine hK _ ?_; clear hK K)
      | (refine groL_read rfl rfl ?_; intro K S hS hK; go_simp; refine hK _ ?_; clear hK K hS S)
      | (refine groL_read rfl rfl ?_; intro K S hS hK; go_simp; refine ⟨hS _ ?_, hK _ ?_⟩; (clear hK K hS S; intro w' hx'; have hce := ext_some hx'; go_simp); clear hK K hS S)
      | (refine groL_write rfl rfl ?_; intro K hK; go_simp; refine hK _ _ ?_; clear hK K))
    refine groL_grow rfl rfl ?_
    intro K hK
    go_simp
    (refine HKD.out.mono ?_; rintro e w2 ⟨rfl, hx2⟩)
    go_simp
    refine hK _ _ ⟨hx2, ?_⟩
    clear hK K
    have HR2 := Lib.hid (HD.out.grow hx2)
    have HX2 := Lib.hid (HX.out.trans hx2)
    clear hx2 HKD
    repeat (first
      | (refine groL_pure rfl rfl ?_; intro K hK; go_simp; refine hK _ ?_; clear hK K)
      | (refine groL_read rfl rfl ?_; intro K S hS hK; go_simp; refine hK _ ?_; clear hK K hS S)
      | (refine groL_read rfl rfl ?_; intro K S hS hK; go_simp; refine ⟨hS _ ?_, hK _ ?_⟩; (clear hK K hS S; intro w' hx'; have hce := ext_some hx'; go_simp); clear hK K hS S)
      | (refine groL_write rfl rfl ?_; intro K hK; go_simp; refine hK _ _ ?_; clear hK K))
    refine groL_nil ?_
    go_wp2_with fail
    go_ret
    exact ⟨rfl, HR2.out, grown_of_ext HX2.out g⟩
def groN2 : Nat → Gro
  | 3 => .read
  | 7 => .read
  | 10 => .read
  | 11 => .grow
  | _ => .pure
theorem takeP_lt {ts : List Tk} {k : Int} (hk0 : k ≠ 0) {p : Nat} (hk : kindAt ts p = k) : p < ts.length := kindAt_lt (by rw [hk]; exact hk0)
set_option maxHeartbeats 1000000 in
theorem number_any' {w0 : World} {ts : List Tk} {tv : Value} {g : Nat} {c : Rc} {p : Nat} {w : World} (h : RdT w0 ts tv g c p w) (hl : ts.length ≤ 1000000) :
    Calls Tryz.prog 122 #[.pointer (some ⟨g, 0, none⟩)] w (OutT w0 ts tv g c w (fun n => .int .i64 n) (numP ts p)) := by
  have hmo : Tryz.prog.follows .mixedOrders = true := by kernel_rfl
  have htk := take_any h 1 (by decide) hl
  obtain ⟨a, cap, rfl, hcap, hmax⟩ := h.toks.shape
  have HTK := Lib.hid htk
  have hle := h.le
  have hsz := h.szs
  have HSZ := Lib.hid hsz
  clear h htk hsz
  by_cases hk : kindAt ts p = 1
  · have hlt : p < ts.length := takeP_lt (by decide) hk
    have htp : takeP ts 1 p = .ok (textAt ts p, p + 1) := by unfold takeP; rw [if_pos hk]
    have hget : ts[p] = ts.getD p tkNil := by simp [List.getD, hlt]
    have hnp : numP ts p = match (ts.getD p tkNil).number with | none => .error p | some n => .ok (n, p + 1) := by
      unfold numP
      rw [htp]
      simp only [Except.bind]
      try (cases (ts.getD p tkNil).number <;> rfl)
    rw [htp] at HTK
    rw [hnp]
    have hgs : (ts.getD p tkNil).text.size ≤ 9223372036854775800 := by rw [← hget]; exact HSZ.out _ (List.getElem_mem hlt)
    have HGET := Lib.hid hget
    generalize ts.getD p tkNil = t at *
    obtain ⟨nn, hnn⟩ : ∃ nn, t.number = nn := ⟨_, rfl⟩
    rw [hnn]
    have HNN := Lib.hid hnn
    clear htp hnp hk hget hnn
    go_enter Tryz.func122, Tryz.ntmps122
    go_wp2_with fail
    refine HTK.out.mono ?_
    rintro e w1 ⟨rfl, hr1, hg1⟩
    have hdr : Ext w1 w1.drew := Ext.drewN w1 1
    have HR1 := Lib.hid (hr1.grow hdr)
    have HG1 := Lib.hid (hg1.trans (grown_of_ext hdr g))
    clear HTK hr1 hg1
    go_upto_region 2 with fail
    refine wp_region_gro groN2 [0, 1, 2, 3, 4, 5, 6, 7, 8, 9, 10, 11, 12, 13, 14, 15, 16] hmo (by kernel_rfl) rfl (by kernel_rfl) (fun _ _ _ _ _ h => h) ?_
    replace HR1 : Hid (RdT w0 ts (.slice a ts.length cap) g c (p + 1) w1.drew) := HR1
    replace HG1 : Hid (w.grownBy w1.drew (some g)) := HG1
    clear hdr
    generalize w1.drew = w2 at *
    obtain ⟨f8, f9, f10⟩ := HR1.out.facts
    obtain ⟨b, o, rfl, t0, t1, t2⟩ := (Toks.ext HR1.out.toks HR1.out.ext).at_ hlt
    have hcast : ((p + 1 : Nat) : Int) = (p : Int) + 1 := by omega
    rw [hcast] at f9
    have hsub : IntKind.i64.wrap (p : Int) = (p : Int) := IntWalk.i64_in _ (by omega)
    have hnm := number_any t w2 (by omega)
    rw [HNN.out] at hnm
    rw [HGET.out] at t0 t1 t2
    obtain ⟨tk, tt, ta⟩ := t
    unfold tkV at hnm
    dsimp only at t0 t1 t2 hnm
    have HNM := Lib.hid hnm
    clear hnm hcast f10 hgs
    cases nn with
    | none =>
      unfold numE at HNM
      dsimp only at HNM
      repeat (first
        | (refine groL_pure rfl rfl ?_; intro K hK; go_simp; refine hK _ ?_; clear hK K)
        | (refine groL_read rfl rfl ?_; intro K S hS hK; go_simp; refine hK _ ?_; clear hK K hS S)
        | (refine groL_read rfl rfl ?_; intro K S hS hK; go_simp; refine ⟨hS _ ?_, hK _ ?_⟩; (clear hK K hS S; intro w' hx'; have hce := ext_some hx'; go_simp); clear hK K hS S)
        | (refine groL_write rfl rfl ?_; intro K hK; go_simp; refine hK _ _ ?_; clear hK K))
      refine groL_grow rfl rfl ?_
      intro K hK
      go_simp
      (refine HNM.out.mono ?_; rintro e w3 ⟨rfl, hx3⟩)
      go_simp
      refine hK _ _ ⟨hx3, ?_⟩
      clear hK K
      repeat (first
        | (refine groL_pure rfl rfl ?_; intro K hK; go_simp; refine hK _ ?_; clear hK K)
        | (refine groL_read rfl rfl ?_; intro K S hS hK; go_simp; refine hK _ ?_; clear hK K hS S)
        | (refine groL_read rfl rfl ?_; intro K S hS hK; go_simp; refine ⟨hS _ ?_, hK _ ?_⟩; (clear hK K hS S; intro w' hx'; have hce := ext_some hx'; go_simp); clear hK K hS S)
        | (refine groL_write rfl rfl ?_; intro K hK; go_simp; refine hK _ _ ?_; clear hK K))
      refine groL_nil ?_
      have hb := bad_any (HR1.out.grow hx3) 1 (by omega) (by omega)
      have HB := Lib.hid hb
      have HG3 := Lib.hid (HG1.out.trans (grown_of_ext hx3 g))
      clear hb hx3 HNM f8 f9 t0 t1 t2 hsub
      go_wp2_with fail
      refine HB.out.mono ?_
      rintro e w4 ⟨rfl, hr4, hg4⟩
      have HR4 := Lib.hid hr4
      have HG4 := Lib.hid (HG3.out.trans hg4)
      clear hr4 hg4 HB
      unfold wrongE
      go_wp2_with fail
      exact ⟨rfl, rfl, HR4.out, HG4.out⟩
    | some n =>
      unfold numE at HNM
      dsimp only at HNM
      repeat (first
        | (refine groL_pure rfl rfl ?_; intro K hK; go_simp; refine hK _ ?_; clear hK K)
        | (refine groL_read rfl rfl ?_; intro K S hS hK; go_simp; refine hK _ ?_; clear hK K hS S)
        | (refine groL_read rfl rfl ?_; intro K S hS hK; go_simp; refine ⟨hS _ ?_, hK _ ?_⟩; (clear hK K hS S; intro w' hx'; have hce := ext_some hx'; go_simp); clear hK K hS S)
        | (refine groL_write rfl rfl ?_; intro K hK; go_simp; refine hK _ _ ?_; clear hK K))
      refine groL_grow rfl rfl ?_
      intro K hK
      go_simp
      (refine HNM.out.mono ?_; rintro e w3 ⟨rfl, hx3⟩)
      go_simp
      refine hK _ _ ⟨hx3, ?_⟩
      clear hK K
      repeat (first
        | (refine groL_pure rfl rfl ?_; intro K hK; go_simp; refine hK _ ?_; clear hK K)
        | (refine groL_read rfl rfl ?_; intro K S hS hK; go_simp; refine hK _ ?_; clear hK K hS S)
        | (refine groL_read rfl rfl ?_; intro K S hS hK; go_simp; refine ⟨hS _ ?_, hK _ ?_⟩; (clear hK K hS S; intro w' hx'; have hce := ext_some hx'; go_simp); clear hK K hS S)
        | (refine groL_write rfl rfl ?_; intro K hK; go_simp; refine hK _ _ ?_; clear hK K))
      refine groL_nil ?_
      have HR3 := Lib.hid (HR1.out.grow hx3)
      have HG3 := Lib.hid (HG1.out.trans (grown_of_ext hx3 g))
      clear hx3 HNM f8 f9 t0 t1 t2 hsub
      go_wp2_with fail
      go_ret
      exact ⟨rfl, HR3.out, HG3.out⟩
  · have htp : takeP ts 1 p = .error p := by unfold takeP; rw [if_neg hk]
    have hnp : numP ts p = .error p := by unfold numP; rw [htp]; rfl
    rw [htp] at HTK
    rw [hnp]
    clear htp hnp hk
    go_enter Tryz.func122, Tryz.ntmps122
    go_wp2_with fail
    refine HTK.out.mono ?_
    rintro e w1 ⟨rfl, hr1, hg1⟩
    have HR1 := Lib.hid hr1
    have HG1 := Lib.hid hg1
    clear HTK hr1 hg1
    unfold wrongE
    go_wp2_with fail
    exact ⟨rfl, rfl, HR1.out, HG1.out⟩
end Go.Proofs.YthoneahamnmjlaaGreatDoor
