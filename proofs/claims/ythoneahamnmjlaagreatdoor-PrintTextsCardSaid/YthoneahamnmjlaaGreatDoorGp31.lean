/- A pattern, its variables named otherwise: the program, atoms and the whole. -/
import Derived.Test.YthoneahamnmjlaaGreatDoorGp30
import Derived.Test.YthoneahamnmjlaaGreatDoorGp25
namespace Go.Proofs.YthoneahamnmjlaaGreatDoor
set_option maxRecDepth 100000
set_option maxHeartbeats 2000000
set_option linter.unusedSimpArgs false
open Go.RowKit Go.Shelf Go.Sort
attribute [local go_sem] Oper.semAt_some wide_fn wide_depth
set_option linter.unusedVariables false

def prG6 : Nat → Gro
  | 0 => .read
  | 2 => .read
  | 3 => .grow
  | 4 => .read
  | 6 => .read
  | 7 => .grow
  | 9 => .write
  | 11 => .write
  | _ => .pure
set_option maxRecDepth 100000 in
set_option maxHeartbeats 2000000 in
theorem turn61_any (vars names : List ByteArray) (M y z zz : Nat) (a : Atm) (w : World) (h : NamesAt vars names M y z w) (hz : RowAt w zz 88 [.func (.func 59) #[] #[.pointer (some ⟨z, 0, none⟩)]]) :
    Calls Tryz.prog 61 #[.agg #[.int .i64 a.kind, .bool a.fk, .string a.fn, .string a.name, .string a.value, .bool a.tk, .string a.tn], .pointer (some ⟨zz, 0, none⟩)] w fun e w' =>
      e = .returned (.agg #[.int .i64 (turnA (nameAt vars names) a).kind, .bool (turnA (nameAt vars names) a).fk, .string (turnA (nameAt vars names) a).fn, .string (turnA (nameAt vars names) a).name, .string (turnA (nameAt vars names) a).value, .bool (turnA (nameAt vars names) a).tk, .string (turnA (nameAt vars names) a).tn]) ∧ Ext w w' := by
  have hmo : Tryz.prog.follows .mixedOrders = true := by kernel_rfl
  obtain ⟨k, fk, fn, nm, va, tk, tn⟩ := a
  unfold turnA
  dsimp only
  have HT1 := Lib.hid (fun w' (hx : Ext w w') => turn59_any vars names M y z fk fn w' (h.ext hx))
  have HT2 := Lib.hid (fun w' (hx : Ext w w') => turn59_any vars names M y z tk tn w' (h.ext hx))
  have HZ := Lib.hid hz
  clear h hz
  generalize turnT (nameAt vars names) fk fn = N1 at *
  generalize turnT (nameAt vars names) tk tn = N2 at *
  -- a function with two boxes at its head: colander/print.turned$3 its name, [.int .i64 k, .bool fk, .string fn, .string nm, .string va, .bool tk, .string tn] [.int .i64 0, .bool false, .string ⟨#[]⟩, .string ⟨#[]⟩, .string ⟨#[]⟩, .bool false, .string ⟨#[]⟩] their cells (lists), api.Atom api.Atom their types' names
  have hbx := boxes2 w ([.int .i64 k, .bool fk, .string fn, .string nm, .string va, .bool tk, .string tn]) 40 ([.int .i64 0, .bool false, .string ⟨#[]⟩, .string ⟨#[]⟩, .string ⟨#[]⟩, .bool false, .string ⟨#[]⟩]) 40
  have HBX := Lib.hid hbx
  clear hbx
  go_enter Tryz.func61, Tryz.ntmps61
  go_upto_region 1 with fail
  generalize (w.alloc (.cells ([.int .i64 k, .bool fk, .string fn, .string nm, .string va, .bool tk, .string tn]).toArray 40)).alloc (.cells ([.int .i64 0, .bool false, .string ⟨#[]⟩, .string ⟨#[]⟩, .string ⟨#[]⟩, .bool false, .string ⟨#[]⟩]).toArray 40) = w1 at *
  obtain ⟨y0, hy0⟩ : ∃ x, w.heap.size = x := ⟨_, rfl⟩
  obtain ⟨y1, hy1⟩ : ∃ x, y0 + 1 = x := ⟨_, rfl⟩
  rw [hy0, hy1] at HBX
  simp only [hy0, hy1]
  have HN := Lib.hid (show w.heap.size = y0 ∧ y0 + 1 = y1 from ⟨hy0, hy1⟩)
  have HX := Lib.hid HBX.out.1
  have H0 := Lib.hid HBX.out.2.1
  have H1 := Lib.hid HBX.out.2.2
  clear hy0 hy1 HBX
  have HN0 := Lib.hid (show w.heap.size ≤ y0 ∧ y0 ≠ y1 ∧ w.heap.size ≤ y1 by have := HN.out; omega)
  refine wp_region_gro prG6 [0, 1, 2, 4, 5, 6, 3, 8, 7, 9, 10, 11] hmo (by kernel_rfl) rfl (by kernel_rfl) (fun _ _ _ _ _ h => h) ?_
  have hxd : Ext w1 w1.drew := Ext.drewN w1 1
  replace HX := Lib.hid (HX.out.trans hxd)
  replace H0 := Lib.hid (H0.out.ext hxd)
  replace H1 := Lib.hid (H1.out.ext hxd)
  have HZ1 := Lib.hid (HZ.out.ext HX.out)
  clear hxd HZ HN
  generalize w1.drew = w2 at *
  have kz := HZ1.out.cell (i := 0) rfl
  have k1 := H0.out.cell (i := 1) rfl
  have k2 := H0.out.cell (i := 2) rfl
  have k5 := H0.out.cell (i := 5) rfl
  have k6 := H0.out.cell (i := 6) rfl
  repeat (first
    | (refine groL_pure rfl rfl ?_; intro K hK; go_simp; refine hK _ ?_; clear hK K)
    | (refine groL_read rfl rfl ?_; intro K S hS hK; go_simp; refine hK _ ?_; clear hK K hS S)
    | (refine groL_read rfl rfl ?_; intro K S hS hK; go_simp; refine ⟨hS _ ?_, hK _ ?_⟩; (clear hK K hS S; intro w' hx'; have hce := ext_some hx'; go_simp); clear hK K hS S)
    | (refine groL_write rfl rfl ?_; intro K hK; go_simp; refine hK _ _ ?_; clear hK K))
  clear kz k1 k2 k5 k6
  refine groL_grow rfl rfl ?_
  intro K hK
  go_simp
  (refine (HT1.out w2 HX.out).mono ?_; rintro e w3 ⟨rfl, hx3⟩)
  go_simp
  refine hK _ _ ⟨hx3, ?_⟩
  clear hK K
  have HX3 := Lib.hid (HX.out.trans hx3)
  have HB3 := Lib.hid (H0.out.ext hx3)
  have HC3 := Lib.hid (H1.out.ext hx3)
  clear hx3 HX H0 H1
  repeat (first
    | (refine groL_pure rfl rfl ?_; intro K hK; go_simp; refine hK _ ?_; clear hK K)
    | (refine groL_read rfl rfl ?_; intro K S hS hK; go_simp; refine hK _ ?_; clear hK K hS S)
    | (refine groL_read rfl rfl ?_; intro K S hS hK; go_simp; refine ⟨hS _ ?_, hK _ ?_⟩; (clear hK K hS S; intro w' hx'; have hce := ext_some hx'; go_simp); clear hK K hS S)
    | (refine groL_write rfl rfl ?_; intro K hK; go_simp; refine hK _ _ ?_; clear hK K))
  refine groL_grow rfl rfl ?_
  intro K hK
  go_simp
  (refine (HT2.out w3 HX3.out).mono ?_; rintro e w4 ⟨rfl, hx4⟩)
  go_simp
  refine hK _ _ ⟨hx4, ?_⟩
  clear hK K
  have HX4 := Lib.hid (HX3.out.trans hx4)
  have HB4 := Lib.hid (HB3.out.ext hx4)
  have HC4 := Lib.hid (HC3.out.ext hx4)
  clear hx4 HX3 HB3 HC3
  have k1 := HB4.out.cell (i := 1) rfl
  have k2 := HB4.out.cell (i := 2) rfl
  have k5 := HB4.out.cell (i := 5) rfl
  have k6 := HB4.out.cell (i := 6) rfl
  have f1 := HB4.out.frozen 1
  have f2 := HB4.out.frozen 2
  have f5 := HB4.out.frozen 5
  have f6 := HB4.out.frozen 6
  repeat (first
    | (refine groL_pure rfl rfl ?_; intro K hK; go_simp; refine hK _ ?_; clear hK K)
    | (refine groL_read rfl rfl ?_; intro K S hS hK; go_simp; refine hK _ ?_; clear hK K hS S)
    | (refine groL_read rfl rfl ?_; intro K S hS hK; go_simp; refine ⟨hS _ ?_, hK _ ?_⟩; (clear hK K hS S; intro w' hx'; have hce := ext_some hx'; go_simp); clear hK K hS S)
    | (refine groL_write rfl rfl ?_; intro K hK; go_simp; refine hK _ _ ?_; clear hK K))
  refine groL_nil ?_
  have HW := Lib.hid (show RowAt ((((w4.setCell ⟨y0, 1, none⟩ (.bool fk)).setCell ⟨y0, 2, none⟩ (.string N1)).setCell ⟨y0, 5, none⟩ (.bool tk)).setCell ⟨y0, 6, none⟩ (.string N2)) y0 40 [.int .i64 k, .bool fk, .string N1, .string nm, .string va, .bool tk, .string N2] from (((HB4.out.set 1 (.bool fk)).set 2 (.string N1)).set 5 (.bool tk)).set 6 (.string N2))
  have hne : ∀ W i v, RowAt W y1 40 [.int .i64 0, .bool false, .string ⟨#[]⟩, .string ⟨#[]⟩, .string ⟨#[]⟩, .bool false, .string ⟨#[]⟩] → RowAt (W.setCell ⟨y0, i, none⟩ v) y1 40 [.int .i64 0, .bool false, .string ⟨#[]⟩, .string ⟨#[]⟩, .string ⟨#[]⟩, .bool false, .string ⟨#[]⟩] := fun W i v h => h.kept (grown_set W y0 i v) (fun e => HN0.out.2.1 (Option.some.inj e))
  have HC5 := Lib.hid (hne _ 6 (.string N2) (hne _ 5 (.bool tk) (hne _ 2 (.string N1) (hne _ 1 (.bool fk) HC4.out))))
  have HX5 := Lib.hid (show Ext w ((((w4.setCell ⟨y0, 1, none⟩ (.bool fk)).setCell ⟨y0, 2, none⟩ (.string N1)).setCell ⟨y0, 5, none⟩ (.bool tk)).setCell ⟨y0, 6, none⟩ (.string N2)) from Ext.set_of (Ext.set_of (Ext.set_of (Ext.set_of HX4.out HN0.out.1 _) HN0.out.1 _) HN0.out.1 _) HN0.out.1 _)
  clear hne k1 k2 k5 k6 f1 f2 f5 f6 HB4 HC4 HX4
  generalize ((((w4.setCell ⟨y0, 1, none⟩ (.bool fk)).setCell ⟨y0, 2, none⟩ (.string N1)).setCell ⟨y0, 5, none⟩ (.bool tk)).setCell ⟨y0, 6, none⟩ (.string N2)) = w6 at *
  go_upto_region 2 with fail
  apply wp_region_lit
  -- a load of a whole row: y0 block, HW.out fact RowAt, api.Atom the type's name
  refine plain_load rfl _ _ rfl y0 rfl _ _ (HW.out) Tryz.underlying40 rfl (by kernel_rfl) ?_
  go_simp
  -- the result's row is stored, and the function ends: y1 the box's name, HC5.out its fact, [.int .i64 k, .bool fk, .string N1, .string nm, .string va, .bool tk, .string N2] the cells, api.Atom the type's name, w6 the world now, HX5.out fact Ext, HN0.out.2.2 that the box is new, (by simp [Value.oneCell']) proof that each is one cell, ⟨rfl, HXX.out⟩ what is said of the result
  refine plain_store rfl _ _ _ rfl y1 ([.int .i64 k, .bool fk, .string N1, .string nm, .string va, .bool tk, .string N2]) rfl rfl (HC5.out) (by kernel_rfl) rfl ((by simp [Value.oneCell'])) ?_
  have HRR := Lib.hid ((HC5.out).setRow ([.int .i64 k, .bool fk, .string N1, .string nm, .string va, .bool tk, .string N2]))
  have HXX := Lib.hid (show Ext w ((w6).setRow y1 ([.int .i64 k, .bool fk, .string N1, .string nm, .string va, .bool tk, .string N2]).toArray) from below_setRow (HX5.out) (HN0.out.2.2) _)
  go_simp
  apply wpList_nil
  go_wp2_with fail
  exact bodyPost_ret (results_row0 rfl rfl HRR.out Tryz.underlying40 rfl (by kernel_rfl)) rfl (⟨rfl, HXX.out⟩)
theorem boxes5 (w : World) (x0 x1 x2 x3 x4 : List Value) (t0 t1 t2 t3 t4 : TypeId) {W : World} (hW : W = ((((w.alloc (.cells x0.toArray t0)).alloc (.cells x1.toArray t1)).alloc (.cells x2.toArray t2)).alloc (.cells x3.toArray t3)).alloc (.cells x4.toArray t4)) :
    Ext w W ∧ RowAt W w.heap.size t0 x0 ∧ RowAt W (w.heap.size + 1) t1 x1 ∧ RowAt W (w.heap.size + 1 + 1) t2 x2 ∧ RowAt W (w.heap.size + 1 + 1 + 1) t3 x3 ∧ RowAt W (w.heap.size + 1 + 1 + 1 + 1) t4 x4 := by
  subst hW
  have n : ∀ (v : World) (x : List Value) (t : TypeId) (k : Nat), v.heap.size = k → RowAt (v.alloc (.cells x.toArray t)) k t x := fun v x t k h => h ▸ RowAt.new v t x
  exact ⟨((((Ext.alloc _ _).trans (Ext.alloc _ _)).trans (Ext.alloc _ _)).trans (Ext.alloc _ _)).trans (Ext.alloc _ _),
    ((((n _ _ _ _ rfl).ext (Ext.alloc _ _)).ext (Ext.alloc _ _)).ext (Ext.alloc _ _)).ext (Ext.alloc _ _),
    (((n _ _ _ _ (by simp)).ext (Ext.alloc _ _)).ext (Ext.alloc _ _)).ext (Ext.alloc _ _),
    ((n _ _ _ _ (by simp)).ext (Ext.alloc _ _)).ext (Ext.alloc _ _), (n _ _ _ _ (by simp)).ext (Ext.alloc _ _), n _ _ _ _ (by simp)⟩
def prG7 : Nat → Gro
  | 1 => .read
  | 2 => .read
  | 3 => .grow
  | 5 => .read
  | 6 => .read
  | 7 => .grow
  | 9 => .write
  | 11 => .write
  | _ => .pure
set_option maxRecDepth 100000 in
set_option maxHeartbeats 4000000 in
theorem turned_any (v : Value) (P : Pat) (vars names : List ByteArray) (M : Nat) (w : World) (h : PatAt w v P) (hm : MapAt .string w M (kvN vars names)) (hl : names.length = vars.length) (ha : P.atoms.length ≤ 100000) (hr : P.ret.length ≤ 100000) (hh : P.hint.length ≤ 100000) :
    Calls Tryz.prog 32 #[v, .map (some M)] w fun e w' => ∃ u, e = .returned u ∧ PatIn w.heap.size w' u (turnP (nameAt vars names) P) ∧ Ext w w' := by
  have hmo : Tryz.prog.follows .mixedOrders = true := by kernel_rfl
  have hmf : ∀ (fn : Fn) (first cap : Array Value) (w : World), (Instr.makeFunc fn first cap).run Tryz.prog w = .ok (.func fn first cap) w := fun _ _ _ _ => rfl
  obtain ⟨av, rv, hv, rfl, h1, h2, h3⟩ := h
  obtain ⟨ava, avc, rfl, hac, _⟩ := h1.shape
  obtain ⟨rva, rvc, rfl, hrc, _⟩ := Sl.shape h2
  obtain ⟨hva, hvc, rfl, hhc, _⟩ := Sl.shape h3
  obtain ⟨atoms, ret, cn, ds, lm, li, off, hint⟩ := P
  unfold patV patL turnP
  dsimp only at *
  have HA := Lib.hid h1
  have HR := Lib.hid h2
  have HH := Lib.hid h3
  have HM := Lib.hid hm
  obtain ⟨f, hf⟩ : ∃ f, nameAt vars names = f := ⟨_, rfl⟩
  have hT61 := fun (y z zz : Nat) (a : Atm) (w' : World) (h : NamesAt vars names M y z w') (hz : RowAt w' zz 88 [.func (.func 59) #[] #[.pointer (some ⟨z, 0, none⟩)]]) => turn61_any vars names M y z zz a w' h hz
  have hT58 := fun (y : Nat) (s : ByteArray) (w' : World) (hm : MapAt .string w' M (kvN vars names)) (hy : RowAt w' y 55 [.map (some M)]) => name58_any vars names M y s w' hm hl hy
  rw [hf] at hT61 hT58 ⊢
  have H61 := Lib.hid hT61
  have H58 := Lib.hid hT58
  clear h1 h2 h3 hm hT61 hT58 hf
  have hbx := fun W hW => boxes5 w [.slice ava atoms.length avc, .slice rva ret.length rvc, .bool cn, .bool ds, .bool lm, .int .i64 li, .int .i64 off, .slice hva hint.length hvc] [.map (some M)] [.slice none 0 0, .slice none 0 0, .bool false, .bool false, .bool false, .int .i64 0, .int .i64 0, .slice none 0 0]
    [.func (.func 58) #[] #[.pointer (some ⟨w.heap.size + 1, 0, none⟩)]] [.func (.func 59) #[] #[.pointer (some ⟨w.heap.size + 1 + 1 + 1, 0, none⟩)]] 25 55 25 47 88 (W := W) hW
  have HBX := Lib.hid hbx
  clear hbx
  go_enter Tryz.func32, Tryz.ntmps32
  go_upto_region 3 with fail
  clear hmf
  generalize hw1 : ((((w.alloc (.cells #[.slice ava atoms.length avc, .slice rva ret.length rvc, .bool cn, .bool ds, .bool lm, .int .i64 li, .int .i64 off, .slice hva hint.length hvc] 25)).alloc (.cells #[.map (some M)] 55)).alloc (.cells #[.slice none 0 0, .slice none 0 0, .bool false, .bool false, .bool false, .int .i64 0, .int .i64 0, .slice none 0 0] 25)).alloc (.cells #[.func (.func 58) #[] #[.pointer (some ⟨w.heap.size + 1, 0, none⟩)]] 47)).alloc (.cells #[.func (.func 59) #[] #[.pointer (some ⟨w.heap.size + 1 + 1 + 1, 0, none⟩)]] 88) = w1
  have HB5 := Lib.hid (HBX.out w1 hw1.symm)
  clear hw1 HBX
  obtain ⟨y0, e0⟩ : ∃ y, w.heap.size = y := ⟨_, rfl⟩
  obtain ⟨y1, e1⟩ : ∃ y, y0 + 1 = y := ⟨_, rfl⟩
  obtain ⟨y2, e2⟩ : ∃ y, y1 + 1 = y := ⟨_, rfl⟩
  obtain ⟨y3, e3⟩ : ∃ y, y2 + 1 = y := ⟨_, rfl⟩
  obtain ⟨y4, e4⟩ : ∃ y, y3 + 1 = y := ⟨_, rfl⟩
  rw [e0, e1, e2, e3, e4] at HB5
  simp only [e0, e1, e2, e3, e4]
  have HN := Lib.hid (show w.heap.size ≤ y0 ∧ w.heap.size ≤ y2 ∧ y0 ≠ y1 ∧ y0 ≠ y2 ∧ y0 ≠ y3 ∧ y0 ≠ y4 by omega)
  clear e0 e1 e2 e3 e4
  have HX := Lib.hid HB5.out.1
  have H0 := Lib.hid HB5.out.2.1
  have H1 := Lib.hid HB5.out.2.2.1
  have H2 := Lib.hid HB5.out.2.2.2.1
  have H3 := Lib.hid HB5.out.2.2.2.2.1
  have H4 := Lib.hid HB5.out.2.2.2.2.2
  clear HB5
  have k0 := H0.out.cell (i := 0) rfl
  have HMA := Lib.hid (madeAA_any (.slice ava atoms.length avc) atoms (turnA f) 61 #[.pointer (some ⟨y4, 0, none⟩)] w1 (HA.out.ext HX.out) ha enters_61 (fun x _ w' hx => H61.out y1 y3 y4 x w' ⟨HM.out.ext (HX.out.trans hx), hl, H1.out.ext hx, H3.out.ext hx⟩ (H4.out.ext hx)))
  go_wp2_with fail
  refine HMA.out.mono ?_
  rintro e w2 ⟨u1, rfl, ho1, hx2⟩
  have HX2 := Lib.hid (HX.out.trans hx2)
  have HO1 := Lib.hid (own_base ho1 HX.out.size)
  have G0 := Lib.hid (H0.out.ext hx2)
  have G1 := Lib.hid (H1.out.ext hx2)
  have G2 := Lib.hid (H2.out.ext hx2)
  have G3 := Lib.hid (H3.out.ext hx2)
  clear k0 ho1 hx2 HX H0 H1 H2 H3 H4 HMA H61
  have k0 := G0.out.cell (i := 0) rfl
  have f0 := G0.out.frozen 0
  obtain ⟨ua, uc, rfl⟩ := own_vw HO1.out
  go_upto_region 4 with fail
  have hgs := grown_set w2 y0 0 (.slice ua atoms.length uc)
  have K0 := Lib.hid (show RowAt (w2.setCell ⟨y0, 0, none⟩ (.slice ua atoms.length uc)) y0 25 [.slice ua atoms.length uc, .slice rva ret.length rvc, .bool cn, .bool ds, .bool lm, .int .i64 li, .int .i64 off, .slice hva hint.length hvc] from G0.out.set 0 _)
  have K1 := Lib.hid (G1.out.kept hgs (fun e => HN.out.2.2.1 (Option.some.inj e)))
  have K2 := Lib.hid (G2.out.kept hgs (fun e => HN.out.2.2.2.1 (Option.some.inj e)))
  have K3 := Lib.hid (G3.out.kept hgs (fun e => HN.out.2.2.2.2.1 (Option.some.inj e)))
  have HX3 := Lib.hid (Ext.set_of HX2.out HN.out.1 (o := 0) (.slice ua atoms.length uc))
  have HO1' := Lib.hid (own_turn HO1.out G0.out (by decide) hgs)
  clear hgs k0 f0 G0 G1 G2 G3 HX2 HO1
  generalize w2.setCell ⟨y0, 0, none⟩ (.slice ua atoms.length uc) = w3 at *
  refine wp_region_gro prG7 [0, 1, 2, 4, 5, 6, 3, 8, 7, 9, 10, 11] hmo (by kernel_rfl) rfl (by kernel_rfl) (fun _ _ _ _ _ h => h) ?_
  have hxd : Ext w3 w3.drew := Ext.drewN w3 1
  replace HX3 := Lib.hid (HX3.out.trans hxd)
  replace K0 := Lib.hid (K0.out.ext hxd)
  replace K1 := Lib.hid (K1.out.ext hxd)
  replace K2 := Lib.hid (K2.out.ext hxd)
  replace K3 := Lib.hid (K3.out.ext hxd)
  replace HO1' := Lib.hid (own_ext HO1'.out hxd)
  clear hxd
  generalize w3.drew = w4 at *
  have HMR := Lib.hid (madeSS_any (.slice rva ret.length rvc) ret f 58 #[.pointer (some ⟨y1, 0, none⟩)] w4 (Strs.ext HR.out HX3.out) hr enters_58 (fun x _ w' hx => (H58.out y1 x w' (HM.out.ext (HX3.out.trans hx)) (K1.out.ext hx)).mono fun e w'' ⟨he, hw⟩ => ⟨he, hw ▸ Ext.refl _⟩))
  have k3 := K3.out.cell (i := 0) rfl
  have k1 := K0.out.cell (i := 1) rfl
  have k7 := K0.out.cell (i := 7) rfl
  repeat (first
    | (refine groL_pure rfl rfl ?_; intro K hK; go_simp; refine hK _ ?_; clear hK K)
    | (refine groL_read rfl rfl ?_; intro K S hS hK; go_simp; refine hK _ ?_; clear hK K hS S)
    | (refine groL_read rfl rfl ?_; intro K S hS hK; go_simp; refine ⟨hS _ ?_, hK _ ?_⟩; (clear hK K hS S; intro w' hx'; have hce := ext_some hx'; go_simp); clear hK K hS S)
    | (refine groL_write rfl rfl ?_; intro K hK; go_simp; refine hK _ _ ?_; clear hK K))
  clear k3 k1 k7
  refine groL_grow rfl rfl ?_
  intro K hK
  go_simp
  (refine HMR.out.mono ?_; rintro e w5 ⟨u2, rfl, ho2, hx5⟩)
  go_simp
  refine hK _ _ ⟨hx5, ?_⟩
  clear hK K
  have HO2 := Lib.hid (own_base ho2 HX3.out.size)
  have HX5 := Lib.hid (HX3.out.trans hx5)
  have L0 := Lib.hid (K0.out.ext hx5)
  have L1 := Lib.hid (K1.out.ext hx5)
  have L2 := Lib.hid (K2.out.ext hx5)
  have HO15 := Lib.hid (own_ext HO1'.out hx5)
  clear ho2 hx5 HMR HX3 K0 K1 K2 K3 HO1'
  have HMH := Lib.hid (madeSS_any (.slice hva hint.length hvc) hint f 58 #[.pointer (some ⟨y1, 0, none⟩)] w5 (Strs.ext HH.out HX5.out) hh enters_58 (fun x _ w' hx => (H58.out y1 x w' (HM.out.ext (HX5.out.trans hx)) (L1.out.ext hx)).mono fun e w'' ⟨he, hw⟩ => ⟨he, hw ▸ Ext.refl _⟩))
  repeat (first
    | (refine groL_pure rfl rfl ?_; intro K hK; go_simp; refine hK _ ?_; clear hK K)
    | (refine groL_read rfl rfl ?_; intro K S hS hK; go_simp; refine hK _ ?_; clear hK K hS S)
    | (refine groL_read rfl rfl ?_; intro K S hS hK; go_simp; refine ⟨hS _ ?_, hK _ ?_⟩; (clear hK K hS S; intro w' hx'; have hce := ext_some hx'; go_simp); clear hK K hS S)
    | (refine groL_write rfl rfl ?_; intro K hK; go_simp; refine hK _ _ ?_; clear hK K))
  refine groL_grow rfl rfl ?_
  intro K hK
  go_simp
  (refine HMH.out.mono ?_; rintro e w6 ⟨u3, rfl, ho3, hx6⟩)
  go_simp
  refine hK _ _ ⟨hx6, ?_⟩
  clear hK K
  have HO3 := Lib.hid (own_base ho3 HX5.out.size)
  have HX6 := Lib.hid (HX5.out.trans hx6)
  have M0 := Lib.hid (L0.out.ext hx6)
  have M2 := Lib.hid (L2.out.ext hx6)
  have HO16 := Lib.hid (own_ext HO15.out hx6)
  have HO26 := Lib.hid (own_ext HO2.out hx6)
  clear ho3 hx6 HMH HX5 L0 L1 L2 HO15 HO2 H58 HM HA HR HH
  obtain ⟨sa, sc, rfl⟩ := own_vw HO26.out
  obtain ⟨ta, tc, rfl⟩ := own_vw HO3.out
  have f1 := M0.out.frozen 1
  have f7 := M0.out.frozen 7
  have k1 := M0.out.cell (i := 1) rfl
  have k7 := M0.out.cell (i := 7) rfl
  repeat (first
    | (refine groL_pure rfl rfl ?_; intro K hK; go_simp; refine hK _ ?_; clear hK K)
    | (refine groL_read rfl rfl ?_; intro K S hS hK; go_simp; refine hK _ ?_; clear hK K hS S)
    | (refine groL_read rfl rfl ?_; intro K S hS hK; go_simp; refine ⟨hS _ ?_, hK _ ?_⟩; (clear hK K hS S; intro w' hx'; have hce := ext_some hx'; go_simp); clear hK K hS S)
    | (refine groL_write rfl rfl ?_; intro K hK; go_simp; refine hK _ _ ?_; clear hK K))
  refine groL_nil ?_
  have hg1 := grown_set w6 y0 1 (.slice sa ret.length sc)
  have hg2 := grown_set (w6.setCell ⟨y0, 1, none⟩ (.slice sa ret.length sc)) y0 7 (.slice ta hint.length tc)
  have N1 := Lib.hid (show RowAt (w6.setCell ⟨y0, 1, none⟩ (.slice sa ret.length sc)) y0 25 [.slice ua atoms.length uc, .slice sa ret.length sc, .bool cn, .bool ds, .bool lm, .int .i64 li, .int .i64 off, .slice hva hint.length hvc] from M0.out.set 1 _)
  have N0 := Lib.hid (show RowAt ((w6.setCell ⟨y0, 1, none⟩ (.slice sa ret.length sc)).setCell ⟨y0, 7, none⟩ (.slice ta hint.length tc)) y0 25 [.slice ua atoms.length uc, .slice sa ret.length sc, .bool cn, .bool ds, .bool lm, .int .i64 li, .int .i64 off, .slice ta hint.length tc] from N1.out.set 7 _)
  have hn : (some y0 : Option Nat) ≠ some y2 := fun e => HN.out.2.2.2.1 (Option.some.inj e)
  have N2 := Lib.hid ((M2.out.kept hg1 hn).kept hg2 hn)
  have HX7 := Lib.hid (Ext.set_of (Ext.set_of HX6.out HN.out.1 (o := 1) (.slice sa ret.length sc)) HN.out.1 (o := 7) (.slice ta hint.length tc))
  have HP1 := Lib.hid (own_turn (own_turn HO16.out M0.out (by decide) hg1) N1.out (by decide) hg2)
  have HP2 := Lib.hid (own_turn (own_turn HO26.out M0.out (by decide) hg1) N1.out (by decide) hg2)
  have HP3 := Lib.hid (own_turn (own_turn HO3.out M0.out (by decide) hg1) N1.out (by decide) hg2)
  clear hg1 hg2 hn N1 f1 f7 k1 k7 M0 M2 HX6 HO16 HO26 HO3
  generalize (w6.setCell ⟨y0, 1, none⟩ (.slice sa ret.length sc)).setCell ⟨y0, 7, none⟩ (.slice ta hint.length tc) = w7 at *
  go_upto_region 5 with fail
  apply wp_region_lit
  -- a load of a whole row: y0 block, N0.out fact RowAt, api.Pattern the type's name
  refine plain_load rfl _ _ rfl y0 rfl _ _ (N0.out) Tryz.underlying25 rfl (by kernel_rfl) ?_
  go_simp
  refine plain_store rfl _ _ _ rfl y2 [.slice ua atoms.length uc, .slice sa ret.length sc, .bool cn, .bool ds, .bool lm, .int .i64 li, .int .i64 off, .slice ta hint.length tc] rfl rfl N2.out (by kernel_rfl) rfl (by simp [Value.oneCell']) ?_
  have HY := Lib.hid (N2.out.setRow [.slice ua atoms.length uc, .slice sa ret.length sc, .bool cn, .bool ds, .bool lm, .int .i64 li, .int .i64 off, .slice ta hint.length tc])
  have HXY := Lib.hid (show Ext w (w7.setRow y2 ([.slice ua atoms.length uc, .slice sa ret.length sc, .bool cn, .bool ds, .bool lm, .int .i64 li, .int .i64 off, .slice ta hint.length tc] : List Value).toArray) from below_setRow HX7.out HN.out.2.1 _)
  have hgr := setRow_grown w7 y2 ([.slice ua atoms.length uc, .slice sa ret.length sc, .bool cn, .bool ds, .bool lm, .int .i64 li, .int .i64 off, .slice ta hint.length tc] : List Value).toArray
  have HQ1 := Lib.hid (own_turn HP1.out N2.out (by decide) hgr)
  have HQ2 := Lib.hid (own_turn HP2.out N2.out (by decide) hgr)
  have HQ3 := Lib.hid (own_turn HP3.out N2.out (by decide) hgr)
  clear hgr N0 N2 HX7 HP1 HP2 HP3
  generalize w7.setRow y2 ([.slice ua atoms.length uc, .slice sa ret.length sc, .bool cn, .bool ds, .bool lm, .int .i64 li, .int .i64 off, .slice ta hint.length tc] : List Value).toArray = w8 at *
  have HPI := Lib.hid (show PatIn w.heap.size w8 (.agg #[.slice ua atoms.length uc, .slice sa ret.length sc, .bool cn, .bool ds, .bool lm, .int .i64 li, .int .i64 off, .slice ta hint.length tc]) ⟨atoms.map (turnA f), ret.map f, cn, ds, lm, li, off, hint.map f⟩ from
    ⟨.slice ua atoms.length uc, .slice sa ret.length sc, .slice ta hint.length tc, rfl, by dsimp only; rw [List.length_map]; exact HQ1.out, by dsimp only; rw [List.length_map]; exact HQ2.out, by dsimp only; rw [List.length_map]; exact HQ3.out⟩)
  clear HQ1 HQ2 HQ3
  go_simp
  apply wpList_nil
  go_wp2_with fail
  exact bodyPost_ret (results_row0 rfl rfl HY.out Tryz.underlying25 rfl (by kernel_rfl)) rfl ⟨_, rfl, HPI.out, HXY.out⟩
end Go.Proofs.YthoneahamnmjlaaGreatDoor
