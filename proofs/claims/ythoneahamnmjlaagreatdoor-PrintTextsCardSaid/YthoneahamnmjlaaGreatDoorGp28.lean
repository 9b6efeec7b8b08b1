/- The text of an atom, by its kind. -/
import Derived.Test.YthoneahamnmjlaaGreatDoorGp26
import Derived.Test.YthoneahamnmjlaaGreatDoorGp03
namespace Go.Proofs.YthoneahamnmjlaaGreatDoor
set_option maxRecDepth 100000
set_option maxHeartbeats 2000000
set_option linter.unusedSimpArgs false
open Go.RowKit Go.Shelf Go.Sort
attribute [local go_sem] Oper.semAt_some wide_fn wide_depth
set_option linter.unusedVariables false

theorem texts_any (w : World) : Calls Tryz.prog 48 #[] w fun e w' => e = .returned (.agg #[.nilFunc, .func (.func 76) #[] #[], .func (.func 77) #[] #[], .func (.func 78) #[] #[], .func (.func 79) #[] #[]]) ∧ Ext w w' := by
  go_enter Tryz.func48, Tryz.ntmps48
  go_wp2
  exact bodyPost_ret (results_row0 rfl rfl (RowAt.new w 74 [.nilFunc, .func (.func 76) #[] #[], .func (.func 77) #[] #[], .func (.func 78) #[] #[], .func (.func 79) #[] #[]]) Tryz.underlying74 rfl (by kernel_rfl)) rfl ⟨rfl, Ext.alloc _ _⟩
theorem Atm.size_of {a : Atm} (h : atomB a = true) : a.fn.size ≤ 40 ∧ a.name.size ≤ 40 ∧ a.value.size ≤ 40 ∧ a.tn.size ≤ 40 := by
  have hw : ∀ s : ByteArray, wordB s = true → s.size ≤ 40 := fun s hs => by
    rw [← wordB_all] at hs
    have := (allB_iff.1 hs).2.2
    rw [bts_len] at this; omega
  have hv : ∀ s : ByteArray, worthB s = true → s.size ≤ 40 := fun s hs => by
    rw [← worthB_all] at hs
    have := (allB_iff.1 hs).2.2
    rw [bts_len] at this; omega
  have hn : nilB.size ≤ 40 := by decide
  obtain ⟨hf, h | h | h | h⟩ := atom_facts h
  · exact ⟨hw _ hf, by rw [h.2.1]; exact hn, by rw [h.2.2.1]; exact hn, by rw [h.2.2.2.2]; exact hn⟩
  · exact ⟨hw _ hf, hw _ h.2.2.2.2, by rw [h.2.1]; exact hn, by rw [h.2.2.2.1]; exact hn⟩
  · exact ⟨hw _ hf, hw _ h.2.2.2.1, hv _ h.2.2.2.2, by rw [h.2.2.1]; exact hn⟩
  · exact ⟨hw _ hf, hw _ h.2.2.1, by rw [h.2.1]; exact hn, hw _ h.2.2.2⟩
def prG5 : Nat → Gro
  | 0 => .grow
  | 2 => .read
  | 4 => .read
  | 6 => .grow
  | _ => .pure

theorem partT1 (fk : Bool) (fn nm va : ByteArray) (tk : Bool) (tn : ByteArray) (w : World) (h1 : fn.size ≤ 40) (h2 : nm.size ≤ 40) (h3 : va.size ≤ 40) (h4 : tn.size ≤ 40) :
    Calls Tryz.prog 68 #[.agg #[.int .i64 1, .bool fk, .string fn, .string nm, .string va, .bool tk, .string tn]] w fun e w' => e = .returned (.string (txt (atomX ⟨1, fk, fn, nm, va, tk, tn⟩))) ∧ Ext w w' := by
  rw [atomX_from _ (show (1 : Int) ≠ 2 by decide) (show (1 : Int) ≠ 3 by decide) (show (1 : Int) ≠ 4 by decide)]
  dsimp only
  have hmo : Tryz.prog.follows .mixedOrders = true := by kernel_rfl
  have hat := fun w' => from_any 1 fk fn nm va tk tn w' (by omega)
  have HX := Lib.hid (Ext.alloc w (.cells #[.int .i64 1, .bool fk, .string fn, .string nm, .string va, .bool tk, .string tn] 40))
  have HB := Lib.hid (RowAt.new w 40 [.int .i64 1, .bool fk, .string fn, .string nm, .string va, .bool tk, .string tn])
  have HA := Lib.hid hat
  have HTX := Lib.hid texts_any
  clear hat
  go_enter Tryz.func68, Tryz.ntmps68
  go_upto_region 1 with fail
  generalize w.alloc (.cells #[.int .i64 1, .bool fk, .string fn, .string nm, .string va, .bool tk, .string tn] 40) = w1 at *
  obtain ⟨y, hy⟩ : ∃ y, w.heap.size = y := ⟨_, rfl⟩
  rw [hy] at HB
  try simp only [hy]
  clear hy
  refine wp_region_gro prG5 [1, 2, 4, 5, 0, 3, 6, 7] hmo (by kernel_rfl) rfl (by kernel_rfl) (fun _ _ _ _ _ h => h) ?_
  have hxd := Ext.drewN w1 1
  have hb := HB.out.ext hxd
  replace HX := Lib.hid (HX.out.trans hxd)
  change GroW _ _ _ _ _ _ w1.drew
  replace hb : RowAt w1.drew y 40 [.int .i64 1, .bool fk, .string fn, .string nm, .string va, .bool tk, .string tn] := hb
  replace HX : Hid (Ext w w1.drew) := HX
  clear hxd HB
  generalize w1.drew = w2 at *
  have d0 := hb.cell (i := 0) rfl
  have d1 := hb.cell (i := 1) rfl
  have d2 := hb.cell (i := 2) rfl
  have d3 := hb.cell (i := 3) rfl
  have d4 := hb.cell (i := 4) rfl
  have d5 := hb.cell (i := 5) rfl
  have d6 := hb.cell (i := 6) rfl
  clear hb
  repeat (first
    | (refine groL_pure rfl rfl ?_; intro K hK; go_simp; refine hK _ ?_; clear hK K)
    | (refine groL_read rfl rfl ?_; intro K S hS hK; go_simp; refine hK _ ?_; clear hK K hS S)
    | (refine groL_read rfl rfl ?_; intro K S hS hK; go_simp; refine ⟨hS _ ?_, hK _ ?_⟩; (clear hK K hS S; intro w' hx'; have hce := ext_some hx'; go_simp); clear hK K hS S)
    | (refine groL_write rfl rfl ?_; intro K hK; go_simp; refine hK _ _ ?_; clear hK K))
  refine groL_grow rfl rfl ?_
  intro K hK
  go_simp
  (refine (HTX.out _).mono ?_; rintro e w3 ⟨rfl, hx3⟩)
  go_simp
  refine hK _ _ ⟨hx3, ?_⟩
  clear hK K
  have hix : ∀ w', (Instr.index 74 (.agg #[.nilFunc, .func (.func 76) #[] #[], .func (.func 77) #[] #[], .func (.func 78) #[] #[], .func (.func 79) #[] #[]]) (.int .i64 1)).run Tryz.prog w' = .ok (.func (.func 76) #[] #[]) w' := fun w' => by kernel_rfl
  repeat (first
    | (refine groL_pure rfl rfl ?_; intro K hK; go_simp; refine hK _ ?_; clear hK K)
    | (refine groL_read rfl rfl ?_; intro K S hS hK; go_simp; refine hK _ ?_; clear hK K hS S)
    | (refine groL_read rfl rfl ?_; intro K S hS hK; go_simp; refine ⟨hS _ ?_, hK _ ?_⟩; (clear hK K hS S; intro w' hx'; have hce := ext_some hx'; go_simp); clear hK K hS S)
    | (refine groL_write rfl rfl ?_; intro K hK; go_simp; refine hK _ _ ?_; clear hK K))
  refine groL_grow rfl rfl ?_
  intro K hK
  go_simp
  (refine (HA.out _).mono ?_; rintro e w4 ⟨rfl, hx4⟩)
  go_simp
  refine hK _ _ ⟨hx4, ?_⟩
  clear hK K
  repeat (first
    | (refine groL_pure rfl rfl ?_; intro K hK; go_simp; refine hK _ ?_; clear hK K)
    | (refine groL_read rfl rfl ?_; intro K S hS hK; go_simp; refine hK _ ?_; clear hK K hS S)
    | (refine groL_read rfl rfl ?_; intro K S hS hK; go_simp; refine ⟨hS _ ?_, hK _ ?_⟩; (clear hK K hS S; intro w' hx'; have hce := ext_some hx'; go_simp); clear hK K hS S)
    | (refine groL_write rfl rfl ?_; intro K hK; go_simp; refine hK _ _ ?_; clear hK K))
  refine groL_nil ?_
  go_wp2_with fail
  go_ret
  exact ⟨by first | rfl | (simp; done) | (simp; rfl), HX.out.trans (hx3.trans hx4)⟩
theorem partT2 (fk : Bool) (fn nm va : ByteArray) (tk : Bool) (tn : ByteArray) (w : World) (h1 : fn.size ≤ 40) (h2 : nm.size ≤ 40) (h3 : va.size ≤ 40) (h4 : tn.size ≤ 40) :
    Calls Tryz.prog 68 #[.agg #[.int .i64 2, .bool fk, .string fn, .string nm, .string va, .bool tk, .string tn]] w fun e w' => e = .returned (.string (txt (atomX ⟨2, fk, fn, nm, va, tk, tn⟩))) ∧ Ext w w' := by
  rw [atomX_label _ rfl]
  dsimp only
  have hmo : Tryz.prog.follows .mixedOrders = true := by kernel_rfl
  have hat := fun w' => label_any 2 fk fn nm va tk tn w' (by omega) (by omega)
  have HX := Lib.hid (Ext.alloc w (.cells #[.int .i64 2, .bool fk, .string fn, .string nm, .string va, .bool tk, .string tn] 40))
  have HB := Lib.hid (RowAt.new w 40 [.int .i64 2, .bool fk, .string fn, .string nm, .string va, .bool tk, .string tn])
  have HA := Lib.hid hat
  have HTX := Lib.hid texts_any
  clear hat
  go_enter Tryz.func68, Tryz.ntmps68
  go_upto_region 1 with fail
  generalize w.alloc (.cells #[.int .i64 2, .bool fk, .string fn, .string nm, .string va, .bool tk, .string tn] 40) = w1 at *
  obtain ⟨y, hy⟩ : ∃ y, w.heap.size = y := ⟨_, rfl⟩
  rw [hy] at HB
  try simp only [hy]
  clear hy
  refine wp_region_gro prG5 [1, 2, 4, 5, 0, 3, 6, 7] hmo (by kernel_rfl) rfl (by kernel_rfl) (fun _ _ _ _ _ h => h) ?_
  have hxd := Ext.drewN w1 1
  have hb := HB.out.ext hxd
  replace HX := Lib.hid (HX.out.trans hxd)
  change GroW _ _ _ _ _ _ w1.drew
  replace hb : RowAt w1.drew y 40 [.int .i64 2, .bool fk, .string fn, .string nm, .string va, .bool tk, .string tn] := hb
  replace HX : Hid (Ext w w1.drew) := HX
  clear hxd HB
  generalize w1.drew = w2 at *
  have d0 := hb.cell (i := 0) rfl
  have d1 := hb.cell (i := 1) rfl
  have d2 := hb.cell (i := 2) rfl
  have d3 := hb.cell (i := 3) rfl
  have d4 := hb.cell (i := 4) rfl
  have d5 := hb.cell (i := 5) rfl
  have d6 := hb.cell (i := 6) rfl
  clear hb
  repeat (first
    | (refine groL_pure rfl rfl ?_; intro K hK; go_simp; refine hK _ ?_; clear hK K)
    | (refine groL_read rfl rfl ?_; intro K S hS hK; go_simp; refine hK _ ?_; clear hK K hS S)
    | (refine groL_read rfl rfl ?_; intro K S hS hK; go_simp; refine ⟨hS _ ?_, hK _ ?_⟩; (clear hK K hS S; intro w' hx'; have hce := ext_some hx'; go_simp); clear hK K hS S)
    | (refine groL_write rfl rfl ?_; intro K hK; go_simp; refine hK _ _ ?_; clear hK K))
  refine groL_grow rfl rfl ?_
  intro K hK
  go_simp
  (refine (HTX.out _).mono ?_; rintro e w3 ⟨rfl, hx3⟩)
  go_simp
  refine hK _ _ ⟨hx3, ?_⟩
  clear hK K
  have hix : ∀ w', (Instr.index 74 (.agg #[.nilFunc, .func (.func 76) #[] #[], .func (.func 77) #[] #[], .func (.func 78) #[] #[], .func (.func 79) #[] #[]]) (.int .i64 2)).run Tryz.prog w' = .ok (.func (.func 77) #[] #[]) w' := fun w' => by kernel_rfl
  repeat (first
    | (refine groL_pure rfl rfl ?_; intro K hK; go_simp; refine hK _ ?_; clear hK K)
    | (refine groL_read rfl rfl ?_; intro K S hS hK; go_simp; refine hK _ ?_; clear hK K hS S)
    | (refine groL_read rfl rfl ?_; intro K S hS hK; go_simp; refine ⟨hS _ ?_, hK _ ?_⟩; (clear hK K hS S; intro w' hx'; have hce := ext_some hx'; go_simp); clear hK K hS S)
    | (refine groL_write rfl rfl ?_; intro K hK; go_simp; refine hK _ _ ?_; clear hK K))
  refine groL_grow rfl rfl ?_
  intro K hK
  go_simp
  (refine (HA.out _).mono ?_; rintro e w4 ⟨rfl, hx4⟩)
  go_simp
  refine hK _ _ ⟨hx4, ?_⟩
  clear hK K
  repeat (first
    | (refine groL_pure rfl rfl ?_; intro K hK; go_simp; refine hK _ ?_; clear hK K)
    | (refine groL_read rfl rfl ?_; intro K S hS hK; go_simp; refine hK _ ?_; clear hK K hS S)
    | (refine groL_read rfl rfl ?_; intro K S hS hK; go_simp; refine ⟨hS _ ?_, hK _ ?_⟩; (clear hK K hS S; intro w' hx'; have hce := ext_some hx'; go_simp); clear hK K hS S)
    | (refine groL_write rfl rfl ?_; intro K hK; go_simp; refine hK _ _ ?_; clear hK K))
  refine groL_nil ?_
  go_wp2_with fail
  go_ret
  exact ⟨by first | rfl | (simp; done) | (simp; rfl), HX.out.trans (hx3.trans hx4)⟩
theorem partT3 (fk : Bool) (fn nm va : ByteArray) (tk : Bool) (tn : ByteArray) (w : World) (h1 : fn.size ≤ 40) (h2 : nm.size ≤ 40) (h3 : va.size ≤ 40) (h4 : tn.size ≤ 40) :
    Calls Tryz.prog 68 #[.agg #[.int .i64 3, .bool fk, .string fn, .string nm, .string va, .bool tk, .string tn]] w fun e w' => e = .returned (.string (txt (atomX ⟨3, fk, fn, nm, va, tk, tn⟩))) ∧ Ext w w' := by
  rw [atomX_prop _ rfl]
  dsimp only
  have hmo : Tryz.prog.follows .mixedOrders = true := by kernel_rfl
  have hat := fun w' => prop_any 3 fk fn nm va tk tn w' (by omega) (by omega) (by omega)
  have HX := Lib.hid (Ext.alloc w (.cells #[.int .i64 3, .bool fk, .string fn, .string nm, .string va, .bool tk, .string tn] 40))
  have HB := Lib.hid (RowAt.new w 40 [.int .i64 3, .bool fk, .string fn, .string nm, .string va, .bool tk, .string tn])
  have HA := Lib.hid hat
  have HTX := Lib.hid texts_any
  clear hat
  go_enter Tryz.func68, Tryz.ntmps68
  go_upto_region 1 with fail
  generalize w.alloc (.cells #[.int .i64 3, .bool fk, .string fn, .string nm, .string va, .bool tk, .string tn] 40) = w1 at *
  obtain ⟨y, hy⟩ : ∃ y, w.heap.size = y := ⟨_, rfl⟩
  rw [hy] at HB
  try simp only [hy]
  clear hy
  refine wp_region_gro prG5 [1, 2, 4, 5, 0, 3, 6, 7] hmo (by kernel_rfl) rfl (by kernel_rfl) (fun _ _ _ _ _ h => h) ?_
  have hxd := Ext.drewN w1 1
  have hb := HB.out.ext hxd
  replace HX := Lib.hid (HX.out.trans hxd)
  change GroW _ _ _ _ _ _ w1.drew
  replace hb : RowAt w1.drew y 40 [.int .i64 3, .bool fk, .string fn, .string nm, .string va, .bool tk, .string tn] := hb
  replace HX : Hid (Ext w w1.drew) := HX
  clear hxd HB
  generalize w1.drew = w2 at *
  have d0 := hb.cell (i := 0) rfl
  have d1 := hb.cell (i := 1) rfl
  have d2 := hb.cell (i := 2) rfl
  have d3 := hb.cell (i := 3) rfl
  have d4 := hb.cell (i := 4) rfl
  have d5 := hb.cell (i := 5) rfl
  have d6 := hb.cell (i := 6) rfl
  clear hb
  repeat (first
    | (refine groL_pure rfl rfl ?_; intro K hK; go_simp; refine hK _ ?_; clear hK K)
    | (refine groL_read rfl rfl ?_; intro K S hS hK; go_simp; refine hK _ ?_; clear hK K hS S)
    | (refine groL_read rfl rfl ?_; intro K S hS hK; go_simp; refine ⟨hS _ ?_, hK _ ?_⟩; (clear hK K hS S; intro w' hx'; have hce := ext_some hx'; go_simp); clear hK K hS S)
    | (refine groL_write rfl rfl ?_; intro K hK; go_simp; refine hK _ _ ?_; clear hK K))
  refine groL_grow rfl rfl ?_
  intro K hK
  go_simp
  (refine (HTX.out _).mono ?_; rintro e w3 ⟨rfl, hx3⟩)
  go_simp
  refine hK _ _ ⟨hx3, ?_⟩
  clear hK K
  have hix : ∀ w', (Instr.index 74 (.agg #[.nilFunc, .func (.func 76) #[] #[], .func (.func 77) #[] #[], .func (.func 78) #[] #[], .func (.func 79) #[] #[]]) (.int .i64 3)).run Tryz.prog w' = .ok (.func (.func 78) #[] #[]) w' := fun w' => by kernel_rfl
  repeat (first
    | (refine groL_pure rfl rfl ?_; intro K hK; go_simp; refine hK _ ?_; clear hK K)
    | (refine groL_read rfl rfl ?_; intro K S hS hK; go_simp; refine hK _ ?_; clear hK K hS S)
    | (refine groL_read rfl rfl ?_; intro K S hS hK; go_simp; refine ⟨hS _ ?_, hK _ ?_⟩; (clear hK K hS S; intro w' hx'; have hce := ext_some hx'; go_simp); clear hK K hS S)
    | (refine groL_write rfl rfl ?_; intro K hK; go_simp; refine hK _ _ ?_; clear hK K))
  refine groL_grow rfl rfl ?_
  intro K hK
  go_simp
  (refine (HA.out _).mono ?_; rintro e w4 ⟨rfl, hx4⟩)
  go_simp
  refine hK _ _ ⟨hx4, ?_⟩
  clear hK K
  repeat (first
    | (refine groL_pure rfl rfl ?_; intro K hK; go_simp; refine hK _ ?_; clear hK K)
    | (refine groL_read rfl rfl ?_; intro K S hS hK; go_simp; refine hK _ ?_; clear hK K hS S)
    | (refine groL_read rfl rfl ?_; intro K S hS hK; go_simp; refine ⟨hS _ ?_, hK _ ?_⟩; (clear hK K hS S; intro w' hx'; have hce := ext_some hx'; go_simp); clear hK K hS S)
    | (refine groL_write rfl rfl ?_; intro K hK; go_simp; refine hK _ _ ?_; clear hK K))
  refine groL_nil ?_
  go_wp2_with fail
  go_ret
  exact ⟨by first | rfl | (simp; done) | (simp; rfl), HX.out.trans (hx3.trans hx4)⟩
theorem partT4 (fk : Bool) (fn nm va : ByteArray) (tk : Bool) (tn : ByteArray) (w : World) (h1 : fn.size ≤ 40) (h2 : nm.size ≤ 40) (h3 : va.size ≤ 40) (h4 : tn.size ≤ 40) :
    Calls Tryz.prog 68 #[.agg #[.int .i64 4, .bool fk, .string fn, .string nm, .string va, .bool tk, .string tn]] w fun e w' => e = .returned (.string (txt (atomX ⟨4, fk, fn, nm, va, tk, tn⟩))) ∧ Ext w w' := by
  rw [atomX_edge _ rfl]
  dsimp only
  have hmo : Tryz.prog.follows .mixedOrders = true := by kernel_rfl
  have hat := fun w' => edge_any 4 fk fn nm va tk tn w' (by omega) (by omega) (by omega)
  have HX := Lib.hid (Ext.alloc w (.cells #[.int .i64 4, .bool fk, .string fn, .string nm, .string va, .bool tk, .string tn] 40))
  have HB := Lib.hid (RowAt.new w 40 [.int .i64 4, .bool fk, .string fn, .string nm, .string va, .bool tk, .string tn])
  have HA := Lib.hid hat
  have HTX := Lib.hid texts_any
  clear hat
  go_enter Tryz.func68, Tryz.ntmps68
  go_upto_region 1 with fail
  generalize w.alloc (.cells #[.int .i64 4, .bool fk, .string fn, .string nm, .string va, .bool tk, .string tn] 40) = w1 at *
  obtain ⟨y, hy⟩ : ∃ y, w.heap.size = y := ⟨_, rfl⟩
  rw [hy] at HB
  try simp only [hy]
  clear hy
  refine wp_region_gro prG5 [1, 2, 4, 5, 0, 3, 6, 7] hmo (by kernel_rfl) rfl (by kernel_rfl) (fun _ _ _ _ _ h => h) ?_
  have hxd := Ext.drewN w1 1
  have hb := HB.out.ext hxd
  replace HX := Lib.hid (HX.out.trans hxd)
  change GroW _ _ _ _ _ _ w1.drew
  replace hb : RowAt w1.drew y 40 [.int .i64 4, .bool fk, .string fn, .string nm, .string va, .bool tk, .string tn] := hb
  replace HX : Hid (Ext w w1.drew) := HX
  clear hxd HB
  generalize w1.drew = w2 at *
  have d0 := hb.cell (i := 0) rfl
  have d1 := hb.cell (i := 1) rfl
  have d2 := hb.cell (i := 2) rfl
  have d3 := hb.cell (i := 3) rfl
  have d4 := hb.cell (i := 4) rfl
  have d5 := hb.cell (i := 5) rfl
  have d6 := hb.cell (i := 6) rfl
  clear hb
  repeat (first
    | (refine groL_pure rfl rfl ?_; intro K hK; go_simp; refine hK _ ?_; clear hK K)
    | (refine groL_read rfl rfl ?_; intro K S hS hK; go_simp; refine hK _ ?_; clear hK K hS S)
    | (refine groL_read rfl rfl ?_; intro K S hS hK; go_simp; refine ⟨hS _ ?_, hK _ ?_⟩; (clear hK K hS S; intro w' hx'; have hce := ext_some hx'; go_simp); clear hK K hS S)
    | (refine groL_write rfl rfl ?_; intro K hK; go_simp; refine hK _ _ ?_; clear hK K))
  refine groL_grow rfl rfl ?_
  intro K hK
  go_simp
  (refine (HTX.out _).mono ?_; rintro e w3 ⟨rfl, hx3⟩)
  go_simp
  refine hK _ _ ⟨hx3, ?_⟩
  clear hK K
  have hix : ∀ w', (Instr.index 74 (.agg #[.nilFunc, .func (.func 76) #[] #[], .func (.func 77) #[] #[], .func (.func 78) #[] #[], .func (.func 79) #[] #[]]) (.int .i64 4)).run Tryz.prog w' = .ok (.func (.func 79) #[] #[]) w' := fun w' => by kernel_rfl
  repeat (first
    | (refine groL_pure rfl rfl ?_; intro K hK; go_simp; refine hK _ ?_; clear hK K)
    | (refine groL_read rfl rfl ?_; intro K S hS hK; go_simp; refine hK _ ?_; clear hK K hS S)
    | (refine groL_read rfl rfl ?_; intro K S hS hK; go_simp; refine ⟨hS _ ?_, hK _ ?_⟩; (clear hK K hS S; intro w' hx'; have hce := ext_some hx'; go_simp); clear hK K hS S)
    | (refine groL_write rfl rfl ?_; intro K hK; go_simp; refine hK _ _ ?_; clear hK K))
  refine groL_grow rfl rfl ?_
  intro K hK
  go_simp
  (refine (HA.out _).mono ?_; rintro e w4 ⟨rfl, hx4⟩)
  go_simp
  refine hK _ _ ⟨hx4, ?_⟩
  clear hK K
  repeat (first
    | (refine groL_pure rfl rfl ?_; intro K hK; go_simp; refine hK _ ?_; clear hK K)
    | (refine groL_read rfl rfl ?_; intro K S hS hK; go_simp; refine hK _ ?_; clear hK K hS S)
    | (refine groL_read rfl rfl ?_; intro K S hS hK; go_simp; refine ⟨hS _ ?_, hK _ ?_⟩; (clear hK K hS S; intro w' hx'; have hce := ext_some hx'; go_simp); clear hK K hS S)
    | (refine groL_write rfl rfl ?_; intro K hK; go_simp; refine hK _ _ ?_; clear hK K))
  refine groL_nil ?_
  go_wp2_with fail
  go_ret
  exact ⟨by first | rfl | (simp; done) | (simp; rfl), HX.out.trans (hx3.trans hx4)⟩
/-- A pattern of one atom. -/
def oneP (a : Atm) : Pat := ⟨[a], [], false, false, false, 0, 0, []⟩
theorem oneP_check (a : Atm) (hf : a.Fits) (w : World) : Calls Tryz.prog 13 #[.agg #[.slice (some ⟨w.heap.size, 0, none⟩) 1 1, .slice none 0 0, .bool false, .bool false, .bool false, .int .i64 0, .int .i64 0, .slice none 0 0]] (w.alloc (.cells #[.int .i64 a.kind, .bool a.fk, .string a.fn, .string a.name, .string a.value, .bool a.tk, .string a.tn] 40)) fun e w' => e = .returned (.int .i64 (checkE (oneP a))) ∧ Ext (w.alloc (.cells #[.int .i64 a.kind, .bool a.fk, .string a.fn, .string a.name, .string a.value, .bool a.tk, .string a.tn] 40)) w' := by
  have hs := Sl.new w #[.int .i64 a.kind, .bool a.fk, .string a.fn, .string a.name, .string a.value, .bool a.tk, .string a.tn] 40 1 1 (Nat.le_refl _) (by unfold maxLen; omega)
  exact checkP_any _ (oneP a) _ ⟨_, _, _, rfl, (by simpa [Ats, oneP, atCells] using hs), Sl.nil _, Sl.nil _⟩ ⟨fun b hb => by simp [oneP] at hb; subst hb; exact hf, by simp [oneP]⟩
theorem atomP1 (fk : Bool) (fn nm va : ByteArray) (tk : Bool) (tn : ByteArray) (w : World) (h1 : fn.size ≤ 40) (h2 : nm.size ≤ 40) (h3 : va.size ≤ 40) (h4 : tn.size ≤ 40) (hf : Atm.Fits ⟨1, fk, fn, nm, va, tk, tn⟩) (hk : (oneP ⟨1, fk, fn, nm, va, tk, tn⟩).okB = true) :
    Calls Tryz.prog 19 #[.agg #[.int .i64 1, .bool fk, .string fn, .string nm, .string va, .bool tk, .string tn]] w fun e w' => e = .returned (.tuple #[.string (txt (atomX ⟨1, fk, fn, nm, va, tk, tn⟩)), .int .i64 0]) ∧ Ext w w' := by
  rw [atomX_from _ (show (1 : Int) ≠ 2 by decide) (show (1 : Int) ≠ 3 by decide) (show (1 : Int) ≠ 4 by decide)]
  dsimp only
  have hmo : Tryz.prog.follows .mixedOrders = true := by kernel_rfl
  have hat := fun w' => from_any 1 fk fn nm va tk tn w' (by omega)
  have HA := Lib.hid hat
  have HTX := Lib.hid texts_any
  have hc := oneP_check ⟨1, fk, fn, nm, va, tk, tn⟩ hf
  unfold checkE at hc
  rw [if_pos hk] at hc
  have HC := Lib.hid hc
  clear hat hf hk hc
  have HB := Lib.hid (RowAt.new w 40 [.int .i64 1, .bool fk, .string fn, .string nm, .string va, .bool tk, .string tn])
  have HX := Lib.hid (Ext.alloc w (.cells #[.int .i64 1, .bool fk, .string fn, .string nm, .string va, .bool tk, .string tn] 40))
  go_enter Tryz.func19, Tryz.ntmps19
  go_upto_region 1 with fail
  generalize w.alloc (.cells #[.int .i64 1, .bool fk, .string fn, .string nm, .string va, .bool tk, .string tn] 40) = w1 at *
  obtain ⟨y, hy⟩ : ∃ y, w.heap.size = y := ⟨_, rfl⟩
  rw [hy] at HB
  try simp only [hy]
  clear hy
  have d0 := HB.out.cell (i := 0) rfl
  have d1 := HB.out.cell (i := 1) rfl
  have d2 := HB.out.cell (i := 2) rfl
  have d3 := HB.out.cell (i := 3) rfl
  have d4 := HB.out.cell (i := 4) rfl
  have d5 := HB.out.cell (i := 5) rfl
  have d6 := HB.out.cell (i := 6) rfl
  go_wp2_with fail
  refine (HC.out _).mono ?_
  rintro e wc ⟨rfl, hxc⟩
  have hbc := HB.out.ext ((Ext.alloc _ _).trans hxc)
  have HXC := Lib.hid (HX.out.trans ((Ext.alloc _ _).trans hxc))
  clear d0 d1 d2 d3 d4 d5 d6 HB HX hxc
  go_upto_region 4 with fail
  refine wp_region_gro prG5 [1, 2, 4, 5, 0, 3, 6, 7, 8] hmo (by kernel_rfl) rfl (by kernel_rfl) (fun _ _ _ _ _ h => h) ?_
  have hxd := Ext.drewN wc 1
  have hb := hbc.ext hxd
  have HX := Lib.hid (HXC.out.trans hxd)
  change GroW _ _ _ _ _ _ wc.drew
  replace hb : RowAt wc.drew y 40 [.int .i64 1, .bool fk, .string fn, .string nm, .string va, .bool tk, .string tn] := hb
  replace HX : Hid (Ext w wc.drew) := HX
  clear hxd hbc HXC
  generalize wc.drew = w2 at *
  have d0 := hb.cell (i := 0) rfl
  have d1 := hb.cell (i := 1) rfl
  have d2 := hb.cell (i := 2) rfl
  have d3 := hb.cell (i := 3) rfl
  have d4 := hb.cell (i := 4) rfl
  have d5 := hb.cell (i := 5) rfl
  have d6 := hb.cell (i := 6) rfl
  clear hb
  repeat (first
    | (refine groL_pure rfl rfl ?_; intro K hK; go_simp; refine hK _ ?_; clear hK K)
    | (refine groL_read rfl rfl ?_; intro K S hS hK; go_simp; refine hK _ ?_; clear hK K hS S)
    | (refine groL_read rfl rfl ?_; intro K S hS hK; go_simp; refine ⟨hS _ ?_, hK _ ?_⟩; (clear hK K hS S; intro w' hx'; have hce := ext_some hx'; go_simp); clear hK K hS S)
    | (refine groL_write rfl rfl ?_; intro K hK; go_simp; refine hK _ _ ?_; clear hK K))
  refine groL_grow rfl rfl ?_
  intro K hK
  go_simp
  (refine (HTX.out _).mono ?_; rintro e w3 ⟨rfl, hx3⟩)
  go_simp
  refine hK _ _ ⟨hx3, ?_⟩
  clear hK K
  have hix : ∀ w', (Instr.index 74 (.agg #[.nilFunc, .func (.func 76) #[] #[], .func (.func 77) #[] #[], .func (.func 78) #[] #[], .func (.func 79) #[] #[]]) (.int .i64 1)).run Tryz.prog w' = .ok (.func (.func 76) #[] #[]) w' := fun w' => by kernel_rfl
  repeat (first
    | (refine groL_pure rfl rfl ?_; intro K hK; go_simp; refine hK _ ?_; clear hK K)
    | (refine groL_read rfl rfl ?_; intro K S hS hK; go_simp; refine hK _ ?_; clear hK K hS S)
    | (refine groL_read rfl rfl ?_; intro K S hS hK; go_simp; refine ⟨hS _ ?_, hK _ ?_⟩; (clear hK K hS S; intro w' hx'; have hce := ext_some hx'; go_simp); clear hK K hS S)
    | (refine groL_write rfl rfl ?_; intro K hK; go_simp; refine hK _ _ ?_; clear hK K))
  refine groL_grow rfl rfl ?_
  intro K hK
  go_simp
  (refine (HA.out _).mono ?_; rintro e w4 ⟨rfl, hx4⟩)
  go_simp
  refine hK _ _ ⟨hx4, ?_⟩
  clear hK K
  repeat (first
    | (refine groL_pure rfl rfl ?_; intro K hK; go_simp; refine hK _ ?_; clear hK K)
    | (refine groL_read rfl rfl ?_; intro K S hS hK; go_simp; refine hK _ ?_; clear hK K hS S)
    | (refine groL_read rfl rfl ?_; intro K S hS hK; go_simp; refine ⟨hS _ ?_, hK _ ?_⟩; (clear hK K hS S; intro w' hx'; have hce := ext_some hx'; go_simp); clear hK K hS S)
    | (refine groL_write rfl rfl ?_; intro K hK; go_simp; refine hK _ _ ?_; clear hK K))
  refine groL_nil ?_
  go_wp2_with fail
  go_ret2
  exact ⟨by first | rfl | (simp; done) | (simp; rfl), HX.out.trans (hx3.trans hx4)⟩
theorem atomP2 (fk : Bool) (fn nm va : ByteArray) (tk : Bool) (tn : ByteArray) (w : World) (h1 : fn.size ≤ 40) (h2 : nm.size ≤ 40) (h3 : va.size ≤ 40) (h4 : tn.size ≤ 40) (hf : Atm.Fits ⟨2, fk, fn, nm, va, tk, tn⟩) (hk : (oneP ⟨2, fk, fn, nm, va, tk, tn⟩).okB = true) :
    Calls Tryz.prog 19 #[.agg #[.int .i64 2, .bool fk, .string fn, .string nm, .string va, .bool tk, .string tn]] w fun e w' => e = .returned (.tuple #[.string (txt (atomX ⟨2, fk, fn, nm, va, tk, tn⟩)), .int .i64 0]) ∧ Ext w w' := by
  rw [atomX_label _ rfl]
  dsimp only
  have hmo : Tryz.prog.follows .mixedOrders = true := by kernel_rfl
  have hat := fun w' => label_any 2 fk fn nm va tk tn w' (by omega) (by omega)
  have HA := Lib.hid hat
  have HTX := Lib.hid texts_any
  have hc := oneP_check ⟨2, fk, fn, nm, va, tk, tn⟩ hf
  unfold checkE at hc
  rw [if_pos hk] at hc
  have HC := Lib.hid hc
  clear hat hf hk hc
  have HB := Lib.hid (RowAt.new w 40 [.int .i64 2, .bool fk, .string fn, .string nm, .string va, .bool tk, .string tn])
  have HX := Lib.hid (Ext.alloc w (.cells #[.int .i64 2, .bool fk, .string fn, .string nm, .string va, .bool tk, .string tn] 40))
  go_enter Tryz.func19, Tryz.ntmps19
  go_upto_region 1 with fail
  generalize w.alloc (.cells #[.int .i64 2, .bool fk, .string fn, .string nm, .string va, .bool tk, .string tn] 40) = w1 at *
  obtain ⟨y, hy⟩ : ∃ y, w.heap.size = y := ⟨_, rfl⟩
  rw [hy] at HB
  try simp only [hy]
  clear hy
  have d0 := HB.out.cell (i := 0) rfl
  have d1 := HB.out.cell (i := 1) rfl
  have d2 := HB.out.cell (i := 2) rfl
  have d3 := HB.out.cell (i := 3) rfl
  have d4 := HB.out.cell (i := 4) rfl
  have d5 := HB.out.cell (i := 5) rfl
  have d6 := HB.out.cell (i := 6) rfl
  go_wp2_with fail
  refine (HC.out _).mono ?_
  rintro e wc ⟨rfl, hxc⟩
  have hbc := HB.out.ext ((Ext.alloc _ _).trans hxc)
  have HXC := Lib.hid (HX.out.trans ((Ext.alloc _ _).trans hxc))
  clear d0 d1 d2 d3 d4 d5 d6 HB HX hxc
  go_upto_region 4 with fail
  refine wp_region_gro prG5 [1, 2, 4, 5, 0, 3, 6, 7, 8] hmo (by kernel_rfl) rfl (by kernel_rfl) (fun _ _ _ _ _ h => h) ?_
  have hxd := Ext.drewN wc 1
  have hb := hbc.ext hxd
  have HX := Lib.hid (HXC.out.trans hxd)
  change GroW _ _ _ _ _ _ wc.drew
  replace hb : RowAt wc.drew y 40 [.int .i64 2, .bool fk, .string fn, .string nm, .string va, .bool tk, .string tn] := hb
  replace HX : Hid (Ext w wc.drew) := HX
  clear hxd hbc HXC
  generalize wc.drew = w2 at *
  have d0 := hb.cell (i := 0) rfl
  have d1 := hb.cell (i := 1) rfl
  have d2 := hb.cell (i := 2) rfl
  have d3 := hb.cell (i := 3) rfl
  have d4 := hb.cell (i := 4) rfl
  have d5 := hb.cell (i := 5) rfl
  have d6 := hb.cell (i := 6) rfl
  clear hb
  repeat (first
    | (refine groL_pure rfl rfl ?_; intro K hK; go_simp; refine hK _ ?_; clear hK K)
    | (refine groL_read rfl rfl ?_; intro K S hS hK; go_simp; refine hK _ ?_; clear hK K hS S)
    | (refine groL_read rfl rfl ?_; intro K S hS hK; go_simp; refine ⟨hS _ ?_, hK _ ?_⟩; (clear hK K hS S; intro w' hx'; have hce := ext_some hx'; go_simp); clear hK K hS S)
    | (refine groL_write rfl rfl ?_; intro K hK; go_simp; refine hK _ _ ?_; clear hK K))
  refine groL_grow rfl rfl ?_
  intro K hK
  go_simp
  (refine (HTX.out _).mono ?_; rintro e w3 ⟨rfl, hx3⟩)
  go_simp
  refine hK _ _ ⟨hx3, ?_⟩
  clear hK K
  have hix : ∀ w', (Instr.index 74 (.agg #[.nilFunc, .func (.func 76) #[] #[], .func (.func 77) #[] #[], .func (.func 78) #[] #[], .func (.func 79) #[] #[]]) (.int .i64 2)).run Tryz.prog w' = .ok (.func (.func 77) #[] #[]) w' := fun w' => by kernel_rfl
  repeat (first
    | (refine groL_pure rfl rfl ?_; intro K hK; go_simp; refine hK _ ?_; clear hK K)
    | (refine groL_read rfl rfl ?_; intro K S hS hK; go_simp; refine hK _ ?_; clear hK K hS S)
    | (refine groL_read rfl rfl ?_; intro K S hS hK; go_simp; refine ⟨hS _ ?_, hK _ ?_⟩; (clear hK K hS S; intro w' hx'; have hce := ext_some hx'; go_simp); clear hK K hS S)
    | (refine groL_write rfl rfl ?_; intro K hK; go_simp; refine hK _ _ ?_; clear hK K))
  refine groL_grow rfl rfl ?_
  intro K hK
  go_simp
  (refine (HA.out _).mono ?_; rintro e w4 ⟨rfl, hx4⟩)
  go_simp
  refine hK _ _ ⟨hx4, ?_⟩
  clear hK K
  repeat (first
    | (refine groL_pure rfl rfl ?_; intro K hK; go_simp; refine hK _ ?_; clear hK K)
    | (refine groL_read rfl rfl ?_; intro K S hS hK; go_simp; refine hK _ ?_; clear hK K hS S)
    | (refine groL_read rfl rfl ?_; intro K S hS hK; go_simp; refine ⟨hS _ ?_, hK _ ?_⟩; (clear hK K hS S; intro w' hx'; have hce := ext_some hx'; go_simp); clear hK K hS S)
    | (refine groL_write rfl rfl ?_; intro K hK; go_simp; refine hK _ _ ?_; clear hK K))
  refine groL_nil ?_
  go_wp2_with fail
  go_ret2
  exact ⟨by first | rfl | (simp; done) | (simp; rfl), HX.out.trans (hx3.trans hx4)⟩
theorem atomP3 (fk : Bool) (fn nm va : ByteArray) (tk : Bool) (tn : ByteArray) (w : World) (h1 : fn.size ≤ 40) (h2 : nm.size ≤ 40) (h3 : va.size ≤ 40) (h4 : tn.size ≤ 40) (hf : Atm.Fits ⟨3, fk, fn, nm, va, tk, tn⟩) (hk : (oneP ⟨3, fk, fn, nm, va, tk, tn⟩).okB = true) :
    Calls Tryz.prog 19 #[.agg #[.int .i64 3, .bool fk, .string fn, .string nm, .string va, .bool tk, .string tn]] w fun e w' => e = .returned (.tuple #[.string (txt (atomX ⟨3, fk, fn, nm, va, tk, tn⟩)), .int .i64 0]) ∧ Ext w w' := by
  rw [atomX_prop _ rfl]
  dsimp only
  have hmo : Tryz.prog.follows .mixedOrders = true := by kernel_rfl
  have hat := fun w' => prop_any 3 fk fn nm va tk tn w' (by omega) (by omega) (by omega)
  have HA := Lib.hid hat
  have HTX := Lib.hid texts_any
  have hc := oneP_check ⟨3, fk, fn, nm, va, tk, tn⟩ hf
  unfold checkE at hc
  rw [if_pos hk] at hc
  have HC := Lib.hid hc
  clear hat hf hk hc
  have HB := Lib.hid (RowAt.new w 40 [.int .i64 3, .bool fk, .string fn, .string nm, .string va, .bool tk, .string tn])
  have HX := Lib.hid (Ext.alloc w (.cells #[.int .i64 3, .bool fk, .string fn, .string nm, .string va, .bool tk, .string tn] 40))
  go_enter Tryz.func19, Tryz.ntmps19
  go_upto_region 1 with fail
  generalize w.alloc (.cells #[.int .i64 3, .bool fk, .string fn, .string nm, .string va, .bool tk, .string tn] 40) = w1 at *
  obtain ⟨y, hy⟩ : ∃ y, w.heap.size = y := ⟨_, rfl⟩
  rw [hy] at HB
  try simp only [hy]
  clear hy
  have d0 := HB.out.cell (i := 0) rfl
  have d1 := HB.out.cell (i := 1) rfl
  have d2 := HB.out.cell (i := 2) rfl
  have d3 := HB.out.cell (i := 3) rfl
  have d4 := HB.out.cell (i := 4) rfl
  have d5 := HB.out.cell (i := 5) rfl
  have d6 := HB.out.cell (i := 6) rfl
  go_wp2_with fail
  refine (HC.out _).mono ?_
  rintro e wc ⟨rfl, hxc⟩
  have hbc := HB.out.ext ((Ext.alloc _ _).trans hxc)
  have HXC := Lib.hid (HX.out.trans ((Ext.alloc _ _).trans hxc))
  clear d0 d1 d2 d3 d4 d5 d6 HB HX hxc
  go_upto_region 4 with fail
  refine wp_region_gro prG5 [1, 2, 4, 5, 0, 3, 6, 7, 8] hmo (by kernel_rfl) rfl (by kernel_rfl) (fun _ _ _ _ _ h => h) ?_
  have hxd := Ext.drewN wc 1
  have hb := hbc.ext hxd
  have HX := Lib.hid (HXC.out.trans hxd)
  change GroW _ _ _ _ _ _ wc.drew
  replace hb : RowAt wc.drew y 40 [.int .i64 3, .bool fk, .string fn, .string nm, .string va, .bool tk, .string tn] := hb
  replace HX : Hid (Ext w wc.drew) := HX
  clear hxd hbc HXC
  generalize wc.drew = w2 at *
  have d0 := hb.cell (i := 0) rfl
  have d1 := hb.cell (i := 1) rfl
  have d2 := hb.cell (i := 2) rfl
  have d3 := hb.cell (i := 3) rfl
  have d4 := hb.cell (i := 4) rfl
  have d5 := hb.cell (i := 5) rfl
  have d6 := hb.cell (i := 6) rfl
  clear hb
  repeat (first
    | (refine groL_pure rfl rfl ?_; intro K hK; go_simp; refine hK _ ?_; clear hK K)
    | (refine groL_read rfl rfl ?_; intro K S hS hK; go_simp; refine hK _ ?_; clear hK K hS S)
    | (refine groL_read rfl rfl ?_; intro K S hS hK; go_simp; refine ⟨hS _ ?_, hK _ ?_⟩; (clear hK K hS S; intro w' hx'; have hce := ext_some hx'; go_simp); clear hK K hS S)
    | (refine groL_write rfl rfl ?_; intro K hK; go_simp; refine hK _ _ ?_; clear hK K))
  refine groL_grow rfl rfl ?_
  intro K hK
  go_simp
  (refine (HTX.out _).mono ?_; rintro e w3 ⟨rfl, hx3⟩)
  go_simp
  refine hK _ _ ⟨hx3, ?_⟩
  clear hK K
  have hix : ∀ w', (Instr.index 74 (.agg #[.nilFunc, .func (.func 76) #[] #[], .func (.func 77) #[] #[], .func (.func 78) #[] #[], .func (.func 79) #[] #[]]) (.int .i64 3)).run Tryz.prog w' = .ok (.func (.func 78) #[] #[]) w' := fun w' => by kernel_rfl
  repeat (first
    | (refine groL_pure rfl rfl ?_; intro K hK; go_simp; refine hK _ ?_; clear hK K)
    | (refine groL_read rfl rfl ?_; intro K S hS hK; go_simp; refine hK _ ?_; clear hK K hS S)
    | (refine groL_read rfl rfl ?_; intro K S hS hK; go_simp; refine ⟨hS _ ?_, hK _ ?_⟩; (clear hK K hS S; intro w' hx'; have hce := ext_some hx'; go_simp); clear hK K hS S)
    | (refine groL_write rfl rfl ?_; intro K hK; go_simp; refine hK _ _ ?_; clear hK K))
  refine groL_grow rfl rfl ?_
  intro K hK
  go_simp
  (refine (HA.out _).mono ?_; rintro e w4 ⟨rfl, hx4⟩)
  go_simp
  refine hK _ _ ⟨hx4, ?_⟩
  clear hK K
  repeat (first
    | (refine groL_pure rfl rfl ?_; intro K hK; go_simp; refine hK _ ?_; clear hK K)
    | (refine groL_read rfl rfl ?_; intro K S hS hK; go_simp; refine hK _ ?_; clear hK K hS S)
    | (refine groL_read rfl rfl ?_; intro K S hS hK; go_simp; refine ⟨hS _ ?_, hK _ ?_⟩; (clear hK K hS S; intro w' hx'; have hce := ext_some hx'; go_simp); clear hK K hS S)
    | (refine groL_write rfl rfl ?_; intro K hK; go_simp; refine hK _ _ ?_; clear hK K))
  refine groL_nil ?_
  go_wp2_with fail
  go_ret2
  exact ⟨by first | rfl | (simp; done) | (simp; rfl), HX.out.trans (hx3.trans hx4)⟩
theorem atomP4 (fk : Bool) (fn nm va : ByteArray) (tk : Bool) (tn : ByteArray) (w : World) (h1 : fn.size ≤ 40) (h2 : nm.size ≤ 40) (h3 : va.size ≤ 40) (h4 : tn.size ≤ 40) (hf : Atm.Fits ⟨4, fk, fn, nm, va, tk, tn⟩) (hk : (oneP ⟨4, fk, fn, nm, va, tk, tn⟩).okB = true) :
    Calls Tryz.prog 19 #[.agg #[.int .i64 4, .bool fk, .string fn, .string nm, .string va, .bool tk, .string tn]] w fun e w' => e = .returned (.tuple #[.string (txt (atomX ⟨4, fk, fn, nm, va, tk, tn⟩)), .int .i64 0]) ∧ Ext w w' := by
  rw [atomX_edge _ rfl]
  dsimp only
  have hmo : Tryz.prog.follows .mixedOrders = true := by kernel_rfl
  have hat := fun w' => edge_any 4 fk fn nm va tk tn w' (by omega) (by omega) (by omega)
  have HA := Lib.hid hat
  have HTX := Lib.hid texts_any
  have hc := oneP_check ⟨4, fk, fn, nm, va, tk, tn⟩ hf
  unfold checkE at hc
  rw [if_pos hk] at hc
  have HC := Lib.hid hc
  clear hat hf hk hc
  have HB := Lib.hid (RowAt.new w 40 [.int .i64 4, .bool fk, .string fn, .string nm, .string va, .bool tk, .string tn])
  have HX := Lib.hid (Ext.alloc w (.cells #[.int .i64 4, .bool fk, .string fn, .string nm, .string va, .bool tk, .string tn] 40))
  go_enter Tryz.func19, Tryz.ntmps19
  go_upto_region 1 with fail
  generalize w.alloc (.cells #[.int .i64 4, .bool fk, .string fn, .string nm, .string va, .bool tk, .string tn] 40) = w1 at *
  obtain ⟨y, hy⟩ : ∃ y, w.heap.size = y := ⟨_, rfl⟩
  rw [hy] at HB
  try simp only [hy]
  clear hy
  have d0 := HB.out.cell (i := 0) rfl
  have d1 := HB.out.cell (i := 1) rfl
  have d2 := HB.out.cell (i := 2) rfl
  have d3 := HB.out.cell (i := 3) rfl
  have d4 := HB.out.cell (i := 4) rfl
  have d5 := HB.out.cell (i := 5) rfl
  have d6 := HB.out.cell (i := 6) rfl
  go_wp2_with fail
  refine (HC.out _).mono ?_
  rintro e wc ⟨rfl, hxc⟩
  have hbc := HB.out.ext ((Ext.alloc _ _).trans hxc)
  have HXC := Lib.hid (HX.out.trans ((Ext.alloc _ _).trans hxc))
  clear d0 d1 d2 d3 d4 d5 d6 HB HX hxc
  go_upto_region 4 with fail
  refine wp_region_gro prG5 [1, 2, 4, 5, 0, 3, 6, 7, 8] hmo (by kernel_rfl) rfl (by kernel_rfl) (fun _ _ _ _ _ h => h) ?_
  have hxd := Ext.drewN wc 1
  have hb := hbc.ext hxd
  have HX := Lib.hid (HXC.out.trans hxd)
  change GroW _ _ _ _ _ _ wc.drew
  replace hb : RowAt wc.drew y 40 [.int .i64 4, .bool fk, .string fn, .string nm, .string va, .bool tk, .string tn] := hb
  replace HX : Hid (Ext w wc.drew) := HX
  clear hxd hbc HXC
  generalize wc.drew = w2 at *
  have d0 := hb.cell (i := 0) rfl
  have d1 := hb.cell (i := 1) rfl
  have d2 := hb.cell (i := 2) rfl
  have d3 := hb.cell (i := 3) rfl
  have d4 := hb.cell (i := 4) rfl
  have d5 := hb.cell (i := 5) rfl
  have d6 := hb.cell (i := 6) rfl
  clear hb
  repeat (first
    | (refine groL_pure rfl rfl ?_; intro K hK; go_simp; refine hK _ ?_; clear hK K)
    | (refine groL_read rfl rfl ?_; intro K S hS hK; go_simp; refine hK _ ?_; clear hK K hS S)
    | (refine groL_read rfl rfl ?_; intro K S hS hK; go_simp; refine ⟨hS _ ?_, hK _ ?_⟩; (clear hK K hS S; intro w' hx'; have hce := ext_some hx'; go_simp); clear hK K hS S)
    | (refine groL_write rfl rfl ?_; intro K hK; go_simp; refine hK _ _ ?_; clear hK K))
  refine groL_grow rfl rfl ?_
  intro K hK
  go_simp
  (refine (HTX.out _).mono ?_; rintro e w3 ⟨rfl, hx3⟩)
  go_simp
  refine hK _ _ ⟨hx3, ?_⟩
  clear hK K
  have hix : ∀ w', (Instr.index 74 (.agg #[.nilFunc, .func (.func 76) #[] #[], .func (.func 77) #[] #[], .func (.func 78) #[] #[], .func (.func 79) #[] #[]]) (.int .i64 4)).run Tryz.prog w' = .ok (.func (.func 79) #[] #[]) w' := fun w' => by kernel_rfl
  repeat (first
    | (refine groL_pure rfl rfl ?_; intro K hK; go_simp; refine hK _ ?_; clear hK K)
    | (refine groL_read rfl rfl ?_; intro K S hS hK; go_simp; refine hK _ ?_; clear hK K hS S)
    | (refine groL_read rfl rfl ?_; intro K S hS hK; go_simp; refine ⟨hS _ ?_, hK _ ?_⟩; (clear hK K hS S; intro w' hx'; have hce := ext_some hx'; go_simp); clear hK K hS S)
    | (refine groL_write rfl rfl ?_; intro K hK; go_simp; refine hK _ _ ?_; clear hK K))
  refine groL_grow rfl rfl ?_
  intro K hK
  go_simp
  (refine (HA.out _).mono ?_; rintro e w4 ⟨rfl, hx4⟩)
  go_simp
  refine hK _ _ ⟨hx4, ?_⟩
  clear hK K
  repeat (first
    | (refine groL_pure rfl rfl ?_; intro K hK; go_simp; refine hK _ ?_; clear hK K)
    | (refine groL_read rfl rfl ?_; intro K S hS hK; go_simp; refine hK _ ?_; clear hK K hS S)
    | (refine groL_read rfl rfl ?_; intro K S hS hK; go_simp; refine ⟨hS _ ?_, hK _ ?_⟩; (clear hK K hS S; intro w' hx'; have hce := ext_some hx'; go_simp); clear hK K hS S)
    | (refine groL_write rfl rfl ?_; intro K hK; go_simp; refine hK _ _ ?_; clear hK K))
  refine groL_nil ?_
  go_wp2_with fail
  go_ret2
  exact ⟨by first | rfl | (simp; done) | (simp; rfl), HX.out.trans (hx3.trans hx4)⟩
theorem atomP_no (k : Int) (fk : Bool) (fn nm va : ByteArray) (tk : Bool) (tn : ByteArray) (w : World) (hf : Atm.Fits ⟨k, fk, fn, nm, va, tk, tn⟩) (hk : (oneP ⟨k, fk, fn, nm, va, tk, tn⟩).okB = false) :
    Calls Tryz.prog 19 #[.agg #[.int .i64 k, .bool fk, .string fn, .string nm, .string va, .bool tk, .string tn]] w fun e w' => e = .returned (.tuple #[.string nilB, .int .i64 261]) ∧ Ext w w' := by
  have hc := oneP_check ⟨k, fk, fn, nm, va, tk, tn⟩ hf
  unfold checkE at hc
  rw [if_neg (by rw [hk]; decide)] at hc
  have HC := Lib.hid hc
  clear hf hk hc
  have HB := Lib.hid (RowAt.new w 40 [.int .i64 k, .bool fk, .string fn, .string nm, .string va, .bool tk, .string tn])
  have HX := Lib.hid (Ext.alloc w (.cells #[.int .i64 k, .bool fk, .string fn, .string nm, .string va, .bool tk, .string tn] 40))
  go_enter Tryz.func19, Tryz.ntmps19
  go_upto_region 1 with fail
  generalize w.alloc (.cells #[.int .i64 k, .bool fk, .string fn, .string nm, .string va, .bool tk, .string tn] 40) = w1 at *
  obtain ⟨y, hy⟩ : ∃ y, w.heap.size = y := ⟨_, rfl⟩
  rw [hy] at HB
  try simp only [hy]
  clear hy
  have d0 := HB.out.cell (i := 0) rfl
  have d1 := HB.out.cell (i := 1) rfl
  have d2 := HB.out.cell (i := 2) rfl
  have d3 := HB.out.cell (i := 3) rfl
  have d4 := HB.out.cell (i := 4) rfl
  have d5 := HB.out.cell (i := 5) rfl
  have d6 := HB.out.cell (i := 6) rfl
  go_wp2_with fail
  refine (HC.out _).mono ?_
  rintro e wc ⟨rfl, hxc⟩
  go_wp2_with fail
  go_ret2
  exact ⟨rfl, HX.out.trans ((Ext.alloc _ _).trans hxc)⟩
theorem one_atomB {a : Atm} (h : (oneP a).okB = true) : atomB a = true := by
  unfold Pat.okB at h
  simp only [Bool.and_eq_true] at h
  have := h.2.2.2.2
  exact List.all_eq_true.1 this a (by simp [oneP])
theorem AtomP_any (a : Atm) (w : World) (hf : a.Fits) :
    Calls Tryz.prog 19 #[.agg #[.int .i64 a.kind, .bool a.fk, .string a.fn, .string a.name, .string a.value, .bool a.tk, .string a.tn]] w fun e w' => e = .returned (.tuple #[.string (if (oneP a).okB = true then txt (atomX a) else nilB), .int .i64 (if (oneP a).okB = true then 0 else 261)]) ∧ Ext w w' := by
  by_cases hk : (oneP a).okB = true
  · rw [if_pos hk, if_pos hk]
    have h := one_atomB hk
    obtain ⟨h1, h2, h3, h4⟩ := Atm.size_of h
    have hkd : a.kind = 1 ∨ a.kind = 2 ∨ a.kind = 3 ∨ a.kind = 4 := by
      rcases (atom_facts h).2 with h | h | h | h
      · exact .inl h.1
      · exact .inr (.inl h.1)
      · exact .inr (.inr (.inl h.1))
      · exact .inr (.inr (.inr h.1))
    obtain ⟨k, fk, fn, nm, va, tk, tn⟩ := a
    dsimp only at *
    rcases hkd with rfl | rfl | rfl | rfl
    · exact atomP1 fk fn nm va tk tn w h1 h2 h3 h4 hf hk
    · exact atomP2 fk fn nm va tk tn w h1 h2 h3 h4 hf hk
    · exact atomP3 fk fn nm va tk tn w h1 h2 h3 h4 hf hk
    · exact atomP4 fk fn nm va tk tn w h1 h2 h3 h4 hf hk
  · rw [if_neg hk, if_neg hk]
    obtain ⟨k, fk, fn, nm, va, tk, tn⟩ := a
    exact atomP_no k fk fn nm va tk tn w hf (by simpa using hk)
theorem partT_any (a : Atm) (w : World) (h : atomB a = true) :
    Calls Tryz.prog 68 #[.agg #[.int .i64 a.kind, .bool a.fk, .string a.fn, .string a.name, .string a.value, .bool a.tk, .string a.tn]] w fun e w' => e = .returned (.string (txt (atomX a))) ∧ Ext w w' := by
  obtain ⟨h1, h2, h3, h4⟩ := Atm.size_of h
  have hk : a.kind = 1 ∨ a.kind = 2 ∨ a.kind = 3 ∨ a.kind = 4 := by
    rcases (atom_facts h).2 with h | h | h | h
    · exact .inl h.1
    · exact .inr (.inl h.1)
    · exact .inr (.inr (.inl h.1))
    · exact .inr (.inr (.inr h.1))
  obtain ⟨k, fk, fn, nm, va, tk, tn⟩ := a
  dsimp only at *
  rcases hk with rfl | rfl | rfl | rfl
  · exact partT1 fk fn nm va tk tn w h1 h2 h3 h4
  · exact partT2 fk fn nm va tk tn w h1 h2 h3 h4
  · exact partT3 fk fn nm va tk tn w h1 h2 h3 h4
  · exact partT4 fk fn nm va tk tn w h1 h2 h3 h4
end Go.Proofs.YthoneahamnmjlaaGreatDoor
