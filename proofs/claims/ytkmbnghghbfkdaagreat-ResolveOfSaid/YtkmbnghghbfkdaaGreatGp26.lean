/- A term's argument, an argument's term. -/
import Derived.Test.YtkmbnghghbfkdaaGreatGp25
set_option linter.unusedSimpArgs false
set_option linter.unusedVariables false
set_option maxHeartbeats 2000000
set_option maxRecDepth 100000

namespace Go.Proofs.YtkmbnghghbfkdaaGreat
open Go.RowKit Go.Shelf Go.Sort
attribute [local go_sem] Oper.semAt_some wide_fn wide_depth
theorem boxes3 (w : World) (xs : List Value) (t : TypeId) (ys : List Value) (u : TypeId) (zs : List Value) (v : TypeId) :
 Ext w (((w.alloc (.cells xs.toArray t)).alloc (.cells ys.toArray u)).alloc (.cells zs.toArray v)) ∧ RowAt (((w.alloc (.cells xs.toArray t)).alloc (.cells ys.toArray u)).alloc (.cells zs.toArray v)) w.heap.size t xs ∧
  RowAt (((w.alloc (.cells xs.toArray t)).alloc (.cells ys.toArray u)).alloc (.cells zs.toArray v)) (w.heap.size + 1) u ys ∧ RowAt (((w.alloc (.cells xs.toArray t)).alloc (.cells ys.toArray u)).alloc (.cells zs.toArray v)) (w.heap.size + 1 + 1) v zs :=
 ⟨((Ext.alloc _ _).trans (Ext.alloc _ _)).trans (Ext.alloc _ _), ((RowAt.new _ _ _).ext (Ext.alloc _ _)).ext (Ext.alloc _ _), (row_at (by simp)).ext (Ext.alloc _ _), row_at (by simp)⟩
def argV (x : Arg) : Value := .agg #[.int .i64 x.var, .int .i64 x.id]
set_option maxRecDepth 100000 in
theorem narg_key (vs : Nat → Value × Value) (m : Nat) (av : Value) (D : Dic) (V : List ByteArray) (w : World) (hV : DicV w vs D) (hS : DicS D) (h : DicOK D) (s : ByteArray) (hs : s.size ≤ 9223372036854775807) :
 Calls Tryz.prog 116 #[nmV vs m av, .agg #[.bool true, .string s]] w fun e w' => e = outE (argF D V true s) argV ∧ Ext w w' := by
 have hI := fun w' (hx : Ext w w') => nid_any vs m av D w' (hV.ext hx) hS h 0 s hs
 have hr : outE (argF D V true s) argV = outE (idO D 0 s) (fun q => argV ⟨-1, q⟩) := by
  unfold argF idO
  rw [if_pos rfl]
  split <;> rfl
 rw [hr]
 clear hr
 obtain ⟨r, hr⟩ : ∃ r, idO D 0 s = r := ⟨_, rfl⟩
 rw [hr] at hI ⊢
 clear hr
 have HI := Lib.hid hI
 clear hI
 unfold nmV at *
 cases r with
 | some q =>
  have hbx := boxes3 w (nmL vs m av) 98 ([.bool true, .string s]) 86 ([.int .i64 0, .int .i64 0]) 73
  have HBX := Lib.hid hbx
  clear hbx
  go_enter Tryz.func116, Tryz.ntmps116
  go_upto_region 1 with fail
  generalize ((w.alloc (.cells (nmL vs m av).toArray 98)).alloc (.cells ([.bool true, .string s]).toArray 86)).alloc (.cells ([.int .i64 0, .int .i64 0]).toArray 73) = w1 at *
  obtain ⟨y0, hy0⟩ : ∃ x, w.heap.size = x := ⟨_, rfl⟩
  obtain ⟨y1, hy1⟩ : ∃ x, y0 + 1 = x := ⟨_, rfl⟩
  obtain ⟨y2, hy2⟩ : ∃ x, y1 + 1 = x := ⟨_, rfl⟩
  rw [hy0, hy1, hy2] at HBX
  simp only [hy0, hy1, hy2]
  have HN := Lib.hid (show w.heap.size = y0 ∧ y0 + 1 = y1 ∧ y1 + 1 = y2 from ⟨hy0, hy1, hy2⟩)
  have HX := Lib.hid HBX.out.1
  have H0 := Lib.hid HBX.out.2.1
  have H1 := Lib.hid HBX.out.2.2.1
  have H2 := Lib.hid HBX.out.2.2.2
  clear hy0 hy1 hy2 HBX
  have k0 := H1.out.cell (i := 0) rfl
  have k1 := H1.out.cell (i := 1) rfl
  go_upto_region 2 with fail
  apply wp_region_lit
  refine plain_load rfl _ _ rfl y0 rfl _ _ (H0.out) Tryz.underlying98 rfl (by kernel_rfl) ?_
  go_simp
  refine wpList_plain rfl fun K1 hK1 => ?_
  go_simp
  refine hK1 _ _ ?_
  clear hK1 K1
  refine wpList_plain rfl fun K1 hK1 => ?_
  go_simp
  refine hK1 _ _ ?_
  clear hK1 K1
  refine wpList_plain rfl fun K1 hK1 => ?_
  go_simp
  refine (HI.out w1 HX.out).mono ?_; rintro e w2 ⟨rfl, hx2⟩
  go_simp
  refine hK1 _ _ ?_
  clear hK1 K1
  refine wpList_plain rfl fun K1 hK1 => ?_
  go_simp
  refine hK1 _ _ ?_
  clear hK1 K1
  have HX2 := Lib.hid (HX.out.trans hx2)
  have HB2 := Lib.hid (H2.out.ext hx2)
  clear hx2 HX H0 H1 H2 HI k0 k1
  refine plain_store rfl _ _ _ rfl y2 ([.int .i64 (-1), .int .i64 q]) rfl rfl (HB2.out) (by kernel_rfl) rfl ((by simp [Value.oneCell'])) ?_
  have HRR := Lib.hid ((HB2.out).setRow ([.int .i64 (-1), .int .i64 q]))
  have HXX := Lib.hid (show Ext w ((w2).setRow y2 ([.int .i64 (-1), .int .i64 q]).toArray) from below_setRow (HX2.out) ((by have := HN.out; omega)) _)
  go_simp
  apply wpList_nil
  go_wp2_with fail
  exact bodyPost_ret (results_row0 rfl rfl HRR.out Tryz.underlying73 rfl (by kernel_rfl)) rfl (⟨rfl, HXX.out⟩)
 | none =>
  have hbx := boxes3 w (nmL vs m av) 98 ([.bool true, .string s]) 86 ([.int .i64 0, .int .i64 0]) 73
  have HBX := Lib.hid hbx
  clear hbx
  go_enter Tryz.func116, Tryz.ntmps116
  go_upto_region 1 with fail
  generalize ((w.alloc (.cells (nmL vs m av).toArray 98)).alloc (.cells ([.bool true, .string s]).toArray 86)).alloc (.cells ([.int .i64 0, .int .i64 0]).toArray 73) = w1 at *
  obtain ⟨y0, hy0⟩ : ∃ x, w.heap.size = x := ⟨_, rfl⟩
  obtain ⟨y1, hy1⟩ : ∃ x, y0 + 1 = x := ⟨_, rfl⟩
  obtain ⟨y2, hy2⟩ : ∃ x, y1 + 1 = x := ⟨_, rfl⟩
  rw [hy0, hy1, hy2] at HBX
  simp only [hy0, hy1, hy2]
  have HN := Lib.hid (show w.heap.size = y0 ∧ y0 + 1 = y1 ∧ y1 + 1 = y2 from ⟨hy0, hy1, hy2⟩)
  have HX := Lib.hid HBX.out.1
  have H0 := Lib.hid HBX.out.2.1
  have H1 := Lib.hid HBX.out.2.2.1
  have H2 := Lib.hid HBX.out.2.2.2
  clear hy0 hy1 hy2 HBX
  have k0 := H1.out.cell (i := 0) rfl
  have k1 := H1.out.cell (i := 1) rfl
  go_upto_region 2 with fail
  apply wp_region_lit
  refine plain_load rfl _ _ rfl y0 rfl _ _ (H0.out) Tryz.underlying98 rfl (by kernel_rfl) ?_
  go_simp
  refine wpList_plain rfl fun K1 hK1 => ?_
  go_simp
  refine hK1 _ _ ?_
  clear hK1 K1
  refine wpList_plain rfl fun K1 hK1 => ?_
  go_simp
  refine hK1 _ _ ?_
  clear hK1 K1
  refine wpList_plain rfl fun K1 hK1 => ?_
  go_simp
  refine (HI.out w1 HX.out).mono ?_; rintro e w2 ⟨rfl, hx2⟩
  unfold outE unknE
  go_wp2_with fail
  exact ⟨rfl, rfl, HX.out.trans hx2⟩
theorem findF_at {V : List ByteArray} (h : Distinct V) {s : ByteArray} {i : Nat} (hi : V[i]? = some s) : findF V s = i := by
 obtain ⟨hl, rfl⟩ := List.getElem?_eq_some_iff.1 hi
 exact findF_distinct h hl
set_option maxRecDepth 100000 in
theorem narg_var (vs : Nat → Value × Value) (m : Nat) (av : Value) (D : Dic) (V : List ByteArray) (w : World) (hm : VarsAt w m V) (hd : Distinct V) (s : ByteArray) (hs : s ∈ V) :
 Calls Tryz.prog 116 #[nmV vs m av, .agg #[.bool false, .string s]] w fun e w' => e = outE (argF D V false s) argV ∧ Ext w w' := by
 have hr : outE (argF D V false s) argV = .returned (.agg #[.int .i64 (findF V s), .int .i64 0]) := rfl
 rw [hr]
 clear hr
 obtain ⟨i, hi, hrun⟩ := vars_get hm hs
 rw [findF_at hd hi]
 have HM := Lib.hid hrun
 clear hrun hi
 unfold nmV at *
 have hbx := boxes3 w (nmL vs m av) 98 ([.bool false, .string s]) 86 ([.int .i64 0, .int .i64 0]) 73
 have HBX := Lib.hid hbx
 clear hbx
 go_enter Tryz.func116, Tryz.ntmps116
 go_upto_region 1 with fail
 generalize ((w.alloc (.cells (nmL vs m av).toArray 98)).alloc (.cells ([.bool false, .string s]).toArray 86)).alloc (.cells ([.int .i64 0, .int .i64 0]).toArray 73) = w1 at *
 obtain ⟨y0, hy0⟩ : ∃ x, w.heap.size = x := ⟨_, rfl⟩
 obtain ⟨y1, hy1⟩ : ∃ x, y0 + 1 = x := ⟨_, rfl⟩
 obtain ⟨y2, hy2⟩ : ∃ x, y1 + 1 = x := ⟨_, rfl⟩
 rw [hy0, hy1, hy2] at HBX
 simp only [hy0, hy1, hy2]
 have HN := Lib.hid (show w.heap.size = y0 ∧ y0 + 1 = y1 ∧ y1 + 1 = y2 from ⟨hy0, hy1, hy2⟩)
 have HX := Lib.hid HBX.out.1
 have H0 := Lib.hid HBX.out.2.1
 have H1 := Lib.hid HBX.out.2.2.1
 have H2 := Lib.hid HBX.out.2.2.2
 clear hy0 hy1 hy2 HBX
 have hrun := HM.out w1 HX.out
 clear HM
 have k0 := H1.out.cell (i := 0) rfl
 have k1 := H1.out.cell (i := 1) rfl
 have n0 := (nm_map H0.out).1
 go_upto_region 3 with fail
 apply wp_region_lit
 refine wpList_plain rfl fun K1 hK1 => ?_
 go_simp
 refine hK1 _ _ ?_
 clear hK1 K1
 refine wpList_plain rfl fun K1 hK1 => ?_
 go_simp
 refine hK1 _ _ ?_
 clear hK1 K1
 refine wpList_plain rfl fun K1 hK1 => ?_
 go_simp
 refine hK1 _ _ ?_
 clear hK1 K1
 refine wpList_plain rfl fun K1 hK1 => ?_
 go_simp
 refine hK1 _ _ ?_
 clear hK1 K1
 refine wpList_plain rfl fun K1 hK1 => ?_
 go_simp
 refine hK1 _ _ ?_
 clear hK1 K1
 refine wpList_plain rfl fun K1 hK1 => ?_
 go_simp
 refine hK1 _ _ ?_
 clear hK1 K1
 clear k0 k1 n0 hrun
 refine plain_store rfl _ _ _ rfl y2 ([.int .i64 i, .int .i64 0]) rfl rfl (H2.out) (by kernel_rfl) rfl ((by simp [Value.oneCell'])) ?_
 have HRR := Lib.hid ((H2.out).setRow ([.int .i64 i, .int .i64 0]))
 have HXX := Lib.hid (show Ext w ((w1).setRow y2 ([.int .i64 i, .int .i64 0]).toArray) from below_setRow (HX.out) ((by have := HN.out; omega)) _)
 go_simp
 apply wpList_nil
 go_wp2_with fail
 exact bodyPost_ret (results_row0 rfl rfl HRR.out Tryz.underlying73 rfl (by kernel_rfl)) rfl (⟨rfl, HXX.out⟩)
theorem narg_any (vs : Nat → Value × Value) (m : Nat) (av : Value) (D : Dic) (V : List ByteArray) (w : World) (hV : DicV w vs D) (hS : DicS D) (h : DicOK D) (hm : VarsAt w m V) (hd : Distinct V) (k : Bool) (s : ByteArray) (hs : s.size ≤ 9223372036854775807) (hk : k = false → s ∈ V) :
 Calls Tryz.prog 116 #[nmV vs m av, .agg #[.bool k, .string s]] w fun e w' => e = outE (argF D V k s) argV ∧ Ext w w' := by
 cases k with
 | true => exact narg_key vs m av D V w hV hS h s hs
 | false => exact narg_var vs m av D V w hm hd s (hk rfl)
def termV (t : Bool × ByteArray) : Value := .agg #[.bool t.1, .string t.2]
set_option maxRecDepth 100000 in
theorem nterm_key (vs : Nat → Value × Value) (m : Nat) (av : Value) (D : Dic) (V : List ByteArray) (w : World) (hV : DicV w vs D) (hS : DicS D) (h : DicOK D) (q : Int) :
 Calls Tryz.prog 118 #[nmV vs m av, .agg #[.int .i64 (-1), .int .i64 q]] w fun e w' => e = outE (termF D V ⟨-1, q⟩) termV ∧ Ext w w' := by
 have hI := fun w' (hx : Ext w w') => nname_any vs m av D w' (hV.ext hx) hS h 0 (by omega) q
 have hr : outE (termF D V ⟨-1, q⟩) termV = outE (nameO D 0 q) (fun s => termV (true, s)) := by
  unfold termF
  rw [if_pos rfl]
  cases nameO D 0 q <;> rfl
 rw [hr]
 clear hr
 obtain ⟨r, hr⟩ : ∃ r, nameO D 0 q = r := ⟨_, rfl⟩
 rw [hr] at hI ⊢
 clear hr
 have HI := Lib.hid hI
 clear hI
 unfold nmV at *
 cases r with
 | some s =>
  have hbx := boxes3 w (nmL vs m av) 98 ([.int .i64 (-1), .int .i64 q]) 73 ([.bool false, .string ⟨#[]⟩]) 86
  have HBX := Lib.hid hbx
  clear hbx
  go_enter Tryz.func118, Tryz.ntmps118
  go_upto_region 1 with fail
  generalize ((w.alloc (.cells (nmL vs m av).toArray 98)).alloc (.cells ([.int .i64 (-1), .int .i64 q]).toArray 73)).alloc (.cells ([.bool false, .string ⟨#[]⟩]).toArray 86) = w1 at *
  obtain ⟨y0, hy0⟩ : ∃ x, w.heap.size = x := ⟨_, rfl⟩
  obtain ⟨y1, hy1⟩ : ∃ x, y0 + 1 = x := ⟨_, rfl⟩
  obtain ⟨y2, hy2⟩ : ∃ x, y1 + 1 = x := ⟨_, rfl⟩
  rw [hy0, hy1, hy2] at HBX
  simp only [hy0, hy1, hy2]
  have HN := Lib.hid (show w.heap.size = y0 ∧ y0 + 1 = y1 ∧ y1 + 1 = y2 from ⟨hy0, hy1, hy2⟩)
  have HX := Lib.hid HBX.out.1
  have H0 := Lib.hid HBX.out.2.1
  have H1 := Lib.hid HBX.out.2.2.1
  have H2 := Lib.hid HBX.out.2.2.2
  clear hy0 hy1 hy2 HBX
  have k0 := H1.out.cell (i := 0) rfl
  have k1 := H1.out.cell (i := 1) rfl
  go_upto_region 2 with fail
  apply wp_region_lit
  refine plain_load rfl _ _ rfl y0 rfl _ _ (H0.out) Tryz.underlying98 rfl (by kernel_rfl) ?_
  go_simp
  refine wpList_plain rfl fun K1 hK1 => ?_
  go_simp
  refine hK1 _ _ ?_
  clear hK1 K1
  refine wpList_plain rfl fun K1 hK1 => ?_
  go_simp
  refine hK1 _ _ ?_
  clear hK1 K1
  refine wpList_plain rfl fun K1 hK1 => ?_
  go_simp
  refine (HI.out w1 HX.out).mono ?_; rintro e w2 ⟨rfl, hx2⟩
  go_simp
  refine hK1 _ _ ?_
  clear hK1 K1
  unfold strV
  refine wpList_plain rfl fun K1 hK1 => ?_
  go_simp
  refine hK1 _ _ ?_
  clear hK1 K1
  have HX2 := Lib.hid (HX.out.trans hx2)
  have HB2 := Lib.hid (H2.out.ext hx2)
  clear hx2 HX H0 H1 H2 HI k0 k1
  refine plain_store rfl _ _ _ rfl y2 ([.bool true, .string s]) rfl rfl (HB2.out) (by kernel_rfl) rfl ((by simp [Value.oneCell'])) ?_
  have HRR := Lib.hid ((HB2.out).setRow ([.bool true, .string s]))
  have HXX := Lib.hid (show Ext w ((w2).setRow y2 ([.bool true, .string s]).toArray) from below_setRow (HX2.out) ((by have := HN.out; omega)) _)
  go_simp
  apply wpList_nil
  go_wp2_with fail
  exact bodyPost_ret (results_row0 rfl rfl HRR.out Tryz.underlying86 rfl (by kernel_rfl)) rfl (⟨rfl, HXX.out⟩)
 | none =>
  have hbx := boxes3 w (nmL vs m av) 98 ([.int .i64 (-1), .int .i64 q]) 73 ([.bool false, .string ⟨#[]⟩]) 86
  have HBX := Lib.hid hbx
  clear hbx
  go_enter Tryz.func118, Tryz.ntmps118
  go_upto_region 1 with fail
  generalize ((w.alloc (.cells (nmL vs m av).toArray 98)).alloc (.cells ([.int .i64 (-1), .int .i64 q]).toArray 73)).alloc (.cells ([.bool false, .string ⟨#[]⟩]).toArray 86) = w1 at *
  obtain ⟨y0, hy0⟩ : ∃ x, w.heap.size = x := ⟨_, rfl⟩
  obtain ⟨y1, hy1⟩ : ∃ x, y0 + 1 = x := ⟨_, rfl⟩
  obtain ⟨y2, hy2⟩ : ∃ x, y1 + 1 = x := ⟨_, rfl⟩
  rw [hy0, hy1, hy2] at HBX
  simp only [hy0, hy1, hy2]
  have HN := Lib.hid (show w.heap.size = y0 ∧ y0 + 1 = y1 ∧ y1 + 1 = y2 from ⟨hy0, hy1, hy2⟩)
  have HX := Lib.hid HBX.out.1
  have H0 := Lib.hid HBX.out.2.1
  have H1 := Lib.hid HBX.out.2.2.1
  have H2 := Lib.hid HBX.out.2.2.2
  clear hy0 hy1 hy2 HBX
  have k0 := H1.out.cell (i := 0) rfl
  have k1 := H1.out.cell (i := 1) rfl
  go_upto_region 2 with fail
  apply wp_region_lit
  refine plain_load rfl _ _ rfl y0 rfl _ _ (H0.out) Tryz.underlying98 rfl (by kernel_rfl) ?_
  go_simp
  refine wpList_plain rfl fun K1 hK1 => ?_
  go_simp
  refine hK1 _ _ ?_
  clear hK1 K1
  refine wpList_plain rfl fun K1 hK1 => ?_
  go_simp
  refine hK1 _ _ ?_
  clear hK1 K1
  refine wpList_plain rfl fun K1 hK1 => ?_
  go_simp
  refine (HI.out w1 HX.out).mono ?_; rintro e w2 ⟨rfl, hx2⟩
  unfold outE unknE
  go_wp2_with fail
  exact ⟨rfl, rfl, HX.out.trans hx2⟩
end Go.Proofs.YtkmbnghghbfkdaaGreat

/- An argument's term, where it is a variable. -/
namespace Go.Proofs.YtkmbnghghbfkdaaGreat
open Go.RowKit Go.Shelf Go.Sort
attribute [local go_sem] Oper.semAt_some wide_fn wide_depth
set_option maxRecDepth 100000 in
set_option maxHeartbeats 2000000 in
theorem nterm_var (vs : Nat → Value × Value) (m : Nat) (a : Option Addr) (c : Nat) (D : Dic) (V : List ByteArray) (w : World) (hA : Strs w (.slice a V.length c) V) (x q : Int) (hx : x ≠ -1) (hl : V.length ≤ 1000000) :
 Calls Tryz.prog 118 #[nmV vs m (.slice a V.length c), .agg #[.int .i64 x, .int .i64 q]] w fun e w' => e = outE (termF D V ⟨x, q⟩) termV ∧ Ext w w' := by
 have hr : termF D V ⟨x, q⟩ = if 0 ≤ x ∧ x < V.length ∧ q = 0 then some (false, V.getD x.toNat nilB) else none := by
  unfold termF; rw [if_neg hx]
 obtain ⟨X, hX⟩ : ∃ X, outE (termF D V ⟨x, q⟩) termV = X := ⟨_, rfl⟩
 rw [hX]
 rw [hr] at hX
 have hne : (x == -1) = false := by simpa using hx
 have HA := Lib.hid hA
 unfold nmV at *
 by_cases hok : 0 ≤ x ∧ x < V.length ∧ q = 0
 ·obtain ⟨h1, h2, rfl⟩ := hok
  obtain ⟨k, rfl⟩ : ∃ k : Nat, x = k := ⟨x.toNat, by omega⟩
  have hkl : k < V.length := by omega
  rw [if_pos ⟨h1, h2, rfl⟩, Int.toNat_natCast, List.getD_eq_getElem?_getD, List.getElem?_eq_getElem hkl] at hX
  have hX' : Ending.returned (.agg #[.bool false, .string V[k]]) = X := hX
  have HXE := Lib.hid hX'
  have HL := Lib.hid hl
  clear hX hX' hr hx h1 h2 hA
  have hbx := boxes3 w (nmL vs m (.slice a V.length c)) 98 ([.int .i64 k, .int .i64 0]) 73 ([.bool false, .string ⟨#[]⟩]) 86
  have HBX := Lib.hid hbx
  clear hbx
  go_enter Tryz.func118, Tryz.ntmps118
  go_upto_region 1 with fail
  generalize ((w.alloc (.cells (nmL vs m (.slice a V.length c)).toArray 98)).alloc (.cells ([.int .i64 k, .int .i64 0]).toArray 73)).alloc (.cells ([.bool false, .string ⟨#[]⟩]).toArray 86) = w1 at *
  obtain ⟨y0, hy0⟩ : ∃ x, w.heap.size = x := ⟨_, rfl⟩
  obtain ⟨y1, hy1⟩ : ∃ x, y0 + 1 = x := ⟨_, rfl⟩
  obtain ⟨y2, hy2⟩ : ∃ x, y1 + 1 = x := ⟨_, rfl⟩
  rw [hy0, hy1, hy2] at HBX
  simp only [hy0, hy1, hy2]
  have HN := Lib.hid (show w.heap.size = y0 ∧ y0 + 1 = y1 ∧ y1 + 1 = y2 from ⟨hy0, hy1, hy2⟩)
  have HX := Lib.hid HBX.out.1
  have H0 := Lib.hid HBX.out.2.1
  have H1 := Lib.hid HBX.out.2.2.1
  have H2 := Lib.hid HBX.out.2.2.2
  clear hy0 hy1 hy2 HBX
  obtain ⟨b, o, rfl, c0⟩ := (HA.out.ext HX.out).at_ hkl
  generalize V[k] = s at *
  have k0 := H1.out.cell (i := 0) rfl
  have k1 := H1.out.cell (i := 1) rfl
  obtain ⟨n0, n1⟩ := nm_map H0.out
  clear hl
  go_wp2_with fail
  refine (need_yes _).mono ?_
  rintro e w3 ⟨rfl, rfl⟩
  go_upto_region 4 with fail
  apply wp_region_lit
  refine wpList_plain rfl fun K1 hK1 => ?_
  go_simp
  refine hK1 _ _ ?_
  clear hK1 K1
  refine wpList_plain rfl fun K1 hK1 => ?_
  go_simp
  refine hK1 _ _ ?_
  clear hK1 K1
  refine wpList_plain rfl fun K1 hK1 => ?_
  go_simp
  refine hK1 _ _ ?_
  clear hK1 K1
  refine wpList_plain rfl fun K1 hK1 => ?_
  go_simp
  refine hK1 _ _ ?_
  clear hK1 K1
  refine wpList_plain rfl fun K1 hK1 => ?_
  go_simp
  refine hK1 _ _ ?_
  clear hK1 K1
  refine wpList_plain rfl fun K1 hK1 => ?_
  go_simp
  refine hK1 _ _ ?_
  clear hK1 K1
  refine wpList_plain rfl fun K1 hK1 => ?_
  go_simp
  refine hK1 _ _ ?_
  clear hK1 K1
  clear k0 k1 n0 n1 c0
  refine plain_store rfl _ _ _ rfl y2 ([.bool false, .string s]) rfl rfl (H2.out) (by kernel_rfl) rfl ((by simp [Value.oneCell'])) ?_
  have HRR := Lib.hid ((H2.out).setRow ([.bool false, .string s]))
  have HXX := Lib.hid (show Ext w ((w1).setRow y2 ([.bool false, .string s]).toArray) from below_setRow (HX.out) ((by have := HN.out; omega)) _)
  go_simp
  apply wpList_nil
  go_wp2_with fail
  exact bodyPost_ret (results_row0 rfl rfl HRR.out Tryz.underlying86 rfl (by kernel_rfl)) rfl (⟨HXE.out, HXX.out⟩)
 ·rw [if_neg hok] at hX
  have HXE := Lib.hid (show unknE = X from hX)
  obtain ⟨b1, hb1⟩ : ∃ b, decide (0 ≤ x) = b := ⟨_, rfl⟩
  obtain ⟨b2, hb2⟩ : ∃ b, decide (x < (V.length : Int)) = b := ⟨_, rfl⟩
  obtain ⟨b3, hb3⟩ : ∃ b, (q == 0) = b := ⟨_, rfl⟩
  have HNO : Hid (¬ (b1 = true ∧ b2 = true ∧ b3 = true)) := Lib.hid (by
   rintro ⟨rfl, rfl, rfl⟩
   exact hok ⟨of_decide_eq_true hb1, of_decide_eq_true hb2, by simpa using hb3⟩)
  clear hok hX hr hx hA hl
  cases b1
  case false =>
   have hbx := boxes3 w (nmL vs m (.slice a V.length c)) 98 ([.int .i64 x, .int .i64 q]) 73 ([.bool false, .string ⟨#[]⟩]) 86
   have HBX := Lib.hid hbx
   clear hbx
   go_enter Tryz.func118, Tryz.ntmps118
   go_upto_region 1 with fail
   generalize ((w.alloc (.cells (nmL vs m (.slice a V.length c)).toArray 98)).alloc (.cells ([.int .i64 x, .int .i64 q]).toArray 73)).alloc (.cells ([.bool false, .string ⟨#[]⟩]).toArray 86) = w1 at *
   obtain ⟨y0, hy0⟩ : ∃ x, w.heap.size = x := ⟨_, rfl⟩
   obtain ⟨y1, hy1⟩ : ∃ x, y0 + 1 = x := ⟨_, rfl⟩
   obtain ⟨y2, hy2⟩ : ∃ x, y1 + 1 = x := ⟨_, rfl⟩
   rw [hy0, hy1, hy2] at HBX
   simp only [hy0, hy1, hy2]
   have HN := Lib.hid (show w.heap.size = y0 ∧ y0 + 1 = y1 ∧ y1 + 1 = y2 from ⟨hy0, hy1, hy2⟩)
   have HX := Lib.hid HBX.out.1
   have H0 := Lib.hid HBX.out.2.1
   have H1 := Lib.hid HBX.out.2.2.1
   have H2 := Lib.hid HBX.out.2.2.2
   clear hy0 hy1 hy2 HBX
   have k0 := H1.out.cell (i := 0) rfl
   have k1 := H1.out.cell (i := 1) rfl
   obtain ⟨n0, n1⟩ := nm_map H0.out
   go_wp2_with fail
   refine (need_no _).mono ?_
   rintro e w3 ⟨rfl, rfl⟩
   unfold unknE
   dsimp only
   go_wp2_with fail
   exact ⟨rfl, HXE.out, HX.out⟩
  case true =>
   cases b2
   case false =>
    have hbx := boxes3 w (nmL vs m (.slice a V.length c)) 98 ([.int .i64 x, .int .i64 q]) 73 ([.bool false, .string ⟨#[]⟩]) 86
    have HBX := Lib.hid hbx
    clear hbx
    go_enter Tryz.func118, Tryz.ntmps118
    go_upto_region 1 with fail
    generalize ((w.alloc (.cells (nmL vs m (.slice a V.length c)).toArray 98)).alloc (.cells ([.int .i64 x, .int .i64 q]).toArray 73)).alloc (.cells ([.bool false, .string ⟨#[]⟩]).toArray 86) = w1 at *
    obtain ⟨y0, hy0⟩ : ∃ x, w.heap.size = x := ⟨_, rfl⟩
    obtain ⟨y1, hy1⟩ : ∃ x, y0 + 1 = x := ⟨_, rfl⟩
    obtain ⟨y2, hy2⟩ : ∃ x, y1 + 1 = x := ⟨_, rfl⟩
    rw [hy0, hy1, hy2] at HBX
    simp only [hy0, hy1, hy2]
    have HN := Lib.hid (show w.heap.size = y0 ∧ y0 + 1 = y1 ∧ y1 + 1 = y2 from ⟨hy0, hy1, hy2⟩)
    have HX := Lib.hid HBX.out.1
    have H0 := Lib.hid HBX.out.2.1
    have H1 := Lib.hid HBX.out.2.2.1
    have H2 := Lib.hid HBX.out.2.2.2
    clear hy0 hy1 hy2 HBX
    have k0 := H1.out.cell (i := 0) rfl
    have k1 := H1.out.cell (i := 1) rfl
    obtain ⟨n0, n1⟩ := nm_map H0.out
    go_wp2_with fail
    refine (need_no _).mono ?_
    rintro e w3 ⟨rfl, rfl⟩
    unfold unknE
    dsimp only
    go_wp2_with fail
    exact ⟨rfl, HXE.out, HX.out⟩
   case true =>
    cases b3
    case true => exact absurd ⟨rfl, rfl, rfl⟩ HNO.out
    case false =>
     have hbx := boxes3 w (nmL vs m (.slice a V.length c)) 98 ([.int .i64 x, .int .i64 q]) 73 ([.bool false, .string ⟨#[]⟩]) 86
     have HBX := Lib.hid hbx
     clear hbx
     go_enter Tryz.func118, Tryz.ntmps118
     go_upto_region 1 with fail
     generalize ((w.alloc (.cells (nmL vs m (.slice a V.length c)).toArray 98)).alloc (.cells ([.int .i64 x, .int .i64 q]).toArray 73)).alloc (.cells ([.bool false, .string ⟨#[]⟩]).toArray 86) = w1 at *
     obtain ⟨y0, hy0⟩ : ∃ x, w.heap.size = x := ⟨_, rfl⟩
     obtain ⟨y1, hy1⟩ : ∃ x, y0 + 1 = x := ⟨_, rfl⟩
     obtain ⟨y2, hy2⟩ : ∃ x, y1 + 1 = x := ⟨_, rfl⟩
     rw [hy0, hy1, hy2] at HBX
     simp only [hy0, hy1, hy2]
     have HN := Lib.hid (show w.heap.size = y0 ∧ y0 + 1 = y1 ∧ y1 + 1 = y2 from ⟨hy0, hy1, hy2⟩)
     have HX := Lib.hid HBX.out.1
     have H0 := Lib.hid HBX.out.2.1
     have H1 := Lib.hid HBX.out.2.2.1
     have H2 := Lib.hid HBX.out.2.2.2
     clear hy0 hy1 hy2 HBX
     have k0 := H1.out.cell (i := 0) rfl
     have k1 := H1.out.cell (i := 1) rfl
     obtain ⟨n0, n1⟩ := nm_map H0.out
     go_wp2_with fail
     refine (need_no _).mono ?_
     rintro e w3 ⟨rfl, rfl⟩
     unfold unknE
     dsimp only
     go_wp2_with fail
     exact ⟨rfl, HXE.out, HX.out⟩
theorem nterm_any (vs : Nat → Value × Value) (m : Nat) (a : Option Addr) (c : Nat) (D : Dic) (V : List ByteArray) (w : World) (hV : DicV w vs D) (hS : DicS D) (h : DicOK D) (hA : Strs w (.slice a V.length c) V) (hl : V.length ≤ 1000000) (x : Arg) :
 Calls Tryz.prog 118 #[nmV vs m (.slice a V.length c), argV x] w fun e w' => e = outE (termF D V x) termV ∧ Ext w w' := by
 obtain ⟨v, q⟩ := x
 by_cases hx : v = -1
 ·subst hx
  exact nterm_key vs m _ D V w hV hS h q
 ·exact nterm_var vs m a c D V w hA v q hx hl
end Go.Proofs.YtkmbnghghbfkdaaGreat
