/- A term's argument, an argument's term. -/
import Derived.Test.YtkmbnghghbfkdaaGreatGp19
import Derived.Test.YtkmbnghghbfkdaaGreatGp15
import Derived.Test.YtkmbnghghbfkdaaGreatGp14
namespace Go.Proofs.YtkmbnghghbfkdaaGreat
set_option maxRecDepth 100000
set_option maxHeartbeats 2000000
set_option linter.unusedSimpArgs false
open Go.RowKit Go.Shelf Go.Sort
attribute [local go_sem] Oper.semAt_some wide_fn wide_depth
set_option linter.unusedVariables false

theorem boxes3 (w : World) (xs : List Value) (t : TypeId) (ys : List Value) (u : TypeId) (zs : List Value) (v : TypeId) :
    Ext w (((w.alloc (.cells xs.toArray t)).alloc (.cells ys.toArray u)).alloc (.cells zs.toArray v)) ∧ RowAt (((w.alloc (.cells xs.toArray t)).alloc (.cells ys.toArray u)).alloc (.cells zs.toArray v)) w.heap.size t xs ∧
      RowAt (((w.alloc (.cells xs.toArray t)).alloc (.cells ys.toArray u)).alloc (.cells zs.toArray v)) (w.heap.size + 1) u ys ∧ RowAt (((w.alloc (.cells xs.toArray t)).alloc (.cells ys.toArray u)).alloc (.cells zs.toArray v)) (w.heap.size + 1 + 1) v zs :=
  ⟨((Ext.alloc _ _).trans (Ext.alloc _ _)).trans (Ext.alloc _ _), ((RowAt.new _ _ _).ext (Ext.alloc _ _)).ext (Ext.alloc _ _), (row_at (by simp)).ext (Ext.alloc _ _), row_at (by simp)⟩
def argV (x : Arg) : Value := .agg #[.int .i64 x.var, .int .i64 x.id]
set_option maxRecDepth 100000 in
theorem narg_key (vs : Nat → Value × Value) (m : Nat) (av : Value) (D : Dic) (V : List ByteArray) (w : World) (hV : DicV w vs D) (hS : DicS D) (h : DicOK D) (s : ByteArray) (hs : s.size ≤ 9223372036854775807) :
    Calls Tryz.prog 116 #[nmV vs m av, .agg #[.bool true, .string s]] w fun e w' => e = outE (argF D V true s) argV ∧ Ext w w' := by
  have hI := fun w' (hx : Ext w w') => nid_any vs m av D w' (hV.ext hx) hS h 0 s hs
  have hr : outE (argF D V true s) argV = outE (idO D 0 s) (fun q => argV ⟨-1, q⟩) := by
    unfold argF idO
    rw [if_pos rfl]
    split <;> rfl
  rw [hr]
  clear hr
  obtain ⟨r, hr⟩ : ∃ r, idO D 0 s = r := ⟨_, rfl⟩
  rw [hr] at hI ⊢
  clear hr
  have HI := Lib.hid hI
  clear hI
  unfold nmV at *
  cases r with
  | some q =>
    -- a function with three boxes at its head: (colander/resolve.names).arg its name, nmL vs m av [.bool true, .string s] [.int .i64 0, .int .i64 0] their cells (lists), resolve.names api.Term api.Arg their types' names
    have hbx := boxes3 w (nmL vs m av) 98 ([.bool true, .string s]) 86 ([.int .i64 0, .int .i64 0]) 73
    have HBX := Lib.hid hbx
    clear hbx
    go_enter Tryz.func116, Tryz.ntmps116
    go_upto_region 1 with fail
    generalize ((w.alloc (.cells (nmL vs m av).toArray 98)).alloc (.cells ([.bool true, .string s]).toArray 86)).alloc (.cells ([.int .i64 0, .int .i64 0]).toArray 73) = w1 at *
    obtain ⟨y0, hy0⟩ : ∃ x, w.heap.size = x := ⟨_, rfl⟩
    obtain ⟨y1, hy1⟩ : ∃ x, y0 + 1 = x := ⟨_, rfl⟩
    obtain ⟨y2, hy2⟩ : ∃ x, y1 + 1 = x := ⟨_, rfl⟩
    rw [hy0, hy1, hy2] at HBX
    simp only [hy0, hy1, hy2]
    have HN := Lib.hid (show w.heap.size = y0 ∧ y0 + 1 = y1 ∧ y1 + 1 = y2 from ⟨hy0, hy1, hy2⟩)
    have HX := Lib.hid HBX.out.1
    have H0 := Lib.hid HBX.out.2.1
    have H1 := Lib.hid HBX.out.2.2.1
    have H2 := Lib.hid HBX.out.2.2.2
    clear hy0 hy1 hy2 HBX
    have k0 := H1.out.cell (i := 0) rfl
    have k1 := H1.out.cell (i := 1) rfl
    go_upto_region 2 with fail
    apply wp_region_lit
    -- a load of a whole row: y0 block, H0.out fact RowAt, resolve.names the type's name
    refine plain_load rfl _ _ rfl y0 rfl _ _ (H0.out) Tryz.underlying98 rfl (by kernel_rfl) ?_
    go_simp
    refine wpList_plain rfl fun K1 hK1 => ?_
    go_simp
    refine hK1 _ _ ?_
    clear hK1 K1
    refine wpList_plain rfl fun K1 hK1 => ?_
    go_simp
    refine hK1 _ _ ?_
    clear hK1 K1
    -- a call in a plain region: refine (HI.out w1 HX.out).mono ?_; rintro e w2 ⟨rfl, hx2⟩ the contract taken, and its results named
    refine wpList_plain rfl fun K1 hK1 => ?_
    go_simp
    refine (HI.out w1 HX.out).mono ?_; rintro e w2 ⟨rfl, hx2⟩
    go_simp
    refine hK1 _ _ ?_
    clear hK1 K1
    refine wpList_plain rfl fun K1 hK1 => ?_
    go_simp
    refine hK1 _ _ ?_
    clear hK1 K1
    have HX2 := Lib.hid (HX.out.trans hx2)
    have HB2 := Lib.hid (H2.out.ext hx2)
    clear hx2 HX H0 H1 H2 HI k0 k1
    -- the result's row is stored, and the function ends: y2 the box's name, HB2.out its fact, [.int .i64 (-1), .int .i64 q] the cells, api.Arg the type's name, w2 the world now, HX2.out fact Ext, (by have := HN.out; omega) that the box is new, (by simp [Value.oneCell']) proof that each is one cell, ⟨rfl, HXX.out⟩ what is said of the result
    refine plain_store rfl _ _ _ rfl y2 ([.int .i64 (-1), .int .i64 q]) rfl rfl (HB2.out) (by kernel_rfl) rfl ((by simp [Value.oneCell'])) ?_
    have HRR := Lib.hid ((HB2.out).setRow ([.int .i64 (-1), .int .i64 q]))
    have HXX := Lib.hid (show Ext w ((w2).setRow y2 ([.int .i64 (-1), .int .i64 q]).toArray) from below_setRow (HX2.out) ((by have := HN.out; omega)) _)
    go_simp
    apply wpList_nil
    go_wp2_with fail
    exact bodyPost_ret (results_row0 rfl rfl HRR.out Tryz.underlying73 rfl (by kernel_rfl)) rfl (⟨rfl, HXX.out⟩)
  | none =>
    -- a function with three boxes at its head: (colander/resolve.names).arg its name, nmL vs m av [.bool true, .string s] [.int .i64 0, .int .i64 0] their cells (lists), resolve.names api.Term api.Arg their types' names
    have hbx := boxes3 w (nmL vs m av) 98 ([.bool true, .string s]) 86 ([.int .i64 0, .int .i64 0]) 73
    have HBX := Lib.hid hbx
    clear hbx
    go_enter Tryz.func116, Tryz.ntmps116
    go_upto_region 1 with fail
    generalize ((w.alloc (.cells (nmL vs m av).toArray 98)).alloc (.cells ([.bool true, .string s]).toArray 86)).alloc (.cells ([.int .i64 0, .int .i64 0]).toArray 73) = w1 at *
    obtain ⟨y0, hy0⟩ : ∃ x, w.heap.size = x := ⟨_, rfl⟩
    obtain ⟨y1, hy1⟩ : ∃ x, y0 + 1 = x := ⟨_, rfl⟩
    obtain ⟨y2, hy2⟩ : ∃ x, y1 + 1 = x := ⟨_, rfl⟩
    rw [hy0, hy1, hy2] at HBX
    simp only [hy0, hy1, hy2]
    have HN := Lib.hid (show w.heap.size = y0 ∧ y0 + 1 = y1 ∧ y1 + 1 = y2 from ⟨hy0, hy1, hy2⟩)
    have HX := Lib.hid HBX.out.1
    have H0 := Lib.hid HBX.out.2.1
    have H1 := Lib.hid HBX.out.2.2.1
    have H2 := Lib.hid HBX.out.2.2.2
    clear hy0 hy1 hy2 HBX
    have k0 := H1.out.cell (i := 0) rfl
    have k1 := H1.out.cell (i := 1) rfl
    go_upto_region 2 with fail
    apply wp_region_lit
    -- a load of a whole row: y0 block, H0.out fact RowAt, resolve.names the type's name
    refine plain_load rfl _ _ rfl y0 rfl _ _ (H0.out) Tryz.underlying98 rfl (by kernel_rfl) ?_
    go_simp
    refine wpList_plain rfl fun K1 hK1 => ?_
    go_simp
    refine hK1 _ _ ?_
    clear hK1 K1
    refine wpList_plain rfl fun K1 hK1 => ?_
    go_simp
    refine hK1 _ _ ?_
    clear hK1 K1
    refine wpList_plain rfl fun K1 hK1 => ?_
    go_simp
    refine (HI.out w1 HX.out).mono ?_; rintro e w2 ⟨rfl, hx2⟩
    unfold outE unknE
    go_wp2_with fail
    exact ⟨rfl, rfl, HX.out.trans hx2⟩
theorem findF_at {V : List ByteArray} (h : Distinct V) {s : ByteArray} {i : Nat} (hi : V[i]? = some s) : findF V s = i := by
  obtain ⟨hl, rfl⟩ := List.getElem?_eq_some_iff.1 hi
  exact findF_distinct h hl
set_option maxRecDepth 100000 in
theorem narg_var (vs : Nat → Value × Value) (m : Nat) (av : Value) (D : Dic) (V : List ByteArray) (w : World) (hm : VarsAt w m V) (hd : Distinct V) (s : ByteArray) (hs : s ∈ V) :
    Calls Tryz.prog 116 #[nmV vs m av, .agg #[.bool false, .string s]] w fun e w' => e = outE (argF D V false s) argV ∧ Ext w w' := by
  have hr : outE (argF D V false s) argV = .returned (.agg #[.int .i64 (findF V s), .int .i64 0]) := rfl
  rw [hr]
  clear hr
  obtain ⟨i, hi, hrun⟩ := vars_get hm hs
  rw [findF_at hd hi]
  have HM := Lib.hid hrun
  clear hrun hi
  unfold nmV at *
  -- a function with three boxes at its head: (colander/resolve.names).arg its name, nmL vs m av [.bool false, .string s] [.int .i64 0, .int .i64 0] their cells (lists), resolve.names api.Term api.Arg their types' names
  have hbx := boxes3 w (nmL vs m av) 98 ([.bool false, .string s]) 86 ([.int .i64 0, .int .i64 0]) 73
  have HBX := Lib.hid hbx
  clear hbx
  go_enter Tryz.func116, Tryz.ntmps116
  go_upto_region 1 with fail
  generalize ((w.alloc (.cells (nmL vs m av).toArray 98)).alloc (.cells ([.bool false, .string s]).toArray 86)).alloc (.cells ([.int .i64 0, .int .i64 0]).toArray 73) = w1 at *
  obtain ⟨y0, hy0⟩ : ∃ x, w.heap.size = x := ⟨_, rfl⟩
  obtain ⟨y1, hy1⟩ : ∃ x, y0 + 1 = x := ⟨_, rfl⟩
  obtain ⟨y2, hy2⟩ : ∃ x, y1 + 1 = x := ⟨_, rfl⟩
  rw [hy0, hy1, hy2] at HBX
  simp only [hy0, hy1, hy2]
  have HN := Lib.hid (show w.heap.size = y0 ∧ y0 + 1 = y1 ∧ y1 + 1 = y2 from ⟨hy0, hy1, hy2⟩)
  have HX := Lib.hid HBX.out.1
  have H0 := Lib.hid HBX.out.2.1
  have H1 := Lib.hid HBX.out.2.2.1
  have H2 := Lib.hid HBX.out.2.2.2
  clear hy0 hy1 hy2 HBX
  have hrun := HM.out w1 HX.out
  clear HM
  have k0 := H1.out.cell (i := 0) rfl
  have k1 := H1.out.cell (i := 1) rfl
  have n0 := (nm_map H0.out).1
  go_upto_region 3 with fail
  apply wp_region_lit
  refine wpList_plain rfl fun K1 hK1 => ?_
  go_simp
  refine hK1 _ _ ?_
  clear hK1 K1
  refine wpList_plain rfl fun K1 hK1 => ?_
  go_simp
  refine hK1 _ _ ?_
  clear hK1 K1
  refine wpList_plain rfl fun K1 hK1 => ?_
  go_simp
  refine hK1 _ _ ?_
  clear hK1 K1
  refine wpList_plain rfl fun K1 hK1 => ?_
  go_simp
  refine hK1 _ _ ?_
  clear hK1 K1
  refine wpList_plain rfl fun K1 hK1 => ?_
  go_simp
  refine hK1 _ _ ?_
  clear hK1 K1
  refine wpList_plain rfl fun K1 hK1 => ?_
  go_simp
  refine hK1 _ _ ?_
  clear hK1 K1
  clear k0 k1 n0 hrun
  -- the result's row is stored, and the function ends: y2 the box's name, H2.out its fact, [.int .i64 i, .int .i64 0] the cells, api.Arg the type's name, w1 the world now, HX.out fact Ext, (by have := HN.out; omega) that the box is new, (by simp [Value.oneCell']) proof that each is one cell, ⟨rfl, HXX.out⟩ what is said of the result
  refine plain_store rfl _ _ _ rfl y2 ([.int .i64 i, .int .i64 0]) rfl rfl (H2.out) (by kernel_rfl) rfl ((by simp [Value.oneCell'])) ?_
  have HRR := Lib.hid ((H2.out).setRow ([.int .i64 i, .int .i64 0]))
  have HXX := Lib.hid (show Ext w ((w1).setRow y2 ([.int .i64 i, .int .i64 0]).toArray) from below_setRow (HX.out) ((by have := HN.out; omega)) _)
  go_simp
  apply wpList_nil
  go_wp2_with fail
  exact bodyPost_ret (results_row0 rfl rfl HRR.out Tryz.underlying73 rfl (by kernel_rfl)) rfl (⟨rfl, HXX.out⟩)
/-- A term's argument, whatever it is. -/
theorem narg_any (vs : Nat → Value × Value) (m : Nat) (av : Value) (D : Dic) (V : List ByteArray) (w : World) (hV : DicV w vs D) (hS : DicS D) (h : DicOK D) (hm : VarsAt w m V) (hd : Distinct V) (k : Bool) (s : ByteArray) (hs : s.size ≤ 9223372036854775807) (hk : k = false → s ∈ V) :
    Calls Tryz.prog 116 #[nmV vs m av, .agg #[.bool k, .string s]] w fun e w' => e = outE (argF D V k s) argV ∧ Ext w w' := by
  cases k with
  | true => exact narg_key vs m av D V w hV hS h s hs
  | false => exact narg_var vs m av D V w hm hd s (hk rfl)
def termV (t : Bool × ByteArray) : Value := .agg #[.bool t.1, .string t.2]
set_option maxRecDepth 100000 in
theorem nterm_key (vs : Nat → Value × Value) (m : Nat) (av : Value) (D : Dic) (V : List ByteArray) (w : World) (hV : DicV w vs D) (hS : DicS D) (h : DicOK D) (q : Int) :
    Calls Tryz.prog 118 #[nmV vs m av, .agg #[.int .i64 (-1), .int .i64 q]] w fun e w' => e = outE (termF D V ⟨-1, q⟩) termV ∧ Ext w w' := by
  have hI := fun w' (hx : Ext w w') => nname_any vs m av D w' (hV.ext hx) hS h 0 (by omega) q
  have hr : outE (termF D V ⟨-1, q⟩) termV = outE (nameO D 0 q) (fun s => termV (true, s)) := by
    unfold termF
    rw [if_pos rfl]
    cases nameO D 0 q <;> rfl
  rw [hr]
  clear hr
  obtain ⟨r, hr⟩ : ∃ r, nameO D 0 q = r := ⟨_, rfl⟩
  rw [hr] at hI ⊢
  clear hr
  have HI := Lib.hid hI
  clear hI
  unfold nmV at *
  cases r with
  | some s =>
    -- a function with three boxes at its head: (colander/resolve.names).term its name, nmL vs m av [.int .i64 (-1), .int .i64 q] [.bool false, .string ⟨#[]⟩] their cells (lists), resolve.names api.Arg api.Term their types' names
    have hbx := boxes3 w (nmL vs m av) 98 ([.int .i64 (-1), .int .i64 q]) 73 ([.bool false, .string ⟨#[]⟩]) 86
    have HBX := Lib.hid hbx
    clear hbx
    go_enter Tryz.func118, Tryz.ntmps118
    go_upto_region 1 with fail
    generalize ((w.alloc (.cells (nmL vs m av).toArray 98)).alloc (.cells ([.int .i64 (-1), .int .i64 q]).toArray 73)).alloc (.cells ([.bool false, .string ⟨#[]⟩]).toArray 86) = w1 at *
    obtain ⟨y0, hy0⟩ : ∃ x, w.heap.size = x := ⟨_, rfl⟩
    obtain ⟨y1, hy1⟩ : ∃ x, y0 + 1 = x := ⟨_, rfl⟩
    obtain ⟨y2, hy2⟩ : ∃ x, y1 + 1 = x := ⟨_, rfl⟩
    rw [hy0, hy1, hy2] at HBX
    simp only [hy0, hy1, hy2]
    have HN := Lib.hid (show w.heap.size = y0 ∧ y0 + 1 = y1 ∧ y1 + 1 = y2 from ⟨hy0, hy1, hy2⟩)
    have HX := Lib.hid HBX.out.1
    have H0 := Lib.hid HBX.out.2.1
    have H1 := Lib.hid HBX.out.2.2.1
    have H2 := Lib.hid HBX.out.2.2.2
    clear hy0 hy1 hy2 HBX
    have k0 := H1.out.cell (i := 0) rfl
    have k1 := H1.out.cell (i := 1) rfl
    go_upto_region 2 with fail
    apply wp_region_lit
    -- a load of a whole row: y0 block, H0.out fact RowAt, resolve.names the type's name
    refine plain_load rfl _ _ rfl y0 rfl _ _ (H0.out) Tryz.underlying98 rfl (by kernel_rfl) ?_
    go_simp
    refine wpList_plain rfl fun K1 hK1 => ?_
    go_simp
    refine hK1 _ _ ?_
    clear hK1 K1
    refine wpList_plain rfl fun K1 hK1 => ?_
    go_simp
    refine hK1 _ _ ?_
    clear hK1 K1
    -- a call in a plain region: refine (HI.out w1 HX.out).mono ?_; rintro e w2 ⟨rfl, hx2⟩ the contract taken, and its results named
    refine wpList_plain rfl fun K1 hK1 => ?_
    go_simp
    refine (HI.out w1 HX.out).mono ?_; rintro e w2 ⟨rfl, hx2⟩
    go_simp
    refine hK1 _ _ ?_
    clear hK1 K1
    unfold strV
    refine wpList_plain rfl fun K1 hK1 => ?_
    go_simp
    refine hK1 _ _ ?_
    clear hK1 K1
    have HX2 := Lib.hid (HX.out.trans hx2)
    have HB2 := Lib.hid (H2.out.ext hx2)
    clear hx2 HX H0 H1 H2 HI k0 k1
    -- the result's row is stored, and the function ends: y2 the box's name, HB2.out its fact, [.bool true, .string s] the cells, api.Term the type's name, w2 the world now, HX2.out fact Ext, (by have := HN.out; omega) that the box is new, (by simp [Value.oneCell']) proof that each is one cell, ⟨rfl, HXX.out⟩ what is said of the result
    refine plain_store rfl _ _ _ rfl y2 ([.bool true, .string s]) rfl rfl (HB2.out) (by kernel_rfl) rfl ((by simp [Value.oneCell'])) ?_
    have HRR := Lib.hid ((HB2.out).setRow ([.bool true, .string s]))
    have HXX := Lib.hid (show Ext w ((w2).setRow y2 ([.bool true, .string s]).toArray) from below_setRow (HX2.out) ((by have := HN.out; omega)) _)
    go_simp
    apply wpList_nil
    go_wp2_with fail
    exact bodyPost_ret (results_row0 rfl rfl HRR.out Tryz.underlying86 rfl (by kernel_rfl)) rfl (⟨rfl, HXX.out⟩)
  | none =>
    -- a function with three boxes at its head: (colander/resolve.names).term its name, nmL vs m av [.int .i64 (-1), .int .i64 q] [.bool false, .string ⟨#[]⟩] their cells (lists), resolve.names api.Arg api.Term their types' names
    have hbx := boxes3 w (nmL vs m av) 98 ([.int .i64 (-1), .int .i64 q]) 73 ([.bool false, .string ⟨#[]⟩]) 86
    have HBX := Lib.hid hbx
    clear hbx
    go_enter Tryz.func118, Tryz.ntmps118
    go_upto_region 1 with fail
    generalize ((w.alloc (.cells (nmL vs m av).toArray 98)).alloc (.cells ([.int .i64 (-1), .int .i64 q]).toArray 73)).alloc (.cells ([.bool false, .string ⟨#[]⟩]).toArray 86) = w1 at *
    obtain ⟨y0, hy0⟩ : ∃ x, w.heap.size = x := ⟨_, rfl⟩
    obtain ⟨y1, hy1⟩ : ∃ x, y0 + 1 = x := ⟨_, rfl⟩
    obtain ⟨y2, hy2⟩ : ∃ x, y1 + 1 = x := ⟨_, rfl⟩
    rw [hy0, hy1, hy2] at HBX
    simp only [hy0, hy1, hy2]
    have HN := Lib.hid (show w.heap.size = y0 ∧ y0 + 1 = y1 ∧ y1 + 1 = y2 from ⟨hy0, hy1, hy2⟩)
    have HX := Lib.hid HBX.out.1
    have H0 := Lib.hid HBX.out.2.1
    have H1 := Lib.hid HBX.out.2.2.1
    have H2 := Lib.hid HBX.out.2.2.2
    clear hy0 hy1 hy2 HBX
    have k0 := H1.out.cell (i := 0) rfl
    have k1 := H1.out.cell (i := 1) rfl
    go_upto_region 2 with fail
    apply wp_region_lit
    -- a load of a whole row: y0 block, H0.out fact RowAt, resolve.names the type's name
    refine plain_load rfl _ _ rfl y0 rfl _ _ (H0.out) Tryz.underlying98 rfl (by kernel_rfl) ?_
    go_simp
    refine wpList_plain rfl fun K1 hK1 => ?_
    go_simp
    refine hK1 _ _ ?_
    clear hK1 K1
    refine wpList_plain rfl fun K1 hK1 => ?_
    go_simp
    refine hK1 _ _ ?_
    clear hK1 K1
    refine wpList_plain rfl fun K1 hK1 => ?_
    go_simp
    refine (HI.out w1 HX.out).mono ?_; rintro e w2 ⟨rfl, hx2⟩
    unfold outE unknE
    go_wp2_with fail
    exact ⟨rfl, rfl, HX.out.trans hx2⟩
end Go.Proofs.YtkmbnghghbfkdaaGreat

/- An argument's term, where it is a variable. -/
namespace Go.Proofs.YtkmbnghghbfkdaaGreat
set_option maxRecDepth 100000
set_option maxHeartbeats 2000000
set_option linter.unusedSimpArgs false
open Go.RowKit Go.Shelf Go.Sort
attribute [local go_sem] Oper.semAt_some wide_fn wide_depth
set_option linter.unusedVariables false

set_option maxRecDepth 100000 in
set_option maxHeartbeats 2000000 in
theorem nterm_var (vs : Nat → Value × Value) (m : Nat) (a : Option Addr) (c : Nat) (D : Dic) (V : List ByteArray) (w : World) (hA : Strs w (.slice a V.length c) V) (x q : Int) (hx : x ≠ -1) (hl : V.length ≤ 1000000) :
    Calls Tryz.prog 118 #[nmV vs m (.slice a V.length c), .agg #[.int .i64 x, .int .i64 q]] w fun e w' => e = outE (termF D V ⟨x, q⟩) termV ∧ Ext w w' := by
  have hr : termF D V ⟨x, q⟩ = if 0 ≤ x ∧ x < V.length ∧ q = 0 then some (false, V.getD x.toNat nilB) else none := by
    unfold termF; rw [if_neg hx]
  obtain ⟨X, hX⟩ : ∃ X, outE (termF D V ⟨x, q⟩) termV = X := ⟨_, rfl⟩
  rw [hX]
  rw [hr] at hX
  have hne : (x == -1) = false := by simpa using hx
  have HA := Lib.hid hA
  unfold nmV at *
  by_cases hok : 0 ≤ x ∧ x < V.length ∧ q = 0
  · obtain ⟨h1, h2, rfl⟩ := hok
    obtain ⟨k, rfl⟩ : ∃ k : Nat, x = k := ⟨x.toNat, by omega⟩
    have hkl : k < V.length := by omega
    rw [if_pos ⟨h1, h2, rfl⟩, Int.toNat_natCast, List.getD_eq_getElem?_getD, List.getElem?_eq_getElem hkl] at hX
    have hX' : Ending.returned (.agg #[.bool false, .string V[k]]) = X := hX
    have HXE := Lib.hid hX'
    have HL := Lib.hid hl
    clear hX hX' hr hx h1 h2 hA
    -- a function with three boxes at its head: (colander/resolve.names).term its name, nmL vs m (.slice a V.length c) [.int .i64 k, .int .i64 0] [.bool false, .string ⟨#[]⟩] their cells (lists), resolve.names api.Arg api.Term their types' names
    have hbx := boxes3 w (nmL vs m (.slice a V.length c)) 98 ([.int .i64 k, .int .i64 0]) 73 ([.bool false, .string ⟨#[]⟩]) 86
    have HBX := Lib.hid hbx
    clear hbx
    go_enter Tryz.func118, Tryz.ntmps118
    go_upto_region 1 with fail
    generalize ((w.alloc (.cells (nmL vs m (.slice a V.length c)).toArray 98)).alloc (.cells ([.int .i64 k, .int .i64 0]).toArray 73)).alloc (.cells ([.bool false, .string ⟨#[]⟩]).toArray 86) = w1 at *
    obtain ⟨y0, hy0⟩ : ∃ x, w.heap.size = x := ⟨_, rfl⟩
    obtain ⟨y1, hy1⟩ : ∃ x, y0 + 1 = x := ⟨_, rfl⟩
    obtain ⟨y2, hy2⟩ : ∃ x, y1 + 1 = x := ⟨_, rfl⟩
    rw [hy0, hy1, hy2] at HBX
    simp only [hy0, hy1, hy2]
    have HN := Lib.hid (show w.heap.size = y0 ∧ y0 + 1 = y1 ∧ y1 + 1 = y2 from ⟨hy0, hy1, hy2⟩)
    have HX := Lib.hid HBX.out.1
    have H0 := Lib.hid HBX.out.2.1
    have H1 := Lib.hid HBX.out.2.2.1
    have H2 := Lib.hid HBX.out.2.2.2
    clear hy0 hy1 hy2 HBX
    obtain ⟨b, o, rfl, c0⟩ := (HA.out.ext HX.out).at_ hkl
    generalize V[k] = s at *
    have k0 := H1.out.cell (i := 0) rfl
    have k1 := H1.out.cell (i := 1) rfl
    obtain ⟨n0, n1⟩ := nm_map H0.out
    clear hl
    go_wp2_with fail
    refine (need_yes _).mono ?_
    rintro e w3 ⟨rfl, rfl⟩
    go_upto_region 4 with fail
    apply wp_region_lit
    refine wpList_plain rfl fun K1 hK1 => ?_
    go_simp
    refine hK1 _ _ ?_
    clear hK1 K1
    refine wpList_plain rfl fun K1 hK1 => ?_
    go_simp
    refine hK1 _ _ ?_
    clear hK1 K1
    refine wpList_plain rfl fun K1 hK1 => ?_
    go_simp
    refine hK1 _ _ ?_
    clear hK1 K1
    refine wpList_plain rfl fun K1 hK1 => ?_
    go_simp
    refine hK1 _ _ ?_
    clear hK1 K1
    refine wpList_plain rfl fun K1 hK1 => ?_
    go_simp
    refine hK1 _ _ ?_
    clear hK1 K1
    refine wpList_plain rfl fun K1 hK1 => ?_
    go_simp
    refine hK1 _ _ ?_
    clear hK1 K1
    refine wpList_plain rfl fun K1 hK1 => ?_
    go_simp
    refine hK1 _ _ ?_
    clear hK1 K1
    clear k0 k1 n0 n1 c0
    -- the result's row is stored, and the function ends: y2 the box's name, H2.out its fact, [.bool false, .string s] the cells, api.Term the type's name, w1 the world now, HX.out fact Ext, (by have := HN.out; omega) that the box is new, (by simp [Value.oneCell']) proof that each is one cell, ⟨HXE.out, HXX.out⟩ what is said of the result
    refine plain_store rfl _ _ _ rfl y2 ([.bool false, .string s]) rfl rfl (H2.out) (by kernel_rfl) rfl ((by simp [Value.oneCell'])) ?_
    have HRR := Lib.hid ((H2.out).setRow ([.bool false, .string s]))
    have HXX := Lib.hid (show Ext w ((w1).setRow y2 ([.bool false, .string s]).toArray) from below_setRow (HX.out) ((by have := HN.out; omega)) _)
    go_simp
    apply wpList_nil
    go_wp2_with fail
    exact bodyPost_ret (results_row0 rfl rfl HRR.out Tryz.underlying86 rfl (by kernel_rfl)) rfl (⟨HXE.out, HXX.out⟩)
  · rw [if_neg hok] at hX
    have HXE := Lib.hid (show unknE = X from hX)
    obtain ⟨b1, hb1⟩ : ∃ b, decide (0 ≤ x) = b := ⟨_, rfl⟩
    obtain ⟨b2, hb2⟩ : ∃ b, decide (x < (V.length : Int)) = b := ⟨_, rfl⟩
    obtain ⟨b3, hb3⟩ : ∃ b, (q == 0) = b := ⟨_, rfl⟩
    have HNO : Hid (¬ (b1 = true ∧ b2 = true ∧ b3 = true)) := Lib.hid (by
      rintro ⟨rfl, rfl, rfl⟩
      exact hok ⟨of_decide_eq_true hb1, of_decide_eq_true hb2, by simpa using hb3⟩)
    clear hok hX hr hx hA hl
    cases b1
    case false =>
      -- a function with three boxes at its head: (colander/resolve.names).term its name, nmL vs m (.slice a V.length c) [.int .i64 x, .int .i64 q] [.bool false, .string ⟨#[]⟩] their cells (lists), resolve.names api.Arg api.Term their types' names
      have hbx := boxes3 w (nmL vs m (.slice a V.length c)) 98 ([.int .i64 x, .int .i64 q]) 73 ([.bool false, .string ⟨#[]⟩]) 86
      have HBX := Lib.hid hbx
      clear hbx
      go_enter Tryz.func118, Tryz.ntmps118
      go_upto_region 1 with fail
      generalize ((w.alloc (.cells (nmL vs m (.slice a V.length c)).toArray 98)).alloc (.cells ([.int .i64 x, .int .i64 q]).toArray 73)).alloc (.cells ([.bool false, .string ⟨#[]⟩]).toArray 86) = w1 at *
      obtain ⟨y0, hy0⟩ : ∃ x, w.heap.size = x := ⟨_, rfl⟩
      obtain ⟨y1, hy1⟩ : ∃ x, y0 + 1 = x := ⟨_, rfl⟩
      obtain ⟨y2, hy2⟩ : ∃ x, y1 + 1 = x := ⟨_, rfl⟩
      rw [hy0, hy1, hy2] at HBX
      simp only [hy0, hy1, hy2]
      have HN := Lib.hid (show w.heap.size = y0 ∧ y0 + 1 = y1 ∧ y1 + 1 = y2 from ⟨hy0, hy1, hy2⟩)
      have HX := Lib.hid HBX.out.1
      have H0 := Lib.hid HBX.out.2.1
      have H1 := Lib.hid HBX.out.2.2.1
      have H2 := Lib.hid HBX.out.2.2.2
      clear hy0 hy1 hy2 HBX
      have k0 := H1.out.cell (i := 0) rfl
      have k1 := H1.out.cell (i := 1) rfl
      obtain ⟨n0, n1⟩ := nm_map H0.out
      go_wp2_with fail
      refine (need_no _).mono ?_
      rintro e w3 ⟨rfl, rfl⟩
      unfold unknE
      dsimp only
      go_wp2_with fail
      exact ⟨rfl, HXE.out, HX.out⟩
    case true =>
      cases b2
      case false =>
        -- a function with three boxes at its head: (colander/resolve.names).term its name, nmL vs m (.slice a V.length c) [.int .i64 x, .int .i64 q] [.bool false, .string ⟨#[]⟩] their cells (lists), resolve.names api.Arg api.Term their types' names
        have hbx := boxes3 w (nmL vs m (.slice a V.length c)) 98 ([.int .i64 x, .int .i64 q]) 73 ([.bool false, .string ⟨#[]⟩]) 86
        have HBX := Lib.hid hbx
        clear hbx
        go_enter Tryz.func118, Tryz.ntmps118
        go_upto_region 1 with fail
        generalize ((w.alloc (.cells (nmL vs m (.slice a V.length c)).toArray 98)).alloc (.cells ([.int .i64 x, .int .i64 q]).toArray 73)).alloc (.cells ([.bool false, .string ⟨#[]⟩]).toArray 86) = w1 at *
        obtain ⟨y0, hy0⟩ : ∃ x, w.heap.size = x := ⟨_, rfl⟩
        obtain ⟨y1, hy1⟩ : ∃ x, y0 + 1 = x := ⟨_, rfl⟩
        obtain ⟨y2, hy2⟩ : ∃ x, y1 + 1 = x := ⟨_, rfl⟩
        rw [hy0, hy1, hy2] at HBX
        simp only [hy0, hy1, hy2]
        have HN := Lib.hid (show w.heap.size = y0 ∧ y0 + 1 = y1 ∧ y1 + 1 = y2 from ⟨hy0, hy1, hy2⟩)
        have HX := Lib.hid HBX.out.1
        have H0 := Lib.hid HBX.out.2.1
        have H1 := Lib.hid HBX.out.2.2.1
        have H2 := Lib.hid HBX.out.2.2.2
        clear hy0 hy1 hy2 HBX
        have k0 := H1.out.cell (i := 0) rfl
        have k1 := H1.out.cell (i := 1) rfl
        obtain ⟨n0, n1⟩ := nm_map H0.out
        go_wp2_with fail
        refine (need_no _).mono ?_
        rintro e w3 ⟨rfl, rfl⟩
        unfold unknE
        dsimp only
        go_wp2_with fail
        exact ⟨rfl, HXE.out, HX.out⟩
      case true =>
        cases b3
        case true => exact absurd ⟨rfl, rfl, rfl⟩ HNO.out
        case false =>
          -- a function with three boxes at its head: (colander/resolve.names).term its name, nmL vs m (.slice a V.length c) [.int .i64 x, .int .i64 q] [.bool false, .string ⟨#[]⟩] their cells (lists), resolve.names api.Arg api.Term their types' names
          have hbx := boxes3 w (nmL vs m (.slice a V.length c)) 98 ([.int .i64 x, .int .i64 q]) 73 ([.bool false, .string ⟨#[]⟩]) 86
          have HBX := Lib.hid hbx
          clear hbx
          go_enter Tryz.func118, Tryz.ntmps118
          go_upto_region 1 with fail
          generalize ((w.alloc (.cells (nmL vs m (.slice a V.length c)).toArray 98)).alloc (.cells ([.int .i64 x, .int .i64 q]).toArray 73)).alloc (.cells ([.bool false, .string ⟨#[]⟩]).toArray 86) = w1 at *
          obtain ⟨y0, hy0⟩ : ∃ x, w.heap.size = x := ⟨_, rfl⟩
          obtain ⟨y1, hy1⟩ : ∃ x, y0 + 1 = x := ⟨_, rfl⟩
          obtain ⟨y2, hy2⟩ : ∃ x, y1 + 1 = x := ⟨_, rfl⟩
          rw [hy0, hy1, hy2] at HBX
          simp only [hy0, hy1, hy2]
          have HN := Lib.hid (show w.heap.size = y0 ∧ y0 + 1 = y1 ∧ y1 + 1 = y2 from ⟨hy0, hy1, hy2⟩)
          have HX := Lib.hid HBX.out.1
          have H0 := Lib.hid HBX.out.2.1
          have H1 := Lib.hid HBX.out.2.2.1
          have H2 := Lib.hid HBX.out.2.2.2
          clear hy0 hy1 hy2 HBX
          have k0 := H1.out.cell (i := 0) rfl
          have k1 := H1.out.cell (i := 1) rfl
          obtain ⟨n0, n1⟩ := nm_map H0.out
          go_wp2_with fail
          refine (need_no _).mono ?_
          rintro e w3 ⟨rfl, rfl⟩
          unfold unknE
          dsimp only
          go_wp2_with fail
          exact ⟨rfl, HXE.out, HX.out⟩
/-- An argument's term, whatever it is. -/
theorem nterm_any (vs : Nat → Value × Value) (m : Nat) (a : Option Addr) (c : Nat) (D : Dic) (V : List ByteArray) (w : World) (hV : DicV w vs D) (hS : DicS D) (h : DicOK D) (hA : Strs w (.slice a V.length c) V) (hl : V.length ≤ 1000000) (x : Arg) :
    Calls Tryz.prog 118 #[nmV vs m (.slice a V.length c), argV x] w fun e w' => e = outE (termF D V x) termV ∧ Ext w w' := by
  obtain ⟨v, q⟩ := x
  by_cases hx : v = -1
  · subst hx
    exact nterm_key vs m _ D V w hV hS h q
  · exact nterm_var vs m a c D V w hA v q hx hl
end Go.Proofs.YtkmbnghghbfkdaaGreat

/- A region that draws its order: what each operation comes to is known, or it leaves. No program in sight. -/
namespace Go.Proofs.YtkmbnghghbfkdaaGreat
set_option maxRecDepth 100000
set_option maxHeartbeats 2000000
set_option linter.unusedSimpArgs false
open Go.RowKit Go.Sort
set_option linter.unusedVariables false

/-- Each operation that is listed has come to its value; what holds of the world hangs on whether the last one is listed. -/
structure PlF (I : Bool → World → Prop) (vals : List (Option Value)) (last : Nat) (S : Nat → Bool) (us : List Value) (W : World) : Prop where
  inv : I (S last) W
  len : us.length = vals.length
  val : ∀ i, S i = true → i < vals.length → ∃ v, vals[i]? = some (some v) ∧ us[i]? = some v
section
variable {I : Bool → World → Prop} {vals : List (Option Value)} {last : Nat} {S : Nat → Bool} {us : List Value} {W W' : World}
theorem PlF.start (hl : us.length = vals.length) (h : I false W) : PlF I vals last (fun _ => false) us W := ⟨h, hl, nofun⟩
theorem PlF.put (h : PlF I vals last S us W) {i : Nat} {v : Value} (hi : vals[i]? = some (some v)) (hne : last ≠ i) (hI : I (S last) W') : PlF I vals last (updB S i) (us.set i v) W' := by
  refine ⟨by rw [updB_ne S hne]; exact hI, by rw [List.length_set]; exact h.len, fun j hj hl => ?_⟩
  by_cases e : j = i
  · subst e
    exact ⟨v, hi, by rw [List.getElem?_set_self (by have := h.len; omega)]⟩
  · rw [updB_ne S e] at hj
    obtain ⟨u, h1, h2⟩ := h.val j hj hl
    exact ⟨u, h1, by rw [List.getElem?_set_ne (Ne.symm e)]; exact h2⟩
theorem PlF.fin (h : PlF I vals last S us W) (hl : vals.length ≤ last) (hI : I true W') : PlF I vals last (updB S last) us W' := by
  refine ⟨by rw [updB_at]; exact hI, h.len, fun j hj hl' => ?_⟩
  rw [updB_ne S (show j ≠ last by omega)] at hj
  exact h.val j hj hl'
/-- Memory is made: where it lies is known from then on. -/
theorem PlF.alloc (h : PlF I vals last S us W) {i : Nat} {v : Value} (hn : S i = false) (hl : i < vals.length) (hne : last ≠ i) {J : Bool → World → Prop} (hI : J (S last) W') : PlF J (vals.set i (some v)) last (updB S i) (us.set i v) W' := by
  refine ⟨by rw [updB_ne S hne]; exact hI, by rw [List.length_set, List.length_set]; exact h.len, fun j hj hl' => ?_⟩
  rw [List.length_set] at hl'
  by_cases e : j = i
  · subst e
    exact ⟨v, by rw [List.getElem?_set_self hl], by rw [List.getElem?_set_self (by have := h.len; omega)]⟩
  · rw [updB_ne S e] at hj
    obtain ⟨u, h1, h2⟩ := h.val j hj hl'
    exact ⟨u, by rw [List.getElem?_set_ne (Ne.symm e)]; exact h1, by rw [List.getElem?_set_ne (Ne.symm e)]; exact h2⟩
/-- A value that is known. -/
theorem PlF.get (h : PlF I vals last S us W) {i : Nat} (hS : S i = true) {o : Option Value} (hi : vals[i]? = some o) : ∃ v, o = some v ∧ us[i]? = some v := by
  obtain ⟨v, h1, h2⟩ := h.val i hS (List.getElem?_eq_some_iff.1 hi).1
  rw [hi] at h1
  exact ⟨v, Option.some.inj h1, h2⟩
theorem PlF.got (h : PlF I vals last S us W) {i : Nat} (hS : S i = true) {v u : Value} (hi : vals[i]? = some (some v)) (hu : us[i]? = some u) : u = v := by
  obtain ⟨v', h1, h2⟩ := h.get hS hi
  rw [hu] at h2
  cases h1
  exact Option.some.inj h2
theorem PlF.map {α : Type} (h : PlF I vals last S us W) {i : Nat} (hS : S i = true) {r : Option α} {f : α → Value} {u : Value} (hi : vals[i]? = some (r.map f)) (hu : us[i]? = some u) : ∃ x, r = some x ∧ u = f x := by
  obtain ⟨v', h1, h2⟩ := h.get hS hi
  rw [hu] at h2
  cases r with
  | none => cases h1
  | some x => exact ⟨x, rfl, by cases h1; exact Option.some.inj h2⟩
end
/-- As PlF, but for the world: what holds of it hangs on all that is listed. -/
structure PlS (vals : List (Option Value)) (S : Nat → Bool) (us : List Value) : Prop where
  len : us.length = vals.length
  val : ∀ i, S i = true → i < vals.length → ∃ v, vals[i]? = some (some v) ∧ us[i]? = some v
section
variable {vals : List (Option Value)} {S : Nat → Bool} {us : List Value}
theorem PlS.start (hl : us.length = vals.length) : PlS vals (fun _ => false) us := ⟨hl, nofun⟩
theorem PlS.put (h : PlS vals S us) {i : Nat} {v : Value} (hi : vals[i]? = some (some v)) : PlS vals (updB S i) (us.set i v) := by
  refine ⟨by rw [List.length_set]; exact h.len, fun j hj hl => ?_⟩
  by_cases e : j = i
  · subst e
    exact ⟨v, hi, by rw [List.getElem?_set_self (by have := h.len; omega)]⟩
  · rw [updB_ne S e] at hj
    obtain ⟨u, h1, h2⟩ := h.val j hj hl
    exact ⟨u, h1, by rw [List.getElem?_set_ne (Ne.symm e)]; exact h2⟩
theorem PlS.new (h : PlS vals S us) {i : Nat} (v : Value) (hn : S i = false) (hl : i < vals.length) : PlS (vals.set i (some v)) (updB S i) (us.set i v) := by
  refine ⟨by rw [List.length_set, List.length_set]; exact h.len, fun j hj hl' => ?_⟩
  rw [List.length_set] at hl'
  by_cases e : j = i
  · subst e
    exact ⟨v, by rw [List.getElem?_set_self hl], by rw [List.getElem?_set_self (by have := h.len; omega)]⟩
  · rw [updB_ne S e] at hj
    obtain ⟨u, h1, h2⟩ := h.val j hj hl'
    exact ⟨u, by rw [List.getElem?_set_ne (Ne.symm e)]; exact h1, by rw [List.getElem?_set_ne (Ne.symm e)]; exact h2⟩
theorem PlS.out (h : PlS vals S us) {i : Nat} (hl : vals.length ≤ i) : PlS vals (updB S i) us := by
  refine ⟨h.len, fun j hj hl' => ?_⟩
  rw [updB_ne S (show j ≠ i by omega)] at hj
  exact h.val j hj hl'
theorem PlS.get (h : PlS vals S us) {i : Nat} (hS : S i = true) {o : Option Value} (hi : vals[i]? = some o) : ∃ v, o = some v ∧ us[i]? = some v := by
  obtain ⟨v, h1, h2⟩ := h.val i hS (List.getElem?_eq_some_iff.1 hi).1
  rw [hi] at h1
  exact ⟨v, Option.some.inj h1, h2⟩
theorem PlS.got (h : PlS vals S us) {i : Nat} (hS : S i = true) {v u : Value} (hi : vals[i]? = some (some v)) (hu : us[i]? = some u) : u = v := by
  obtain ⟨v', h1, h2⟩ := h.get hS hi
  rw [hu] at h2
  cases h1
  exact Option.some.inj h2
theorem PlS.map {α : Type} (h : PlS vals S us) {i : Nat} (hS : S i = true) {r : Option α} {f : α → Value} {u : Value} (hi : vals[i]? = some (r.map f)) (hu : us[i]? = some u) : ∃ x, r = some x ∧ u = f x := by
  obtain ⟨v', h1, h2⟩ := h.get hS hi
  rw [hu] at h2
  cases r with
  | none => cases h1
  | some x => exact ⟨x, rfl, by cases h1; exact Option.some.inj h2⟩
end
section
variable {P : Program} {Q : Exit → Act → World → Prop} {K : Act → World → Prop} {ops : Array Oper} {o : Oper} {a : Act} {w : World} {E : Prop}
end
theorem len6 {l : List Value} {vals : List (Option Value)} (h : l.length = vals.length) (hv : vals.length = 6) : ∃ u0 u1 u2 u3 u4 u5, l = [u0, u1, u2, u3, u4, u5] := by
  rw [hv] at h
  match l, h with
  | [u0, u1, u2, u3, u4, u5], _ => exact ⟨u0, u1, u2, u3, u4, u5, rfl⟩
theorem len8 {l : List Value} {vals : List (Option Value)} (h : l.length = vals.length) (hv : vals.length = 8) : ∃ u0 u1 u2 u3 u4 u5 u6 u7, l = [u0, u1, u2, u3, u4, u5, u6, u7] := by
  rw [hv] at h
  match l, h with
  | [u0, u1, u2, u3, u4, u5, u6, u7], _ => exact ⟨u0, u1, u2, u3, u4, u5, u6, u7, rfl⟩
theorem len10 {l : List Value} {vals : List (Option Value)} (h : l.length = vals.length) (hv : vals.length = 10) : ∃ u0 u1 u2 u3 u4 u5 u6 u7 u8 u9, l = [u0, u1, u2, u3, u4, u5, u6, u7, u8, u9] := by
  rw [hv] at h
  match l, h with
  | [u0, u1, u2, u3, u4, u5, u6, u7, u8, u9], _ => exact ⟨u0, u1, u2, u3, u4, u5, u6, u7, u8, u9, rfl⟩
theorem len11 {l : List Value} {vals : List (Option Value)} (h : l.length = vals.length) (hv : vals.length = 11) : ∃ u0 u1 u2 u3 u4 u5 u6 u7 u8 u9 u10, l = [u0, u1, u2, u3, u4, u5, u6, u7, u8, u9, u10] := by
  rw [hv] at h
  match l, h with
  | [u0, u1, u2, u3, u4, u5, u6, u7, u8, u9, u10], _ => exact ⟨u0, u1, u2, u3, u4, u5, u6, u7, u8, u9, u10, rfl⟩
theorem len12 {l : List Value} {vals : List (Option Value)} (h : l.length = vals.length) (hv : vals.length = 12) : ∃ u0 u1 u2 u3 u4 u5 u6 u7 u8 u9 u10 u11, l = [u0, u1, u2, u3, u4, u5, u6, u7, u8, u9, u10, u11] := by
  rw [hv] at h
  match l, h with
  | [u0, u1, u2, u3, u4, u5, u6, u7, u8, u9, u10, u11], _ => exact ⟨u0, u1, u2, u3, u4, u5, u6, u7, u8, u9, u10, u11, rfl⟩
theorem len14 {l : List Value} {vals : List (Option Value)} (h : l.length = vals.length) (hv : vals.length = 14) : ∃ u0 u1 u2 u3 u4 u5 u6 u7 u8 u9 u10 u11 u12 u13, l = [u0, u1, u2, u3, u4, u5, u6, u7, u8, u9, u10, u11, u12, u13] := by
  rw [hv] at h
  match l, h with
  | [u0, u1, u2, u3, u4, u5, u6, u7, u8, u9, u10, u11, u12, u13], _ => exact ⟨u0, u1, u2, u3, u4, u5, u6, u7, u8, u9, u10, u11, u12, u13, rfl⟩
theorem len15 {l : List Value} {vals : List (Option Value)} (h : l.length = vals.length) (hv : vals.length = 15) : ∃ u0 u1 u2 u3 u4 u5 u6 u7 u8 u9 u10 u11 u12 u13 u14, l = [u0, u1, u2, u3, u4, u5, u6, u7, u8, u9, u10, u11, u12, u13, u14] := by
  rw [hv] at h
  match l, h with
  | [u0, u1, u2, u3, u4, u5, u6, u7, u8, u9, u10, u11, u12, u13, u14], _ => exact ⟨u0, u1, u2, u3, u4, u5, u6, u7, u8, u9, u10, u11, u12, u13, u14, rfl⟩
end Go.Proofs.YtkmbnghghbfkdaaGreat
