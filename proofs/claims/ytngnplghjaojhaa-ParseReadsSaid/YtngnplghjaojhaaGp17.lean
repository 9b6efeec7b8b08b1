/- Which atoms may be: the program. -/
import Derived.Test.YtngnplghjaojhaaGp16
import Derived.Test.YtngnplghjaojhaaGp03
import Derived.Test.YtngnplghjaojhaaShelf
namespace Go.Proofs.Ytngnplghjaojhaa
set_option maxRecDepth 100000
set_option maxHeartbeats 2000000
set_option linter.unusedSimpArgs false
open Go.RowKit Go.Shelf Go.Sort
attribute [local go_sem] Oper.semAt_some wide_fn wide_depth
set_option linter.unusedVariables false

theorem row7_facts {w : World} {g : Nat} {t : TypeId} {x0 x1 x2 x3 x4 x5 x6 : Value} (h : RowAt w g t [x0, x1, x2, x3, x4, x5, x6]) : w.cell? ⟨g, 0, none⟩ = some x0 ∧ w.cell? ⟨g, 1, none⟩ = some x1 ∧ w.cell? ⟨g, 2, none⟩ = some x2 ∧ w.cell? ⟨g, 3, none⟩ = some x3 ∧ w.cell? ⟨g, 4, none⟩ = some x4 ∧ w.cell? ⟨g, 5, none⟩ = some x5 ∧ w.cell? ⟨g, 6, none⟩ = some x6 :=
  ⟨h.cell (i := 0) rfl, h.cell (i := 1) rfl, h.cell (i := 2) rfl, h.cell (i := 3) rfl, h.cell (i := 4) rfl, h.cell (i := 5) rfl, h.cell (i := 6) rfl⟩
structure Atm.Fits (a : Atm) : Prop where
  fn : a.fn.size ≤ 9223372036854775800
  name : a.name.size ≤ 9223372036854775800
  value : a.value.size ≤ 9223372036854775800
  tn : a.tn.size ≤ 9223372036854775800
theorem atomB1 (fk : Bool) (fn nm va : ByteArray) (tk : Bool) (tn : ByteArray) : atomB ⟨1, fk, fn, nm, va, tk, tn⟩ = (decide ((⟨1, fk, fn, nilB, nilB, false, nilB⟩ : Atm) = ⟨1, fk, fn, nm, va, tk, tn⟩) && wordB fn) := by
  unfold atomB
  dsimp only
  rw [if_pos rfl]
  by_cases h1 : nm = nilB <;> by_cases h2 : va = nilB <;> cases tk <;> by_cases h4 : tn = nilB <;> simp [h1, h2, h4, eq_comm]
theorem atomB2 (fk : Bool) (fn nm va : ByteArray) (tk : Bool) (tn : ByteArray) : atomB ⟨2, fk, fn, nm, va, tk, tn⟩ = (decide ((⟨2, fk, fn, nm, nilB, false, nilB⟩ : Atm) = ⟨2, fk, fn, nm, va, tk, tn⟩) && (wordB fn && wordB nm)) := by
  unfold atomB
  dsimp only
  rw [if_neg (by decide), if_pos rfl]
  by_cases h2 : va = nilB <;> cases tk <;> by_cases h4 : tn = nilB <;> simp [h2, h4, eq_comm]
theorem atomB3 (fk : Bool) (fn nm va : ByteArray) (tk : Bool) (tn : ByteArray) : atomB ⟨3, fk, fn, nm, va, tk, tn⟩ = (decide ((⟨3, fk, fn, nm, va, false, nilB⟩ : Atm) = ⟨3, fk, fn, nm, va, tk, tn⟩) && (wordB fn && (wordB nm && worthB va))) := by
  unfold atomB
  dsimp only
  rw [if_neg (by decide), if_neg (by decide), if_pos rfl]
  cases tk <;> by_cases h4 : tn = nilB <;> simp [h4, eq_comm]
theorem atomB4 (fk : Bool) (fn nm va : ByteArray) (tk : Bool) (tn : ByteArray) : atomB ⟨4, fk, fn, nm, va, tk, tn⟩ = (decide ((⟨4, fk, fn, nm, nilB, tk, tn⟩ : Atm) = ⟨4, fk, fn, nm, va, tk, tn⟩) && (wordB fn && (wordB nm && wordB tn))) := by
  unfold atomB
  dsimp only
  rw [if_neg (by decide), if_neg (by decide), if_neg (by decide), if_pos rfl]
  by_cases h2 : va = nilB <;> simp [h2, eq_comm]
set_option maxRecDepth 100000 in
set_option maxHeartbeats 2000000 in
theorem atom1_any (fk : Bool) (fn nm va : ByteArray) (tk : Bool) (tn : ByteArray) (w : World) (hf : Atm.Fits ⟨1, fk, fn, nm, va, tk, tn⟩) :
    Calls Try.prog 41 #[.agg #[.int .i64 1, .bool fk, .string fn, .string nm, .string va, .bool tk, .string tn]] w fun e w' => e = .returned (.bool (atomB ⟨1, fk, fn, nm, va, tk, tn⟩)) ∧ Ext w w' := by
  have HX := Lib.hid (Ext.alloc w (.cells #[.int .i64 1, .bool fk, .string fn, .string nm, .string va, .bool tk, .string tn] 64))
  have HB := Lib.hid (show RowAt (w.alloc (.cells #[.int .i64 1, .bool fk, .string fn, .string nm, .string va, .bool tk, .string tn] 64)) w.heap.size 64 [.int .i64 1, .bool fk, .string fn, .string nm, .string va, .bool tk, .string tn] from RowAt.new _ _ _)
  have HN := Lib.hid (show w.heap.size < (w.alloc (.cells #[.int .i64 1, .bool fk, .string fn, .string nm, .string va, .bool tk, .string tn] 64)).heap.size from by simp)
  have HF := Lib.hid hf
  clear hf
  go_enter Try.func41, Try.ntmps41
  go_upto_region 1 with fail
  generalize w.alloc (.cells #[.int .i64 1, .bool fk, .string fn, .string nm, .string va, .bool tk, .string tn] 64) = w1 at *
  obtain ⟨x, hx⟩ : ∃ x, w.heap.size = x := ⟨_, rfl⟩
  rw [hx] at HB HN
  try simp only [hx]
  have HWX := Lib.hid (Nat.le_of_eq hx)
  clear hx
  apply wp_region_lit
  refine plain_load rfl _ _ rfl x rfl [.int .i64 1, .bool fk, .string fn, .string nm, .string va, .bool tk, .string tn] _ HB.out Try.underlying64 rfl (by kernel_rfl) ?_
  go_simp
  refine wpList_plain rfl fun K1 hK1 => ?_
  go_simp
  refine hK1 _ _ ?_
  clear hK1 K1
  have hx2 := Ext.alloc w1 (.cells #[.int .i64 0, .bool false, .string ⟨#[]⟩, .string ⟨#[]⟩, .string ⟨#[]⟩, .bool false, .string ⟨#[]⟩] 64)
  have HB2 := Lib.hid (HB.out.ext hx2)
  have HC2 := Lib.hid (show RowAt (w1.alloc (.cells #[.int .i64 0, .bool false, .string ⟨#[]⟩, .string ⟨#[]⟩, .string ⟨#[]⟩, .bool false, .string ⟨#[]⟩] 64)) w1.heap.size 64 [.int .i64 0, .bool false, .string ⟨#[]⟩, .string ⟨#[]⟩, .string ⟨#[]⟩, .bool false, .string ⟨#[]⟩] from RowAt.new _ _ _)
  have HX2 := Lib.hid (HX.out.trans hx2)
  generalize w1.alloc (.cells #[.int .i64 0, .bool false, .string ⟨#[]⟩, .string ⟨#[]⟩, .string ⟨#[]⟩, .bool false, .string ⟨#[]⟩] 64) = w2 at *
  obtain ⟨y, hy⟩ : ∃ y, w1.heap.size = y := ⟨_, rfl⟩
  rw [hy] at HC2 HN
  try simp only [hy]
  clear hy hx2 HB HX
  have hxy : x ≠ y := by have := HN.out; omega
  have hyx : y ≠ x := Ne.symm hxy
  have hwy : w.heap.size ≤ y := by have := HN.out; have := HWX.out; omega
  refine plain_store rfl _ _ _ rfl y [.int .i64 1, .bool fk, .string fn, .string nm, .string va, .bool tk, .string tn] rfl rfl HC2.out (by kernel_rfl) rfl (by simp [Value.oneCell']) ?_
  have HB3 := Lib.hid (show RowAt (w2.setRow y #[.int .i64 1, .bool fk, .string fn, .string nm, .string va, .bool tk, .string tn]) x 64 [.int .i64 1, .bool fk, .string fn, .string nm, .string va, .bool tk, .string tn] from (setRow_other w2 y x _ hxy).trans HB2.out)
  have HC3 := Lib.hid (HC2.out.setRow [.int .i64 1, .bool fk, .string fn, .string nm, .string va, .bool tk, .string tn])
  have HX3 := Lib.hid (show Ext w (w2.setRow y #[.int .i64 1, .bool fk, .string fn, .string nm, .string va, .bool tk, .string tn]) from below_setRow HX2.out hwy _)
  clear HB2 HC2 HX2
  generalize w2.setRow y #[.int .i64 1, .bool fk, .string fn, .string nm, .string va, .bool tk, .string tn] = w3 at *
  go_simp
  apply wpList_nil
  obtain ⟨d0, d1, d2, d3, d4, d5, d6⟩ := row7_facts HB3.out
  -- the bare one is stored: 4 the region, 1 the kind, [.int .i64 1, .bool fk, .string fn, .string ⟨#[]⟩, .string ⟨#[]⟩, .bool false, .string ⟨#[]⟩] the cells, (repeat (refine wpList_plain rfl fun K1 hK1 => ?_; go_simp; refine hK1 _ _ ?_; clear hK1 K1)) how many plain steps, 5 the region behind
  go_upto_region 4 with fail
  apply wp_region_lit
  (repeat (refine wpList_plain rfl fun K1 hK1 => ?_; go_simp; refine hK1 _ _ ?_; clear hK1 K1))
  refine plain_store rfl _ _ _ rfl y [.int .i64 1, .bool fk, .string fn, .string ⟨#[]⟩, .string ⟨#[]⟩, .bool false, .string ⟨#[]⟩] rfl rfl HC3.out (by kernel_rfl) rfl (by simp [Value.oneCell']) ?_
  have HB4 := Lib.hid (show RowAt (w3.setRow y ([.int .i64 1, .bool fk, .string fn, .string ⟨#[]⟩, .string ⟨#[]⟩, .bool false, .string ⟨#[]⟩]).toArray) x 64 [.int .i64 1, .bool fk, .string fn, .string nm, .string va, .bool tk, .string tn] from (setRow_other w3 y x _ hxy).trans HB3.out)
  have HC4 := Lib.hid (HC3.out.setRow [.int .i64 1, .bool fk, .string fn, .string ⟨#[]⟩, .string ⟨#[]⟩, .bool false, .string ⟨#[]⟩])
  have HX4 := Lib.hid (show Ext w (w3.setRow y ([.int .i64 1, .bool fk, .string fn, .string ⟨#[]⟩, .string ⟨#[]⟩, .bool false, .string ⟨#[]⟩]).toArray) from below_setRow HX3.out hwy _)
  clear HB3 HC3 HX3 d0 d1 d2 d3 d4 d5 d6
  generalize w3.setRow y ([.int .i64 1, .bool fk, .string fn, .string ⟨#[]⟩, .string ⟨#[]⟩, .bool false, .string ⟨#[]⟩]).toArray = w4 at *
  go_simp
  apply wpList_nil
  go_upto_region 5 with fail
  obtain ⟨d0, d1, d2, d3, d4, d5, d6⟩ := row7_facts HB4.out
  obtain ⟨g0, g1, g2, g3, g4, g5, g6⟩ := row7_facts HC4.out
  have HR := Lib.hid (atomB1 fk fn nm va tk tn)
  -- the comparison: (⟨1, fk, fn, nilB, nilB, false, nilB⟩ : Atm) the bare atom
  have heq := fun w => at_eqlB (⟨1, fk, fn, nilB, nilB, false, nilB⟩ : Atm) ⟨1, fk, fn, nm, va, tk, tn⟩ w
  unfold atV at heq
  dsimp only at heq
  obtain ⟨E, hE⟩ : ∃ E, decide ((⟨1, fk, fn, nilB, nilB, false, nilB⟩ : Atm) = ⟨1, fk, fn, nm, va, tk, tn⟩) = E := ⟨_, rfl⟩
  rw [hE] at heq HR
  have HE := Lib.hid hE
  clear hE
  unfold nilB at heq
  have HWD := Lib.hid (fun v w' (hv : Strs w' v [fn]) => words_any v [fn] w' hv (by simpa using HF.out.fn))
  cases E with
  | false =>
    go_wp2_with fail
    go_ret
    exact ⟨by rw [HR.out]; rfl, HX4.out⟩
  | true =>
    go_wp2_with fail
    refine (HWD.out _ _ (Sl.new w4 #[.string fn] 9 1 1 (Nat.le_refl _) (by unfold maxLen; omega))).mono ?_
    rintro e w5 ⟨rfl, hx5⟩
    have HX5 := Lib.hid ((HX4.out.trans (Ext.alloc _ _)).trans hx5)
    clear hx5 HWD heq
    go_wp2_with fail
    go_ret
    exact ⟨by rw [HR.out]; simp, HX5.out⟩
set_option maxRecDepth 100000 in
set_option maxHeartbeats 2000000 in
theorem atom2_any (fk : Bool) (fn nm va : ByteArray) (tk : Bool) (tn : ByteArray) (w : World) (hf : Atm.Fits ⟨2, fk, fn, nm, va, tk, tn⟩) :
    Calls Try.prog 41 #[.agg #[.int .i64 2, .bool fk, .string fn, .string nm, .string va, .bool tk, .string tn]] w fun e w' => e = .returned (.bool (atomB ⟨2, fk, fn, nm, va, tk, tn⟩)) ∧ Ext w w' := by
  have HX := Lib.hid (Ext.alloc w (.cells #[.int .i64 2, .bool fk, .string fn, .string nm, .string va, .bool tk, .string tn] 64))
  have HB := Lib.hid (show RowAt (w.alloc (.cells #[.int .i64 2, .bool fk, .string fn, .string nm, .string va, .bool tk, .string tn] 64)) w.heap.size 64 [.int .i64 2, .bool fk, .string fn, .string nm, .string va, .bool tk, .string tn] from RowAt.new _ _ _)
  have HN := Lib.hid (show w.heap.size < (w.alloc (.cells #[.int .i64 2, .bool fk, .string fn, .string nm, .string va, .bool tk, .string tn] 64)).heap.size from by simp)
  have HF := Lib.hid hf
  clear hf
  go_enter Try.func41, Try.ntmps41
  go_upto_region 1 with fail
  generalize w.alloc (.cells #[.int .i64 2, .bool fk, .string fn, .string nm, .string va, .bool tk, .string tn] 64) = w1 at *
  obtain ⟨x, hx⟩ : ∃ x, w.heap.size = x := ⟨_, rfl⟩
  rw [hx] at HB HN
  try simp only [hx]
  have HWX := Lib.hid (Nat.le_of_eq hx)
  clear hx
  apply wp_region_lit
  refine plain_load rfl _ _ rfl x rfl [.int .i64 2, .bool fk, .string fn, .string nm, .string va, .bool tk, .string tn] _ HB.out Try.underlying64 rfl (by kernel_rfl) ?_
  go_simp
  refine wpList_plain rfl fun K1 hK1 => ?_
  go_simp
  refine hK1 _ _ ?_
  clear hK1 K1
  have hx2 := Ext.alloc w1 (.cells #[.int .i64 0, .bool false, .string ⟨#[]⟩, .string ⟨#[]⟩, .string ⟨#[]⟩, .bool false, .string ⟨#[]⟩] 64)
  have HB2 := Lib.hid (HB.out.ext hx2)
  have HC2 := Lib.hid (show RowAt (w1.alloc (.cells #[.int .i64 0, .bool false, .string ⟨#[]⟩, .string ⟨#[]⟩, .string ⟨#[]⟩, .bool false, .string ⟨#[]⟩] 64)) w1.heap.size 64 [.int .i64 0, .bool false, .string ⟨#[]⟩, .string ⟨#[]⟩, .string ⟨#[]⟩, .bool false, .string ⟨#[]⟩] from RowAt.new _ _ _)
  have HX2 := Lib.hid (HX.out.trans hx2)
  generalize w1.alloc (.cells #[.int .i64 0, .bool false, .string ⟨#[]⟩, .string ⟨#[]⟩, .string ⟨#[]⟩, .bool false, .string ⟨#[]⟩] 64) = w2 at *
  obtain ⟨y, hy⟩ : ∃ y, w1.heap.size = y := ⟨_, rfl⟩
  rw [hy] at HC2 HN
  try simp only [hy]
  clear hy hx2 HB HX
  have hxy : x ≠ y := by have := HN.out; omega
  have hyx : y ≠ x := Ne.symm hxy
  have hwy : w.heap.size ≤ y := by have := HN.out; have := HWX.out; omega
  refine plain_store rfl _ _ _ rfl y [.int .i64 2, .bool fk, .string fn, .string nm, .string va, .bool tk, .string tn] rfl rfl HC2.out (by kernel_rfl) rfl (by simp [Value.oneCell']) ?_
  have HB3 := Lib.hid (show RowAt (w2.setRow y #[.int .i64 2, .bool fk, .string fn, .string nm, .string va, .bool tk, .string tn]) x 64 [.int .i64 2, .bool fk, .string fn, .string nm, .string va, .bool tk, .string tn] from (setRow_other w2 y x _ hxy).trans HB2.out)
  have HC3 := Lib.hid (HC2.out.setRow [.int .i64 2, .bool fk, .string fn, .string nm, .string va, .bool tk, .string tn])
  have HX3 := Lib.hid (show Ext w (w2.setRow y #[.int .i64 2, .bool fk, .string fn, .string nm, .string va, .bool tk, .string tn]) from below_setRow HX2.out hwy _)
  clear HB2 HC2 HX2
  generalize w2.setRow y #[.int .i64 2, .bool fk, .string fn, .string nm, .string va, .bool tk, .string tn] = w3 at *
  go_simp
  apply wpList_nil
  obtain ⟨d0, d1, d2, d3, d4, d5, d6⟩ := row7_facts HB3.out
  -- the bare one is stored: 7 the region, 2 the kind, [.int .i64 2, .bool fk, .string fn, .string nm, .string ⟨#[]⟩, .bool false, .string ⟨#[]⟩] the cells, (repeat (refine wpList_plain rfl fun K1 hK1 => ?_; go_simp; refine hK1 _ _ ?_; clear hK1 K1)) how many plain steps, 8 the region behind
  go_upto_region 7 with fail
  apply wp_region_lit
  (repeat (refine wpList_plain rfl fun K1 hK1 => ?_; go_simp; refine hK1 _ _ ?_; clear hK1 K1))
  refine plain_store rfl _ _ _ rfl y [.int .i64 2, .bool fk, .string fn, .string nm, .string ⟨#[]⟩, .bool false, .string ⟨#[]⟩] rfl rfl HC3.out (by kernel_rfl) rfl (by simp [Value.oneCell']) ?_
  have HB4 := Lib.hid (show RowAt (w3.setRow y ([.int .i64 2, .bool fk, .string fn, .string nm, .string ⟨#[]⟩, .bool false, .string ⟨#[]⟩]).toArray) x 64 [.int .i64 2, .bool fk, .string fn, .string nm, .string va, .bool tk, .string tn] from (setRow_other w3 y x _ hxy).trans HB3.out)
  have HC4 := Lib.hid (HC3.out.setRow [.int .i64 2, .bool fk, .string fn, .string nm, .string ⟨#[]⟩, .bool false, .string ⟨#[]⟩])
  have HX4 := Lib.hid (show Ext w (w3.setRow y ([.int .i64 2, .bool fk, .string fn, .string nm, .string ⟨#[]⟩, .bool false, .string ⟨#[]⟩]).toArray) from below_setRow HX3.out hwy _)
  clear HB3 HC3 HX3 d0 d1 d2 d3 d4 d5 d6
  generalize w3.setRow y ([.int .i64 2, .bool fk, .string fn, .string nm, .string ⟨#[]⟩, .bool false, .string ⟨#[]⟩]).toArray = w4 at *
  go_simp
  apply wpList_nil
  go_upto_region 8 with fail
  obtain ⟨d0, d1, d2, d3, d4, d5, d6⟩ := row7_facts HB4.out
  obtain ⟨g0, g1, g2, g3, g4, g5, g6⟩ := row7_facts HC4.out
  have HR := Lib.hid (atomB2 fk fn nm va tk tn)
  -- the comparison: (⟨2, fk, fn, nm, nilB, false, nilB⟩ : Atm) the bare atom
  have heq := fun w => at_eqlB (⟨2, fk, fn, nm, nilB, false, nilB⟩ : Atm) ⟨2, fk, fn, nm, va, tk, tn⟩ w
  unfold atV at heq
  dsimp only at heq
  obtain ⟨E, hE⟩ : ∃ E, decide ((⟨2, fk, fn, nm, nilB, false, nilB⟩ : Atm) = ⟨2, fk, fn, nm, va, tk, tn⟩) = E := ⟨_, rfl⟩
  rw [hE] at heq HR
  have HE := Lib.hid hE
  clear hE
  unfold nilB at heq
  have HWD := Lib.hid (fun v w' (hv : Strs w' v [fn, nm]) => words_any v [fn, nm] w' hv (by intro s hs; simp at hs; rcases hs with rfl | rfl; exact HF.out.fn; exact HF.out.name))
  cases E with
  | false =>
    go_wp2_with fail
    go_ret
    exact ⟨by rw [HR.out]; rfl, HX4.out⟩
  | true =>
    go_wp2_with fail
    refine (HWD.out _ _ (Sl.new w4 #[.string fn, .string nm] 9 2 2 (Nat.le_refl _) (by unfold maxLen; omega))).mono ?_
    rintro e w5 ⟨rfl, hx5⟩
    have HX5 := Lib.hid ((HX4.out.trans (Ext.alloc _ _)).trans hx5)
    clear hx5 HWD heq
    go_wp2_with fail
    go_ret
    exact ⟨by rw [HR.out]; simp, HX5.out⟩
set_option maxRecDepth 100000 in
set_option maxHeartbeats 2000000 in
theorem atom3_any (fk : Bool) (fn nm va : ByteArray) (tk : Bool) (tn : ByteArray) (w : World) (hf : Atm.Fits ⟨3, fk, fn, nm, va, tk, tn⟩) :
    Calls Try.prog 41 #[.agg #[.int .i64 3, .bool fk, .string fn, .string nm, .string va, .bool tk, .string tn]] w fun e w' => e = .returned (.bool (atomB ⟨3, fk, fn, nm, va, tk, tn⟩)) ∧ Ext w w' := by
  have HX := Lib.hid (Ext.alloc w (.cells #[.int .i64 3, .bool fk, .string fn, .string nm, .string va, .bool tk, .string tn] 64))
  have HB := Lib.hid (show RowAt (w.alloc (.cells #[.int .i64 3, .bool fk, .string fn, .string nm, .string va, .bool tk, .string tn] 64)) w.heap.size 64 [.int .i64 3, .bool fk, .string fn, .string nm, .string va, .bool tk, .string tn] from RowAt.new _ _ _)
  have HN := Lib.hid (show w.heap.size < (w.alloc (.cells #[.int .i64 3, .bool fk, .string fn, .string nm, .string va, .bool tk, .string tn] 64)).heap.size from by simp)
  have HF := Lib.hid hf
  clear hf
  go_enter Try.func41, Try.ntmps41
  go_upto_region 1 with fail
  generalize w.alloc (.cells #[.int .i64 3, .bool fk, .string fn, .string nm, .string va, .bool tk, .string tn] 64) = w1 at *
  obtain ⟨x, hx⟩ : ∃ x, w.heap.size = x := ⟨_, rfl⟩
  rw [hx] at HB HN
  try simp only [hx]
  have HWX := Lib.hid (Nat.le_of_eq hx)
  clear hx
  apply wp_region_lit
  refine plain_load rfl _ _ rfl x rfl [.int .i64 3, .bool fk, .string fn, .string nm, .string va, .bool tk, .string tn] _ HB.out Try.underlying64 rfl (by kernel_rfl) ?_
  go_simp
  refine wpList_plain rfl fun K1 hK1 => ?_
  go_simp
  refine hK1 _ _ ?_
  clear hK1 K1
  have hx2 := Ext.alloc w1 (.cells #[.int .i64 0, .bool false, .string ⟨#[]⟩, .string ⟨#[]⟩, .string ⟨#[]⟩, .bool false, .string ⟨#[]⟩] 64)
  have HB2 := Lib.hid (HB.out.ext hx2)
  have HC2 := Lib.hid (show RowAt (w1.alloc (.cells #[.int .i64 0, .bool false, .string ⟨#[]⟩, .string ⟨#[]⟩, .string ⟨#[]⟩, .bool false, .string ⟨#[]⟩] 64)) w1.heap.size 64 [.int .i64 0, .bool false, .string ⟨#[]⟩, .string ⟨#[]⟩, .string ⟨#[]⟩, .bool false, .string ⟨#[]⟩] from RowAt.new _ _ _)
  have HX2 := Lib.hid (HX.out.trans hx2)
  generalize w1.alloc (.cells #[.int .i64 0, .bool false, .string ⟨#[]⟩, .string ⟨#[]⟩, .string ⟨#[]⟩, .bool false, .string ⟨#[]⟩] 64) = w2 at *
  obtain ⟨y, hy⟩ : ∃ y, w1.heap.size = y := ⟨_, rfl⟩
  rw [hy] at HC2 HN
  try simp only [hy]
  clear hy hx2 HB HX
  have hxy : x ≠ y := by have := HN.out; omega
  have hyx : y ≠ x := Ne.symm hxy
  have hwy : w.heap.size ≤ y := by have := HN.out; have := HWX.out; omega
  refine plain_store rfl _ _ _ rfl y [.int .i64 3, .bool fk, .string fn, .string nm, .string va, .bool tk, .string tn] rfl rfl HC2.out (by kernel_rfl) rfl (by simp [Value.oneCell']) ?_
  have HB3 := Lib.hid (show RowAt (w2.setRow y #[.int .i64 3, .bool fk, .string fn, .string nm, .string va, .bool tk, .string tn]) x 64 [.int .i64 3, .bool fk, .string fn, .string nm, .string va, .bool tk, .string tn] from (setRow_other w2 y x _ hxy).trans HB2.out)
  have HC3 := Lib.hid (HC2.out.setRow [.int .i64 3, .bool fk, .string fn, .string nm, .string va, .bool tk, .string tn])
  have HX3 := Lib.hid (show Ext w (w2.setRow y #[.int .i64 3, .bool fk, .string fn, .string nm, .string va, .bool tk, .string tn]) from below_setRow HX2.out hwy _)
  clear HB2 HC2 HX2
  generalize w2.setRow y #[.int .i64 3, .bool fk, .string fn, .string nm, .string va, .bool tk, .string tn] = w3 at *
  go_simp
  apply wpList_nil
  obtain ⟨d0, d1, d2, d3, d4, d5, d6⟩ := row7_facts HB3.out
  have q5 := HC3.out.cell (i := 5) rfl
  have q6 := HC3.out.cell (i := 6) rfl
  have qf5 := HC3.out.frozen 5
  have qf6 := HC3.out.frozen 6
  go_upto_region 11 with fail
  have HB4 := Lib.hid ((HB3.out.kept (grown_set w3 y 5 (.bool false)) (fun e => hyx (Option.some.inj e))).kept (grown_set (w3.setCell ⟨y, 5, none⟩ (.bool false)) y 6 (.string ⟨#[]⟩)) (fun e => hyx (Option.some.inj e)))
  have HC4 := Lib.hid (show RowAt ((w3.setCell ⟨y, 5, none⟩ (.bool false)).setCell ⟨y, 6, none⟩ (.string ⟨#[]⟩)) y 64 [.int .i64 3, .bool fk, .string fn, .string nm, .string va, .bool false, .string ⟨#[]⟩] from (HC3.out.set 5 (.bool false)).set 6 (.string ⟨#[]⟩))
  have HX4 := Lib.hid (Ext.set_of (Ext.set_of HX3.out hwy (o := 5) (.bool false)) hwy (o := 6) (.string ⟨#[]⟩))
  clear HB3 HC3 HX3 d0 d1 d2 d3 d4 d5 d6 q5 q6 qf5 qf6
  generalize (w3.setCell ⟨y, 5, none⟩ (.bool false)).setCell ⟨y, 6, none⟩ (.string ⟨#[]⟩) = w4 at *
  obtain ⟨d0, d1, d2, d3, d4, d5, d6⟩ := row7_facts HB4.out
  obtain ⟨g0, g1, g2, g3, g4, g5, g6⟩ := row7_facts HC4.out
  have HR := Lib.hid (atomB3 fk fn nm va tk tn)
  -- the comparison: (⟨3, fk, fn, nm, va, false, nilB⟩ : Atm) the bare atom
  have heq := fun w => at_eqlB (⟨3, fk, fn, nm, va, false, nilB⟩ : Atm) ⟨3, fk, fn, nm, va, tk, tn⟩ w
  unfold atV at heq
  dsimp only at heq
  obtain ⟨E, hE⟩ : ∃ E, decide ((⟨3, fk, fn, nm, va, false, nilB⟩ : Atm) = ⟨3, fk, fn, nm, va, tk, tn⟩) = E := ⟨_, rfl⟩
  rw [hE] at heq HR
  have HE := Lib.hid hE
  clear hE
  unfold nilB at heq
  have HWD := Lib.hid (fun v w' (hv : Strs w' v [fn, nm]) => words_any v [fn, nm] w' hv (by intro s hs; simp at hs; rcases hs with rfl | rfl; exact HF.out.fn; exact HF.out.name))
  cases E with
  | false =>
    go_wp2_with fail
    go_ret
    exact ⟨by rw [HR.out]; rfl, HX4.out⟩
  | true =>
    go_wp2_with fail
    refine (HWD.out _ _ (Sl.new w4 #[.string fn, .string nm] 9 2 2 (Nat.le_refl _) (by unfold maxLen; omega))).mono ?_
    obtain ⟨b, hb⟩ : ∃ b, [fn, nm].all wordB = b := ⟨_, rfl⟩
    rw [hb]
    have HBB := Lib.hid (show (wordB fn && wordB nm) = b from by rw [← hb]; simp)
    rintro e w5 ⟨rfl, hx5⟩
    have HX5 := Lib.hid ((HX4.out.trans (Ext.alloc _ _)).trans hx5)
    have k4 := ext_cell hx5 (ext_cell (Ext.alloc w4 (.cells #[.string fn, .string nm] 9)) d4)
    clear hx5 HWD heq hb
    cases b with
    | false =>
      go_wp2_with fail
      go_ret
      exact ⟨by rw [HR.out, ← Bool.and_assoc (wordB fn), HBB.out]; rfl, HX5.out⟩
    | true =>
      cases hw : worthB va with
      | true =>
        have HC := Lib.hid (check_yes (t := ⟨3, va, 0⟩) w5 HF.out.value hw)
        unfold tkV at HC
        dsimp only at HC
        have HW := Lib.hid hw
        clear hw
        go_wp2_with fail
        refine HC.out.mono ?_
        rintro e w6 ⟨rfl, hx6⟩
        go_wp2_with fail
        go_ret
        exact ⟨by rw [HR.out, ← Bool.and_assoc (wordB fn), HBB.out, HW.out]; rfl, HX5.out.trans hx6⟩
      | false =>
        have HC := Lib.hid (check_no (t := ⟨3, va, 0⟩) w5 HF.out.value hw)
        unfold tkV at HC
        dsimp only at HC
        have HW := Lib.hid hw
        clear hw
        go_wp2_with fail
        refine HC.out.mono ?_
        rintro e w6 ⟨rfl, hx6⟩
        go_wp2_with fail
        go_ret
        exact ⟨by rw [HR.out, ← Bool.and_assoc (wordB fn), HBB.out, HW.out]; rfl, HX5.out.trans hx6⟩
set_option maxRecDepth 100000 in
set_option maxHeartbeats 2000000 in
theorem atom4_any (fk : Bool) (fn nm va : ByteArray) (tk : Bool) (tn : ByteArray) (w : World) (hf : Atm.Fits ⟨4, fk, fn, nm, va, tk, tn⟩) :
    Calls Try.prog 41 #[.agg #[.int .i64 4, .bool fk, .string fn, .string nm, .string va, .bool tk, .string tn]] w fun e w' => e = .returned (.bool (atomB ⟨4, fk, fn, nm, va, tk, tn⟩)) ∧ Ext w w' := by
  have HX := Lib.hid (Ext.alloc w (.cells #[.int .i64 4, .bool fk, .string fn, .string nm, .string va, .bool tk, .string tn] 64))
  have HB := Lib.hid (show RowAt (w.alloc (.cells #[.int .i64 4, .bool fk, .string fn, .string nm, .string va, .bool tk, .string tn] 64)) w.heap.size 64 [.int .i64 4, .bool fk, .string fn, .string nm, .string va, .bool tk, .string tn] from RowAt.new _ _ _)
  have HN := Lib.hid (show w.heap.size < (w.alloc (.cells #[.int .i64 4, .bool fk, .string fn, .string nm, .string va, .bool tk, .string tn] 64)).heap.size from by simp)
  have HF := Lib.hid hf
  clear hf
  go_enter Try.func41, Try.ntmps41
  go_upto_region 1 with fail
  generalize w.alloc (.cells #[.int .i64 4, .bool fk, .string fn, .string nm, .string va, .bool tk, .string tn] 64) = w1 at *
  obtain ⟨x, hx⟩ : ∃ x, w.heap.size = x := ⟨_, rfl⟩
  rw [hx] at HB HN
  try simp only [hx]
  have HWX := Lib.hid (Nat.le_of_eq hx)
  clear hx
  apply wp_region_lit
  refine plain_load rfl _ _ rfl x rfl [.int .i64 4, .bool fk, .string fn, .string nm, .string va, .bool tk, .string tn] _ HB.out Try.underlying64 rfl (by kernel_rfl) ?_
  go_simp
  refine wpList_plain rfl fun K1 hK1 => ?_
  go_simp
  refine hK1 _ _ ?_
  clear hK1 K1
  have hx2 := Ext.alloc w1 (.cells #[.int .i64 0, .bool false, .string ⟨#[]⟩, .string ⟨#[]⟩, .string ⟨#[]⟩, .bool false, .string ⟨#[]⟩] 64)
  have HB2 := Lib.hid (HB.out.ext hx2)
  have HC2 := Lib.hid (show RowAt (w1.alloc (.cells #[.int .i64 0, .bool false, .string ⟨#[]⟩, .string ⟨#[]⟩, .string ⟨#[]⟩, .bool false, .string ⟨#[]⟩] 64)) w1.heap.size 64 [.int .i64 0, .bool false, .string ⟨#[]⟩, .string ⟨#[]⟩, .string ⟨#[]⟩, .bool false, .string ⟨#[]⟩] from RowAt.new _ _ _)
  have HX2 := Lib.hid (HX.out.trans hx2)
  generalize w1.alloc (.cells #[.int .i64 0, .bool false, .string ⟨#[]⟩, .string ⟨#[]⟩, .string ⟨#[]⟩, .bool false, .string ⟨#[]⟩] 64) = w2 at *
  obtain ⟨y, hy⟩ : ∃ y, w1.heap.size = y := ⟨_, rfl⟩
  rw [hy] at HC2 HN
  try simp only [hy]
  clear hy hx2 HB HX
  have hxy : x ≠ y := by have := HN.out; omega
  have hyx : y ≠ x := Ne.symm hxy
  have hwy : w.heap.size ≤ y := by have := HN.out; have := HWX.out; omega
  refine plain_store rfl _ _ _ rfl y [.int .i64 4, .bool fk, .string fn, .string nm, .string va, .bool tk, .string tn] rfl rfl HC2.out (by kernel_rfl) rfl (by simp [Value.oneCell']) ?_
  have HB3 := Lib.hid (show RowAt (w2.setRow y #[.int .i64 4, .bool fk, .string fn, .string nm, .string va, .bool tk, .string tn]) x 64 [.int .i64 4, .bool fk, .string fn, .string nm, .string va, .bool tk, .string tn] from (setRow_other w2 y x _ hxy).trans HB2.out)
  have HC3 := Lib.hid (HC2.out.setRow [.int .i64 4, .bool fk, .string fn, .string nm, .string va, .bool tk, .string tn])
  have HX3 := Lib.hid (show Ext w (w2.setRow y #[.int .i64 4, .bool fk, .string fn, .string nm, .string va, .bool tk, .string tn]) from below_setRow HX2.out hwy _)
  clear HB2 HC2 HX2
  generalize w2.setRow y #[.int .i64 4, .bool fk, .string fn, .string nm, .string va, .bool tk, .string tn] = w3 at *
  go_simp
  apply wpList_nil
  obtain ⟨d0, d1, d2, d3, d4, d5, d6⟩ := row7_facts HB3.out
  have q4 := HC3.out.cell (i := 4) rfl
  have qf := HC3.out.frozen 4
  go_upto_region 14 with fail
  have HB4 := Lib.hid (HB3.out.kept (grown_set w3 y 4 (.string ⟨#[]⟩)) (fun e => hyx (Option.some.inj e)))
  have HC4 := Lib.hid (show RowAt (w3.setCell ⟨y, 4, none⟩ (.string ⟨#[]⟩)) y 64 [.int .i64 4, .bool fk, .string fn, .string nm, .string ⟨#[]⟩, .bool tk, .string tn] from HC3.out.set 4 (.string ⟨#[]⟩))
  have HX4 := Lib.hid (Ext.set_of HX3.out hwy (o := 4) (.string ⟨#[]⟩))
  clear HB3 HC3 HX3 d0 d1 d2 d3 d4 d5 d6 q4 qf
  generalize w3.setCell ⟨y, 4, none⟩ (.string ⟨#[]⟩) = w4 at *
  obtain ⟨d0, d1, d2, d3, d4, d5, d6⟩ := row7_facts HB4.out
  obtain ⟨g0, g1, g2, g3, g4, g5, g6⟩ := row7_facts HC4.out
  have HR := Lib.hid (atomB4 fk fn nm va tk tn)
  -- the comparison: (⟨4, fk, fn, nm, nilB, tk, tn⟩ : Atm) the bare atom
  have heq := fun w => at_eqlB (⟨4, fk, fn, nm, nilB, tk, tn⟩ : Atm) ⟨4, fk, fn, nm, va, tk, tn⟩ w
  unfold atV at heq
  dsimp only at heq
  obtain ⟨E, hE⟩ : ∃ E, decide ((⟨4, fk, fn, nm, nilB, tk, tn⟩ : Atm) = ⟨4, fk, fn, nm, va, tk, tn⟩) = E := ⟨_, rfl⟩
  rw [hE] at heq HR
  have HE := Lib.hid hE
  clear hE
  unfold nilB at heq
  have HWD := Lib.hid (fun v w' (hv : Strs w' v [fn, nm, tn]) => words_any v [fn, nm, tn] w' hv (by intro s hs; simp at hs; rcases hs with rfl | rfl | rfl; exact HF.out.fn; exact HF.out.name; exact HF.out.tn))
  cases E with
  | false =>
    go_wp2_with fail
    go_ret
    exact ⟨by rw [HR.out]; rfl, HX4.out⟩
  | true =>
    go_wp2_with fail
    refine (HWD.out _ _ (Sl.new w4 #[.string fn, .string nm, .string tn] 9 3 3 (Nat.le_refl _) (by unfold maxLen; omega))).mono ?_
    rintro e w5 ⟨rfl, hx5⟩
    have HX5 := Lib.hid ((HX4.out.trans (Ext.alloc _ _)).trans hx5)
    clear hx5 HWD heq
    go_wp2_with fail
    go_ret
    exact ⟨by rw [HR.out]; simp, HX5.out⟩
set_option maxRecDepth 100000 in
set_option maxHeartbeats 2000000 in
theorem atomN_any (k : Int) (fk : Bool) (fn nm va : ByteArray) (tk : Bool) (tn : ByteArray) (w : World) (hf : Atm.Fits ⟨k, fk, fn, nm, va, tk, tn⟩) (h1 : k ≠ 1) (h2 : k ≠ 2) (h3 : k ≠ 3) (h4 : k ≠ 4) :
    Calls Try.prog 41 #[.agg #[.int .i64 k, .bool fk, .string fn, .string nm, .string va, .bool tk, .string tn]] w fun e w' => e = .returned (.bool (atomB ⟨k, fk, fn, nm, va, tk, tn⟩)) ∧ Ext w w' := by
  have HR : Hid (atomB ⟨k, fk, fn, nm, va, tk, tn⟩ = false) := Lib.hid (by unfold atomB; dsimp only; rw [if_neg h1, if_neg h2, if_neg h3, if_neg h4])
  have k1 : (k == 1) = false := by simpa using h1
  have k2 : (k == 2) = false := by simpa using h2
  have k3 : (k == 3) = false := by simpa using h3
  have k4 : (k == 4) = false := by simpa using h4
  clear h1 h2 h3 h4
  have HX := Lib.hid (Ext.alloc w (.cells #[.int .i64 k, .bool fk, .string fn, .string nm, .string va, .bool tk, .string tn] 64))
  have HB := Lib.hid (show RowAt (w.alloc (.cells #[.int .i64 k, .bool fk, .string fn, .string nm, .string va, .bool tk, .string tn] 64)) w.heap.size 64 [.int .i64 k, .bool fk, .string fn, .string nm, .string va, .bool tk, .string tn] from RowAt.new _ _ _)
  have HN := Lib.hid (show w.heap.size < (w.alloc (.cells #[.int .i64 k, .bool fk, .string fn, .string nm, .string va, .bool tk, .string tn] 64)).heap.size from by simp)
  have HF := Lib.hid hf
  clear hf
  go_enter Try.func41, Try.ntmps41
  go_upto_region 1 with fail
  generalize w.alloc (.cells #[.int .i64 k, .bool fk, .string fn, .string nm, .string va, .bool tk, .string tn] 64) = w1 at *
  obtain ⟨x, hx⟩ : ∃ x, w.heap.size = x := ⟨_, rfl⟩
  rw [hx] at HB HN
  try simp only [hx]
  have HWX := Lib.hid (Nat.le_of_eq hx)
  clear hx
  apply wp_region_lit
  refine plain_load rfl _ _ rfl x rfl [.int .i64 k, .bool fk, .string fn, .string nm, .string va, .bool tk, .string tn] _ HB.out Try.underlying64 rfl (by kernel_rfl) ?_
  go_simp
  refine wpList_plain rfl fun K1 hK1 => ?_
  go_simp
  refine hK1 _ _ ?_
  clear hK1 K1
  have hx2 := Ext.alloc w1 (.cells #[.int .i64 0, .bool false, .string ⟨#[]⟩, .string ⟨#[]⟩, .string ⟨#[]⟩, .bool false, .string ⟨#[]⟩] 64)
  have HB2 := Lib.hid (HB.out.ext hx2)
  have HC2 := Lib.hid (show RowAt (w1.alloc (.cells #[.int .i64 0, .bool false, .string ⟨#[]⟩, .string ⟨#[]⟩, .string ⟨#[]⟩, .bool false, .string ⟨#[]⟩] 64)) w1.heap.size 64 [.int .i64 0, .bool false, .string ⟨#[]⟩, .string ⟨#[]⟩, .string ⟨#[]⟩, .bool false, .string ⟨#[]⟩] from RowAt.new _ _ _)
  have HX2 := Lib.hid (HX.out.trans hx2)
  generalize w1.alloc (.cells #[.int .i64 0, .bool false, .string ⟨#[]⟩, .string ⟨#[]⟩, .string ⟨#[]⟩, .bool false, .string ⟨#[]⟩] 64) = w2 at *
  obtain ⟨y, hy⟩ : ∃ y, w1.heap.size = y := ⟨_, rfl⟩
  rw [hy] at HC2 HN
  try simp only [hy]
  clear hy hx2 HB HX
  have hxy : x ≠ y := by have := HN.out; omega
  have hyx : y ≠ x := Ne.symm hxy
  have hwy : w.heap.size ≤ y := by have := HN.out; have := HWX.out; omega
  refine plain_store rfl _ _ _ rfl y [.int .i64 k, .bool fk, .string fn, .string nm, .string va, .bool tk, .string tn] rfl rfl HC2.out (by kernel_rfl) rfl (by simp [Value.oneCell']) ?_
  have HB3 := Lib.hid (show RowAt (w2.setRow y #[.int .i64 k, .bool fk, .string fn, .string nm, .string va, .bool tk, .string tn]) x 64 [.int .i64 k, .bool fk, .string fn, .string nm, .string va, .bool tk, .string tn] from (setRow_other w2 y x _ hxy).trans HB2.out)
  have HC3 := Lib.hid (HC2.out.setRow [.int .i64 k, .bool fk, .string fn, .string nm, .string va, .bool tk, .string tn])
  have HX3 := Lib.hid (show Ext w (w2.setRow y #[.int .i64 k, .bool fk, .string fn, .string nm, .string va, .bool tk, .string tn]) from below_setRow HX2.out hwy _)
  clear HB2 HC2 HX2
  generalize w2.setRow y #[.int .i64 k, .bool fk, .string fn, .string nm, .string va, .bool tk, .string tn] = w3 at *
  go_simp
  apply wpList_nil
  obtain ⟨d0, d1, d2, d3, d4, d5, d6⟩ := row7_facts HB3.out
  go_wp2_with fail
  go_ret
  exact ⟨by rw [HR.out]; rfl, HX3.out⟩
theorem atom_any' (a : Atm) (w : World) (hf : a.Fits) : Calls Try.prog 41 #[atV a] w fun e w' => e = .returned (.bool (atomB a)) ∧ Ext w w' := by
  obtain ⟨k, fk, fn, nm, va, tk, tn⟩ := a
  unfold atV
  dsimp only
  by_cases h1 : k = 1
  · subst h1; exact atom1_any fk fn nm va tk tn w hf
  by_cases h2 : k = 2
  · subst h2; exact atom2_any fk fn nm va tk tn w hf
  by_cases h3 : k = 3
  · subst h3; exact atom3_any fk fn nm va tk tn w hf
  by_cases h4 : k = 4
  · subst h4; exact atom4_any fk fn nm va tk tn w hf
  exact atomN_any k fk fn nm va tk tn w hf h1 h2 h3 h4
end Go.Proofs.Ytngnplghjaojhaa

/- Rows of texts: is one among them? Are they the same? A row of one's own. -/
namespace Go.Proofs.Ytngnplghjaojhaa
set_option maxRecDepth 100000
set_option maxHeartbeats 2000000
set_option linter.unusedSimpArgs false
open Go.RowKit Go.Shelf Go.Sort
set_option linter.unusedVariables false

theorem hasB_contains (T : List ByteArray) (s : ByteArray) : Lib.containsS T s = hasB s T := by
  rw [Bool.eq_iff_iff, Lib.containsS_iff, hasB_iff]
theorem strs_cells {w : World} {b o n c : Nat} {l : List ByteArray} (h : Strs w (.slice (some ⟨b, o, none⟩) n c) l) : ∀ j, j < l.length → w.cell? ⟨b, o + j, none⟩ = some (.string (l.getD j ByteArray.empty)) := fun j hj => by
  obtain ⟨b', o', e, hc⟩ := Strs.at_ h hj
  simp only [Option.some.injEq, Addr.mk.injEq] at e
  obtain ⟨rfl, rfl, _⟩ := e
  rw [hc, List.getD_eq_getElem?_getD, List.getElem?_eq_getElem hj]
  rfl
theorem hasP_any (s : ByteArray) (v : Value) (T : List ByteArray) (w : World) (hT : Strs w v T) :
    Calls Try.prog 65 #[v, .string s] w fun e w' => e = .returned (.bool (hasB s T)) ∧ w' = w := by
  obtain ⟨a, c, rfl, hc1, hc2⟩ := Sl.shape hT
  by_cases h0 : T = []
  · subst h0
    exact (Try.slices_Contains_string_empty a c s w).mono fun e w' h => ⟨h.1, h.2⟩
  · obtain ⟨b, o, rfl, _⟩ := Strs.at_ hT (List.length_pos_iff.2 h0)
    refine (Try.slices_Contains_string b o T.length c T s w (Nat.le_refl _) (by omega) (strs_cells hT)).mono fun e w' h => ⟨?_, h.2⟩
    rw [h.1, List.take_length, hasB_contains]
theorem eqStrs_any (v u : Value) (T S : List ByteArray) (w : World) (hT : Strs w v T) (hS : Strs w u S) :
    Calls Try.prog 25 #[v, u] w fun e w' => e = .returned (.bool (decide (T = S))) ∧ Ext w w' := by
  obtain ⟨a, c, rfl, hc1, hc2⟩ := Sl.shape hT
  obtain ⟨a', c', rfl, hd1, hd2⟩ := Sl.shape hS
  by_cases hl : T.length = S.length
  · by_cases h0 : T = []
    · subst h0
      have hS0 : S = [] := List.eq_nil_of_length_eq_zero (by simpa using hl.symm)
      subst hS0
      exact (Try.slices_Equal_string_empty a a' c 0 c' w (by omega)).mono fun e w' h => ⟨h.1, by rw [h.2]; exact Ext.refl _⟩
    · have hp := List.length_pos_iff.2 h0
      obtain ⟨b, o, rfl, _⟩ := Strs.at_ hT hp
      obtain ⟨b', o', rfl, _⟩ := Strs.at_ hS (by omega : 0 < S.length)
      refine (Try.slices_Equal_string b o T.length c b' o' S.length c' T S w (Nat.le_refl _) (Nat.le_refl _) (by omega) (by omega) (strs_cells hT) (strs_cells hS)).mono fun e w' h => ⟨?_, ?_⟩
      · rw [h.1, List.take_length, List.take_length]
      · obtain ⟨q, rfl⟩ := h.2
        exact Ext.drewN w q
  · refine (Try.slices_Equal_string_lens a a' T.length c S.length c' w hl).mono fun e w' h => ⟨?_, by rw [h.2]; exact Ext.refl _⟩
    rw [h.1, decide_eq_false (fun e => hl (by rw [e]))]
end Go.Proofs.Ytngnplghjaojhaa
