/- A change's line. -/
import Derived.Test.YtilbofkpjgcchaaDoorBatC
namespace Go.Proofs.YtilbofkpjgcchaaDoor
set_option maxRecDepth 100000
set_option maxHeartbeats 2000000
set_option linter.unusedVariables false
set_option linter.unusedSimpArgs false
open Go.RowKit

/-- What of a line is still to come, from field i on. -/
def restL (q0 q1 q2 q3 : Bool) (key name val to_ : ByteArray) : Nat → List UInt8
  | 0 => partL 0 q0 key ++ (partL 1 q1 name ++ (partL 2 q2 val ++ partL 3 q3 to_))
  | 1 => partL 1 q1 name ++ (partL 2 q2 val ++ partL 3 q3 to_)
  | 2 => partL 2 q2 val ++ partL 3 q3 to_
  | 3 => partL 3 q3 to_
  | _ => []
theorem okF_size {i : Nat} {q : Bool} {s : ByteArray} (h : okF i q s = true) : s.size ≤ 40 := by
  unfold okF at h
  split at h
  · split at h
    · have := (allB_iff.1 h).2.2; rw [bts_len] at this; omega
    · have := (allB_iff.1 h).2.2; rw [bts_len] at this; omega
  · rw [of_decide_eq_true h]; decide
theorem word_len (k : Nat) : (wordOf k).length ≤ 7 := by
  unfold wordOf; split <;> simp
/-- What Line answers. -/
def lineE (c : Ch) : Value := if okC c then .tuple #[.string (txt (lineL c)), .int .i64 0] else .tuple #[.string ⟨#[]⟩, .int .i64 190]
theorem line_yes (k : Nat) (key name val to_ : ByteArray) (w : World) (hf : (Ch.mk k key name val to_).Fits) (hW : Ways w) (hok : okC ⟨k, key, name, val, to_⟩ = true) :
    Calls Tryd.prog 13 #[.agg #[.int .i64 k, .string key, .string name, .string val, .string to_]] w fun e w' => e = .returned (.tuple #[.string (txt (lineL ⟨k, key, name, val, to_⟩)), .int .i64 0]) ∧ Ext w w' := by
  have hk := okC_iff.1 hok
  obtain ⟨hk1, hk8, z0, z1, z2, z3⟩ := hk
  dsimp only at hk1 hk8 z0 z1 z2 z3
  replace z0 := okF_size z0
  replace z1 := okF_size z1
  replace z2 := okF_size z2
  replace z3 := okF_size z3
  have hch := fun w' (h : Ext w w') => check_any ⟨k, key, name, val, to_⟩ w' hf (hW.ext h)
  unfold errC at hch
  rw [hok] at hch
  have HCH := Lib.hid hch
  have HR := RowAt.new w 27 [.int .i64 k, .string key, .string name, .string val, .string to_]
  clear hch hok
  go_enter Tryd.func13, Tryd.ntmps13
  go_upto_region 1 with fail
  have hx0 := Ext.alloc w (.cells #[.int .i64 k, .string key, .string name, .string val, .string to_] 27)
  generalize w.alloc (.cells #[.int .i64 k, .string key, .string name, .string val, .string to_] 27) = w1 at *
  obtain ⟨c0, c1, c2, c3, c4, f0, f1, f2, f3, f4⟩ := HR.facts5
  go_wp2_with fail
  refine (HCH.out _ hx0).mono ?_
  rintro e w2 ⟨rfl, hx2⟩
  replace HR := Lib.hid (HR.ext hx2)
  obtain ⟨c0, c1, c2, c3, c4, f0, f1, f2, f3, f4⟩ := HR.out.facts5
  obtain ⟨g0, g1, g2, g3, g4⟩ := (hW.ext (hx0.trans hx2)).at_ (k := k) (by omega)
  simp only [if_true]
  go_upto_region 5 with fail
  have hl : lineL ⟨k, key, name, val, to_⟩ = wordOf k ++ restL (hasOf k 0) (hasOf k 1) (hasOf k 2) (hasOf k 3) key name val to_ 0 := rfl
  obtain ⟨line, hline⟩ : ∃ l, l = lineL ⟨k, key, name, val, to_⟩ := ⟨_, rfl⟩
  rw [← hline] at hl
  have HL := Lib.hid hl
  have Hline := Lib.hid hline.symm
  clear hline
  clear hl g0 g1 g2 g3 g4 HCH c0 c1 c2 c3 c4 f0 f1 f2 f3 f4
  generalize hasOf k 0 = q0 at *
  generalize hasOf k 1 = q1 at *
  generalize hasOf k 2 = q2 at *
  generalize hasOf k 3 = q3 at *
  have hwd := bts_txt (wordOf k)
  have hwl : (txt (wordOf k)).size ≤ 7 := by rw [txt_size]; exact word_len k
  generalize txt (wordOf k) = wd at *
  have hbx := RowAt.new w2 54 [.string wd, .bool q0, .bool q1, .bool q2, .bool q3]
  have hx3 := Ext.alloc w2 (.cells #[.string wd, .bool q0, .bool q1, .bool q2, .bool q3] 54)
  generalize w2.alloc (.cells #[.string wd, .bool q0, .bool q1, .bool q2, .bool q3] 54) = w3 at *
  obtain ⟨c0, c1, c2, c3, c4, f0, f1, f2, f3, f4⟩ := hbx.facts5
  replace HR := Lib.hid (HR.out.ext hx3)
  have ix0 : ∀ w, (Instr.index 52 (.agg #[.bool q0, .bool q1, .bool q2, .bool q3]) (.int .i64 0)).run Tryd.prog w = .ok (.bool q0) w := fun _ => rfl
  have ix1 : ∀ w, (Instr.index 52 (.agg #[.bool q0, .bool q1, .bool q2, .bool q3]) (.int .i64 1)).run Tryd.prog w = .ok (.bool q1) w := fun _ => rfl
  have ix2 : ∀ w, (Instr.index 52 (.agg #[.bool q0, .bool q1, .bool q2, .bool q3]) (.int .i64 2)).run Tryd.prog w = .ok (.bool q2) w := fun _ => rfl
  have ix3 : ∀ w, (Instr.index 52 (.agg #[.bool q0, .bool q1, .bool q2, .bool q3]) (.int .i64 3)).run Tryd.prog w = .ok (.bool q3) w := fun _ => rfl
  go_upto_region 8 with fail
  go_loopw [6, 25] (fun u v wr => ∃ (i : Nat) (o : ByteArray), i ≤ 4 ∧ v = .int .i64 i ∧ u = .string o ∧ o.size ≤ 7 + 43 * i ∧ Ext w3 wr ∧ line = bts o ++ restL q0 q1 q2 q3 key name val to_ i) (fun _ v _ => 4 - (intOf v).toNat)
  case atStart => exact ⟨0, wd, by omega, rfl, rfl, by omega, Ext.refl _, by rw [HL.out, hwd]⟩
  case round =>
    obtain ⟨i, o, hi, rfl, rfl, hz, hxr, ho⟩ := hrel
    have Ho := Lib.hid ho
    clear ho hwd
    have hcases : i = 0 ∨ i = 1 ∨ i = 2 ∨ i = 3 ∨ i = 4 := by omega
    rcases hcases with rfl | rfl | rfl | rfl | rfl
    · cases q0 with
      | true =>
        go_wp2_with fail
        refine (field_any w.heap.size 0 _ (by omega)).mono ?_
        rintro e w2 ⟨rfl, hx2⟩
        obtain ⟨c0, c1, c2, c3, c4, f0, f1, f2, f3, f4⟩ := ((HR.out.ext hxr).ext hx2).facts5
        go_wp2_with fail
        go_roundw
        case rel => exact ⟨0 + 1, o ++ (⟨#[32]⟩ ++ key), by omega, rfl, rfl, by have s1 : (⟨#[32]⟩ : ByteArray).size = 1 := rfl; have s2 : (⟨#[32, 34]⟩ : ByteArray).size = 2 := rfl; have s3 : (⟨#[34]⟩ : ByteArray).size = 1 := rfl; simp only [ByteArray.size_append]; omega, (by repeat (first | exact Ext.refl _ | with_reducible assumption | with_reducible refine Ext.alloc_of ?_ _ | with_reducible refine Ext.drewN_of ?_ _ | with_reducible refine Ext.drew_of ?_ | (with_reducible refine Ext.set_of ?_ ?hsz _; case hsz => ((first | exact Nat.le_refl _ | omega | (simp; omega)))) | with_reducible refine Ext.via (by assumption) ?_)), by rw [Ho.out, bts_append]; simp [restL, partL, bts_append, bts, List.append_assoc]⟩
        case measure => simp [intOf]
      | false =>
        go_wp2_with fail
        go_roundw
        case rel => exact ⟨0 + 1, o, by omega, rfl, rfl, by omega, (by repeat (first | exact Ext.refl _ | with_reducible assumption | with_reducible refine Ext.alloc_of ?_ _ | with_reducible refine Ext.drewN_of ?_ _ | with_reducible refine Ext.drew_of ?_ | (with_reducible refine Ext.set_of ?_ ?hsz _; case hsz => ((first | exact Nat.le_refl _ | omega | (simp; omega)))) | with_reducible refine Ext.via (by assumption) ?_)), by rw [Ho.out]; simp [restL, partL]⟩
        case measure => simp [intOf]
    · cases q1 with
      | true =>
        go_wp2_with fail
        refine (field_any w.heap.size 1 _ (by omega)).mono ?_
        rintro e w2 ⟨rfl, hx2⟩
        obtain ⟨c0, c1, c2, c3, c4, f0, f1, f2, f3, f4⟩ := ((HR.out.ext hxr).ext hx2).facts5
        go_wp2_with fail
        go_roundw
        case rel => exact ⟨1 + 1, o ++ (⟨#[32]⟩ ++ name), by omega, rfl, rfl, by have s1 : (⟨#[32]⟩ : ByteArray).size = 1 := rfl; have s2 : (⟨#[32, 34]⟩ : ByteArray).size = 2 := rfl; have s3 : (⟨#[34]⟩ : ByteArray).size = 1 := rfl; simp only [ByteArray.size_append]; omega, (by repeat (first | exact Ext.refl _ | with_reducible assumption | with_reducible refine Ext.alloc_of ?_ _ | with_reducible refine Ext.drewN_of ?_ _ | with_reducible refine Ext.drew_of ?_ | (with_reducible refine Ext.set_of ?_ ?hsz _; case hsz => ((first | exact Nat.le_refl _ | omega | (simp; omega)))) | with_reducible refine Ext.via (by assumption) ?_)), by rw [Ho.out, bts_append]; simp [restL, partL, bts_append, bts, List.append_assoc]⟩
        case measure => simp [intOf]
      | false =>
        go_wp2_with fail
        go_roundw
        case rel => exact ⟨1 + 1, o, by omega, rfl, rfl, by omega, (by repeat (first | exact Ext.refl _ | with_reducible assumption | with_reducible refine Ext.alloc_of ?_ _ | with_reducible refine Ext.drewN_of ?_ _ | with_reducible refine Ext.drew_of ?_ | (with_reducible refine Ext.set_of ?_ ?hsz _; case hsz => ((first | exact Nat.le_refl _ | omega | (simp; omega)))) | with_reducible refine Ext.via (by assumption) ?_)), by rw [Ho.out]; simp [restL, partL]⟩
        case measure => simp [intOf]
    · cases q2 with
      | true =>
        go_wp2_with fail
        refine (field_any w.heap.size 2 _ (by omega)).mono ?_
        rintro e w2 ⟨rfl, hx2⟩
        obtain ⟨c0, c1, c2, c3, c4, f0, f1, f2, f3, f4⟩ := ((HR.out.ext hxr).ext hx2).facts5
        go_wp2_with fail
        go_roundw
        case rel => exact ⟨2 + 1, o ++ (⟨#[32, 34]⟩ ++ val ++ ⟨#[34]⟩), by omega, rfl, rfl, by have s1 : (⟨#[32]⟩ : ByteArray).size = 1 := rfl; have s2 : (⟨#[32, 34]⟩ : ByteArray).size = 2 := rfl; have s3 : (⟨#[34]⟩ : ByteArray).size = 1 := rfl; simp only [ByteArray.size_append]; omega, (by repeat (first | exact Ext.refl _ | with_reducible assumption | with_reducible refine Ext.alloc_of ?_ _ | with_reducible refine Ext.drewN_of ?_ _ | with_reducible refine Ext.drew_of ?_ | (with_reducible refine Ext.set_of ?_ ?hsz _; case hsz => ((first | exact Nat.le_refl _ | omega | (simp; omega)))) | with_reducible refine Ext.via (by assumption) ?_)), by rw [Ho.out, bts_append]; simp [restL, partL, bts_append, bts, List.append_assoc]⟩
        case measure => simp [intOf]
      | false =>
        go_wp2_with fail
        go_roundw
        case rel => exact ⟨2 + 1, o, by omega, rfl, rfl, by omega, (by repeat (first | exact Ext.refl _ | with_reducible assumption | with_reducible refine Ext.alloc_of ?_ _ | with_reducible refine Ext.drewN_of ?_ _ | with_reducible refine Ext.drew_of ?_ | (with_reducible refine Ext.set_of ?_ ?hsz _; case hsz => ((first | exact Nat.le_refl _ | omega | (simp; omega)))) | with_reducible refine Ext.via (by assumption) ?_)), by rw [Ho.out]; simp [restL, partL]⟩
        case measure => simp [intOf]
    · cases q3 with
      | true =>
        go_wp2_with fail
        refine (field_any w.heap.size 3 _ (by omega)).mono ?_
        rintro e w2 ⟨rfl, hx2⟩
        obtain ⟨c0, c1, c2, c3, c4, f0, f1, f2, f3, f4⟩ := ((HR.out.ext hxr).ext hx2).facts5
        go_wp2_with fail
        go_roundw
        case rel => exact ⟨3 + 1, o ++ (⟨#[32]⟩ ++ to_), by omega, rfl, rfl, by have s1 : (⟨#[32]⟩ : ByteArray).size = 1 := rfl; have s2 : (⟨#[32, 34]⟩ : ByteArray).size = 2 := rfl; have s3 : (⟨#[34]⟩ : ByteArray).size = 1 := rfl; simp only [ByteArray.size_append]; omega, (by repeat (first | exact Ext.refl _ | with_reducible assumption | with_reducible refine Ext.alloc_of ?_ _ | with_reducible refine Ext.drewN_of ?_ _ | with_reducible refine Ext.drew_of ?_ | (with_reducible refine Ext.set_of ?_ ?hsz _; case hsz => ((first | exact Nat.le_refl _ | omega | (simp; omega)))) | with_reducible refine Ext.via (by assumption) ?_)), by rw [Ho.out, bts_append]; simp [restL, partL, bts_append, bts, List.append_assoc]⟩
        case measure => simp [intOf]
      | false =>
        go_wp2_with fail
        go_roundw
        case rel => exact ⟨3 + 1, o, by omega, rfl, rfl, by omega, (by repeat (first | exact Ext.refl _ | with_reducible assumption | with_reducible refine Ext.alloc_of ?_ _ | with_reducible refine Ext.drewN_of ?_ _ | with_reducible refine Ext.drew_of ?_ | (with_reducible refine Ext.set_of ?_ ?hsz _; case hsz => ((first | exact Nat.le_refl _ | omega | (simp; omega)))) | with_reducible refine Ext.via (by assumption) ?_)), by rw [Ho.out]; simp [restL, partL]⟩
        case measure => simp [intOf]
    · have e : o = txt line := by rw [Ho.out]; simp [restL, txt_bts]
      subst e
      clear Ho
      go_wp2_with fail
      go_ret2
      exact ⟨by rw [Hline.out]; rfl, (by repeat (first | exact Ext.refl _ | with_reducible assumption | with_reducible refine Ext.alloc_of ?_ _ | with_reducible refine Ext.drewN_of ?_ _ | with_reducible refine Ext.drew_of ?_ | (with_reducible refine Ext.set_of ?_ ?hsz _; case hsz => ((first | exact Nat.le_refl _ | omega | (simp; omega)))) | with_reducible refine Ext.via (by assumption) ?_))⟩
theorem line_any (c : Ch) (w : World) (hf : c.Fits) (hW : Ways w) :
    Calls Tryd.prog 13 #[c.v] w fun e w' => e = .returned (lineE c) ∧ Ext w w' := by
  cases hok : okC c with
  | true =>
    unfold lineE
    rw [hok]
    obtain ⟨kd, key, name, val, to_⟩ := c
    obtain ⟨hk1, _⟩ := okC_iff.1 hok
    obtain ⟨k, rfl⟩ := Int.eq_ofNat_of_zero_le (show 0 ≤ kd by dsimp only at hk1; omega)
    exact line_yes k key name val to_ w hf hW hok
  | false =>
    have hch := fun w' (h : Ext w w') => check_any c w' hf (hW.ext h)
    unfold lineE
    unfold errC at hch
    rw [hok] at hch ⊢
    simp only [Bool.false_eq_true, if_false] at hch ⊢
    obtain ⟨kd, key, name, val, to_⟩ := c
    unfold Ch.v at *
    dsimp only at *
    have HCH := Lib.hid hch
    have HR := RowAt.new w 27 [.int .i64 kd, .string key, .string name, .string val, .string to_]
    clear hch hok hW
    go_enter Tryd.func13, Tryd.ntmps13
    go_upto_region 1 with fail
    have hx0 := Ext.alloc w (.cells #[.int .i64 kd, .string key, .string name, .string val, .string to_] 27)
    generalize w.alloc (.cells #[.int .i64 kd, .string key, .string name, .string val, .string to_] 27) = w1 at *
    obtain ⟨c0, c1, c2, c3, c4, f0, f1, f2, f3, f4⟩ := HR.facts5
    go_wp2_with fail
    refine (HCH.out _ hx0).mono ?_
    rintro e w2 ⟨rfl, hx2⟩
    go_wp2_with fail
    go_ret2
    exact ⟨rfl, (by repeat (first | exact Ext.refl _ | with_reducible assumption | with_reducible refine Ext.alloc_of ?_ _ | with_reducible refine Ext.drewN_of ?_ _ | with_reducible refine Ext.drew_of ?_ | (with_reducible refine Ext.set_of ?_ ?hsz _; case hsz => ((first | exact Nat.le_refl _ | omega | (simp; omega)))) | with_reducible refine Ext.via (by assumption) ?_))⟩
end Go.Proofs.YtilbofkpjgcchaaDoor
