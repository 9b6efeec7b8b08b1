/- Which changes may be. -/
import Derived.Test.YtilbofkpjgcchaaDoorBatB
namespace Go.Proofs.YtilbofkpjgcchaaDoor
set_option maxRecDepth 100000
set_option maxHeartbeats 2000000
set_option linter.unusedVariables false
set_option linter.unusedSimpArgs false
open Go.RowKit

theorem RowAt.facts5 {w : World} {g : Nat} {t : TypeId} {u0 u1 u2 u3 u4 : Value} (h : RowAt w g t [u0, u1, u2, u3, u4]) : w.cell? ⟨g, 0, none⟩ = some u0 ∧ w.cell? ⟨g, 1, none⟩ = some u1 ∧ w.cell? ⟨g, 2, none⟩ = some u2 ∧ w.cell? ⟨g, 3, none⟩ = some u3 ∧ w.cell? ⟨g, 4, none⟩ = some u4 ∧ w.frozen? ⟨g, 0, none⟩ = false ∧ w.frozen? ⟨g, 1, none⟩ = false ∧ w.frozen? ⟨g, 2, none⟩ = false ∧ w.frozen? ⟨g, 3, none⟩ = false ∧ w.frozen? ⟨g, 4, none⟩ = false :=
  ⟨h.cell (i := 0) rfl, h.cell (i := 1) rfl, h.cell (i := 2) rfl, h.cell (i := 3) rfl, h.cell (i := 4) rfl, h.frozen 0, h.frozen 1, h.frozen 2, h.frozen 3, h.frozen 4⟩
def Ch.Fits (c : Ch) : Prop := c.key.size ≤ 9223372036854775807 ∧ c.name.size ≤ 9223372036854775807 ∧ c.val.size ≤ 9223372036854775807 ∧ c.to_.size ≤ 9223372036854775807
theorem empty_beq (s : ByteArray) : s.toList.isEmpty = decide (s = ⟨#[]⟩) := by
  rw [ByteArray.toList_eq, Bool.eq_iff_iff]
  rw [List.isEmpty_iff, decide_eq_true_iff, empty_iff]; rfl
/-- So far the fields may be. -/
def Oks (i : Nat) (b0 b1 b2 b3 : Bool) : Prop := (0 < i → b0 = true) ∧ (1 < i → b1 = true) ∧ (2 < i → b2 = true) ∧ (3 < i → b3 = true)
theorem check_in (k : Nat) (key name val to_ : ByteArray) (w : World) (hk1 : 1 ≤ k) (hk8 : k ≤ 8) (hf : (Ch.mk k key name val to_).Fits) (hW : Ways w) :
    Calls Tryd.prog 12 #[.agg #[.int .i64 k, .string key, .string name, .string val, .string to_]] w fun e w' => e = .returned (.int .i64 (errC ⟨k, key, name, val, to_⟩)) ∧ Ext w w' := by
  obtain ⟨h0, h1, h2, h3⟩ := hf
  dsimp only at h0 h1 h2 h3
  have hr := RowAt.new w 27 [.int .i64 k, .string key, .string name, .string val, .string to_]
  go_enter Tryd.func12, Tryd.ntmps12
  go_upto_region 1 with fail
  have hx0 := Ext.alloc w (.cells #[.int .i64 k, .string key, .string name, .string val, .string to_] 27)
  generalize w.alloc (.cells #[.int .i64 k, .string key, .string name, .string val, .string to_] 27) = w1 at *
  obtain ⟨c0, c1, c2, c3, c4, f0, f1, f2, f3, f4⟩ := hr.facts5
  obtain ⟨g0, g1, g2, g3, g4⟩ := (hW.ext hx0).at_ (k := k) (by omega)
  go_upto_region 5 with fail
  have he : okC ⟨k, key, name, val, to_⟩ = (okF 0 (hasOf k 0) key && (okF 1 (hasOf k 1) name && (okF 2 (hasOf k 2) val && okF 3 (hasOf k 3) to_))) := by
    unfold okC
    simp only [Int.toNat_natCast]
    rw [decide_eq_true (by omega), decide_eq_true (by omega)]; rfl
  have HE := Lib.hid he
  clear he g0 g1 g2 g3 g4
  generalize hasOf k 0 = q0 at *
  generalize hasOf k 1 = q1 at *
  generalize hasOf k 2 = q2 at *
  generalize hasOf k 3 = q3 at *
  have ix0 : ∀ w, (Instr.index 52 (.agg #[.bool q0, .bool q1, .bool q2, .bool q3]) (.int .i64 0)).run Tryd.prog w = .ok (.bool q0) w := fun _ => rfl
  have ix1 : ∀ w, (Instr.index 52 (.agg #[.bool q0, .bool q1, .bool q2, .bool q3]) (.int .i64 1)).run Tryd.prog w = .ok (.bool q1) w := fun _ => rfl
  have ix2 : ∀ w, (Instr.index 52 (.agg #[.bool q0, .bool q1, .bool q2, .bool q3]) (.int .i64 2)).run Tryd.prog w = .ok (.bool q2) w := fun _ => rfl
  have ix3 : ∀ w, (Instr.index 52 (.agg #[.bool q0, .bool q1, .bool q2, .bool q3]) (.int .i64 3)).run Tryd.prog w = .ok (.bool q3) w := fun _ => rfl
  go_loopw [23] (fun v wr => ∃ i : Nat, i ≤ 4 ∧ v = .int .i64 i ∧ Ext w1 wr ∧ Oks i (okF 0 q0 key) (okF 1 q1 name) (okF 2 q2 val) (okF 3 q3 to_)) (fun v _ => 4 - (intOf v).toNat)
  case atStart => exact ⟨0, by omega, rfl, Ext.refl _, by unfold Oks; simp⟩
  case round =>
    obtain ⟨i, hi, rfl, hxr, hok⟩ := hrel
    have hcases : i = 0 ∨ i = 1 ∨ i = 2 ∨ i = 3 ∨ i = 4 := by omega
    rcases hcases with rfl | rfl | rfl | rfl | rfl
    · go_wp2_with fail
      refine (field_any w.heap.size 0 _ (by omega)).mono ?_
      rintro e w2 ⟨rfl, hx2⟩
      obtain ⟨c0, c1, c2, c3, c4, f0, f1, f2, f3, f4⟩ := ((hr.ext hxr).ext hx2).facts5
      cases q0 with
      | true =>
        go_wp2_with fail
        refine (name_any key _ (by assumption)).mono ?_
        rintro e w3 ⟨rfl, rfl⟩
        have hv : okF 0 true key = nameB key := by simp [okF]
        generalize hb : nameB key = bb at *
        cases bb with
        | true =>
          go_wp2_with fail
          go_roundw
          case rel => exact ⟨0 + 1, by omega, rfl, (by repeat (first | exact Ext.refl _ | with_reducible assumption | with_reducible refine Ext.alloc_of ?_ _ | with_reducible refine Ext.drewN_of ?_ _ | with_reducible refine Ext.drew_of ?_ | (with_reducible refine Ext.set_of ?_ ?hsz _; case hsz => ((first | exact Nat.le_refl _ | omega | (simp; omega)))) | with_reducible refine Ext.via (by assumption) ?_)), by (unfold Oks; simp [hv])⟩
          case measure => simp [intOf]
        | false =>
          have HF : Hid (errC ⟨k, key, name, val, to_⟩ = 190) := Lib.hid (by unfold errC; rw [HE.out, hv]; simp)
          go_wp2_with fail
          go_ret
          exact ⟨ret_int HF.out.symm, hx0.trans (by repeat (first | exact Ext.refl _ | with_reducible assumption | with_reducible refine Ext.alloc_of ?_ _ | with_reducible refine Ext.drewN_of ?_ _ | with_reducible refine Ext.drew_of ?_ | (with_reducible refine Ext.set_of ?_ ?hsz _; case hsz => ((first | exact Nat.le_refl _ | omega | (simp; omega)))) | with_reducible refine Ext.via (by assumption) ?_))⟩
      | false =>
        have hv : okF 0 false key = decide (key = ⟨#[]⟩) := by simp [okF]
        have he := empty_beq key
        generalize hb : decide (key = ⟨#[]⟩) = bb at *
        cases bb with
        | true =>
          go_wp2_with fail
          go_roundw
          case rel => exact ⟨0 + 1, by omega, rfl, (by repeat (first | exact Ext.refl _ | with_reducible assumption | with_reducible refine Ext.alloc_of ?_ _ | with_reducible refine Ext.drewN_of ?_ _ | with_reducible refine Ext.drew_of ?_ | (with_reducible refine Ext.set_of ?_ ?hsz _; case hsz => ((first | exact Nat.le_refl _ | omega | (simp; omega)))) | with_reducible refine Ext.via (by assumption) ?_)), by (unfold Oks; simp [hv])⟩
          case measure => simp [intOf]
        | false =>
          have HF : Hid (errC ⟨k, key, name, val, to_⟩ = 190) := Lib.hid (by unfold errC; rw [HE.out, hv]; simp)
          go_wp2_with fail
          go_ret
          exact ⟨ret_int HF.out.symm, hx0.trans (by repeat (first | exact Ext.refl _ | with_reducible assumption | with_reducible refine Ext.alloc_of ?_ _ | with_reducible refine Ext.drewN_of ?_ _ | with_reducible refine Ext.drew_of ?_ | (with_reducible refine Ext.set_of ?_ ?hsz _; case hsz => ((first | exact Nat.le_refl _ | omega | (simp; omega)))) | with_reducible refine Ext.via (by assumption) ?_))⟩
    · go_wp2_with fail
      refine (field_any w.heap.size 1 _ (by omega)).mono ?_
      rintro e w2 ⟨rfl, hx2⟩
      obtain ⟨c0, c1, c2, c3, c4, f0, f1, f2, f3, f4⟩ := ((hr.ext hxr).ext hx2).facts5
      cases q1 with
      | true =>
        go_wp2_with fail
        refine (name_any name _ (by assumption)).mono ?_
        rintro e w3 ⟨rfl, rfl⟩
        have hv : okF 1 true name = nameB name := by simp [okF]
        generalize hb : nameB name = bb at *
        cases bb with
        | true =>
          go_wp2_with fail
          go_roundw
          case rel => exact ⟨1 + 1, by omega, rfl, (by repeat (first | exact Ext.refl _ | with_reducible assumption | with_reducible refine Ext.alloc_of ?_ _ | with_reducible refine Ext.drewN_of ?_ _ | with_reducible refine Ext.drew_of ?_ | (with_reducible refine Ext.set_of ?_ ?hsz _; case hsz => ((first | exact Nat.le_refl _ | omega | (simp; omega)))) | with_reducible refine Ext.via (by assumption) ?_)), by (unfold Oks at hok ⊢; simp [hv]; exact hok.1 (by omega))⟩
          case measure => simp [intOf]
        | false =>
          have HF : Hid (errC ⟨k, key, name, val, to_⟩ = 190) := Lib.hid (by unfold errC; rw [HE.out, hv]; simp)
          go_wp2_with fail
          go_ret
          exact ⟨ret_int HF.out.symm, hx0.trans (by repeat (first | exact Ext.refl _ | with_reducible assumption | with_reducible refine Ext.alloc_of ?_ _ | with_reducible refine Ext.drewN_of ?_ _ | with_reducible refine Ext.drew_of ?_ | (with_reducible refine Ext.set_of ?_ ?hsz _; case hsz => ((first | exact Nat.le_refl _ | omega | (simp; omega)))) | with_reducible refine Ext.via (by assumption) ?_))⟩
      | false =>
        have hv : okF 1 false name = decide (name = ⟨#[]⟩) := by simp [okF]
        have he := empty_beq name
        generalize hb : decide (name = ⟨#[]⟩) = bb at *
        cases bb with
        | true =>
          go_wp2_with fail
          go_roundw
          case rel => exact ⟨1 + 1, by omega, rfl, (by repeat (first | exact Ext.refl _ | with_reducible assumption | with_reducible refine Ext.alloc_of ?_ _ | with_reducible refine Ext.drewN_of ?_ _ | with_reducible refine Ext.drew_of ?_ | (with_reducible refine Ext.set_of ?_ ?hsz _; case hsz => ((first | exact Nat.le_refl _ | omega | (simp; omega)))) | with_reducible refine Ext.via (by assumption) ?_)), by (unfold Oks at hok ⊢; simp [hv]; exact hok.1 (by omega))⟩
          case measure => simp [intOf]
        | false =>
          have HF : Hid (errC ⟨k, key, name, val, to_⟩ = 190) := Lib.hid (by unfold errC; rw [HE.out, hv]; simp)
          go_wp2_with fail
          go_ret
          exact ⟨ret_int HF.out.symm, hx0.trans (by repeat (first | exact Ext.refl _ | with_reducible assumption | with_reducible refine Ext.alloc_of ?_ _ | with_reducible refine Ext.drewN_of ?_ _ | with_reducible refine Ext.drew_of ?_ | (with_reducible refine Ext.set_of ?_ ?hsz _; case hsz => ((first | exact Nat.le_refl _ | omega | (simp; omega)))) | with_reducible refine Ext.via (by assumption) ?_))⟩
    · go_wp2_with fail
      refine (field_any w.heap.size 2 _ (by omega)).mono ?_
      rintro e w2 ⟨rfl, hx2⟩
      obtain ⟨c0, c1, c2, c3, c4, f0, f1, f2, f3, f4⟩ := ((hr.ext hxr).ext hx2).facts5
      cases q2 with
      | true =>
        go_wp2_with fail
        refine (val_any val _ (by assumption)).mono ?_
        rintro e w3 ⟨rfl, rfl⟩
        have hv : okF 2 true val = valB val := by simp [okF]
        generalize hb : valB val = bb at *
        cases bb with
        | true =>
          go_wp2_with fail
          go_roundw
          case rel => exact ⟨2 + 1, by omega, rfl, (by repeat (first | exact Ext.refl _ | with_reducible assumption | with_reducible refine Ext.alloc_of ?_ _ | with_reducible refine Ext.drewN_of ?_ _ | with_reducible refine Ext.drew_of ?_ | (with_reducible refine Ext.set_of ?_ ?hsz _; case hsz => ((first | exact Nat.le_refl _ | omega | (simp; omega)))) | with_reducible refine Ext.via (by assumption) ?_)), by (unfold Oks at hok ⊢; simp [hv]; exact ⟨hok.1 (by omega), hok.2.1 (by omega)⟩)⟩
          case measure => simp [intOf]
        | false =>
          have HF : Hid (errC ⟨k, key, name, val, to_⟩ = 190) := Lib.hid (by unfold errC; rw [HE.out, hv]; simp)
          go_wp2_with fail
          go_ret
          exact ⟨ret_int HF.out.symm, hx0.trans (by repeat (first | exact Ext.refl _ | with_reducible assumption | with_reducible refine Ext.alloc_of ?_ _ | with_reducible refine Ext.drewN_of ?_ _ | with_reducible refine Ext.drew_of ?_ | (with_reducible refine Ext.set_of ?_ ?hsz _; case hsz => ((first | exact Nat.le_refl _ | omega | (simp; omega)))) | with_reducible refine Ext.via (by assumption) ?_))⟩
      | false =>
        have hv : okF 2 false val = decide (val = ⟨#[]⟩) := by simp [okF]
        have he := empty_beq val
        generalize hb : decide (val = ⟨#[]⟩) = bb at *
        cases bb with
        | true =>
          go_wp2_with fail
          go_roundw
          case rel => exact ⟨2 + 1, by omega, rfl, (by repeat (first | exact Ext.refl _ | with_reducible assumption | with_reducible refine Ext.alloc_of ?_ _ | with_reducible refine Ext.drewN_of ?_ _ | with_reducible refine Ext.drew_of ?_ | (with_reducible refine Ext.set_of ?_ ?hsz _; case hsz => ((first | exact Nat.le_refl _ | omega | (simp; omega)))) | with_reducible refine Ext.via (by assumption) ?_)), by (unfold Oks at hok ⊢; simp [hv]; exact ⟨hok.1 (by omega), hok.2.1 (by omega)⟩)⟩
          case measure => simp [intOf]
        | false =>
          have HF : Hid (errC ⟨k, key, name, val, to_⟩ = 190) := Lib.hid (by unfold errC; rw [HE.out, hv]; simp)
          go_wp2_with fail
          go_ret
          exact ⟨ret_int HF.out.symm, hx0.trans (by repeat (first | exact Ext.refl _ | with_reducible assumption | with_reducible refine Ext.alloc_of ?_ _ | with_reducible refine Ext.drewN_of ?_ _ | with_reducible refine Ext.drew_of ?_ | (with_reducible refine Ext.set_of ?_ ?hsz _; case hsz => ((first | exact Nat.le_refl _ | omega | (simp; omega)))) | with_reducible refine Ext.via (by assumption) ?_))⟩
    · go_wp2_with fail
      refine (field_any w.heap.size 3 _ (by omega)).mono ?_
      rintro e w2 ⟨rfl, hx2⟩
      obtain ⟨c0, c1, c2, c3, c4, f0, f1, f2, f3, f4⟩ := ((hr.ext hxr).ext hx2).facts5
      cases q3 with
      | true =>
        go_wp2_with fail
        refine (name_any to_ _ (by assumption)).mono ?_
        rintro e w3 ⟨rfl, rfl⟩
        have hv : okF 3 true to_ = nameB to_ := by simp [okF]
        generalize hb : nameB to_ = bb at *
        cases bb with
        | true =>
          go_wp2_with fail
          go_roundw
          case rel => exact ⟨3 + 1, by omega, rfl, (by repeat (first | exact Ext.refl _ | with_reducible assumption | with_reducible refine Ext.alloc_of ?_ _ | with_reducible refine Ext.drewN_of ?_ _ | with_reducible refine Ext.drew_of ?_ | (with_reducible refine Ext.set_of ?_ ?hsz _; case hsz => ((first | exact Nat.le_refl _ | omega | (simp; omega)))) | with_reducible refine Ext.via (by assumption) ?_)), by (unfold Oks at hok ⊢; simp [hv]; exact ⟨hok.1 (by omega), hok.2.1 (by omega), hok.2.2.1 (by omega)⟩)⟩
          case measure => simp [intOf]
        | false =>
          have HF : Hid (errC ⟨k, key, name, val, to_⟩ = 190) := Lib.hid (by unfold errC; rw [HE.out, hv]; simp)
          go_wp2_with fail
          go_ret
          exact ⟨ret_int HF.out.symm, hx0.trans (by repeat (first | exact Ext.refl _ | with_reducible assumption | with_reducible refine Ext.alloc_of ?_ _ | with_reducible refine Ext.drewN_of ?_ _ | with_reducible refine Ext.drew_of ?_ | (with_reducible refine Ext.set_of ?_ ?hsz _; case hsz => ((first | exact Nat.le_refl _ | omega | (simp; omega)))) | with_reducible refine Ext.via (by assumption) ?_))⟩
      | false =>
        have hv : okF 3 false to_ = decide (to_ = ⟨#[]⟩) := by simp [okF]
        have he := empty_beq to_
        generalize hb : decide (to_ = ⟨#[]⟩) = bb at *
        cases bb with
        | true =>
          go_wp2_with fail
          go_roundw
          case rel => exact ⟨3 + 1, by omega, rfl, (by repeat (first | exact Ext.refl _ | with_reducible assumption | with_reducible refine Ext.alloc_of ?_ _ | with_reducible refine Ext.drewN_of ?_ _ | with_reducible refine Ext.drew_of ?_ | (with_reducible refine Ext.set_of ?_ ?hsz _; case hsz => ((first | exact Nat.le_refl _ | omega | (simp; omega)))) | with_reducible refine Ext.via (by assumption) ?_)), by (unfold Oks at hok ⊢; simp [hv]; exact ⟨hok.1 (by omega), hok.2.1 (by omega), hok.2.2.1 (by omega)⟩)⟩
          case measure => simp [intOf]
        | false =>
          have HF : Hid (errC ⟨k, key, name, val, to_⟩ = 190) := Lib.hid (by unfold errC; rw [HE.out, hv]; simp)
          go_wp2_with fail
          go_ret
          exact ⟨ret_int HF.out.symm, hx0.trans (by repeat (first | exact Ext.refl _ | with_reducible assumption | with_reducible refine Ext.alloc_of ?_ _ | with_reducible refine Ext.drewN_of ?_ _ | with_reducible refine Ext.drew_of ?_ | (with_reducible refine Ext.set_of ?_ ?hsz _; case hsz => ((first | exact Nat.le_refl _ | omega | (simp; omega)))) | with_reducible refine Ext.via (by assumption) ?_))⟩
    · have HF : Hid (errC ⟨k, key, name, val, to_⟩ = 0) := Lib.hid (by unfold errC; rw [HE.out, hok.1 (by omega), hok.2.1 (by omega), hok.2.2.1 (by omega), hok.2.2.2 (by omega)]; rfl)
      clear hok
      go_wp2_with fail
      go_ret
      exact ⟨ret_int HF.out.symm, hx0.trans hxr⟩
theorem check_any (c : Ch) (w : World) (hf : c.Fits) (hW : Ways w) :
    Calls Tryd.prog 12 #[c.v] w fun e w' => e = .returned (.int .i64 (errC c)) ∧ Ext w w' := by
  obtain ⟨kd, key, name, val, to_⟩ := c
  by_cases h : 1 ≤ kd ∧ kd ≤ 8
  · obtain ⟨k, rfl⟩ := Int.eq_ofNat_of_zero_le (show 0 ≤ kd by omega)
    exact check_in k key name val to_ w (by omega) (by omega) hf hW
  · have HF : Hid (errC ⟨kd, key, name, val, to_⟩ = 190) := Lib.hid (by
      unfold errC okC
      dsimp only
      by_cases h1 : 1 ≤ kd
      · rw [decide_eq_true h1, decide_eq_false (by omega)]; rfl
      · rw [decide_eq_false h1]; rfl)
    have hr := RowAt.new w 27 [.int .i64 kd, .string key, .string name, .string val, .string to_]
    unfold Ch.v
    dsimp only
    go_enter Tryd.func12, Tryd.ntmps12
    go_upto_region 1 with fail
    have hx0 := Ext.alloc w (.cells #[.int .i64 kd, .string key, .string name, .string val, .string to_] 27)
    generalize w.alloc (.cells #[.int .i64 kd, .string key, .string name, .string val, .string to_] 27) = w1 at *
    obtain ⟨c0, c1, c2, c3, c4, f0, f1, f2, f3, f4⟩ := hr.facts5
    by_cases h1 : kd < 1
    · go_wp2_with fail
      go_ret
      exact ⟨ret_int HF.out.symm, hx0⟩
    · have h2 : 9 ≤ kd := by omega
      go_wp2_with fail
      go_ret
      exact ⟨ret_int HF.out.symm, hx0⟩
end Go.Proofs.YtilbofkpjgcchaaDoor
