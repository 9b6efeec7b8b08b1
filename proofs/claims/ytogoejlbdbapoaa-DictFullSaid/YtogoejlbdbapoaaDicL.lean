/- A name is put. -/
import Derived.Test.YtogoejlbdbapoaaDicK
namespace Go.Proofs.Ytogoejlbdbapoaa
set_option maxRecDepth 100000
set_option maxHeartbeats 2000000
set_option linter.unusedSimpArgs false
open Go.RowKit Go.Shelf Go.Sort
attribute [local go_sem] Oper.semAt_some wide_fn wide_depth
set_option linter.unusedVariables false

theorem mayB_kind {k : Int} {s : List UInt8} (h : mayB k s = true) : 0 ≤ k ∧ k < 5 := by
  unfold mayB at h
  simp only [Bool.and_eq_true, decide_eq_true_eq] at h
  omega
/-- What Put comes to: the error, or the dictionary and the id. -/
def putD (D : Dic) (kind : Int) (s : ByteArray) : Except Int (Dic × Int) :=
  if mayB kind (bts s) = true then match dputF (D kind.toNat).1 (D kind.toNat).2 s with
    | none => .error 6
    | some (T, S, n) => .ok (upd D kind.toNat (T, S), n)
  else .error 2
def DPutPost (w : World) (r : Except Int (Dic × Int)) (e : Ending) (w' : World) : Prop := Ext w w' ∧
  match r with
  | .ok (D', n) => ∃ us, e = .returned (.tuple #[dv us, .int .i64 n, .int .i64 0]) ∧ DicOwn w.heap.size w' us D'
  | .error c => e = .returned (.tuple #[dv noV, .int .i64 0, .int .i64 c])
def dnoV : Value := .agg #[.slice none 0 0, .slice none 0 0, .slice none 0 0, .slice none 0 0, .slice none 0 0, .slice none 0 0, .slice none 0 0, .slice none 0 0, .slice none 0 0, .slice none 0 0]
theorem dv_noV : dv noV = dnoV := rfl
set_option maxRecDepth 100000 in
set_option maxHeartbeats 2000000 in
theorem dPut_all (vs : Nat → Value × Value) (D : Dic) (kind : Int) (s : ByteArray) (w : World) (hV : DicV w vs D) (hS : DicS D) (hs : s.size ≤ 9223372036854775807) (ok : Bool) (hok : ok = true ↔ DicOK D) :
    Calls Try.prog 21 #[dv vs, .int .i64 kind, .string s] w (DPutPost w (if ok then putD D kind s else .error 160)) := by
  have hbd : RowAt ((w.alloc (.cells (dcells vs).toArray 28)).alloc (.cells (dcells noV).toArray 28)) (w.heap.size + 1) 28 (dcells noV) := row_at (by simp)
  have hbd0 : RowAt ((w.alloc (.cells (dcells vs).toArray 28)).alloc (.cells (dcells noV).toArray 28)) w.heap.size 28 (dcells vs) := (RowAt.new w _ (dcells vs)).ext (Ext.alloc _ _)
  have hx0 : Ext w ((w.alloc (.cells (dcells vs).toArray 28)).alloc (.cells (dcells noV).toArray 28)) := (Ext.alloc _ _).trans (Ext.alloc _ _)
  have hc : ∀ w', Ext w w' → Calls Try.prog 13 #[dv vs] w' fun e w'' => e = .returned (.int .i64 (if ok then 0 else 160)) ∧ Ext w' w'' := fun w' hx => by
    cases ok with
    | true => exact dcheck_yes vs D w' (hV.ext hx) hS (hok.1 rfl)
    | false => exact dcheck_no vs D w' (hV.ext hx) hS (fun h => by have := hok.2 h; cases this)
  have ho : ∀ w', Ext w w' → Calls Try.prog 50 #[dv vs] w' fun e w'' => ∃ us, e = .returned (dv us) ∧ DicOwn w'.heap.size w'' us D ∧ Ext w' w'' := fun w' hx => down_any vs D w' (hV.ext hx) hS
  have hm := fun w' => may_any kind s w' hs
  have hdn : (dcells noV).toArray = #[.slice none 0 0, .slice none 0 0, .slice none 0 0, .slice none 0 0, .slice none 0 0, .slice none 0 0, .slice none 0 0, .slice none 0 0, .slice none 0 0, .slice none 0 0] := rfl
  have hdc : (dcells vs).toArray = #[(vs 0).1, (vs 0).2, (vs 1).1, (vs 1).2, (vs 2).1, (vs 2).2, (vs 3).1, (vs 3).2, (vs 4).1, (vs 4).2] := rfl
  rw [hdn, hdc] at hbd hbd0 hx0
  have HB := Lib.hid hbd
  have HB0 := Lib.hid hbd0
  have HX0 := Lib.hid hx0
  have HO := Lib.hid ho
  have HM := Lib.hid hm
  have HS := Lib.hid hS
  have HOK := Lib.hid hok
  unfold dv at hc
  rw [hdc] at hc
  have HC := Lib.hid hc
  unfold dv
  rw [hdc]
  clear hbd hbd0 hx0 hc ho hm hdn hdc hS hok hV
  generalize hres : (if ok = true then putD D kind s else .error 160) = res
  have HRES := Lib.hid hres
  clear hres
  go_enter Try.func21, Try.ntmps21
  go_upto_region 1 with fail
  replace HB := HB.out
  replace HB0 := HB0.out
  replace HX0 := HX0.out
  generalize ((w.alloc (.cells #[(vs 0).1, (vs 0).2, (vs 1).1, (vs 1).2, (vs 2).1, (vs 2).2, (vs 3).1, (vs 3).2, (vs 4).1, (vs 4).2] 28)).alloc (.cells #[.slice none 0 0, .slice none 0 0, .slice none 0 0, .slice none 0 0, .slice none 0 0, .slice none 0 0, .slice none 0 0, .slice none 0 0, .slice none 0 0, .slice none 0 0] 28)) = w1 at *
  obtain ⟨c0, c1, c2, c3, c4, c5, c6, c7, c8, c9⟩ := HB0.facts10
  go_wp2_with fail
  have hcc := HC.out _ HX0
  obtain ⟨code, hcode⟩ : ∃ c : Int, (if ok = true then 0 else 160) = c := ⟨_, rfl⟩
  rw [hcode] at hcc
  clear HC
  refine hcc.mono ?_
  clear hcc
  rintro e w2 ⟨rfl, hx2⟩
  have HB2 := Lib.hid (HB.ext hx2)
  have hb02 := HB0.ext hx2
  clear HB HB0 c0 c1 c2 c3 c4 c5 c6 c7 c8 c9
  have HX2 := Lib.hid (HX0.trans hx2)
  cases ok with
  | false =>
    obtain rfl : 160 = code := hcode
    clear HOK HM HO
    obtain ⟨d0, d1, d2, d3, d4, d5, d6, d7, d8, d9⟩ := RowAt.facts10 (vs := noV) HB2.out
    obtain ⟨g0, g1, g2, g3, g4, g5, g6, g7, g8, g9⟩ := HB2.out.facts10f
    simp only [noV] at d0 d1 d2 d3 d4 d5 d6 d7 d8 d9
    go_wp2_with fail
    rw [set10]
    obtain ⟨q0, q1, q2, q3, q4, q5, q6, q7, q8, q9⟩ := RowAt.facts10 (row_set10 (vs := noV) noV HB2.out)
    unfold dcells noV at q0 q1 q2 q3 q4 q5 q6 q7 q8 q9
    dsimp only at q0 q1 q2 q3 q4 q5 q6 q7 q8 q9
    exact bodyPost_ret (v := .tuple #[dv noV, .int .i64 0, .int .i64 160]) (by rw [dv_noV]; unfold dnoV; simp [results, Try.results21, go_sem, q0, q1, q2, q3, q4, q5, q6, q7, q8, q9]) rfl ⟨below_setL (Nat.le_succ _) (dcells noV) 0 HX2.out, by rw [← HRES.out]; rfl⟩
  | true =>
    obtain rfl : 0 = code := hcode
    have Hok : Hid (DicOK D) := Lib.hid (HOK.out.1 rfl)
    obtain ⟨mb, hmb⟩ : ∃ mb, mayB kind (bts s) = mb := ⟨_, rfl⟩
    have HMB := Lib.hid hmb
    have hm := HM.out
    rw [hmb] at hm
    clear hmb HM HOK
    cases mb with
    | false =>
      have HR : Hid (putD D kind s = .error 2) := Lib.hid (by unfold putD; rw [HMB.out]; rfl)
      go_wp2_with fail
      refine (hm _).mono ?_
      rintro e w3 ⟨rfl, hx3⟩
      have hb3 := HB2.out.ext hx3
      obtain ⟨d0, d1, d2, d3, d4, d5, d6, d7, d8, d9⟩ := RowAt.facts10 (vs := noV) hb3
      obtain ⟨g0, g1, g2, g3, g4, g5, g6, g7, g8, g9⟩ := hb3.facts10f
      have HB3 := Lib.hid hb3
      clear hb3
      simp only [noV] at d0 d1 d2 d3 d4 d5 d6 d7 d8 d9
      go_wp2_with fail
      rw [set10]
      obtain ⟨q0, q1, q2, q3, q4, q5, q6, q7, q8, q9⟩ := RowAt.facts10 (row_set10 (vs := noV) noV HB3.out)
      unfold dcells noV at q0 q1 q2 q3 q4 q5 q6 q7 q8 q9
      dsimp only at q0 q1 q2 q3 q4 q5 q6 q7 q8 q9
      refine bodyPost_ret (v := .tuple #[dv noV, .int .i64 0, .int .i64 2]) (by rw [dv_noV]; unfold dnoV; simp [results, Try.results21, go_sem, q0, q1, q2, q3, q4, q5, q6, q7, q8, q9]) rfl ⟨below_setL (Nat.le_succ _) (dcells noV) 0 (HX2.out.trans hx3), ?_⟩
      first | rw [← HRES.out, if_pos rfl, HR.out] | rw [← HRES.out, HR.out]
      rfl
    | true =>
      have hk := mayB_kind HMB.out
      obtain ⟨k, rfl⟩ := Int.eq_ofNat_of_zero_le hk.1
      have hk5 : k < 5 := by omega
      have HR : Hid (putD D (k : Int) s = match putsF [s] (D k).1 (D k).2 0 with | none => .error 6 | some (T, S, n) => .ok (upd D k (T, S), n)) := Lib.hid (by
        unfold putD
        rw [HMB.out, if_pos rfl, show ((k : Int)).toNat = k from rfl]
        cases h : dputF (D k).1 (D k).2 s with
        | none => simp [putsF, h]
        | some r => obtain ⟨T, S, n⟩ := r; simp [putsF, h])
      go_wp2_with fail
      refine (hm _).mono ?_
      rintro e w3 ⟨rfl, hx3⟩
      obtain ⟨c0, c1, c2, c3, c4, c5, c6, c7, c8, c9⟩ := (hb02.ext hx3).facts10
      clear hm hb02
      go_wp2_with fail
      have hoo := HO.out w3 (HX2.out.trans hx3)
      refine hoo.mono ?_
      rintro e w4 ⟨us, rfl, hus, hx4⟩
      clear hoo c0 c1 c2 c3 c4 c5 c6 c7 c8 c9
      have HUS := Lib.hid hus
      clear hus
      generalize hdu : dv us = du
      have Hdu := Lib.hid hdu
      clear hdu
      go_wp2_with fail
      have hsl : Strs (w4.alloc (.cells #[.string s] 9)) (.slice (some ⟨w4.heap.size, 0, none⟩) 1 1) [s] := Sl.new _ _ _ 1 1 (Nat.le_refl _) (by unfold maxLen; omega)
      have hp := dput_any w3.heap.size us D k (.slice (some ⟨w4.heap.size, 0, none⟩) 1 1) [s] (w4.alloc (.cells #[.string s] 9)) (by have := hx4.size; simp; omega) (HUS.out.ext (Ext.alloc _ _)) hk5 (Hok.out k hk5).1 (HS.out k hk5).2.1 (HS.out k hk5).2.2 hsl (fun x hx => by rw [List.mem_singleton.1 hx]; exact hs)
      rw [Hdu.out] at hp
      generalize putsF [s] (D k).1 (D k).2 0 = pr at *
      refine hp.mono ?_
      rintro e w5 ⟨hx5, hm5⟩
      have hb5 := HB2.out.ext (((hx3.trans hx4).trans (Ext.alloc _ _)).trans hx5)
      obtain ⟨d0, d1, d2, d3, d4, d5, d6, d7, d8, d9⟩ := RowAt.facts10 (vs := noV) hb5
      obtain ⟨g0, g1, g2, g3, g4, g5, g6, g7, g8, g9⟩ := hb5.facts10f
      have HB5 := Lib.hid hb5
      have HX5 := Lib.hid (((HX2.out.trans hx3).trans hx4).trans ((Ext.alloc _ _).trans hx5))
      simp only [noV] at d0 d1 d2 d3 d4 d5 d6 d7 d8 d9
      clear hb5 hp hsl
      cases pr with
      | none =>
        obtain rfl := hm5
        rw [dv_noV]
        unfold dnoV
        go_wp2_with fail
        rw [set10]
        obtain ⟨q0, q1, q2, q3, q4, q5, q6, q7, q8, q9⟩ := RowAt.facts10 (row_set10 (vs := noV) noV HB5.out)
        unfold dcells noV at q0 q1 q2 q3 q4 q5 q6 q7 q8 q9
        dsimp only at q0 q1 q2 q3 q4 q5 q6 q7 q8 q9
        refine bodyPost_ret (v := .tuple #[dv noV, .int .i64 0, .int .i64 6]) (by rw [dv_noV]; unfold dnoV; simp [results, Try.results21, go_sem, q0, q1, q2, q3, q4, q5, q6, q7, q8, q9]) rfl ⟨below_setL (Nat.le_succ _) (dcells noV) 0 HX5.out, ?_⟩
        first | rw [← HRES.out, if_pos rfl, HR.out] | rw [← HRES.out, HR.out]
        rfl
      | some r =>
        obtain ⟨T, S, n⟩ := r
        obtain ⟨zs, rfl, hzs⟩ := hm5
        obtain ⟨A, hA1, hA2⟩ := heads (vs := zs) (fun i hi => by obtain ⟨a, c, b, d, e, _⟩ := (hzs i hi).pair; exact ⟨_, _, _, _, _, _, e⟩)
        have HZ : Hid (DicOwn w3.heap.size w5 (hv A) (upd D k (T, S))) := Lib.hid (fun i hi => by rw [← hA1 i hi]; exact hzs i hi)
        rw [show dv zs = dv (hv A) from by unfold dv; rw [hA2]]
        clear hA1 hA2 hzs
        unfold dv dcells hv
        dsimp only
        go_wp2_with fail
        rw [set10]
        clear d0 d1 d2 d3 d4 d5 d6 d7 d8 d9 g0 g1 g2 g3 g4 g5 g6 g7 g8 g9
        obtain ⟨q0, q1, q2, q3, q4, q5, q6, q7, q8, q9⟩ := RowAt.facts10 (row_set10 (vs := noV) (hv A) HB5.out)
        refine bodyPost_ret (v := .tuple #[dv (hv A), .int .i64 n, .int .i64 0]) ?_ rfl ⟨below_setL (Nat.le_succ _) (dcells (hv A)) 0 HX5.out, ?_⟩
        · unfold dv dcells hv at *
          simp [results, Try.results21, go_sem, q0, q1, q2, q3, q4, q5, q6, q7, q8, q9]
        · first | rw [← HRES.out, if_pos rfl, HR.out] | rw [← HRES.out, HR.out]
          refine ⟨_, rfl, ?_⟩
          have hz1 := HB2.out.lt
          have hz3 := hx3.size
          exact fun i hi => ((HZ.out i hi).setL (by omega) _ 0).base (by omega)
end Go.Proofs.Ytogoejlbdbapoaa
