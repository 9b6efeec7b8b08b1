/- A name is put. -/
import Derived.Test.YtkmbnghghbfkdaaGreatGp10
import Derived.Test.YtkmbnghghbfkdaaGreatGp09
import Derived.Test.YtkmbnghghbfkdaaGreatGp07
import Derived.Test.YtkmbnghghbfkdaaGreatGp08
import Derived.Test.YtkmbnghghbfkdaaGreatGp06
import Derived.Test.YtkmbnghghbfkdaaGreatGp01
import Derived.OpenShut
import Derived.ChangeSame
import Derived.Test.YtkmbnghghbfkdaaGreatGp03
namespace Go.Proofs.YtkmbnghghbfkdaaGreat
set_option maxRecDepth 100000
set_option maxHeartbeats 2000000
set_option linter.unusedSimpArgs false
open Go.RowKit Go.Shelf Go.Sort
attribute [local go_sem] Oper.semAt_some wide_fn wide_depth
set_option linter.unusedVariables false

theorem mayB_kind {k : Int} {s : List UInt8} (h : mayB k s = true) : 0 ≤ k ∧ k < 5 := by
  unfold mayB at h
  simp only [Bool.and_eq_true, decide_eq_true_eq] at h
  omega
/-- What Put comes to: the error, or the dictionary and the id. -/
def putD (D : Dic) (kind : Int) (s : ByteArray) : Except Int (Dic × Int) :=
  if mayB kind (bts s) = true then match dputF (D kind.toNat).1 (D kind.toNat).2 s with
    | none => .error 6
    | some (T, S, n) => .ok (upd D kind.toNat (T, S), n)
  else .error 2
def DPutPost (w : World) (r : Except Int (Dic × Int)) (e : Ending) (w' : World) : Prop := Ext w w' ∧
  match r with
  | .ok (D', n) => ∃ us, e = .returned (.tuple #[dv us, .int .i64 n, .int .i64 0]) ∧ DicOwn w.heap.size w' us D'
  | .error c => e = .returned (.tuple #[dv noV, .int .i64 0, .int .i64 c])
def dnoV : Value := .agg #[.slice none 0 0, .slice none 0 0, .slice none 0 0, .slice none 0 0, .slice none 0 0, .slice none 0 0, .slice none 0 0, .slice none 0 0, .slice none 0 0, .slice none 0 0]
theorem dv_noV : dv noV = dnoV := rfl
set_option maxRecDepth 100000 in
set_option maxHeartbeats 2000000 in
theorem dPut_all (vs : Nat → Value × Value) (D : Dic) (kind : Int) (s : ByteArray) (w : World) (hV : DicV w vs D) (hS : DicS D) (hs : s.size ≤ 9223372036854775807) (ok : Bool) (hok : ok = true ↔ DicOK D) :
    Calls Tryz.prog 18 #[dv vs, .int .i64 kind, .string s] w (DPutPost w (if ok then putD D kind s else .error 160)) := by
  have hbd : RowAt ((w.alloc (.cells (dcells vs).toArray 28)).alloc (.cells (dcells noV).toArray 28)) (w.heap.size + 1) 28 (dcells noV) := row_at (by simp)
  have hbd0 : RowAt ((w.alloc (.cells (dcells vs).toArray 28)).alloc (.cells (dcells noV).toArray 28)) w.heap.size 28 (dcells vs) := (RowAt.new w _ (dcells vs)).ext (Ext.alloc _ _)
  have hx0 : Ext w ((w.alloc (.cells (dcells vs).toArray 28)).alloc (.cells (dcells noV).toArray 28)) := (Ext.alloc _ _).trans (Ext.alloc _ _)
  have hc : ∀ w', Ext w w' → Calls Tryz.prog 41 #[dv vs] w' fun e w'' => e = .returned (.int .i64 (if ok then 0 else 160)) ∧ Ext w' w'' := fun w' hx => by
    cases ok with
    | true => exact dcheck_yes vs D w' (hV.ext hx) hS (hok.1 rfl)
    | false => exact dcheck_no vs D w' (hV.ext hx) hS (fun h => by have := hok.2 h; cases this)
  have ho : ∀ w', Ext w w' → Calls Tryz.prog 58 #[dv vs] w' fun e w'' => ∃ us, e = .returned (dv us) ∧ DicOwn w'.heap.size w'' us D ∧ Ext w' w'' := fun w' hx => down_any vs D w' (hV.ext hx) hS
  have hm := fun w' => may_any kind s w' hs
  have hdn : (dcells noV).toArray = #[.slice none 0 0, .slice none 0 0, .slice none 0 0, .slice none 0 0, .slice none 0 0, .slice none 0 0, .slice none 0 0, .slice none 0 0, .slice none 0 0, .slice none 0 0] := rfl
  have hdc : (dcells vs).toArray = #[(vs 0).1, (vs 0).2, (vs 1).1, (vs 1).2, (vs 2).1, (vs 2).2, (vs 3).1, (vs 3).2, (vs 4).1, (vs 4).2] := rfl
  rw [hdn, hdc] at hbd hbd0 hx0
  have HB := Lib.hid hbd
  have HB0 := Lib.hid hbd0
  have HX0 := Lib.hid hx0
  have HO := Lib.hid ho
  have HM := Lib.hid hm
  have HS := Lib.hid hS
  have HOK := Lib.hid hok
  unfold dv at hc
  rw [hdc] at hc
  have HC := Lib.hid hc
  unfold dv
  rw [hdc]
  clear hbd hbd0 hx0 hc ho hm hdn hdc hS hok hV
  generalize hres : (if ok = true then putD D kind s else .error 160) = res
  have HRES := Lib.hid hres
  clear hres
  go_enter Tryz.func18, Tryz.ntmps18
  go_upto_region 1 with fail
  replace HB := HB.out
  replace HB0 := HB0.out
  replace HX0 := HX0.out
  generalize ((w.alloc (.cells #[(vs 0).1, (vs 0).2, (vs 1).1, (vs 1).2, (vs 2).1, (vs 2).2, (vs 3).1, (vs 3).2, (vs 4).1, (vs 4).2] 28)).alloc (.cells #[.slice none 0 0, .slice none 0 0, .slice none 0 0, .slice none 0 0, .slice none 0 0, .slice none 0 0, .slice none 0 0, .slice none 0 0, .slice none 0 0, .slice none 0 0] 28)) = w1 at *
  obtain ⟨c0, c1, c2, c3, c4, c5, c6, c7, c8, c9⟩ := HB0.facts10
  go_wp2_with fail
  have hcc := HC.out _ HX0
  obtain ⟨code, hcode⟩ : ∃ c : Int, (if ok = true then 0 else 160) = c := ⟨_, rfl⟩
  rw [hcode] at hcc
  clear HC
  refine hcc.mono ?_
  clear hcc
  rintro e w2 ⟨rfl, hx2⟩
  have HB2 := Lib.hid (HB.ext hx2)
  have hb02 := HB0.ext hx2
  clear HB HB0 c0 c1 c2 c3 c4 c5 c6 c7 c8 c9
  have HX2 := Lib.hid (HX0.trans hx2)
  cases ok with
  | false =>
    obtain rfl : 160 = code := hcode
    clear HOK HM HO
    obtain ⟨d0, d1, d2, d3, d4, d5, d6, d7, d8, d9⟩ := RowAt.facts10 (vs := noV) HB2.out
    obtain ⟨g0, g1, g2, g3, g4, g5, g6, g7, g8, g9⟩ := HB2.out.facts10f
    simp only [noV] at d0 d1 d2 d3 d4 d5 d6 d7 d8 d9
    go_wp2_with fail
    rw [set10]
    obtain ⟨q0, q1, q2, q3, q4, q5, q6, q7, q8, q9⟩ := RowAt.facts10 (row_set10 (vs := noV) noV HB2.out)
    unfold dcells noV at q0 q1 q2 q3 q4 q5 q6 q7 q8 q9
    dsimp only at q0 q1 q2 q3 q4 q5 q6 q7 q8 q9
    exact bodyPost_ret (v := .tuple #[dv noV, .int .i64 0, .int .i64 160]) (by rw [dv_noV]; unfold dnoV; simp [results, Tryz.results18, go_sem, q0, q1, q2, q3, q4, q5, q6, q7, q8, q9]) rfl ⟨below_setL (Nat.le_succ _) (dcells noV) 0 HX2.out, by rw [← HRES.out]; rfl⟩
  | true =>
    obtain rfl : 0 = code := hcode
    have Hok : Hid (DicOK D) := Lib.hid (HOK.out.1 rfl)
    obtain ⟨mb, hmb⟩ : ∃ mb, mayB kind (bts s) = mb := ⟨_, rfl⟩
    have HMB := Lib.hid hmb
    have hm := HM.out
    rw [hmb] at hm
    clear hmb HM HOK
    cases mb with
    | false =>
      have HR : Hid (putD D kind s = .error 2) := Lib.hid (by unfold putD; rw [HMB.out]; rfl)
      go_wp2_with fail
      refine (hm _).mono ?_
      rintro e w3 ⟨rfl, hx3⟩
      have hb3 := HB2.out.ext hx3
      obtain ⟨d0, d1, d2, d3, d4, d5, d6, d7, d8, d9⟩ := RowAt.facts10 (vs := noV) hb3
      obtain ⟨g0, g1, g2, g3, g4, g5, g6, g7, g8, g9⟩ := hb3.facts10f
      have HB3 := Lib.hid hb3
      clear hb3
      simp only [noV] at d0 d1 d2 d3 d4 d5 d6 d7 d8 d9
      go_wp2_with fail
      rw [set10]
      obtain ⟨q0, q1, q2, q3, q4, q5, q6, q7, q8, q9⟩ := RowAt.facts10 (row_set10 (vs := noV) noV HB3.out)
      unfold dcells noV at q0 q1 q2 q3 q4 q5 q6 q7 q8 q9
      dsimp only at q0 q1 q2 q3 q4 q5 q6 q7 q8 q9
      refine bodyPost_ret (v := .tuple #[dv noV, .int .i64 0, .int .i64 2]) (by rw [dv_noV]; unfold dnoV; simp [results, Tryz.results18, go_sem, q0, q1, q2, q3, q4, q5, q6, q7, q8, q9]) rfl ⟨below_setL (Nat.le_succ _) (dcells noV) 0 (HX2.out.trans hx3), ?_⟩
      first | rw [← HRES.out, if_pos rfl, HR.out] | rw [← HRES.out, HR.out]
      rfl
    | true =>
      have hk := mayB_kind HMB.out
      obtain ⟨k, rfl⟩ := Int.eq_ofNat_of_zero_le hk.1
      have hk5 : k < 5 := by omega
      have HR : Hid (putD D (k : Int) s = match putsF [s] (D k).1 (D k).2 0 with | none => .error 6 | some (T, S, n) => .ok (upd D k (T, S), n)) := Lib.hid (by
        unfold putD
        rw [HMB.out, if_pos rfl, show ((k : Int)).toNat = k from rfl]
        cases h : dputF (D k).1 (D k).2 s with
        | none => simp [putsF, h]
        | some r => obtain ⟨T, S, n⟩ := r; simp [putsF, h])
      go_wp2_with fail
      refine (hm _).mono ?_
      rintro e w3 ⟨rfl, hx3⟩
      obtain ⟨c0, c1, c2, c3, c4, c5, c6, c7, c8, c9⟩ := (hb02.ext hx3).facts10
      clear hm hb02
      go_wp2_with fail
      have hoo := HO.out w3 (HX2.out.trans hx3)
      refine hoo.mono ?_
      rintro e w4 ⟨us, rfl, hus, hx4⟩
      clear hoo c0 c1 c2 c3 c4 c5 c6 c7 c8 c9
      have HUS := Lib.hid hus
      clear hus
      generalize hdu : dv us = du
      have Hdu := Lib.hid hdu
      clear hdu
      go_wp2_with fail
      have hsl : Strs (w4.alloc (.cells #[.string s] 9)) (.slice (some ⟨w4.heap.size, 0, none⟩) 1 1) [s] := Sl.new _ _ _ 1 1 (Nat.le_refl _) (by unfold maxLen; omega)
      have hp := dput_any w3.heap.size us D k (.slice (some ⟨w4.heap.size, 0, none⟩) 1 1) [s] (w4.alloc (.cells #[.string s] 9)) (by have := hx4.size; simp; omega) (HUS.out.ext (Ext.alloc _ _)) hk5 (Hok.out k hk5).1 (HS.out k hk5).2.1 (HS.out k hk5).2.2 hsl (fun x hx => by rw [List.mem_singleton.1 hx]; exact hs)
      rw [Hdu.out] at hp
      generalize putsF [s] (D k).1 (D k).2 0 = pr at *
      refine hp.mono ?_
      rintro e w5 ⟨hx5, hm5⟩
      have hb5 := HB2.out.ext (((hx3.trans hx4).trans (Ext.alloc _ _)).trans hx5)
      obtain ⟨d0, d1, d2, d3, d4, d5, d6, d7, d8, d9⟩ := RowAt.facts10 (vs := noV) hb5
      obtain ⟨g0, g1, g2, g3, g4, g5, g6, g7, g8, g9⟩ := hb5.facts10f
      have HB5 := Lib.hid hb5
      have HX5 := Lib.hid (((HX2.out.trans hx3).trans hx4).trans ((Ext.alloc _ _).trans hx5))
      simp only [noV] at d0 d1 d2 d3 d4 d5 d6 d7 d8 d9
      clear hb5 hp hsl
      cases pr with
      | none =>
        obtain rfl := hm5
        rw [dv_noV]
        unfold dnoV
        go_wp2_with fail
        rw [set10]
        obtain ⟨q0, q1, q2, q3, q4, q5, q6, q7, q8, q9⟩ := RowAt.facts10 (row_set10 (vs := noV) noV HB5.out)
        unfold dcells noV at q0 q1 q2 q3 q4 q5 q6 q7 q8 q9
        dsimp only at q0 q1 q2 q3 q4 q5 q6 q7 q8 q9
        refine bodyPost_ret (v := .tuple #[dv noV, .int .i64 0, .int .i64 6]) (by rw [dv_noV]; unfold dnoV; simp [results, Tryz.results18, go_sem, q0, q1, q2, q3, q4, q5, q6, q7, q8, q9]) rfl ⟨below_setL (Nat.le_succ _) (dcells noV) 0 HX5.out, ?_⟩
        first | rw [← HRES.out, if_pos rfl, HR.out] | rw [← HRES.out, HR.out]
        rfl
      | some r =>
        obtain ⟨T, S, n⟩ := r
        obtain ⟨zs, rfl, hzs⟩ := hm5
        obtain ⟨A, hA1, hA2⟩ := heads (vs := zs) (fun i hi => by obtain ⟨a, c, b, d, e, _⟩ := (hzs i hi).pair; exact ⟨_, _, _, _, _, _, e⟩)
        have HZ : Hid (DicOwn w3.heap.size w5 (hv A) (upd D k (T, S))) := Lib.hid (fun i hi => by rw [← hA1 i hi]; exact hzs i hi)
        rw [show dv zs = dv (hv A) from by unfold dv; rw [hA2]]
        clear hA1 hA2 hzs
        unfold dv dcells hv
        dsimp only
        go_wp2_with fail
        rw [set10]
        clear d0 d1 d2 d3 d4 d5 d6 d7 d8 d9 g0 g1 g2 g3 g4 g5 g6 g7 g8 g9
        obtain ⟨q0, q1, q2, q3, q4, q5, q6, q7, q8, q9⟩ := RowAt.facts10 (row_set10 (vs := noV) (hv A) HB5.out)
        refine bodyPost_ret (v := .tuple #[dv (hv A), .int .i64 n, .int .i64 0]) ?_ rfl ⟨below_setL (Nat.le_succ _) (dcells (hv A)) 0 HX5.out, ?_⟩
        · unfold dv dcells hv at *
          simp [results, Tryz.results18, go_sem, q0, q1, q2, q3, q4, q5, q6, q7, q8, q9]
        · first | rw [← HRES.out, if_pos rfl, HR.out] | rw [← HRES.out, HR.out]
          refine ⟨_, rfl, ?_⟩
          have hz1 := HB2.out.lt
          have hz3 := hx3.size
          exact fun i hi => ((HZ.out i hi).setL (by omega) _ 0).base (by omega)
end Go.Proofs.YtkmbnghghbfkdaaGreat

/- The reference's dictionaries: Of, Same, Id. -/
namespace Go.Proofs.YtkmbnghghbfkdaaGreat
set_option maxRecDepth 100000
set_option maxHeartbeats 2000000
set_option linter.unusedSimpArgs false
open Go.RowKit Go.Shelf Go.Sort
attribute [local go_sem] Oper.semAt_some wide_fn wide_depth
set_option linter.unusedVariables false

/-- The rows of names, by kinds. -/
def ncells (ns : Nat → Value) : List Value := [ns 0, ns 1, ns 2, ns 3, ns 4]
def nv (ns : Nat → Value) : Value := .agg (ncells ns).toArray
abbrev Nms := Nat → List ByteArray
def ofD (D : Dic) : Nms := fun i => (D i).1
end Go.Proofs.YtkmbnghghbfkdaaGreat

/- The law's own dictionaries: a copy in memory of its own. -/
namespace Go.Proofs.YtkmbnghghbfkdaaGreat
set_option maxRecDepth 100000
set_option maxHeartbeats 2000000
set_option linter.unusedSimpArgs false
open Go.RowKit Go.Shelf Go.Sort
attribute [local go_sem] Oper.semAt_some wide_fn wide_depth
set_option linter.unusedVariables false

/-- A cut of a row of one-cell elements. -/
theorem Sl.take {w : World} {a : Option Addr} {n cap : Nat} {xs : List Value} (h : Sl w (.slice a n cap) n xs) (hx : xs.length = n) (m : Nat) (hm : m ≤ n) : Sl w (.slice a m cap) m (xs.take m) := by
  obtain ⟨a', cap', e, h1, h2, h3⟩ := h
  simp only [Value.slice.injEq] at e
  obtain ⟨rfl, _, rfl⟩ := e
  refine ⟨a, cap, rfl, by omega, h2, fun hp => ?_⟩
  obtain ⟨b, o, e, hc⟩ := h3 (by rw [List.length_take] at hp; omega)
  refine ⟨b, o, e, fun i u hu => hc i u ?_⟩
  rw [List.getElem?_take] at hu
  split at hu
  · exact hu
  · cases hu
theorem Strs.take {w : World} {a : Option Addr} {n cap : Nat} {l : List ByteArray} (h : Strs w (.slice a n cap) l) (m : Nat) (hm : m ≤ n) : Strs w (.slice a m cap) (l.take m) := by
  have hl := h.len
  unfold Strs at *
  rw [hl] at h
  have := Sl.take h (by simp [hl]) m hm
  rw [List.map_take, List.length_take, hl, Nat.min_eq_left hm]
  exact this
theorem Ints.take {w : World} {kd : IntKind} {a : Option Addr} {n cap : Nat} {l : List Int} (h : Ints w kd (.slice a n cap) l) (m : Nat) (hm : m ≤ n) : Ints w kd (.slice a m cap) (l.take m) := by
  have hl := h.len
  unfold Ints at *
  rw [hl] at h
  have := Sl.take h (by simp [hl]) m hm
  rw [List.map_take, List.length_take, hl, Nat.min_eq_left hm]
  exact this
/-- What the law keeps of a dictionary. -/
def cutD (D : Dic) : Dic := fun i => ((D i).1.take 129, (D i).2.take 512)
structure LoI (w : World) (D : Dic) (k : Nat) (ts : Nat → Value × Value) (W : World) : Prop where
  below : Ext w W
  out : RowAt W (w.heap.size + 1) 28 (dcells noV)
  d : RowAt W w.heap.size 28 (dcells ts)
  own : ∀ i, i < k → TabOwn (w.heap.size + 1 + 1) W (.agg #[(ts i).1, (ts i).2]) (cutD D i).1 (cutD D i).2
theorem LoI.ext {w : World} {D : Dic} {k : Nat} {ts : Nat → Value × Value} {W W' : World} (h : LoI w D k ts W) (hx : Ext W W') : LoI w D k ts W' :=
  ⟨h.below.trans hx, h.out.ext hx, h.d.ext hx, fun i hi => (h.own i hi).ext hx⟩
theorem LoI.next {w : World} {D : Dic} {k : Nat} {ts : Nat → Value × Value} {W : World} (h : LoI w D k ts W) (hk : k < 5) {T : List ByteArray} {S : List Int} (hT : (cutD D k).1 = T) (hS : (cutD D k).2 = S) {ua ub : Option Addr} {ca cb : Nat} {wa wb : World}
    (hxa : Ext W wa) (ha : wa.ownsRow W.heap.size 9 1 (.slice ua T.length ca) T.length (T.map Value.string)) (hxb : Ext wa wb) (hb : wb.ownsRow wa.heap.size 3 1 (.slice ub S.length cb) S.length (S.map (Value.int .i64))) :
    LoI w D (k + 1) (upd ts k (.slice ua T.length ca, .slice ub S.length cb)) ((wb.setCell ⟨w.heap.size, k * 2, none⟩ (.slice ua T.length ca)).setCell ⟨w.heap.size, k * 2 + 1, none⟩ (.slice ub S.length cb)) := by
  have hI := (h.ext hxa).ext hxb
  have hz := h.out.lt
  have h1 := hxa.size
  refine ⟨?_, ?_, row_upd hI.d hk _ _, ?_⟩
  · exact (hI.below.setCell (p := ⟨w.heap.size, k * 2, none⟩) (Nat.le_refl _) _).setCell (p := ⟨w.heap.size, k * 2 + 1, none⟩) (Nat.le_refl _) _
  · exact (RowAt.set_ne (RowAt.set_ne hI.out (by omega)) (by omega))
  · intro i hi
    by_cases e : i = k
    · subst e
      rw [upd_at, hT, hS]
      refine (TabOwn.setL (g := w.heap.size) ?_ (by omega) [_] _).setL (by omega) [_] _
      exact ⟨_, _, _, _, _, _, rfl, own_base (own_ext ha hxb) (by omega), own_base hb (by omega)⟩
    · rw [upd_ne _ _ e]
      exact ((hI.own i (by omega)).setL (by omega) [_] _).setL (by omega) [_] _
def groLaw : Nat → Gro
  | 3 => .read
  | 5 => .read
  | 11 => .read
  | 13 => .read
  | 9 => .grow
  | 17 => .grow
  | 21 => .write
  | 25 => .write
  | _ => .pure
end Go.Proofs.YtkmbnghghbfkdaaGreat

/- Are two dictionaries the same, slot by slot? Is one of nothing? -/
namespace Go.Proofs.YtkmbnghghbfkdaaGreat
set_option maxRecDepth 100000
set_option maxHeartbeats 2000000
set_option linter.unusedSimpArgs false
open Go.RowKit Go.Shelf Go.Sort
attribute [local go_sem] Oper.semAt_some wide_fn wide_depth
set_option linter.unusedVariables false

end Go.Proofs.YtkmbnghghbfkdaaGreat

/- Are two dictionaries of the same names? -/
namespace Go.Proofs.YtkmbnghghbfkdaaGreat
set_option maxRecDepth 100000
set_option maxHeartbeats 2000000
set_option linter.unusedSimpArgs false
open Go.RowKit Go.Shelf Go.Sort
attribute [local go_sem] Oper.semAt_some wide_fn wide_depth
set_option linter.unusedVariables false

end Go.Proofs.YtkmbnghghbfkdaaGreat

/- The reference's Right. -/
namespace Go.Proofs.YtkmbnghghbfkdaaGreat
set_option maxRecDepth 100000
set_option maxHeartbeats 2000000
set_option linter.unusedSimpArgs false
open Go.RowKit Go.Shelf Go.Sort
attribute [local go_sem] Oper.semAt_some wide_fn wide_depth
set_option linter.unusedVariables false

set_option maxRecDepth 100000 in
set_option maxHeartbeats 2000000 in
theorem dright_any (vs : Nat → Value × Value) (D : Dic) (w : World) (hV : DicV w vs D) (hS : DicS D) :
    Calls Tryz.prog 11 #[dv vs] w fun e w' => ∃ r, e = .returned (.bool r) ∧ (r = true ↔ DicOK D) ∧ Ext w w' := by
  have hd0 : RowAt (w.alloc (.cells (dcells vs).toArray 28)) w.heap.size 28 (dcells vs) := RowAt.new w _ (dcells vs)
  have hx1 : Ext w (w.alloc (.cells (dcells vs).toArray 28)) := Ext.alloc _ _
  have hdc : ∀ vs : Nat → Value × Value, (dcells vs).toArray = #[(vs 0).1, (vs 0).2, (vs 1).1, (vs 1).2, (vs 2).1, (vs 2).2, (vs 3).1, (vs 3).2, (vs 4).1, (vs 4).2] := fun _ => rfl
  have HIX := Lib.hid (ix_any vs)
  unfold dv
  simp only [hdc] at hd0 hx1 ⊢
  have HD0 := Lib.hid hd0
  have HX1 := Lib.hid hx1
  have HV := Lib.hid hV
  have HS := Lib.hid hS
  clear hd0 hx1 hdc hV hS
  go_enter Tryz.func11, Tryz.ntmps11
  go_upto_region 1 with fail
  replace HD0 := HD0.out
  replace HX1 := HX1.out
  generalize w.alloc (.cells #[(vs 0).1, (vs 0).2, (vs 1).1, (vs 1).2, (vs 2).1, (vs 2).2, (vs 3).1, (vs 3).2, (vs 4).1, (vs 4).2] 28) = w1 at *
  obtain ⟨c0, c1, c2, c3, c4, c5, c6, c7, c8, c9⟩ := HD0.facts10
  go_wp2_with fail
  clear c0 c1 c2 c3 c4 c5 c6 c7 c8 c9 HD0
  go_loopg [9] 5 (fun g i wr => ∃ (k : Nat), k ≤ 5 ∧ g = 5 - k ∧ i = .int .i64 k ∧ Ext w1 wr ∧ ∀ j, j < 5 → j < k → KindOK j (D j))
  case atStart => exact ⟨0, Nat.zero_le _, rfl, rfl, Ext.refl _, fun j _ h => by omega⟩
  case round =>
    obtain ⟨k, hk, hg, rfl, hxr, hall⟩ := hrel
    have Hall := Lib.hid hall
    have Hg := Lib.hid hg
    clear hg hall
    by_cases hlt : k < 5
    · obtain ⟨a, n, c, b, m, d, hv, hT, hSl⟩ := HV.out k hlt
      obtain ⟨hD1, hD2, hD3⟩ := HS.out k hlt
      have hix := HIX.out k hlt
      rw [hv] at hix
      dsimp only at hix
      have hx2 : Ext w (wr.alloc (.cells #[.slice a n c, .slice b m d] 25)) := (HX1.trans hxr).trans (Ext.alloc _ _)
      have hbx : RowAt (wr.alloc (.cells #[.slice a n c, .slice b m d] 25)) wr.heap.size 25 [.slice a n c, .slice b m d] := RowAt.new _ _ _
      have hm : m ≤ 1048576 := by have := hSl.len; omega
      have hn := hT.len
      have hrt := right_any (D k).1 (D k).2 a n c b m d _ (hT.ext hx2) (hSl.ext hx2) hm hD3
      have HRT := Lib.hid hrt
      have HBX := Lib.hid hbx
      have HT := Lib.hid (hT.ext hx2)
      have HX2 := Lib.hid hx2
      have HXA := Lib.hid (hxr.trans (Ext.alloc wr (.cells #[.slice a n c, .slice b m d] 25)))
      have HD3 := Lib.hid hD3
      clear hT hSl hv hbx hx2 hrt HIX hD3 hD1 hD2 hm
      go_upto_region 4 with fail
      replace HBX := HBX.out
      replace HT := HT.out
      replace HX2 := HX2.out
      replace HXA := HXA.out
      replace HRT := HRT.out
      generalize wr.alloc (.cells #[.slice a n c, .slice b m d] 25) = wq at *
      obtain ⟨p1, p2, _, _⟩ := HBX.facts2
      have HRT := Lib.hid HRT
      go_wp2_with fail
      refine HRT.out.mono ?_
      rintro e w2 ⟨r, rfl, hr, hx3⟩
      have Hr := Lib.hid (hr.trans right_iff)
      clear hr
      have q1 := ext_cell hx3 p1
      have q2 := ext_cell hx3 p2
      clear p1 p2
      cases r with
      | false =>
        have hno : Hid (¬ DicOK D) := Lib.hid (fun h => by have := Hr.out.2 (h k hlt).1; cases this)
        go_wp2_with fail
        go_ret
        exact ⟨false, rfl, ⟨fun h => (by cases h), fun h => absurd h hno.out⟩, HX2.trans hx3⟩
      | true =>
        by_cases hl : 128 < n
        · have hd : decide ((128 : Int) < (n : Int)) = true := decide_eq_true (by omega)
          have hno : Hid (¬ DicOK D) := Lib.hid (fun h => by have := (h k hlt).2.1; omega)
          go_wp2_with fail
          go_ret
          exact ⟨false, rfl, ⟨fun h => (by cases h), fun h => absurd h hno.out⟩, HX2.trans hx3⟩
        · have hd : decide ((128 : Int) < (n : Int)) = false := decide_eq_false (by omega)
          have HTt := Lib.hid (HT.ext hx3)
          have HXt := Lib.hid (HX2.trans hx3)
          have HXBt := Lib.hid (HXA.trans hx3)
          clear HT
          go_wp2_with fail
          go_loopg [25] n (fun g i wi => ∃ (j : Nat), j ≤ n ∧ g = n - j ∧ i = .int .i64 j ∧ Ext w2 wi ∧ badB (k : Int) ((D k).1.take j) = false)
          case atStart => exact ⟨0, Nat.zero_le _, rfl, rfl, Ext.refl _, rfl⟩
          case round =>
            obtain ⟨j, hj, hg2, rfl, hxj, hb⟩ := hrel
            have Hb := Lib.hid hb
            have Hg2 := Lib.hid hg2
            clear hb hg2
            by_cases hlj : j < n
            · have hlj' : j < (D k).1.length := by omega
              obtain ⟨bl, ol, rfl, c0⟩ := (HTt.out.ext hxj).at_ hlj'
              have hm := fun w' => refMay_any (k : Int) (D k).1[j] w' (HD3.out _ (List.getElem_mem hlj'))
              have hsn := badB_take (k : Int) (D k).1 j hlj'
              have hmem := fun h => badB_mem (k := (k : Int)) hlj' h
              rw [Hb.out, Bool.false_or] at hsn
              generalize mayB (k : Int) (bts (D k).1[j]) = mb at *
              generalize (D k).1[j] = s at *
              have HM := Lib.hid hm
              have HSN := Lib.hid hsn
              have HMEM := Lib.hid hmem
              clear hm hsn hmem
              cases mb with
              | true =>
                go_wp2_with fail
                refine (HM.out _).mono ?_
                rintro e w4 ⟨rfl, rfl⟩
                go_wp2_with fail
                go_roundg (n - (j + 1))
                case measure => have := Hg2.out; omega
                case rel => exact ⟨j + 1, by omega, rfl, by go_num, hxj, HSN.out⟩
              | false =>
                have hno : Hid (¬ DicOK D) := Lib.hid (fun h => by have := (h k hlt).2.2; rw [HMEM.out rfl] at this; cases this)
                go_wp2_with fail
                refine (HM.out _).mono ?_
                rintro e w4 ⟨rfl, rfl⟩
                go_wp2_with fail
                go_ret
                exact ⟨false, rfl, ⟨fun h => (by cases h), fun h => absurd h hno.out⟩, HXt.out.trans hxj⟩
            · have hb := Hb.out
              rw [List.take_of_length_le (by omega)] at hb
              have HOK : Hid (KindOK k (D k)) := Lib.hid ⟨Hr.out.1 trivial, by omega, hb⟩
              clear hb
              go_wp2_with fail
              go_roundg (5 - (k + 1))
              case measure => have := Hg.out; omega
              case rel => exact ⟨k + 1, by omega, rfl, by go_num, HXBt.out.trans hxj, fun i hi h => by
                by_cases e : i = k
                · subst e; exact HOK.out
                · exact Hall.out i hi (by omega)⟩
    · have HF : Hid (DicOK D) := Lib.hid (fun i hi => Hall.out i hi (by omega))
      go_wp2_with fail
      go_ret
      exact ⟨true, rfl, ⟨fun _ => HF.out, fun _ => rfl⟩, HX1.trans hxr⟩
end Go.Proofs.YtkmbnghghbfkdaaGreat

/- The reference's Put. -/
namespace Go.Proofs.YtkmbnghghbfkdaaGreat
set_option maxRecDepth 100000
set_option maxHeartbeats 2000000
set_option linter.unusedSimpArgs false
open Go.RowKit Go.Shelf Go.Sort
attribute [local go_sem] Oper.semAt_some wide_fn wide_depth
set_option linter.unusedVariables false

theorem grown_setL {g : Nat} : ∀ (xs : List Value) (i : Nat) (W : World), W.grownBy (setL W g i xs) (some g)
  | [], _, W => (grown_ext (Ext.refl W)).but _
  | x :: xs, i, W => (grown_set W g i x).trans (grown_setL xs (i + 1) _)
end Go.Proofs.YtkmbnghghbfkdaaGreat

/- A dictionary in memory of its own is written over. -/
namespace Go.Proofs.YtkmbnghghbfkdaaGreat
set_option maxRecDepth 100000
set_option maxHeartbeats 2000000
set_option linter.unusedSimpArgs false
open Go.RowKit Go.Shelf Go.Sort
attribute [local go_sem] Oper.semAt_some wide_fn wide_depth
set_option linter.unusedVariables false

end Go.Proofs.YtkmbnghghbfkdaaGreat

/- A dictionary's bytes. -/
namespace Go.Proofs.YtkmbnghghbfkdaaGreat
set_option maxRecDepth 100000
set_option maxHeartbeats 2000000
set_option linter.unusedSimpArgs false
open Go.RowKit Go.Shelf Go.Sort
attribute [local go_sem] Oper.semAt_some wide_fn wide_depth
set_option linter.unusedVariables false

def SmallN (N : Nms) : Prop := ∀ i, i < 5 → (N i).length ≤ 128 ∧ ∀ s ∈ N i, s.size ≤ 40
theorem mayB_size {k : Int} {l : List UInt8} (h : mayB k l = true) : l.length ≤ 40 := by
  unfold mayB at h
  simp only [Bool.and_eq_true, decide_eq_true_eq] at h
  obtain ⟨_, _, h⟩ := h
  split at h
  · unfold dworthB dallB at h; simp only [Bool.and_eq_true, decide_eq_true_eq] at h; exact h.2.2
  · unfold nameB dallB at h; simp only [Bool.and_eq_true, decide_eq_true_eq] at h; omega
theorem badB_all {k : Int} {T : List ByteArray} (h : badB k T = false) : ∀ s ∈ T, mayB k (bts s) = true := fun s hs => by
  cases hm : mayB k (bts s) with
  | true => rfl
  | false =>
    have : badB k T = true := by unfold badB; rw [List.any_eq_true]; exact ⟨s, hs, by rw [hm]; rfl⟩
    rw [h] at this; cases this
theorem DicOK.small {D : Dic} (h : DicOK D) : SmallN (ofD D) := fun i hi => ⟨(h i hi).2.1, fun s hs => by
  have := mayB_size (badB_all (h i hi).2.2 s hs)
  rw [bts_len] at this; exact this⟩
end Go.Proofs.YtkmbnghghbfkdaaGreat

/- A dictionary's bytes. -/
namespace Go.Proofs.YtkmbnghghbfkdaaGreat
set_option maxRecDepth 100000
set_option maxHeartbeats 2000000
set_option linter.unusedSimpArgs false
open Go.RowKit Go.Shelf Go.Sort
attribute [local go_sem] Oper.semAt_some wide_fn wide_depth
set_option linter.unusedVariables false

end Go.Proofs.YtkmbnghghbfkdaaGreat

/- The reference's bytes. -/
namespace Go.Proofs.YtkmbnghghbfkdaaGreat
set_option maxRecDepth 100000
set_option maxHeartbeats 2000000
set_option linter.unusedSimpArgs false
open Go.RowKit Go.Shelf Go.Sort
attribute [local go_sem] Oper.semAt_some wide_fn wide_depth
set_option linter.unusedVariables false

end Go.Proofs.YtkmbnghghbfkdaaGreat

/- The reference's reading of a number. -/
namespace Go.Proofs.YtkmbnghghbfkdaaGreat
set_option maxRecDepth 100000
set_option maxHeartbeats 2000000
set_option linter.unusedSimpArgs false
open Go.RowKit
set_option linter.unusedVariables false

end Go.Proofs.YtkmbnghghbfkdaaGreat

/- Reading numbers and texts. -/
namespace Go.Proofs.YtkmbnghghbfkdaaGreat
set_option maxRecDepth 100000
set_option maxHeartbeats 2000000
set_option linter.unusedSimpArgs false
open Go.RowKit
set_option linter.unusedVariables false

end Go.Proofs.YtkmbnghghbfkdaaGreat

/- Does a text stand in a row? The names of a kind that stand at a place. -/
namespace Go.Proofs.YtkmbnghghbfkdaaGreat
set_option maxRecDepth 100000
set_option maxHeartbeats 2000000
set_option linter.unusedSimpArgs false
open Go.RowKit Go.Shelf Go.Sort
set_option linter.unusedVariables false

end Go.Proofs.YtkmbnghghbfkdaaGreat

/- What is read, put one by one, is a dictionary. -/
namespace Go.Proofs.YtkmbnghghbfkdaaGreat
set_option maxRecDepth 100000
set_option maxHeartbeats 2000000
set_option linter.unusedSimpArgs false
open Go.RowKit Go.Shelf Go.Sort
set_option linter.unusedVariables false

theorem mayB_bad {k : Int} {l : List ByteArray} (h : ∀ s ∈ l, mayB k (bts s) = true) : badB k l = false := by
  unfold badB
  rw [List.any_eq_false]
  intro s hs
  rw [h s hs]; simp
end Go.Proofs.YtkmbnghghbfkdaaGreat

/- The dictionary that stands at a place. -/
namespace Go.Proofs.YtkmbnghghbfkdaaGreat
set_option maxRecDepth 100000
set_option maxHeartbeats 2000000
set_option linter.unusedSimpArgs false
open Go.RowKit Go.Shelf Go.Sort
attribute [local go_sem] Oper.semAt_some wide_fn wide_depth
set_option linter.unusedVariables false

end Go.Proofs.YtkmbnghghbfkdaaGreat

/- The names that stand at a place, by the reference. -/
namespace Go.Proofs.YtkmbnghghbfkdaaGreat
set_option maxRecDepth 100000
set_option maxHeartbeats 2000000
set_option linter.unusedSimpArgs false
open Go.RowKit Go.Shelf Go.Sort
attribute [local go_sem] Oper.semAt_some wide_fn wide_depth
set_option linter.unusedVariables false

end Go.Proofs.YtkmbnghghbfkdaaGreat

/- What is written is read again; the dictionaries of the first look. -/
namespace Go.Proofs.YtkmbnghghbfkdaaGreat
set_option maxRecDepth 100000
set_option maxHeartbeats 2000000
set_option linter.unusedSimpArgs false
open Go.RowKit Go.Shelf Go.Sort
set_option linter.unusedVariables false

end Go.Proofs.YtkmbnghghbfkdaaGreat

/- Does the layer do anything? -/
namespace Go.Proofs.YtkmbnghghbfkdaaGreat
set_option maxRecDepth 100000
set_option maxHeartbeats 2000000
set_option linter.unusedSimpArgs false
open Go.RowKit Go.Shelf Go.Sort
attribute [local go_sem] Oper.semAt_some wide_fn wide_depth
set_option linter.unusedVariables false

theorem dputF_new {T : List ByteArray} {S : List Int} {s : ByteArray} (h : TabOK T S) (hS : S.length ≤ 4096) (hf : findF T s < 0) (hl : T.length < 128) : ∃ S', dputF T S s = some (T ++ [s], S', (T.length : Int)) ∧ TabOK (T ++ [s]) S' ∧ S'.length ≤ 4096 := by
  have hp : putF T S s = some (T ++ [s], laidN (T ++ [s]) (moreN T S.length) (T.length + 1), (T.length : Int)) := by
    unfold putF
    rw [if_neg (by omega), if_neg (by omega)]
  obtain ⟨h1, _, h3, _⟩ := putF_ok h hp
  refine ⟨_, ?_, h1, by omega⟩
  unfold dputF
  rw [if_neg (by omega), hp]
theorem DicOK.upd {D : Dic} (h : DicOK D) {k : Nat} {t : List ByteArray × List Int} (hk : KindOK k t) : DicOK (upd D k t) := fun i hi => by
  by_cases e : i = k
  · subst e; rw [upd_at]; exact hk
  · rw [upd_ne _ _ e]; exact h i hi
theorem DicOK.sizes {D : Dic} (h : DicOK D) (hS : ∀ i, i < 5 → (D i).2.length ≤ 4096) : DicS D := fun i hi => ⟨by have := (h i hi).2.1; omega, hS i hi, fun s hs => by have := (h.small i hi).2 s hs; omega⟩
theorem newD_ok : DicOK newD := fun i hi => ⟨tabOK_new, by simp [newD], rfl⟩
theorem newD_s : ∀ i, i < 5 → (newD i).2.length ≤ 4096 := fun i hi => by simp [newD]
def annS : ByteArray := ⟨#[97, 110, 110]⟩
def bobS : ByteArray := ⟨#[98, 111, 98]⟩
theorem dPut_ok {D D' : Dic} {kind n : Int} {s : ByteArray} (h : putD D kind s = .ok (D', n)) (vs : Nat → Value × Value) (w : World) (hV : DicV w vs D) (hS : DicS D) (hs : s.size ≤ 9223372036854775807) (hok : DicOK D) :
    Calls Tryz.prog 18 #[dv vs, .int .i64 kind, .string s] w fun e w' => ∃ A : Heads, e = .returned (.tuple #[dv (hv A), .int .i64 n, .int .i64 0]) ∧ DicOwn w.heap.size w' (hv A) D' ∧ Ext w w' :=
  (dPut_all vs D kind s w hV hS hs true ⟨fun _ => hok, fun _ => rfl⟩).mono fun e w' ⟨hx, hm⟩ => by
    rw [if_pos rfl, h] at hm
    obtain ⟨us, he, hu⟩ := hm
    obtain ⟨A, hA1, hA2⟩ := heads (vs := us) (fun i hi => by obtain ⟨a, c, b, d, e, _⟩ := (hu i hi).pair; exact ⟨_, _, _, _, _, _, e⟩)
    exact ⟨A, by rw [he, show dv us = dv (hv A) from by unfold dv; rw [hA2]], fun i hi => by rw [← hA1 i hi]; exact hu i hi, hx⟩
end Go.Proofs.YtkmbnghghbfkdaaGreat

/- Contracts in the laws' own words. -/
namespace Go.Proofs.YtkmbnghghbfkdaaGreat
set_option maxRecDepth 100000
set_option maxHeartbeats 2000000
set_option linter.unusedSimpArgs false
open Go.RowKit Go.Shelf Go.Sort
attribute [local go_sem] Oper.semAt_some wide_fn wide_depth
set_option linter.unusedVariables false

theorem cutD_s {D : Dic} (h : ∀ i, i < 5 → ∀ s ∈ (D i).1, s.size ≤ 9223372036854775807) : DicS (cutD D) := fun i hi => ⟨by unfold cutD; simp; omega, by unfold cutD; simp; omega, fun s hs => h i hi s (List.mem_of_mem_take hs)⟩
end Go.Proofs.YtkmbnghghbfkdaaGreat

/- An argument that is a dictionary. -/
namespace Go.Proofs.YtkmbnghghbfkdaaGreat
set_option maxRecDepth 100000
set_option maxHeartbeats 2000000
set_option linter.unusedVariables false
set_option linter.unusedSimpArgs false
open Go.ChangeShapes Go.WideShapes Go.ChangeAt Go.RowKit Go.Deep Go.Joins

theorem ten {α : Type} {cs : Array α} (h : cs.size = 10) : ∃ c0 c1 c2 c3 c4 c5 c6 c7 c8 c9, cs = #[c0, c1, c2, c3, c4, c5, c6, c7, c8, c9] := by
  obtain ⟨l⟩ := cs
  match l, h with
  | [c0, c1, c2, c3, c4, c5, c6, c7, c8, c9], _ => exact ⟨c0, c1, c2, c3, c4, c5, c6, c7, c8, c9, rfl⟩
theorem open_tab {H : Type} {enc : TypeId × Value → H} {w : World} {base : Nat} {spare : Nat → Bool} {held : Bool} {m : Nat} {x y : Value} {z : DataW H × List MemPlace}
    (h : DataW.trod enc Tryz.prog w base spare held m 25 [x, y] = some z) : ∃ T S, TabV w (x, y) (T, S) ∧ ∀ s ∈ T, s.size ≤ 9223372036854775807 := by
  obtain ⟨y0, y1, n, _, _, h0, h1⟩ := trod_struct2 Tryz.underlying25 h
  have h0' : DataW.trod enc Tryz.prog w base spare held n 22 [x] = some y0 := h0
  have h1' : DataW.trod enc Tryz.prog w base spare held n 23 [y] = some y1 := h1
  obtain ⟨a, len, cap, rfl⟩ := trod_slice_shape Tryz.underlying22 h0'
  obtain ⟨b, len', cap', rfl⟩ := trod_slice_shape Tryz.underlying23 h1'
  obtain ⟨T, hT, hTs⟩ := open_Strs (d := y0.1) (p := y0.2) Tryz.underlying22 Tryz.underlying9 (by kernel_rfl) ⟨n, by simpa [Value.cells] using h0'⟩
  obtain ⟨S, hS, _⟩ := open_Ints (d := y1.1) (p := y1.2) Tryz.underlying23 Tryz.underlying3 (by kernel_rfl) ⟨n, by simpa [Value.cells] using h1'⟩
  exact ⟨T, S, ⟨_, _, _, _, _, _, rfl, hT, hS⟩, hTs⟩
theorem open_dict {H : Type} {enc : TypeId × Value → H} {w : World} {M : Reach} {base base' : Nat} {spare : Nat → Bool} {held : Bool} {v : Value} {d : DataW H} {p : List MemPlace}
    (ho : Value.okWide Tryz.prog w M base' 28 v) (h : DataW.Trod enc Tryz.prog w base spare held 28 v d p) :
    ∃ D vs, v = dv vs ∧ DicV w vs D ∧ ∀ i, i < 5 → ∀ s ∈ (D i).1, s.size ≤ 9223372036854775807 := by
  obtain ⟨cs, rfl, hsz⟩ := okWide_struct Tryz.underlying28 ho
  have hC : Tryz.prog.cellsOf 28 = 10 := by kernel_rfl
  obtain ⟨c0, c1, c2, c3, c4, c5, c6, c7, c8, c9, rfl⟩ := ten (hsz.trans hC)
  obtain ⟨fuel, hf⟩ := h
  obtain ⟨y0, n, _, _, h0⟩ := trod_struct1 Tryz.underlying28 hf
  have hA : Tryz.prog.cellsOf 26 = 10 := by kernel_rfl
  have hT : Tryz.prog.cellsOf 25 = 2 := by kernel_rfl
  rw [hA] at h0
  have h0' : DataW.trod enc Tryz.prog w base spare held n 26 [c0, c1, c2, c3, c4, c5, c6, c7, c8, c9] = some y0 := h0
  obtain ⟨xs, m, _, _, _, hl, hx⟩ := DataW.trod_array Tryz.underlying26 h0'
  rw [hT] at hx
  have hg : ∀ i, i < 5 → ∃ z, xs[i]? = some z := fun i hi => ⟨xs[i]'(by omega), List.getElem?_eq_getElem _⟩
  obtain ⟨z0, e0⟩ := hg 0 (by omega)
  obtain ⟨z1, e1⟩ := hg 1 (by omega)
  obtain ⟨z2, e2⟩ := hg 2 (by omega)
  obtain ⟨z3, e3⟩ := hg 3 (by omega)
  obtain ⟨z4, e4⟩ := hg 4 (by omega)
  obtain ⟨T0, S0, t0, s0⟩ := open_tab (x := c0) (y := c1) ((hx 0 (by omega)).trans e0)
  obtain ⟨T1, S1, t1, s1⟩ := open_tab (x := c2) (y := c3) ((hx 1 (by omega)).trans e1)
  obtain ⟨T2, S2, t2, s2⟩ := open_tab (x := c4) (y := c5) ((hx 2 (by omega)).trans e2)
  obtain ⟨T3, S3, t3, s3⟩ := open_tab (x := c6) (y := c7) ((hx 3 (by omega)).trans e3)
  obtain ⟨T4, S4, t4, s4⟩ := open_tab (x := c8) (y := c9) ((hx 4 (by omega)).trans e4)
  refine ⟨fun i => match i with | 0 => (T0, S0) | 1 => (T1, S1) | 2 => (T2, S2) | 3 => (T3, S3) | _ => (T4, S4), fun i => match i with | 0 => (c0, c1) | 1 => (c2, c3) | 2 => (c4, c5) | 3 => (c6, c7) | _ => (c8, c9), rfl, fun i hi => ?_, fun i hi => ?_⟩
  · have hc : i = 0 ∨ i = 1 ∨ i = 2 ∨ i = 3 ∨ i = 4 := by omega
    rcases hc with rfl | rfl | rfl | rfl | rfl
    · exact t0
    · exact t1
    · exact t2
    · exact t3
    · exact t4
  · have hc : i = 0 ∨ i = 1 ∨ i = 2 ∨ i = 3 ∨ i = 4 := by omega
    rcases hc with rfl | rfl | rfl | rfl | rfl
    · exact s0
    · exact s1
    · exact s2
    · exact s3
    · exact s4
end Go.Proofs.YtkmbnghghbfkdaaGreat

/- What a pattern's tokens come to: plain, no program in sight. -/
namespace Go.Proofs.YtkmbnghghbfkdaaGreat
set_option maxRecDepth 100000
set_option maxHeartbeats 2000000
set_option linter.unusedSimpArgs false
set_option linter.unusedVariables false

/-- An atom. -/
structure Atm where
  kind : Int
  fk : Bool
  fn : ByteArray
  name : ByteArray
  value : ByteArray
  tk : Bool
  tn : ByteArray
deriving DecidableEq
/-- A pattern. -/
structure Pat where
  atoms : List Atm
  ret : List ByteArray
  count : Bool
  distinct : Bool
  limited : Bool
  limit : Int
  offset : Int
  hint : List ByteArray
def noPat : Pat := ⟨[], [], false, false, false, 0, 0, []⟩
def nilB : ByteArray := ⟨#[]⟩
/-- Behind some tokens: where, and what has been read. -/
structure PS where
  p : Nat
  atoms : List Atm
  vars : List ByteArray
/-- Is a text among others? -/
def hasB (s : ByteArray) (l : List ByteArray) : Bool := l.any fun x => decide (x = s)
theorem hasB_iff {s : ByteArray} {l : List ByteArray} : hasB s l = true ↔ s ∈ l := by
  unfold hasB
  simp
theorem hasB_no {s : ByteArray} {l : List ByteArray} : hasB s l = false ↔ s ∉ l := by
  rw [← hasB_iff]
  cases hasB s l <;> simp
def edgesOf (l : List Atm) : Nat := (l.filter fun a => decide (a.kind = 4)).length
end Go.Proofs.YtkmbnghghbfkdaaGreat
