/- The dictionary that stands at a place. -/
import Derived.Test.YtogoejlbdbapoaaDicPl
namespace Go.Proofs.Ytogoejlbdbapoaa
set_option maxRecDepth 100000
set_option maxHeartbeats 2000000
set_option linter.unusedSimpArgs false
open Go.RowKit Go.Shelf Go.Sort
attribute [local go_sem] Oper.semAt_some wide_fn wide_depth
set_option linter.unusedVariables false

theorem own_kept_far {w w' : World} {B size n : Nat} {e : TypeId} {v : Value} {xs : List Value} {row : Option Nat} (h : w.ownsRow B e size v n xs) (hg : w.grownBy w' row) (hne : ∀ g, row = some g → v.ownBlock ≠ some g) : w'.ownsRow B e size v n xs := by
  refine ⟨h.1, ?_⟩
  rcases h.2 with hn | ⟨k, cap, cur, rfl, hbg, hgg, rest⟩
  · exact .inl hn
  · refine .inr ⟨k, cap, cur, rfl, hbg, ?_, rest⟩
    rw [hg.block k (Array.getElem?_eq_some_iff.1 hgg).1 (fun e => hne k e.symm rfl)]
    exact hgg
/-- Writes onto a row of another kind leave what is owned. -/
theorem own_setL_row {B size n g : Nat} {e t : TypeId} {v : Value} {ys : List Value} (hne : t ≠ e) : ∀ (xs : List Value) (i : Nat) {zs : List Value} {W : World}, RowAt W g t zs → W.ownsRow B e size v n ys → (setL W g i xs).ownsRow B e size v n ys
  | [], _, _, _, _, h => h
  | x :: xs, i, zs, W, hr, h => own_setL_row hne xs (i + 1) (hr.set i x) (own_kept_far h (grown_set W g i x) (fun g' e' => by cases e'; exact row_not_own hr hne h))
theorem DicOwn.setL_row {B g : Nat} {us : Nat → Value × Value} {D : Dic} {W : World} {zs : List Value} (h : DicOwn B W us D) (hr : RowAt W g 28 zs) (xs : List Value) : DicOwn B (setL W g 0 xs) us D := fun i hi => by
  obtain ⟨a, n, c, b, m, d, e, h1, h2⟩ := h i hi
  exact ⟨a, n, c, b, m, d, e, own_setL_row (by decide) xs 0 hr h1, own_setL_row (by decide) xs 0 hr h2⟩
/-- What has been read of a dictionary. -/
structure ReI (w : World) (y : Nat) (A : Heads) (D : Dic) (k : Nat) (N : Nms) (W : World) : Prop where
  ext : Ext w W
  out : RowAt W w.heap.size 28 (dcells noV)
  d : RowAt W y 28 (dcells (hv A))
  own : DicOwn (w.heap.size + 1) W (hv A) D
  old : ∀ i, i < k → (D i).1 = N i ∧ KindOK i (D i) ∧ (D i).2.length ≤ 4096 ∧ ∀ s ∈ (D i).1, s.size ≤ 40
  new : ∀ i, k ≤ i → D i = ([], List.replicate 8 0)
theorem ReI.grow {w : World} {y : Nat} {A : Heads} {D : Dic} {k : Nat} {N : Nms} {W W' : World} (h : ReI w y A D k N W) (hx : Ext W W') : ReI w y A D k N W' :=
  ⟨h.ext.trans hx, h.out.ext hx, h.d.ext hx, h.own.ext hx, h.old, h.new⟩
theorem ReI.next {w : World} {y : Nat} {A A' : Heads} {D : Dic} {k : Nat} {N : Nms} {W : World} (h : ReI w y A D k N W) (hy : w.heap.size < y) {l : List ByteArray} {S : List Int} (hown : DicOwn (w.heap.size + 1) W (hv A') (upd D k (l, S)))
    (hok : KindOK k (l, S)) (hS : S.length ≤ 4096) (hs : ∀ s ∈ l, s.size ≤ 40) : ReI w y A' (upd D k (l, S)) (k + 1) (upd N k l) (setL W y 0 (dcells (hv A'))) := by
  refine ⟨below_setL (by omega) _ 0 h.ext, row_setL_ne (by omega) _ 0 h.out, row_set10 (hv A') h.d, hown.setL_row h.d _, fun i hi => ?_, fun i hi => ?_⟩
  · by_cases e : i = k
    · subst e
      rw [upd_at, upd_at]
      exact ⟨rfl, hok, hS, hs⟩
    · rw [upd_ne _ _ e, upd_ne _ _ e]
      exact h.old i (by omega)
  · rw [upd_ne _ _ (by omega)]
    exact h.new i (by omega)
def ReadDPost (w : World) (r : Option (Nms × Nat)) (e : Ending) (w' : World) : Prop := Ext w w' ∧
  match r with
  | some (N, q) => ∃ us D, e = .returned (.tuple #[dv us, .int .i64 q, .int .i64 0]) ∧ DicOwn w.heap.size w' us D ∧ DicOK D ∧ (∀ i, i < 5 → (D i).1 = N i ∧ (D i).2.length ≤ 4096 ∧ ∀ s ∈ (D i).1, s.size ≤ 40)
  | none => e = .returned (.tuple #[dv noV, .int .i64 0, .int .i64 160])
set_option maxRecDepth 100000 in
set_option maxHeartbeats 4000000 in
theorem dread_any (v : Value) (l : List Int) (p : Nat) (w : World) (hl : Byt l) (hv0 : Ints w .u8 v l) (hp : p ≤ l.length) (hlen : l.length ≤ 10000000) :
    Calls Try.prog 29 #[v, .int .i64 p] w (ReadDPost w (readTo l p 5)) := by
  obtain ⟨a, cap, rfl, hcap, hmax, _⟩ := hv0.open_
  have hbd : RowAt (w.alloc (.cells (dcells noV).toArray 28)) w.heap.size 28 (dcells noV) := RowAt.new w _ _
  have hx0 := Ext.alloc w (.cells (dcells noV).toArray 28)
  have hnw := fun w' => dnew_any w'
  have hdn : (dcells noV).toArray = #[.slice none 0 0, .slice none 0 0, .slice none 0 0, .slice none 0 0, .slice none 0 0, .slice none 0 0, .slice none 0 0, .slice none 0 0, .slice none 0 0, .slice none 0 0] := rfl
  rw [hdn] at hbd hx0
  have HB := Lib.hid hbd
  have HX0 := Lib.hid hx0
  have HNW := Lib.hid hnw
  have Hv := Lib.hid hv0
  have Hl := Lib.hid hl
  obtain ⟨R, hR⟩ : ∃ R, readTo l p 5 = R := ⟨_, rfl⟩
  rw [hR]
  have HR := Lib.hid hR
  clear hbd hx0 hnw hdn hv0 hl hR
  have hd1 : decide (l.length < p) = false := decide_eq_false (by omega)
  have hd0 : decide ((p : Int) < 0) = false := decide_eq_false (by omega)
  go_enter Try.func29, Try.ntmps29
  go_upto_region 3 with fail
  replace HB := HB.out
  replace HX0 := HX0.out
  generalize w.alloc (.cells #[.slice none 0 0, .slice none 0 0, .slice none 0 0, .slice none 0 0, .slice none 0 0, .slice none 0 0, .slice none 0 0, .slice none 0 0, .slice none 0 0, .slice none 0 0] 28) = w0 at *
  go_wp2_with fail
  refine (HNW.out _).mono ?_
  rintro e w1 ⟨us, rfl, hus, hx1⟩
  obtain ⟨A, hA1, hA2⟩ := heads (vs := us) (fun i hi => by obtain ⟨a, c, b, d, e, _⟩ := (hus i hi).pair; exact ⟨_, _, _, _, _, _, e⟩)
  rw [show dv us = dv (hv A) from by unfold dv; rw [hA2]]
  have hz0 := HB.lt
  have hz1 := hx1.size
  have hI0 : ReI w w1.heap.size A newD 0 (fun _ => []) (w1.alloc (.cells (dcells (hv A)).toArray 28)) :=
    ⟨(HX0.trans hx1).trans (Ext.alloc _ _), (HB.ext hx1).ext (Ext.alloc _ _), RowAt.new w1 _ _, (DicOwn.base (fun i hi => by rw [← hA1 i hi]; exact hus i hi) (by omega)).ext (Ext.alloc _ _), fun i h => by omega, fun i _ => rfl⟩
  obtain ⟨y, hy⟩ : ∃ y, w1.heap.size = y := ⟨_, rfl⟩
  have hyw : w.heap.size < y := by omega
  have hdA : (dcells (hv A)).toArray = #[(hv A 0).1, (hv A 0).2, (hv A 1).1, (hv A 1).2, (hv A 2).1, (hv A 2).2, (hv A 3).1, (hv A 3).2, (hv A 4).1, (hv A 4).2] := rfl
  have HI0 := Lib.hid hI0
  clear hA1 hA2 hus hI0
  unfold dv
  rw [hdA]
  rw [hdA] at HI0
  unfold hv at HI0 ⊢
  dsimp only at HI0 ⊢
  go_wp2_with fail
  replace HI0 := HI0.out
  have hsy : (w1.alloc (.cells #[Value.slice (A 0).1 (A 0).2.1 (A 0).2.2.1, .slice (A 0).2.2.2.1 (A 0).2.2.2.2.1 (A 0).2.2.2.2.2, .slice (A 1).1 (A 1).2.1 (A 1).2.2.1, .slice (A 1).2.2.2.1 (A 1).2.2.2.2.1 (A 1).2.2.2.2.2, .slice (A 2).1 (A 2).2.1 (A 2).2.2.1, .slice (A 2).2.2.2.1 (A 2).2.2.2.2.1 (A 2).2.2.2.2.2, .slice (A 3).1 (A 3).2.1 (A 3).2.2.1, .slice (A 3).2.2.2.1 (A 3).2.2.2.2.1 (A 3).2.2.2.2.2, .slice (A 4).1 (A 4).2.1 (A 4).2.2.1, .slice (A 4).2.2.2.1 (A 4).2.2.2.2.1 (A 4).2.2.2.2.2] 28)).heap.size = y + 1 := by simp [hy]
  generalize w1.alloc (.cells #[Value.slice (A 0).1 (A 0).2.1 (A 0).2.2.1, .slice (A 0).2.2.2.1 (A 0).2.2.2.2.1 (A 0).2.2.2.2.2, .slice (A 1).1 (A 1).2.1 (A 1).2.2.1, .slice (A 1).2.2.2.1 (A 1).2.2.2.2.1 (A 1).2.2.2.2.2, .slice (A 2).1 (A 2).2.1 (A 2).2.2.1, .slice (A 2).2.2.2.1 (A 2).2.2.2.2.1 (A 2).2.2.2.2.2, .slice (A 3).1 (A 3).2.1 (A 3).2.2.1, .slice (A 3).2.2.2.1 (A 3).2.2.2.2.1 (A 3).2.2.2.2.2, .slice (A 4).1 (A 4).2.1 (A 4).2.2.1, .slice (A 4).2.2.2.1 (A 4).2.2.2.2.1 (A 4).2.2.2.2.2] 28) = wl at *
  rw [hy] at *
  clear hsy hx1 HB HX0 hz0 hz1
  clear hd0 hd1
  go_loopg [1, 25] 5 (fun g s1 i wr => ∃ (k x : Nat) (N : Nms) (A : Heads) (D : Dic), k ≤ 5 ∧ g = 5 - k ∧ i = .int .i64 k ∧ s1 = .int .i64 x ∧ x ≤ l.length ∧ readTo l p k = some (N, x) ∧ ReI w y A D k N wr)
  case atStart => exact ⟨0, p, _, A, newD, Nat.zero_le _, rfl, rfl, rfl, hp, rfl, HI0⟩
  case round =>
    obtain ⟨k, x, N, A, D, hk, hg, rfl, rfl, hx, hto, hI⟩ := hrel
    have HI := Lib.hid hI
    have Hg := Lib.hid hg
    have HTO := Lib.hid hto
    clear hI hg hto HI0
    by_cases hlt : k < 5
    · have hnm := dnames_any (.slice a l.length cap) l x (k : Int) wr Hl.out (Hv.out.ext HI.out.ext) hx hlen
      have hdk := HI.out.new k (Nat.le_refl _)
      have hki : (k : Int) < 5 := by omega
      cases hrk : readK (k : Int) l x with
      | none =>
        rw [hrk] at hnm
        have hnone : readTo l p (k + 1) = none := by unfold readTo; rw [HTO.out]; dsimp only; rw [hrk]
        have HP : Hid (R = none) := Lib.hid (by rw [← HR.out]; exact readTo_none hnone (by omega))
        have HNM := Lib.hid hnm
        clear hnm hrk hnone hdk
        go_wp2_with fail
        refine HNM.out.mono ?_
        rintro e w3 ⟨hx3, rfl⟩
        have hI3 := HI.out.grow hx3
        obtain ⟨d0, d1, d2, d3, d4, d5, d6, d7, d8, d9⟩ := RowAt.facts10 (vs := noV) hI3.out
        obtain ⟨g0, g1, g2, g3, g4, g5, g6, g7, g8, g9⟩ := hI3.out.facts10f
        simp only [noV] at d0 d1 d2 d3 d4 d5 d6 d7 d8 d9
        have HI3 := Lib.hid hI3
        clear hI3
        go_wp2_with fail
        rw [set10]
        clear d0 d1 d2 d3 d4 d5 d6 d7 d8 d9 g0 g1 g2 g3 g4 g5 g6 g7 g8 g9
        obtain ⟨q0, q1, q2, q3, q4, q5, q6, q7, q8, q9⟩ := RowAt.facts10 (row_set10 (vs := noV) noV HI3.out.out)
        unfold dcells noV at q0 q1 q2 q3 q4 q5 q6 q7 q8 q9
        try dsimp only at q0 q1 q2 q3 q4 q5 q6 q7 q8 q9
        refine bodyPost_ret (v := .tuple #[dv noV, .int .i64 0, .int .i64 160]) (by rw [dv_noV]; unfold dnoV; simp [results, Try.results29, go_sem, q0, q1, q2, q3, q4, q5, q6, q7, q8, q9]) rfl ⟨below_setL (Nat.le_refl _) (dcells noV) 0 HI3.out.ext, ?_⟩
        have h := HP.out
        subst h
        exact rfl
      | some r =>
        obtain ⟨lst, q⟩ := r
        rw [hrk] at hnm
        obtain ⟨r1, r2, r3, r4, S', n', r5, r6, r7⟩ := readK_is Hl.out hrk hx
        have hto' : readTo l p (k + 1) = some (upd N k lst, q) := by unfold readTo; rw [HTO.out]; dsimp only; rw [hrk]
        have HTO' := Lib.hid hto'
        have HNM := Lib.hid hnm
        have HRK := Lib.hid (show KindOK k (lst, S') from ⟨r6, r1, r2⟩)
        have HR4 := Lib.hid r4
        have HR5 := Lib.hid r5
        clear hnm hrk hto' r2 r4 r5 r6
        go_wp2_with fail
        refine HNM.out.mono ?_
        rintro e w3 ⟨hx3, u3, rfl, hu3⟩
        have hI3 := HI.out.grow hx3
        obtain ⟨c0, c1, c2, c3, c4, c5, c6, c7, c8, c9⟩ := hI3.d.facts10
        unfold hv at c0 c1 c2 c3 c4 c5 c6 c7 c8 c9
        dsimp only at c0 c1 c2 c3 c4 c5 c6 c7 c8 c9
        obtain ⟨a3, ca3, rfl⟩ := own_sl hu3
        have hpt := dput_any (w.heap.size + 1) (hv A) D k (.slice a3 lst.length ca3) lst w3 (by have := hI3.d.lt; omega) hI3.own hlt (by rw [hdk]; exact tabOK_new) (by rw [hdk]; simp) (by rw [hdk]; simp) (Sl.of_own hu3) (fun s hs => by have := HR4.out s hs; omega)
        rw [hdk, HR5.out] at hpt
        unfold dv dcells hv at hpt
        dsimp only at hpt
        have HPT := Lib.hid hpt
        have HI3 := Lib.hid hI3
        clear hpt hI3 hu3
        go_wp2_with fail
        clear c0 c1 c2 c3 c4 c5 c6 c7 c8 c9
        refine HPT.out.mono ?_
        rintro e w4 ⟨hx4, us4, rfl, hus4⟩
        obtain ⟨A', hA1, hA2⟩ := heads (vs := us4) (fun i hi => by obtain ⟨a, c, b, d, e, _⟩ := (hus4 i hi).pair; exact ⟨_, _, _, _, _, _, e⟩)
        have hus' : DicOwn (w.heap.size + 1) w4 (hv A') (upd D k (lst, S')) := fun i hi => by rw [← hA1 i hi]; exact hus4 i hi
        rw [show dv us4 = dv (hv A') from by unfold dv; rw [hA2]]
        have hI4 := (HI3.out.grow hx4).grow (Ext.alloc w4 (.cells (dcells (hv A')).toArray 28))
        have hn4 := hI4.next hyw (hus'.ext (Ext.alloc w4 (.cells (dcells (hv A')).toArray 28))) HRK.out r7 HR4.out
        have HB12 : RowAt (w4.alloc (.cells (dcells (hv A')).toArray 28)) w4.heap.size 28 (dcells (hv A')) := RowAt.new _ _ _
        have hdA : (dcells (hv A')).toArray = #[(hv A' 0).1, (hv A' 0).2, (hv A' 1).1, (hv A' 1).2, (hv A' 2).1, (hv A' 2).2, (hv A' 3).1, (hv A' 3).2, (hv A' 4).1, (hv A' 4).2] := rfl
        have hd := hI4.d
        rw [hdA] at hd HB12 hn4
        have HN4 := Lib.hid hn4
        have HD := Lib.hid hd
        have HB12 := Lib.hid HB12
        clear hA1 hA2 hus4 hus' hI4 hn4 hd
        unfold dv
        rw [hdA]
        unfold hv
        dsimp only
        go_upto_region 11 with fail
        have hWE : w4.alloc (.cells #[(hv A' 0).1, (hv A' 0).2, (hv A' 1).1, (hv A' 1).2, (hv A' 2).1, (hv A' 2).2, (hv A' 3).1, (hv A' 3).2, (hv A' 4).1, (hv A' 4).2] 28) = w4.alloc (.cells #[Value.slice (A' 0).1 (A' 0).2.1 (A' 0).2.2.1, .slice (A' 0).2.2.2.1 (A' 0).2.2.2.2.1 (A' 0).2.2.2.2.2, Value.slice (A' 1).1 (A' 1).2.1 (A' 1).2.2.1, .slice (A' 1).2.2.2.1 (A' 1).2.2.2.2.1 (A' 1).2.2.2.2.2, Value.slice (A' 2).1 (A' 2).2.1 (A' 2).2.2.1, .slice (A' 2).2.2.2.1 (A' 2).2.2.2.2.1 (A' 2).2.2.2.2.2, Value.slice (A' 3).1 (A' 3).2.1 (A' 3).2.2.1, .slice (A' 3).2.2.2.1 (A' 3).2.2.2.2.1 (A' 3).2.2.2.2.2, Value.slice (A' 4).1 (A' 4).2.1 (A' 4).2.2.1, .slice (A' 4).2.2.2.1 (A' 4).2.2.2.2.1 (A' 4).2.2.2.2.2] 28) := rfl
        rw [hWE] at HN4 HD HB12
        clear hWE
        generalize w4.alloc (.cells #[Value.slice (A' 0).1 (A' 0).2.1 (A' 0).2.2.1, .slice (A' 0).2.2.2.1 (A' 0).2.2.2.2.1 (A' 0).2.2.2.2.2, Value.slice (A' 1).1 (A' 1).2.1 (A' 1).2.2.1, .slice (A' 1).2.2.2.1 (A' 1).2.2.2.2.1 (A' 1).2.2.2.2.2, Value.slice (A' 2).1 (A' 2).2.1 (A' 2).2.2.1, .slice (A' 2).2.2.2.1 (A' 2).2.2.2.2.1 (A' 2).2.2.2.2.2, Value.slice (A' 3).1 (A' 3).2.1 (A' 3).2.2.1, .slice (A' 3).2.2.2.1 (A' 3).2.2.2.2.1 (A' 3).2.2.2.2.2, Value.slice (A' 4).1 (A' 4).2.1 (A' 4).2.2.1, .slice (A' 4).2.2.2.1 (A' 4).2.2.2.2.1 (A' 4).2.2.2.2.2] 28) = wq at *
        obtain ⟨c0, c1, c2, c3, c4, c5, c6, c7, c8, c9⟩ := HB12.out.facts10
        obtain ⟨d0, d1, d2, d3, d4, d5, d6, d7, d8, d9⟩ := RowAt.facts10 (vs := hv A) HD.out
        obtain ⟨g0, g1, g2, g3, g4, g5, g6, g7, g8, g9⟩ := HD.out.facts10f
        unfold hv at c0 c1 c2 c3 c4 c5 c6 c7 c8 c9 d0 d1 d2 d3 d4 d5 d6 d7 d8 d9
        dsimp only at c0 c1 c2 c3 c4 c5 c6 c7 c8 c9 d0 d1 d2 d3 d4 d5 d6 d7 d8 d9
        go_wp2_with fail
        rw [set10]
        clear c0 c1 c2 c3 c4 c5 c6 c7 c8 c9 d0 d1 d2 d3 d4 d5 d6 d7 d8 d9 g0 g1 g2 g3 g4 g5 g6 g7 g8 g9
        go_wp2_with fail
        go_roundg (5 - (k + 1))
        case measure => have := Hg.out; omega
        case rel => exact ⟨k + 1, q, _, A', _, by omega, rfl, by go_num, rfl, r3, HTO'.out, HN4.out⟩
    · obtain rfl : k = 5 := by omega
      have hRR : R = some (N, x) := by rw [← HR.out]; exact HTO.out
      have HRR := Lib.hid hRR
      obtain ⟨c0, c1, c2, c3, c4, c5, c6, c7, c8, c9⟩ := HI.out.d.facts10
      obtain ⟨d0, d1, d2, d3, d4, d5, d6, d7, d8, d9⟩ := RowAt.facts10 (vs := noV) HI.out.out
      obtain ⟨g0, g1, g2, g3, g4, g5, g6, g7, g8, g9⟩ := HI.out.out.facts10f
      simp only [noV] at d0 d1 d2 d3 d4 d5 d6 d7 d8 d9
      simp only [hv] at c0 c1 c2 c3 c4 c5 c6 c7 c8 c9
      clear hRR
      go_wp2_with fail
      rw [set10]
      clear d0 d1 d2 d3 d4 d5 d6 d7 d8 d9 c0 c1 c2 c3 c4 c5 c6 c7 c8 c9 g0 g1 g2 g3 g4 g5 g6 g7 g8 g9
      have hro := row_set10 (hv A) HI.out.out
      have hfin : DicOwn w.heap.size (setL wr w.heap.size 0 (dcells (hv A))) (hv A) D := (HI.out.own.setL_row HI.out.out _).base (by omega)
      have hbf := below_setL (Nat.le_refl w.heap.size) (dcells (hv A)) 0 HI.out.ext
      obtain ⟨q0, q1, q2, q3, q4, q5, q6, q7, q8, q9⟩ := RowAt.facts10 hro
      refine bodyPost_ret (v := .tuple #[dv (hv A), .int .i64 x, .int .i64 0]) ?_ rfl ⟨hbf, ?_⟩
      · unfold dv dcells hv at *
        simp [results, Try.results29, go_sem, q0, q1, q2, q3, q4, q5, q6, q7, q8, q9]
      · have h := HRR.out
        subst h
        exact ⟨_, D, rfl, hfin, fun i hi => (HI.out.old i hi).2.1, fun i hi => ⟨(HI.out.old i hi).1, (HI.out.old i hi).2.2.1, (HI.out.old i hi).2.2.2⟩⟩
end Go.Proofs.Ytogoejlbdbapoaa
