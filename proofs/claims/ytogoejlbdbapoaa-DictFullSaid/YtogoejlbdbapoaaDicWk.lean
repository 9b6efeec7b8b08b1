/- Does the layer do anything? -/
import Derived.Test.YtogoejlbdbapoaaDicPm
import Derived.Test.YtogoejlbdbapoaaDicRf
import Derived.Test.YtogoejlbdbapoaaDicY
namespace Go.Proofs.Ytogoejlbdbapoaa
set_option maxRecDepth 100000
set_option maxHeartbeats 2000000
set_option linter.unusedSimpArgs false
open Go.RowKit Go.Shelf Go.Sort
attribute [local go_sem] Oper.semAt_some wide_fn wide_depth
set_option linter.unusedVariables false

theorem dputF_new {T : List ByteArray} {S : List Int} {s : ByteArray} (h : TabOK T S) (hS : S.length ≤ 4096) (hf : findF T s < 0) (hl : T.length < 128) : ∃ S', dputF T S s = some (T ++ [s], S', (T.length : Int)) ∧ TabOK (T ++ [s]) S' ∧ S'.length ≤ 4096 := by
  have hp : putF T S s = some (T ++ [s], laidN (T ++ [s]) (moreN T S.length) (T.length + 1), (T.length : Int)) := by
    unfold putF
    rw [if_neg (by omega), if_neg (by omega)]
  obtain ⟨h1, _, h3, _⟩ := putF_ok h hp
  refine ⟨_, ?_, h1, by omega⟩
  unfold dputF
  rw [if_neg (by omega), hp]
theorem DicOK.upd {D : Dic} (h : DicOK D) {k : Nat} {t : List ByteArray × List Int} (hk : KindOK k t) : DicOK (upd D k t) := fun i hi => by
  by_cases e : i = k
  · subst e; rw [upd_at]; exact hk
  · rw [upd_ne _ _ e]; exact h i hi
theorem DicOK.sizes {D : Dic} (h : DicOK D) (hS : ∀ i, i < 5 → (D i).2.length ≤ 4096) : DicS D := fun i hi => ⟨by have := (h i hi).2.1; omega, hS i hi, fun s hs => by have := (h.small i hi).2 s hs; omega⟩
theorem newD_ok : DicOK newD := fun i hi => ⟨tabOK_new, by simp [newD], rfl⟩
theorem newD_s : ∀ i, i < 5 → (newD i).2.length ≤ 4096 := fun i hi => by simp [newD]
theorem DicOK.good {D : Dic} (h : DicOK D) : GoodN (ofD D) := fun i hi => ⟨(h i hi).2.1, fun s hs => ⟨badB_all (h i hi).2.2 s hs, by have := (h.small i hi).2 s hs; omega⟩, by
  have hd := (h i hi).1.distinct
  rw [List.nodup_iff_pairwise_ne, List.pairwise_iff_getElem]
  intro a b ha hb hab e
  have := hd a b ha hb e
  omega⟩
def annS : ByteArray := ⟨#[97, 110, 110]⟩
def bobS : ByteArray := ⟨#[98, 111, 98]⟩
def capS : ByteArray := ⟨#[65, 110, 110]⟩
def wakesL : List Int := [2, 3, 97, 110, 110, 3, 98, 111, 98, 0, 0, 0, 0]
theorem dwakes_plain : ∃ D1 D2 : Dic, putD newD 0 annS = .ok (D1, 0) ∧ putD D1 0 bobS = .ok (D2, 1) ∧ putD D2 0 capS = .error 2 ∧ DicOK D1 ∧ (∀ i, i < 5 → (D1 i).2.length ≤ 4096) ∧ DicOK D2 ∧ (∀ i, i < 5 → (D2 i).2.length ≤ 4096) ∧
    bytesTo (ofD D2) 5 = wakesL ∧ nameF D2 0 1 = .tuple #[.string bobS, .int .i64 0] := by
  obtain ⟨S1, e1, t1, l1⟩ := dputF_new (s := annS) tabOK_new (by simp) (by decide) (by simp)
  obtain ⟨S2, e2, t2, l2⟩ := dputF_new (s := bobS) t1 l1 (by decide) (by decide)
  refine ⟨upd newD 0 ([annS], S1), upd (upd newD 0 ([annS], S1)) 0 ([annS, bobS], S2), ?_, ?_, ?_, ?_, ?_, ?_, ?_, ?_, ?_⟩
  · unfold putD
    rw [if_pos (by decide)]
    rw [show dputF (newD (0 : Int).toNat).1 (newD (0 : Int).toNat).2 annS = _ from e1]; rfl
  · unfold putD
    rw [if_pos (by decide)]
    rw [show dputF (upd newD 0 ([annS], S1) (0 : Int).toNat).1 (upd newD 0 ([annS], S1) (0 : Int).toNat).2 bobS = _ from e2]; rfl
  · unfold putD
    rw [if_neg (by decide)]
  · exact newD_ok.upd ⟨t1, show [annS].length ≤ 128 by decide, show badB 0 [annS] = false by decide⟩
  · intro i hi
    by_cases e : i = 0
    · subst e; rw [upd_at]; exact l1
    · rw [upd_ne _ _ e]; exact newD_s i hi
  · exact (newD_ok.upd ⟨t1, show [annS].length ≤ 128 by decide, show badB 0 [annS] = false by decide⟩).upd ⟨t2, show [annS, bobS].length ≤ 128 by decide, show badB 0 [annS, bobS] = false by decide⟩
  · intro i hi
    by_cases e : i = 0
    · subst e; rw [upd_at]; exact l2
    · rw [upd_ne _ _ e, upd_ne _ _ e]; exact newD_s i hi
  · rfl
  · rfl
theorem dPut_ok {D D' : Dic} {kind n : Int} {s : ByteArray} (h : putD D kind s = .ok (D', n)) (vs : Nat → Value × Value) (w : World) (hV : DicV w vs D) (hS : DicS D) (hs : s.size ≤ 9223372036854775807) (hok : DicOK D) :
    Calls Try.prog 21 #[dv vs, .int .i64 kind, .string s] w fun e w' => ∃ A : Heads, e = .returned (.tuple #[dv (hv A), .int .i64 n, .int .i64 0]) ∧ DicOwn w.heap.size w' (hv A) D' ∧ Ext w w' :=
  (dPut_all vs D kind s w hV hS hs true ⟨fun _ => hok, fun _ => rfl⟩).mono fun e w' ⟨hx, hm⟩ => by
    rw [if_pos rfl, h] at hm
    obtain ⟨us, he, hu⟩ := hm
    obtain ⟨A, hA1, hA2⟩ := heads (vs := us) (fun i hi => by obtain ⟨a, c, b, d, e, _⟩ := (hu i hi).pair; exact ⟨_, _, _, _, _, _, e⟩)
    exact ⟨A, by rw [he, show dv us = dv (hv A) from by unfold dv; rw [hA2]], fun i hi => by rw [← hA1 i hi]; exact hu i hi, hx⟩
theorem dPut_err {D : Dic} {kind c : Int} {s : ByteArray} (h : putD D kind s = .error c) (vs : Nat → Value × Value) (w : World) (hV : DicV w vs D) (hS : DicS D) (hs : s.size ≤ 9223372036854775807) (hok : DicOK D) :
    Calls Try.prog 21 #[dv vs, .int .i64 kind, .string s] w fun e w' => e = .returned (.tuple #[dv noV, .int .i64 0, .int .i64 c]) ∧ Ext w w' :=
  (dPut_all vs D kind s w hV hS hs true ⟨fun _ => hok, fun _ => rfl⟩).mono fun e w' ⟨hx, hm⟩ => by
    rw [if_pos rfl, h] at hm
    exact ⟨hm, hx⟩
theorem dPut_no {D : Dic} (vs : Nat → Value × Value) (kind : Int) (s : ByteArray) (w : World) (hV : DicV w vs D) (hS : DicS D) (hs : s.size ≤ 9223372036854775807) (hno : ¬ DicOK D) :
    Calls Try.prog 21 #[dv vs, .int .i64 kind, .string s] w fun e w' => e = .returned (.tuple #[dv noV, .int .i64 0, .int .i64 160]) ∧ Ext w w' :=
  (dPut_all vs D kind s w hV hS hs false ⟨fun h => (by cases h), fun h => absurd h hno⟩).mono fun e w' ⟨hx, hm⟩ => ⟨hm, hx⟩
theorem dread_ok {v : Value} {l : List Int} {p q : Nat} {N : Nms} {w : World} (hl : Byt l) (hv0 : Ints w .u8 v l) (hp : p ≤ l.length) (hlen : l.length ≤ 10000000) (h : readTo l p 5 = some (N, q)) :
    Calls Try.prog 29 #[v, .int .i64 p] w fun e w' => ∃ (A : Heads) (D : Dic), e = .returned (.tuple #[dv (hv A), .int .i64 q, .int .i64 0]) ∧ DicOwn w.heap.size w' (hv A) D ∧ DicOK D ∧ (∀ i, i < 5 → (D i).1 = N i ∧ (D i).2.length ≤ 4096) ∧ Ext w w' :=
  (dread_any v l p w hl hv0 hp hlen).mono fun e w' ⟨hx, hm⟩ => by
    rw [h] at hm
    obtain ⟨us, D, he, hu, hok, hN⟩ := hm
    obtain ⟨A, hA1, hA2⟩ := heads (vs := us) (fun i hi => by obtain ⟨a, c, b, d, e, _⟩ := (hu i hi).pair; exact ⟨_, _, _, _, _, _, e⟩)
    exact ⟨A, D, by rw [he, show dv us = dv (hv A) from by unfold dv; rw [hA2]], fun i hi => by rw [← hA1 i hi]; exact hu i hi, hok, fun i hi => ⟨(hN i hi).1, (hN i hi).2.1⟩, hx⟩
theorem dread_none {v : Value} {l : List Int} {p : Nat} {w : World} (hl : Byt l) (hv0 : Ints w .u8 v l) (hp : p ≤ l.length) (hlen : l.length ≤ 10000000) (h : readTo l p 5 = none) :
    Calls Try.prog 29 #[v, .int .i64 p] w fun e w' => e = .returned (.tuple #[dv noV, .int .i64 0, .int .i64 160]) ∧ Ext w w' :=
  (dread_any v l p w hl hv0 hp hlen).mono fun e w' ⟨hx, hm⟩ => by rw [h] at hm; exact ⟨hm, hx⟩
theorem sameN_refl {M N : Nms} (h : ∀ i, i < 5 → M i = N i) : sameN M N = true := sameN_iff.2 h
set_option maxRecDepth 100000 in
set_option maxHeartbeats 4000000 in
theorem dwakes_any (w : World) : Calls Try.prog 10 #[] w fun e w' => e = .returned (.bool true) ∧ Ext w w' := by
  obtain ⟨D1, D2, p1, p2, p3, o1, s1, o2, s2, hb, hn⟩ := dwakes_plain
  have H1 : Hid (∀ us w', DicOwn w.heap.size w' us newD → Calls Try.prog 21 #[dv us, .int .i64 0, .string annS] w' fun e w'' => ∃ A : Heads, e = .returned (.tuple #[dv (hv A), .int .i64 0, .int .i64 0]) ∧ DicOwn w'.heap.size w'' (hv A) D1 ∧ Ext w' w'') :=
    Lib.hid (fun us w' h => dPut_ok p1 us w' h.view (newD_ok.sizes newD_s) (by decide) newD_ok)
  have H2 : Hid (∀ vs w', DicV w' vs D1 → Calls Try.prog 21 #[dv vs, .int .i64 0, .string bobS] w' fun e w'' => ∃ A : Heads, e = .returned (.tuple #[dv (hv A), .int .i64 1, .int .i64 0]) ∧ DicOwn w'.heap.size w'' (hv A) D2 ∧ Ext w' w'') :=
    Lib.hid (fun vs w' h => dPut_ok p2 vs w' h (o1.sizes s1) (by decide) o1)
  have H3 : Hid (∀ vs w', DicV w' vs D2 → Calls Try.prog 21 #[dv vs, .int .i64 0, .string capS] w' fun e w'' => e = .returned (.tuple #[dv noV, .int .i64 0, .int .i64 2]) ∧ Ext w' w'') :=
    Lib.hid (fun vs w' h => dPut_err p3 vs w' h (o2.sizes s2) (by decide) o2)
  have H4 : Hid (∀ vs w', DicV w' vs D2 → Calls Try.prog 25 #[dv vs] w' fun e w'' => ∃ u, e = .returned (.tuple #[u, .int .i64 0]) ∧ Own w'' w'.heap.size 5 .u8 u wakesL ∧ Ext w' w'') :=
    Lib.hid (fun vs w' h => by rw [← hb]; exact dbytes_yes vs D2 w' h (o2.sizes s2) o2)
  obtain ⟨M, hM, hMi⟩ := readTo_all o2.good [] []
  rw [List.append_nil, List.nil_append, hb] at hM
  have H5 : Hid (∀ v w', Ints w' .u8 v wakesL → Calls Try.prog 29 #[v, .int .i64 0] w' fun e w'' => ∃ (A : Heads) (D : Dic), e = .returned (.tuple #[dv (hv A), .int .i64 13, .int .i64 0]) ∧ DicOwn w'.heap.size w'' (hv A) D ∧ (∀ i, i < 5 → (D i).1 = ofD D2 i) ∧ Ext w' w'') :=
    Lib.hid (fun v w' h => (dread_ok (p := 0) (fun c hc => by unfold wakesL at hc; simp at hc; omega) h (by decide) (by decide) hM).mono fun e w'' ⟨A, D, he, hu, hok, hN, hx⟩ => ⟨A, D, he, hu, fun i hi => by rw [(hN i hi).1, hMi i hi], hx⟩)
  have H6 : Hid (∀ vs w', DicV w' vs D2 → Calls Try.prog 35 #[dv vs, .int .i64 0, .int .i64 1] w' fun e w'' => e = .returned (.tuple #[.string bobS, .int .i64 0]) ∧ Ext w' w'') :=
    Lib.hid (fun vs w' h => by rw [← hn]; exact name_yes vs D2 w' h (o2.sizes s2) o2 0 1)
  have H7 : Hid (∀ vs us D w', DicV w' vs D → DicV w' us D2 → (∀ i, i < 5 → (D i).1 = ofD D2 i) → Calls Try.prog 14 #[dv vs, dv us] w' fun e w'' => e = .returned (.bool true) ∧ Ext w' w'') :=
    Lib.hid (fun vs us D w' h h' he => by
      have := dsame_any vs us D D2 w' h h'
      rw [sameN_refl (M := ofD D) (N := ofD D2) he] at this
      exact this)
  clear p1 p2 p3 o1 s1 o2 s2 hb hn hM hMi
  have hnw := fun w' => dnew_any w'
  have HNW := Lib.hid hnw
  clear hnw
  go_enter Try.func10, Try.ntmps10
  go_wp2_with fail
  refine (HNW.out _).mono ?_
  rintro e w1 ⟨us, rfl, hus, hx1⟩
  have h1 := H1.out us w1 hus
  unfold annS at h1
  go_wp2_with fail
  refine h1.mono ?_
  rintro e w2 ⟨A2, rfl, hus2, hx2⟩
  clear h1 hus
  have hV2 := hus2.view.ext (Ext.alloc w2 (.cells #[Value.slice (A2 0).1 (A2 0).2.1 (A2 0).2.2.1, .slice (A2 0).2.2.2.1 (A2 0).2.2.2.2.1 (A2 0).2.2.2.2.2, Value.slice (A2 1).1 (A2 1).2.1 (A2 1).2.2.1, .slice (A2 1).2.2.2.1 (A2 1).2.2.2.2.1 (A2 1).2.2.2.2.2, Value.slice (A2 2).1 (A2 2).2.1 (A2 2).2.2.1, .slice (A2 2).2.2.2.1 (A2 2).2.2.2.2.1 (A2 2).2.2.2.2.2, Value.slice (A2 3).1 (A2 3).2.1 (A2 3).2.2.1, .slice (A2 3).2.2.2.1 (A2 3).2.2.2.2.1 (A2 3).2.2.2.2.2, Value.slice (A2 4).1 (A2 4).2.1 (A2 4).2.2.1, .slice (A2 4).2.2.2.1 (A2 4).2.2.2.2.1 (A2 4).2.2.2.2.2] 28))
  have hx02 := (hx1.trans hx2).trans (Ext.alloc w2 (.cells #[Value.slice (A2 0).1 (A2 0).2.1 (A2 0).2.2.1, .slice (A2 0).2.2.2.1 (A2 0).2.2.2.2.1 (A2 0).2.2.2.2.2, Value.slice (A2 1).1 (A2 1).2.1 (A2 1).2.2.1, .slice (A2 1).2.2.2.1 (A2 1).2.2.2.2.1 (A2 1).2.2.2.2.2, Value.slice (A2 2).1 (A2 2).2.1 (A2 2).2.2.1, .slice (A2 2).2.2.2.1 (A2 2).2.2.2.2.1 (A2 2).2.2.2.2.2, Value.slice (A2 3).1 (A2 3).2.1 (A2 3).2.2.1, .slice (A2 3).2.2.2.1 (A2 3).2.2.2.2.1 (A2 3).2.2.2.2.2, Value.slice (A2 4).1 (A2 4).2.1 (A2 4).2.2.1, .slice (A2 4).2.2.2.1 (A2 4).2.2.2.2.1 (A2 4).2.2.2.2.2] 28))
  have hb1 : RowAt (w2.alloc (.cells #[Value.slice (A2 0).1 (A2 0).2.1 (A2 0).2.2.1, .slice (A2 0).2.2.2.1 (A2 0).2.2.2.2.1 (A2 0).2.2.2.2.2, Value.slice (A2 1).1 (A2 1).2.1 (A2 1).2.2.1, .slice (A2 1).2.2.2.1 (A2 1).2.2.2.2.1 (A2 1).2.2.2.2.2, Value.slice (A2 2).1 (A2 2).2.1 (A2 2).2.2.1, .slice (A2 2).2.2.2.1 (A2 2).2.2.2.2.1 (A2 2).2.2.2.2.2, Value.slice (A2 3).1 (A2 3).2.1 (A2 3).2.2.1, .slice (A2 3).2.2.2.1 (A2 3).2.2.2.2.1 (A2 3).2.2.2.2.2, Value.slice (A2 4).1 (A2 4).2.1 (A2 4).2.2.1, .slice (A2 4).2.2.2.1 (A2 4).2.2.2.2.1 (A2 4).2.2.2.2.2] 28)) w2.heap.size 28 (dcells (hv A2)) := RowAt.new _ _ _
  have HV2 := Lib.hid hV2
  have HX02 := Lib.hid hx02
  have HB1 := Lib.hid hb1
  have hz := (hx1.trans hx2).size
  obtain ⟨y, hy⟩ : ∃ y, w2.heap.size = y := ⟨_, rfl⟩
  have hzy : w.heap.size ≤ y := by omega
  clear hV2 hx02 hb1 hx1 hx2 hus2
  unfold dv dcells hv
  dsimp only
  go_upto_region 2 with fail
  generalize w2.alloc (.cells #[Value.slice (A2 0).1 (A2 0).2.1 (A2 0).2.2.1, .slice (A2 0).2.2.2.1 (A2 0).2.2.2.2.1 (A2 0).2.2.2.2.2, Value.slice (A2 1).1 (A2 1).2.1 (A2 1).2.2.1, .slice (A2 1).2.2.2.1 (A2 1).2.2.2.2.1 (A2 1).2.2.2.2.2, Value.slice (A2 2).1 (A2 2).2.1 (A2 2).2.2.1, .slice (A2 2).2.2.2.1 (A2 2).2.2.2.2.1 (A2 2).2.2.2.2.2, Value.slice (A2 3).1 (A2 3).2.1 (A2 3).2.2.1, .slice (A2 3).2.2.2.1 (A2 3).2.2.2.2.1 (A2 3).2.2.2.2.2, Value.slice (A2 4).1 (A2 4).2.1 (A2 4).2.2.1, .slice (A2 4).2.2.2.1 (A2 4).2.2.2.2.1 (A2 4).2.2.2.2.2] 28) = wb at *
  rw [hy] at *
  clear hy
  obtain ⟨c0, c1, c2, c3, c4, c5, c6, c7, c8, c9⟩ := HB1.out.facts10
  obtain ⟨g0, g1, g2, g3, g4, g5, g6, g7, g8, g9⟩ := HB1.out.facts10f
  unfold hv at c0 c1 c2 c3 c4 c5 c6 c7 c8 c9
  dsimp only at c0 c1 c2 c3 c4 c5 c6 c7 c8 c9
  have h2 := H2.out (hv A2) wb HV2.out
  unfold dv dcells hv bobS at h2
  dsimp only at h2
  have H2W := Lib.hid h2
  clear h2
  go_wp2_with fail
  refine H2W.out.mono ?_
  rintro e w3 ⟨A3, rfl, hus3, hx3⟩
  have HB3 := Lib.hid (HB1.out.ext hx3)
  have hyb := HB1.out.lt
  clear c0 c1 c2 c3 c4 c5 c6 c7 c8 c9 g0 g1 g2 g3 g4 g5 g6 g7 g8 g9 H2W HB1
  obtain ⟨c0, c1, c2, c3, c4, c5, c6, c7, c8, c9⟩ := HB3.out.facts10
  obtain ⟨g0, g1, g2, g3, g4, g5, g6, g7, g8, g9⟩ := HB3.out.facts10f
  unfold hv at c0 c1 c2 c3 c4 c5 c6 c7 c8 c9
  dsimp only at c0 c1 c2 c3 c4 c5 c6 c7 c8 c9
  have hB4 := row_set10 (hv A3) HB3.out
  have hus4 : DicOwn wb.heap.size (setL w3 y 0 (dcells (hv A3))) (hv A3) D2 := hus3.setL_row HB3.out _
  have hx4 : Ext w (setL w3 y 0 (dcells (hv A3))) := below_setL (B := w.heap.size) (g := y) hzy (dcells (hv A3)) 0 (HX02.out.trans hx3)
  have HB4 := Lib.hid hB4
  have HV4 := Lib.hid hus4.view
  have HX4 := Lib.hid hx4
  clear hB4 hus4 hx4 hus3 hx3
  have hWE : setL w3 y 0 (dcells (hv A3)) = setL w3 y 0 [Value.slice (A3 0).1 (A3 0).2.1 (A3 0).2.2.1, .slice (A3 0).2.2.2.1 (A3 0).2.2.2.2.1 (A3 0).2.2.2.2.2, Value.slice (A3 1).1 (A3 1).2.1 (A3 1).2.2.1, .slice (A3 1).2.2.2.1 (A3 1).2.2.2.2.1 (A3 1).2.2.2.2.2, Value.slice (A3 2).1 (A3 2).2.1 (A3 2).2.2.1, .slice (A3 2).2.2.2.1 (A3 2).2.2.2.2.1 (A3 2).2.2.2.2.2, Value.slice (A3 3).1 (A3 3).2.1 (A3 3).2.2.1, .slice (A3 3).2.2.2.1 (A3 3).2.2.2.2.1 (A3 3).2.2.2.2.2, Value.slice (A3 4).1 (A3 4).2.1 (A3 4).2.2.1, .slice (A3 4).2.2.2.1 (A3 4).2.2.2.2.1 (A3 4).2.2.2.2.2] := rfl
  rw [hWE] at HB4 HV4 HX4
  clear hWE HV2 HX02 HB3
  go_wp2_with fail
  rw [set10]
  clear c0 c1 c2 c3 c4 c5 c6 c7 c8 c9 g0 g1 g2 g3 g4 g5 g6 g7 g8 g9
  generalize setL w3 y 0 [Value.slice (A3 0).1 (A3 0).2.1 (A3 0).2.2.1, .slice (A3 0).2.2.2.1 (A3 0).2.2.2.2.1 (A3 0).2.2.2.2.2, Value.slice (A3 1).1 (A3 1).2.1 (A3 1).2.2.1, .slice (A3 1).2.2.2.1 (A3 1).2.2.2.2.1 (A3 1).2.2.2.2.2, Value.slice (A3 2).1 (A3 2).2.1 (A3 2).2.2.1, .slice (A3 2).2.2.2.1 (A3 2).2.2.2.2.1 (A3 2).2.2.2.2.2, Value.slice (A3 3).1 (A3 3).2.1 (A3 3).2.2.1, .slice (A3 3).2.2.2.1 (A3 3).2.2.2.2.1 (A3 3).2.2.2.2.2, Value.slice (A3 4).1 (A3 4).2.1 (A3 4).2.2.1, .slice (A3 4).2.2.2.1 (A3 4).2.2.2.2.1 (A3 4).2.2.2.2.2] = wc at *
  obtain ⟨c0, c1, c2, c3, c4, c5, c6, c7, c8, c9⟩ := HB4.out.facts10
  unfold hv at c0 c1 c2 c3 c4 c5 c6 c7 c8 c9
  dsimp only at c0 c1 c2 c3 c4 c5 c6 c7 c8 c9
  have h3 := H3.out (hv A3) wc HV4.out
  unfold dv dcells hv capS noV at h3
  dsimp only at h3
  have H3W := Lib.hid h3
  clear h3
  go_wp2_with fail
  refine H3W.out.mono ?_
  rintro e w5 ⟨rfl, hx5⟩
  have hx6 := hx5.trans (Ext.alloc w5 (.cells #[.slice none 0 0, .slice none 0 0, .slice none 0 0, .slice none 0 0, .slice none 0 0, .slice none 0 0, .slice none 0 0, .slice none 0 0, .slice none 0 0, .slice none 0 0] 28))
  have HB6 := Lib.hid (HB4.out.ext hx6)
  have HV6 := Lib.hid (HV4.out.ext hx6)
  have HX6 := Lib.hid (HX4.out.trans hx6)
  clear hx6 c0 c1 c2 c3 c4 c5 c6 c7 c8 c9 H3W hx5 HB4 HV4 HX4
  go_upto_region 4 with fail
  generalize w5.alloc (.cells #[.slice none 0 0, .slice none 0 0, .slice none 0 0, .slice none 0 0, .slice none 0 0, .slice none 0 0, .slice none 0 0, .slice none 0 0, .slice none 0 0, .slice none 0 0] 28) = wd at *
  obtain ⟨c0, c1, c2, c3, c4, c5, c6, c7, c8, c9⟩ := HB6.out.facts10
  unfold hv at c0 c1 c2 c3 c4 c5 c6 c7 c8 c9
  dsimp only at c0 c1 c2 c3 c4 c5 c6 c7 c8 c9
  have h4 := H4.out (hv A3) wd HV6.out
  unfold dv dcells hv at h4
  dsimp only at h4
  have H4W := Lib.hid h4
  clear h4
  go_wp2_with fail
  refine H4W.out.mono ?_
  rintro e w7 ⟨u7, rfl, hu7, hx7⟩
  have hi7 := Own.ints hu7
  have hcv := run_conv_str hi7
  obtain ⟨a7, n7, rfl⟩ := own_sl hu7
  rw [show strOfNums wakesL = ⟨#[2, 3, 97, 110, 110, 3, 98, 111, 98, 0, 0, 0, 0]⟩ from rfl] at hcv
  have hlw : wakesL.length = 13 := rfl
  rw [hlw] at hcv hi7
  rw [hlw]
  have h5 := H5.out _ w7 hi7
  unfold dv dcells hv at h5
  dsimp only at h5
  have H5W := Lib.hid h5
  have HB7 := Lib.hid (HB6.out.ext hx7)
  have HV7 := Lib.hid (HV6.out.ext hx7)
  have HX7 := Lib.hid (HX6.out.trans hx7)
  have hcvE : ∀ w', Ext w7 w' → (convert 51 9 (.slice a7 13 n7)).run Try.prog w' = .ok (.string ⟨#[2, 3, 97, 110, 110, 3, 98, 111, 98, 0, 0, 0, 0]⟩) w' := fun w' hx => by
    have := run_conv_str (hi7.ext hx)
    rw [show strOfNums wakesL = ⟨#[2, 3, 97, 110, 110, 3, 98, 111, 98, 0, 0, 0, 0]⟩ from rfl] at this
    exact this
  have HCV := Lib.hid hcvE
  clear h5 hu7 hi7 hcv hx7 c0 c1 c2 c3 c4 c5 c6 c7 c8 c9 H4W hlw hcvE HB6 HV6 HX6
  go_wp2_with fail
  refine H5W.out.mono ?_
  rintro e w8 ⟨A8, D8, rfl, hus8, hD8, hx8⟩
  have hx9 := hx8.trans (Ext.alloc w8 (.cells #[Value.slice (A8 0).1 (A8 0).2.1 (A8 0).2.2.1, .slice (A8 0).2.2.2.1 (A8 0).2.2.2.2.1 (A8 0).2.2.2.2.2, Value.slice (A8 1).1 (A8 1).2.1 (A8 1).2.2.1, .slice (A8 1).2.2.2.1 (A8 1).2.2.2.2.1 (A8 1).2.2.2.2.2, Value.slice (A8 2).1 (A8 2).2.1 (A8 2).2.2.1, .slice (A8 2).2.2.2.1 (A8 2).2.2.2.2.1 (A8 2).2.2.2.2.2, Value.slice (A8 3).1 (A8 3).2.1 (A8 3).2.2.1, .slice (A8 3).2.2.2.1 (A8 3).2.2.2.2.1 (A8 3).2.2.2.2.2, Value.slice (A8 4).1 (A8 4).2.1 (A8 4).2.2.1, .slice (A8 4).2.2.2.1 (A8 4).2.2.2.2.1 (A8 4).2.2.2.2.2] 28))
  have HB9 := Lib.hid (HB7.out.ext hx9)
  have HV9 := Lib.hid (HV7.out.ext hx9)
  have HX9 := Lib.hid (HX7.out.trans hx9)
  have HC9 := Lib.hid (fun w' (h : Ext (w8.alloc (.cells #[Value.slice (A8 0).1 (A8 0).2.1 (A8 0).2.2.1, .slice (A8 0).2.2.2.1 (A8 0).2.2.2.2.1 (A8 0).2.2.2.2.2, Value.slice (A8 1).1 (A8 1).2.1 (A8 1).2.2.1, .slice (A8 1).2.2.2.1 (A8 1).2.2.2.2.1 (A8 1).2.2.2.2.2, Value.slice (A8 2).1 (A8 2).2.1 (A8 2).2.2.1, .slice (A8 2).2.2.2.1 (A8 2).2.2.2.2.1 (A8 2).2.2.2.2.2, Value.slice (A8 3).1 (A8 3).2.1 (A8 3).2.2.1, .slice (A8 3).2.2.2.1 (A8 3).2.2.2.2.1 (A8 3).2.2.2.2.2, Value.slice (A8 4).1 (A8 4).2.1 (A8 4).2.2.1, .slice (A8 4).2.2.2.1 (A8 4).2.2.2.2.1 (A8 4).2.2.2.2.2] 28)) w') => HCV.out w' (hx9.trans h))
  have HB8 : Hid (RowAt (w8.alloc (.cells #[Value.slice (A8 0).1 (A8 0).2.1 (A8 0).2.2.1, .slice (A8 0).2.2.2.1 (A8 0).2.2.2.2.1 (A8 0).2.2.2.2.2, Value.slice (A8 1).1 (A8 1).2.1 (A8 1).2.2.1, .slice (A8 1).2.2.2.1 (A8 1).2.2.2.2.1 (A8 1).2.2.2.2.2, Value.slice (A8 2).1 (A8 2).2.1 (A8 2).2.2.1, .slice (A8 2).2.2.2.1 (A8 2).2.2.2.2.1 (A8 2).2.2.2.2.2, Value.slice (A8 3).1 (A8 3).2.1 (A8 3).2.2.1, .slice (A8 3).2.2.2.1 (A8 3).2.2.2.2.1 (A8 3).2.2.2.2.2, Value.slice (A8 4).1 (A8 4).2.1 (A8 4).2.2.1, .slice (A8 4).2.2.2.1 (A8 4).2.2.2.2.1 (A8 4).2.2.2.2.2] 28)) w8.heap.size 28 (dcells (hv A8))) := Lib.hid (RowAt.new _ _ _)
  have HV8 := Lib.hid (hus8.view.ext (Ext.alloc w8 (.cells #[Value.slice (A8 0).1 (A8 0).2.1 (A8 0).2.2.1, .slice (A8 0).2.2.2.1 (A8 0).2.2.2.2.1 (A8 0).2.2.2.2.2, Value.slice (A8 1).1 (A8 1).2.1 (A8 1).2.2.1, .slice (A8 1).2.2.2.1 (A8 1).2.2.2.2.1 (A8 1).2.2.2.2.2, Value.slice (A8 2).1 (A8 2).2.1 (A8 2).2.2.1, .slice (A8 2).2.2.2.1 (A8 2).2.2.2.2.1 (A8 2).2.2.2.2.2, Value.slice (A8 3).1 (A8 3).2.1 (A8 3).2.2.1, .slice (A8 3).2.2.2.1 (A8 3).2.2.2.2.1 (A8 3).2.2.2.2.2, Value.slice (A8 4).1 (A8 4).2.1 (A8 4).2.2.1, .slice (A8 4).2.2.2.1 (A8 4).2.2.2.2.1 (A8 4).2.2.2.2.2] 28)))
  have HD8 := Lib.hid hD8
  obtain ⟨x, hxe⟩ : ∃ x, w8.heap.size = x := ⟨_, rfl⟩
  clear hx9 hx8 hus8 hD8 H5W HB7 HV7 HX7 HCV
  go_upto_region 6 with fail
  generalize w8.alloc (.cells #[Value.slice (A8 0).1 (A8 0).2.1 (A8 0).2.2.1, .slice (A8 0).2.2.2.1 (A8 0).2.2.2.2.1 (A8 0).2.2.2.2.2, Value.slice (A8 1).1 (A8 1).2.1 (A8 1).2.2.1, .slice (A8 1).2.2.2.1 (A8 1).2.2.2.2.1 (A8 1).2.2.2.2.2, Value.slice (A8 2).1 (A8 2).2.1 (A8 2).2.2.1, .slice (A8 2).2.2.2.1 (A8 2).2.2.2.2.1 (A8 2).2.2.2.2.2, Value.slice (A8 3).1 (A8 3).2.1 (A8 3).2.2.1, .slice (A8 3).2.2.2.1 (A8 3).2.2.2.2.1 (A8 3).2.2.2.2.2, Value.slice (A8 4).1 (A8 4).2.1 (A8 4).2.2.1, .slice (A8 4).2.2.2.1 (A8 4).2.2.2.2.1 (A8 4).2.2.2.2.2] 28) = we at *
  rw [hxe] at *
  clear hxe
  obtain ⟨c0, c1, c2, c3, c4, c5, c6, c7, c8, c9⟩ := HB9.out.facts10
  unfold hv at c0 c1 c2 c3 c4 c5 c6 c7 c8 c9
  dsimp only at c0 c1 c2 c3 c4 c5 c6 c7 c8 c9
  have h6 := H6.out (hv A3) we HV9.out
  unfold dv dcells hv bobS at h6
  dsimp only at h6
  have H6W := Lib.hid h6
  clear h6
  go_wp2_with fail
  refine H6W.out.mono ?_
  rintro e w10 ⟨rfl, hx10⟩
  clear c0 c1 c2 c3 c4 c5 c6 c7 c8 c9 H6W
  obtain ⟨c0, c1, c2, c3, c4, c5, c6, c7, c8, c9⟩ := (HB9.out.ext hx10).facts10
  obtain ⟨d0, d1, d2, d3, d4, d5, d6, d7, d8, d9⟩ := (HB8.out.ext hx10).facts10
  unfold hv at c0 c1 c2 c3 c4 c5 c6 c7 c8 c9 d0 d1 d2 d3 d4 d5 d6 d7 d8 d9
  dsimp only at c0 c1 c2 c3 c4 c5 c6 c7 c8 c9 d0 d1 d2 d3 d4 d5 d6 d7 d8 d9
  have hcv := HC9.out w10 hx10
  have h7 := H7.out (hv A8) (hv A3) D8 w10 (HV8.out.ext hx10) (HV9.out.ext hx10) HD8.out
  unfold dv dcells hv at h7
  dsimp only at h7
  have H7W := Lib.hid h7
  have HXF := Lib.hid (HX9.out.trans hx10)
  have hb1 : ((⟨#[98, 111, 98]⟩ : ByteArray).toList == (⟨#[98, 111, 98]⟩ : ByteArray).toList) = true := str_yes rfl
  have hb2 : ((⟨#[2, 3, 97, 110, 110, 3, 98, 111, 98, 0, 0, 0, 0]⟩ : ByteArray).toList == (⟨#[2, 3, 97, 110, 110, 3, 98, 111, 98, 0, 0, 0, 0]⟩ : ByteArray).toList) = true := str_yes rfl
  clear h7 hx10 HB9 HB8 HV8 HV9 HX9 HC9 HD8
  go_wp2_with fail
  refine H7W.out.mono ?_
  rintro e w11 ⟨rfl, hx11⟩
  go_wp2_with fail
  go_ret
  exact ⟨rfl, HXF.out.trans hx11⟩
end Go.Proofs.Ytogoejlbdbapoaa
