/- Contracts in the laws' own words. -/
import Derived.Test.YtogoejlbdbapoaaDicWk
import Derived.Test.YtogoejlbdbapoaaDicZ
namespace Go.Proofs.Ytogoejlbdbapoaa
set_option maxRecDepth 100000
set_option maxHeartbeats 2000000
set_option linter.unusedSimpArgs false
open Go.RowKit Go.Shelf Go.Sort
attribute [local go_sem] Oper.semAt_some wide_fn wide_depth
set_option linter.unusedVariables false

theorem cutD_s {D : Dic} (h : ∀ i, i < 5 → ∀ s ∈ (D i).1, s.size ≤ 9223372036854775807) : DicS (cutD D) := fun i hi => ⟨by unfold cutD; simp; omega, by unfold cutD; simp; omega, fun s hs => h i hi s (List.mem_of_mem_take hs)⟩
theorem lawOwn_hv (A : Heads) (D : Dic) (w : World) (hV : DicV w (hv A) D) :
    Calls Try.prog 11 #[dv (hv A)] w fun e w' => ∃ B : Heads, e = .returned (dv (hv B)) ∧ DicOwn w.heap.size w' (hv B) (cutD D) ∧ Ext w w' :=
  (lawOwn_any (hv A) D w hV).mono fun e w' ⟨us, he, hu, hx⟩ => by
    obtain ⟨B, hA1, hA2⟩ := heads (vs := us) (fun i hi => by obtain ⟨a, c, b, d, e, _⟩ := (hu i hi).pair; exact ⟨_, _, _, _, _, _, e⟩)
    exact ⟨B, by rw [he, show dv us = dv (hv B) from by unfold dv; rw [hA2]], fun i hi => by rw [← hA1 i hi]; exact hu i hi, hx⟩
theorem dread_out (v : Value) (l : List Int) (p : Int) (w : World) (hv0 : Ints w .u8 v l) (hp : p < 0 ∨ (l.length : Int) < p) :
    Calls Try.prog 29 #[v, .int .i64 p] w fun e w' => e = .returned (.tuple #[dv noV, .int .i64 0, .int .i64 2]) ∧ Ext w w' := by
  obtain ⟨a, cap, rfl, hcap, hmax, _⟩ := hv0.open_
  have hbd : RowAt (w.alloc (.cells (dcells noV).toArray 28)) w.heap.size 28 (dcells noV) := RowAt.new w _ _
  have hx0 := Ext.alloc w (.cells (dcells noV).toArray 28)
  have hdn : (dcells noV).toArray = #[.slice none 0 0, .slice none 0 0, .slice none 0 0, .slice none 0 0, .slice none 0 0, .slice none 0 0, .slice none 0 0, .slice none 0 0, .slice none 0 0, .slice none 0 0] := rfl
  rw [hdn] at hbd hx0
  have HB := Lib.hid hbd
  have HX0 := Lib.hid hx0
  clear hbd hx0 hdn
  go_enter Try.func29, Try.ntmps29
  go_upto_region 1 with fail
  replace HB := HB.out
  replace HX0 := HX0.out
  generalize w.alloc (.cells #[.slice none 0 0, .slice none 0 0, .slice none 0 0, .slice none 0 0, .slice none 0 0, .slice none 0 0, .slice none 0 0, .slice none 0 0, .slice none 0 0, .slice none 0 0] 28) = w0 at *
  obtain ⟨d0, d1, d2, d3, d4, d5, d6, d7, d8, d9⟩ := RowAt.facts10 (vs := noV) HB
  obtain ⟨g0, g1, g2, g3, g4, g5, g6, g7, g8, g9⟩ := HB.facts10f
  simp only [noV] at d0 d1 d2 d3 d4 d5 d6 d7 d8 d9
  obtain ⟨q0, q1, q2, q3, q4, q5, q6, q7, q8, q9⟩ := RowAt.facts10 (row_set10 (vs := noV) noV HB)
  unfold dcells noV at q0 q1 q2 q3 q4 q5 q6 q7 q8 q9
  try dsimp only at q0 q1 q2 q3 q4 q5 q6 q7 q8 q9
  have HE : Hid (Ext w (setL w0 w.heap.size 0 (dcells noV))) := Lib.hid (below_setL (Nat.le_refl _) (dcells noV) 0 HX0)
  by_cases hp0 : p < 0
  · go_wp2_with fail
    rw [set10]
    exact bodyPost_ret (v := .tuple #[dv noV, .int .i64 0, .int .i64 2]) (by rw [dv_noV]; unfold dnoV; simp [results, Try.results29, go_sem, q0, q1, q2, q3, q4, q5, q6, q7, q8, q9]) rfl ⟨rfl, HE.out⟩
  · have hp1 : (l.length : Int) < p := by omega
    go_wp2_with fail
    rw [set10]
    exact bodyPost_ret (v := .tuple #[dv noV, .int .i64 0, .int .i64 2]) (by rw [dv_noV]; unfold dnoV; simp [results, Try.results29, go_sem, q0, q1, q2, q3, q4, q5, q6, q7, q8, q9]) rfl ⟨rfl, HE.out⟩
theorem dright_yes (vs : Nat → Value × Value) (D : Dic) (w : World) (hV : DicV w vs D) (hS : DicS D) (h : DicOK D) : Calls Try.prog 12 #[dv vs] w fun e w' => e = .returned (.bool true) ∧ Ext w w' :=
  (dright_any vs D w hV hS).mono fun e w' ⟨r, he, hr, hx⟩ => ⟨by rw [he, hr.2 h], hx⟩
theorem dright_no (vs : Nat → Value × Value) (D : Dic) (w : World) (hV : DicV w vs D) (hS : DicS D) (h : ¬ DicOK D) : Calls Try.prog 12 #[dv vs] w fun e w' => e = .returned (.bool false) ∧ Ext w w' :=
  (dright_any vs D w hV hS).mono fun e w' ⟨r, he, hr, hx⟩ => ⟨by rw [he]; cases r; rfl; exact absurd (hr.1 rfl) h, hx⟩
theorem of_hv (A : Heads) (w : World) : Calls Try.prog 16 #[dv (hv A)] w fun e w' => e = .returned (nv (ofV (hv A))) ∧ Ext w w' := of_any (hv A) (fun i _ => ⟨_, _, _, _, _, _, rfl⟩) w
theorem refRead_ok {v : Value} {l : List Int} {p q : Nat} {N : Nms} {w : World} (hl : Byt l) (hv0 : Ints w .u8 v l) (hp : p ≤ l.length) (hlen : l.length ≤ 10000000) (h : readTo l p 5 = some (N, q)) :
    Calls Try.prog 30 #[v, .int .i64 p] w fun e w' => ∃ A : Nat → Option Addr × Nat, e = .returned (.tuple #[nv (nsA A N), .int .i64 q, .bool true]) ∧ NamV w' (nsA A N) N ∧ Ext w w' :=
  (refRead_any v l p w hl hv0 hp hlen).mono fun e w' ⟨hx, hm⟩ => by
    rw [h] at hm
    obtain ⟨us, he, hu⟩ := hm
    obtain ⟨A, h1, h2⟩ := nheads hu
    exact ⟨A, by rw [he, show nv us = nv (nsA A N) from by unfold nv; rw [h2]; rfl], fun i hi => by have h := hu i hi; rw [h1 i hi] at h; exact h, hx⟩
theorem refRead_none {v : Value} {l : List Int} {p : Nat} {w : World} (hl : Byt l) (hv0 : Ints w .u8 v l) (hp : p ≤ l.length) (hlen : l.length ≤ 10000000) (h : readTo l p 5 = none) :
    Calls Try.prog 30 #[v, .int .i64 p] w fun e w' => e = .returned (.tuple #[nv noN, .int .i64 0, .bool false]) ∧ Ext w w' :=
  (refRead_any v l p w hl hv0 hp hlen).mono fun e w' ⟨hx, hm⟩ => by rw [h] at hm; exact ⟨hm, hx⟩
theorem refSame_yes (ns ms : Nat → Value) (M N : Nms) (w : World) (hM : NamV w ns M) (hN : NamV w ms N) (h : ∀ i, i < 5 → M i = N i) :
    Calls Try.prog 15 #[nv ns, nv ms] w fun e w' => e = .returned (.bool true) ∧ Ext w w' :=
  (refSameN ns ms M N w hM hN).mono fun e w' ⟨he, hx⟩ => ⟨by rw [he, sameN_iff.2 h], hx⟩
end Go.Proofs.Ytogoejlbdbapoaa
