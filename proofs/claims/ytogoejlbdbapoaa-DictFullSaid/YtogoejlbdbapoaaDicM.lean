/- The reference's dictionaries: Of, Same, Id. -/
import Derived.Test.YtogoejlbdbapoaaDicH
import Derived.Test.YtogoejlbdbapoaaTabX4
namespace Go.Proofs.Ytogoejlbdbapoaa
set_option maxRecDepth 100000
set_option maxHeartbeats 2000000
set_option linter.unusedSimpArgs false
open Go.RowKit Go.Shelf Go.Sort
attribute [local go_sem] Oper.semAt_some wide_fn wide_depth
set_option linter.unusedVariables false

set_option maxHeartbeats 400000 in
theorem refEq (v u : Value) (l m : List ByteArray) (w : World) (hv : Strs w  v l) (hu : Strs w  u m) :
    Calls Try.prog 44 #[v, u] w fun e w' => e = .returned (.bool (decide (l = m))) ∧ ∃ n, w' = w.drewN n := by
  obtain ⟨a, cap, rfl, hcap, hmax⟩ := Sl.shape hv
  obtain ⟨a', cap', rfl, hcap', hmax'⟩ := Sl.shape hu
  by_cases hlen : l.length = m.length
  · have hne : ((l.length : Int) != (m.length : Int)) = false := by simp [hlen]
    have Hlen := Lib.hid hlen
    clear hlen
    go_enter Try.func44, Try.ntmps44
    go_wp2
    go_loopg [13] l.length (fun g i wr => ∃ k n : Nat, k ≤ l.length ∧ g = l.length - k ∧ i = .int .i64 k ∧ wr = w.drewN n ∧ l.take k = m.take k)
    case atStart => exact ⟨0, 0, Nat.zero_le _, rfl, rfl, rfl, rfl⟩
    case round =>
      obtain ⟨k, n, hk, hg, rfl, rfl, heq⟩ := hrel
      have Heq := Lib.hid heq
      have Hg := Lib.hid hg
      clear heq hg
      by_cases hlt : k < l.length
      · have hltm : k < m.length := by have := Hlen.out; omega
        obtain ⟨b, o, rfl, hck⟩ := hv.atD hlt
        obtain ⟨b', o', rfl, hck'⟩ := hu.atD hltm
        have e1 := take_snoc l k hlt
        have e2 := take_snoc m k hltm
        have e3 : l.getD k ⟨#[]⟩ = l[k] := by simp [List.getD, hlt]
        have e4 : m.getD k ⟨#[]⟩ = m[k] := by simp [List.getD, hltm]
        rw [e3] at hck
        rw [e4] at hck'
        generalize l[k] = x at e1 hck
        generalize m[k] = y at e2 hck'
        have E1 := Lib.hid e1
        have E2 := Lib.hid e2
        clear e1 e2 e3 e4
        by_cases hx : x = y
        · have hb1 : (x.toList != y.toList) = false := by rw [hx]; simp
          have hb2 : (x.toList == y.toList) = true := by rw [hx]; simp
          have Hx := Lib.hid hx
          clear hx
          go_wp2
          go_quiet (fail)
          go_wp2
          go_roundg (l.length - (k + 1))
          case measure => have := Hg.out; omega
          case rel => exact ⟨k + 1, _, by omega, rfl, by go_num, rfl, by rw [E1.out, E2.out, Heq.out, Hx.out]⟩
        · have hb2 : (x.toList == y.toList) = false := by exact str_no hx
          have hb1 : (x.toList != y.toList) = true := by unfold bne; rw [hb2]; rfl
          have hno : l ≠ m := fun h => hx (by
            have a1 := E1.out
            have a2 := E2.out
            rw [h, a2] at a1
            have := List.append_cancel_left a1
            simpa using this.symm)
          have Hno := Lib.hid hno
          clear hx hno
          go_wp2
          go_quiet (fail)
          go_wp2
          go_ret
          exact ⟨ret_bool (decide_eq_false Hno.out).symm, _, World.drewN_drewN _ _ _⟩
      · have hl : l = m := by have h1 := Heq.out; have h2 := Hlen.out; rw [List.take_of_length_le (by omega), List.take_of_length_le (by omega)] at h1; exact h1
        have Hl := Lib.hid hl
        clear hl
        go_wp2
        go_ret
        exact ⟨ret_bool (decide_eq_true Hl.out).symm, _, rfl⟩
  · have hne : ((l.length : Int) != (m.length : Int)) = true := by simp; omega
    have hno : l ≠ m := fun h => hlen (by rw [h])
    have Hno := Lib.hid hno
    clear hno hlen
    go_enter Try.func44, Try.ntmps44
    go_wp2
    go_ret
    exact ⟨ret_bool (decide_eq_false Hno.out).symm, 0, rfl⟩
theorem refEq_yes (v u : Value) (l m : List ByteArray) (w : World) (hv : Strs w  v l) (hu : Strs w  u m) (h : l = m) :
    Calls Try.prog 44 #[v, u] w fun e w' => e = .returned (.bool true) ∧ ∃ n, w' = w.drewN n :=
  (refEq v u l m w hv hu).mono fun e w' ⟨he, hx⟩ => ⟨by rw [he, decide_eq_true h], hx⟩
theorem refEq_no (v u : Value) (l m : List ByteArray) (w : World) (hv : Strs w  v l) (hu : Strs w  u m) (h : l ≠ m) :
    Calls Try.prog 44 #[v, u] w fun e w' => e = .returned (.bool false) ∧ ∃ n, w' = w.drewN n :=
  (refEq v u l m w hv hu).mono fun e w' ⟨he, hx⟩ => ⟨by rw [he, decide_eq_false h], hx⟩
/-- The rows of names, by kinds. -/
def ncells (ns : Nat → Value) : List Value := [ns 0, ns 1, ns 2, ns 3, ns 4]
def nv (ns : Nat → Value) : Value := .agg (ncells ns).toArray
abbrev Nms := Nat → List ByteArray
def NamV (w : World) (ns : Nat → Value) (N : Nms) : Prop := ∀ i, i < 5 → Strs w (ns i) (N i)
def ofD (D : Dic) : Nms := fun i => (D i).1
def ofV (vs : Nat → Value × Value) : Nat → Value := fun i => (vs i).1
theorem NamV.ext {w w' : World} {ns : Nat → Value} {N : Nms} (h : NamV w ns N) (hx : Ext w w') : NamV w' ns N := fun i hi => (h i hi).ext hx
theorem DicV.names {w : World} {vs : Nat → Value × Value} {D : Dic} (h : DicV w vs D) : NamV w (ofV vs) (ofD D) := fun i hi => by
  obtain ⟨a, n, c, b, m, d, e, h1, _⟩ := h i hi
  unfold ofV ofD
  rw [e]; exact h1
def sameN (M N : Nms) : Bool := decide (M 0 = N 0) && (decide (M 1 = N 1) && (decide (M 2 = N 2) && (decide (M 3 = N 3) && decide (M 4 = N 4))))
theorem sameN_iff {M N : Nms} : sameN M N = true ↔ ∀ i, i < 5 → M i = N i := by
  unfold sameN
  simp only [Bool.and_eq_true, decide_eq_true_eq]
  constructor
  · rintro ⟨h0, h1, h2, h3, h4⟩ i hi
    have hc : i = 0 ∨ i = 1 ∨ i = 2 ∨ i = 3 ∨ i = 4 := by omega
    rcases hc with rfl | rfl | rfl | rfl | rfl <;> assumption
  · intro h; exact ⟨h 0 (by omega), h 1 (by omega), h 2 (by omega), h 3 (by omega), h 4 (by omega)⟩
theorem ncells_at (ns : Nat → Value) {k : Nat} (h : k < 5) : (ncells ns)[k]? = some (ns k) := by
  have hc : k = 0 ∨ k = 1 ∨ k = 2 ∨ k = 3 ∨ k = 4 := by omega
  rcases hc with rfl | rfl | rfl | rfl | rfl <;> rfl
theorem ncells_upd (ns : Nat → Value) {k : Nat} (h : k < 5) (x : Value) : ncells (upd ns k x) = (ncells ns).set k x := by
  have hc : k = 0 ∨ k = 1 ∨ k = 2 ∨ k = 3 ∨ k = 4 := by omega
  rcases hc with rfl | rfl | rfl | rfl | rfl <;> rfl
theorem nix_any (ns : Nat → Value) (k : Nat) (h : k < 5) (w : World) : (Instr.index 37 (.agg #[ns 0, ns 1, ns 2, ns 3, ns 4]) (.int .i64 k)).run Try.prog w = .ok (ns k) w := by
  have hc : k = 0 ∨ k = 1 ∨ k = 2 ∨ k = 3 ∨ k = 4 := by omega
  rcases hc with rfl | rfl | rfl | rfl | rfl <;> rfl
theorem RowAt.facts5 {w : World} {g : Nat} {t : TypeId} {ns : Nat → Value} (h : RowAt w g t (ncells ns)) : w.cell? ⟨g, 0, none⟩ = some (ns 0) ∧ w.cell? ⟨g, 1, none⟩ = some (ns 1) ∧ w.cell? ⟨g, 2, none⟩ = some (ns 2) ∧ w.cell? ⟨g, 3, none⟩ = some (ns 3) ∧ w.cell? ⟨g, 4, none⟩ = some (ns 4) :=
  ⟨h.cell (i := 0) rfl, h.cell (i := 1) rfl, h.cell (i := 2) rfl, h.cell (i := 3) rfl, h.cell (i := 4) rfl⟩
theorem RowAt.facts5f {w : World} {g : Nat} {t : TypeId} {xs : List Value} (h : RowAt w g t xs) : w.frozen? ⟨g, 0, none⟩ = false ∧ w.frozen? ⟨g, 1, none⟩ = false ∧ w.frozen? ⟨g, 2, none⟩ = false ∧ w.frozen? ⟨g, 3, none⟩ = false ∧ w.frozen? ⟨g, 4, none⟩ = false :=
  ⟨h.frozen 0, h.frozen 1, h.frozen 2, h.frozen 3, h.frozen 4⟩
theorem set5 (W : World) (g : Nat) (x0 x1 x2 x3 x4 : Value) : (((((W.setCell ⟨g, 0, none⟩ x0).setCell ⟨g, 1, none⟩ x1).setCell ⟨g, 2, none⟩ x2).setCell ⟨g, 3, none⟩ x3).setCell ⟨g, 4, none⟩ x4) = setL W g 0 [x0, x1, x2, x3, x4] := rfl
theorem row_set5 {g : Nat} {t : TypeId} {ns : Nat → Value} {W : World} (ms : Nat → Value) (h : RowAt W g t (ncells ns)) : RowAt (setL W g 0 (ncells ms)) g t (ncells ms) := row_setL (ncells ms) [] (ncells ns) h rfl
def noN : Nat → Value := fun _ => .slice none 0 0
/-- What holds when k rows have been taken. -/
structure OfI (w : World) (vs : Nat → Value × Value) (k : Nat) (ns : Nat → Value) (W : World) : Prop where
  ext : Ext w W
  out : RowAt W (w.heap.size + 1) 37 (ncells noN)
  d : RowAt W (w.heap.size + 1 + 1) 37 (ncells ns)
  is_ : ∀ i, i < k → ns i = ofV vs i
theorem OfI.grow {w : World} {vs : Nat → Value × Value} {k : Nat} {ns : Nat → Value} {W W' : World} (h : OfI w vs k ns W) (hx : Ext W W') : OfI w vs k ns W' := ⟨h.ext.trans hx, h.out.ext hx, h.d.ext hx, h.is_⟩
theorem OfI.next {w : World} {vs : Nat → Value × Value} {k : Nat} {ns : Nat → Value} {W : World} (h : OfI w vs k ns W) (hk : k < 5) : OfI w vs (k + 1) (upd ns k (ofV vs k)) (W.setCell ⟨w.heap.size + 1 + 1, k, none⟩ (ofV vs k)) := by
  refine ⟨h.ext.setCell (p := ⟨w.heap.size + 1 + 1, k, none⟩) (by show w.heap.size ≤ w.heap.size + 1 + 1; omega) _, RowAt.set_ne h.out (by omega), ?_, fun i hi => ?_⟩
  · rw [ncells_upd ns hk]; exact h.d.set k _
  · by_cases e : i = k
    · subst e; rw [upd_at]
    · rw [upd_ne _ _ e]; exact h.is_ i (by omega)
theorem of_any (vs : Nat → Value × Value) (hsh : ∀ i, i < 5 → ∃ a n c b m d, vs i = (.slice a n c, .slice b m d)) (w : World) :
    Calls Try.prog 16 #[dv vs] w fun e w' => e = .returned (nv (ofV vs)) ∧ Ext w w' := by
  have hI0 : OfI w vs 0 noN (((w.alloc (.cells (dcells vs).toArray 28)).alloc (.cells (ncells noN).toArray 37)).alloc (.cells (ncells noN).toArray 37)) :=
    ⟨((Ext.alloc _ _).trans (Ext.alloc _ _)).trans (Ext.alloc _ _), (row_at (xs := ncells noN) (by simp)).ext (Ext.alloc _ _), row_at (by simp), fun i h => by omega⟩
  have hd0 : RowAt (((w.alloc (.cells (dcells vs).toArray 28)).alloc (.cells (ncells noN).toArray 37)).alloc (.cells (ncells noN).toArray 37)) w.heap.size 28 (dcells vs) := ((RowAt.new w _ (dcells vs)).ext (Ext.alloc _ _)).ext (Ext.alloc _ _)
  have hdc : (dcells vs).toArray = #[(vs 0).1, (vs 0).2, (vs 1).1, (vs 1).2, (vs 2).1, (vs 2).2, (vs 3).1, (vs 3).2, (vs 4).1, (vs 4).2] := rfl
  have hdn : (ncells noN).toArray = #[.slice none 0 0, .slice none 0 0, .slice none 0 0, .slice none 0 0, .slice none 0 0] := rfl
  have HIX := Lib.hid (ix_any vs)
  have HSH := Lib.hid hsh
  unfold dv
  rw [hdc]
  simp only [hdc, hdn] at hI0 hd0
  clear hsh hdc hdn
  have HI0 := Lib.hid hI0
  have HD0 := Lib.hid hd0
  clear hI0 hd0
  go_enter Try.func16, Try.ntmps16
  go_upto_region 2 with fail
  replace HI0 := HI0.out
  replace HD0 := HD0.out
  generalize ((w.alloc (.cells #[(vs 0).1, (vs 0).2, (vs 1).1, (vs 1).2, (vs 2).1, (vs 2).2, (vs 3).1, (vs 3).2, (vs 4).1, (vs 4).2] 28)).alloc (.cells #[.slice none 0 0, .slice none 0 0, .slice none 0 0, .slice none 0 0, .slice none 0 0] 37)).alloc (.cells #[.slice none 0 0, .slice none 0 0, .slice none 0 0, .slice none 0 0, .slice none 0 0] 37) = w1 at *
  obtain ⟨c0, c1, c2, c3, c4, c5, c6, c7, c8, c9⟩ := HD0.facts10
  go_wp2_with fail
  clear c0 c1 c2 c3 c4 c5 c6 c7 c8 c9
  go_loopg [8] 5 (fun g i wr => ∃ (k : Nat) (ns : Nat → Value), k ≤ 5 ∧ g = 5 - k ∧ i = .int .i64 k ∧ OfI w vs k ns wr)
  case atStart => exact ⟨0, _, Nat.zero_le _, rfl, rfl, HI0⟩
  case round =>
    obtain ⟨k, ns, hk, hg, rfl, hI⟩ := hrel
    have HI := Lib.hid hI
    have Hg := Lib.hid hg
    clear hI hg HI0 HD0
    by_cases hlt : k < 5
    · obtain ⟨a, n, c, b, m, d, hv⟩ := HSH.out k hlt
      have hix := HIX.out k hlt
      rw [hv] at hix
      dsimp only at hix
      have hov : Hid (ofV vs k = .slice a n c) := Lib.hid (by unfold ofV; rw [hv])
      have hN := (HI.out.grow (Ext.alloc wr (.cells #[.slice a n c, .slice b m d] 25))).next hlt
      rw [hov.out] at hN
      have hd := HI.out.d.ext (Ext.alloc wr (.cells #[.slice a n c, .slice b m d] 25))
      have r0 := hd.cell (i := k) (ncells_at ns hlt)
      have f0 := hd.frozen k
      have HN := Lib.hid hN
      have hki : (k : Int) < 5 := by omega
      clear hN hd hv
      go_wp2_with fail
      go_roundg (5 - (k + 1))
      case measure => have := Hg.out; omega
      case rel => exact ⟨k + 1, _, by omega, rfl, by go_num, HN.out⟩
    · obtain rfl : k = 5 := by omega
      obtain ⟨c0, c1, c2, c3, c4⟩ := HI.out.d.facts5
      obtain ⟨d0, d1, d2, d3, d4⟩ := RowAt.facts5 (ns := noN) HI.out.out
      obtain ⟨g0, g1, g2, g3, g4⟩ := HI.out.out.facts5f
      simp only [noN] at d0 d1 d2 d3 d4
      obtain ⟨A, hA1, hA2⟩ := heads HSH.out
      have HA : Hid (∀ i, i < 5 → ofV vs i = (hv A i).1) := Lib.hid (fun i hi => by unfold ofV; rw [hA1 i hi])
      have HNV : Hid (nv (ofV vs) = nv (fun i => (hv A i).1)) := Lib.hid (by unfold nv ncells; rw [HA.out 0 (by omega), HA.out 1 (by omega), HA.out 2 (by omega), HA.out 3 (by omega), HA.out 4 (by omega)])
      clear hA1 hA2
      rw [HI.out.is_ 0 (by omega)] at c0
      rw [HI.out.is_ 1 (by omega)] at c1
      rw [HI.out.is_ 2 (by omega)] at c2
      rw [HI.out.is_ 3 (by omega)] at c3
      rw [HI.out.is_ 4 (by omega)] at c4
      rw [HA.out 0 (by omega)] at c0
      rw [HA.out 1 (by omega)] at c1
      rw [HA.out 2 (by omega)] at c2
      rw [HA.out 3 (by omega)] at c3
      rw [HA.out 4 (by omega)] at c4
      unfold hv at *
      dsimp only at c0 c1 c2 c3 c4
      go_wp2
      rw [set5]
      clear d0 d1 d2 d3 d4 c0 c1 c2 c3 c4 g0 g1 g2 g3 g4
      have hro := row_set5 (fun i => (hv A i).1) HI.out.out
      obtain ⟨q0, q1, q2, q3, q4⟩ := RowAt.facts5 hro
      refine bodyPost_ret (v := nv (fun i => (hv A i).1)) ?_ rfl ⟨by rw [HNV.out]; rfl, below_setL (Nat.le_succ _) (ncells (fun i => (hv A i).1)) 0 HI.out.ext⟩
      unfold hv at *
      unfold nv ncells at *
      simp [results, Try.results16, go_sem, q0, q1, q2, q3, q4]
theorem sameN_take {M N : Nms} {k : Nat} (h : ∀ i, i < 5 → i < k → M i = N i) (hk : 5 ≤ k) : sameN M N = true := sameN_iff.2 fun i hi => h i hi (by omega)
theorem sameN_not {M N : Nms} {k : Nat} (hk : k < 5) (h : M k ≠ N k) : sameN M N = false := by
  cases hb : sameN M N with
  | false => rfl
  | true => exact absurd (sameN_iff.1 hb k hk) h
theorem refSameN (ns ms : Nat → Value) (M N : Nms) (w : World) (hM : NamV w ns M) (hN : NamV w ms N) :
    Calls Try.prog 15 #[nv ns, nv ms] w fun e w' => e = .returned (.bool (sameN M N)) ∧ Ext w w' := by
  have hd0 : RowAt ((w.alloc (.cells (ncells ns).toArray 37)).alloc (.cells (ncells ms).toArray 37)) w.heap.size 37 (ncells ns) := (RowAt.new w _ (ncells ns)).ext (Ext.alloc _ _)
  have hd1 : RowAt ((w.alloc (.cells (ncells ns).toArray 37)).alloc (.cells (ncells ms).toArray 37)) (w.heap.size + 1) 37 (ncells ms) := row_at (by simp)
  have hx1 : Ext w ((w.alloc (.cells (ncells ns).toArray 37)).alloc (.cells (ncells ms).toArray 37)) := (Ext.alloc _ _).trans (Ext.alloc _ _)
  have hdc : ∀ ns : Nat → Value, (ncells ns).toArray = #[ns 0, ns 1, ns 2, ns 3, ns 4] := fun _ => rfl
  have HIX := Lib.hid (nix_any ns)
  unfold nv
  simp only [hdc] at hd0 hd1 hx1 ⊢
  have HD0 := Lib.hid hd0
  have HD1 := Lib.hid hd1
  have HX1 := Lib.hid hx1
  have HM := Lib.hid hM
  have HN := Lib.hid hN
  clear hd0 hd1 hx1 hdc hM hN
  go_enter Try.func15, Try.ntmps15
  go_upto_region 1 with fail
  replace HD0 := HD0.out
  replace HD1 := HD1.out
  replace HX1 := HX1.out
  generalize (w.alloc (.cells #[ns 0, ns 1, ns 2, ns 3, ns 4] 37)).alloc (.cells #[ms 0, ms 1, ms 2, ms 3, ms 4] 37) = w1 at *
  obtain ⟨c0, c1, c2, c3, c4⟩ := HD0.facts5
  go_wp2_with fail
  clear c0 c1 c2 c3 c4
  go_loopg [8] 5 (fun g i wr => ∃ (k : Nat), k ≤ 5 ∧ g = 5 - k ∧ i = .int .i64 k ∧ Ext w1 wr ∧ ∀ j, j < 5 → j < k → M j = N j)
  case atStart => exact ⟨0, Nat.zero_le _, rfl, rfl, Ext.refl _, fun j _ h => by omega⟩
  case round =>
    obtain ⟨k, hk, hg, rfl, hxr, hall⟩ := hrel
    have Hall := Lib.hid hall
    have Hg := Lib.hid hg
    clear hg hall HD0
    by_cases hlt : k < 5
    · have hix := HIX.out k hlt
      have r0 := (HD1.ext hxr).cell (i := k) (ncells_at ms hlt)
      have h1 := HM.out k hlt
      have h2 := HN.out k hlt
      have hq := refEq _ _ _ _ wr (h1.ext (HX1.trans hxr)) (h2.ext (HX1.trans hxr))
      obtain ⟨a, c, e1, _, _⟩ := Sl.shape h1
      obtain ⟨a', c', e2, _, _⟩ := Sl.shape h2
      rw [e1] at hix hq
      rw [e2] at r0 hq
      have hki : (k : Int) < 5 := by omega
      have HQ := Lib.hid hq
      clear h1 h2 e1 e2 hq
      by_cases he : M k = N k
      · have hq := HQ.out
        rw [decide_eq_true he] at hq
        have He := Lib.hid he
        clear HQ he
        go_wp2_with fail
        refine hq.mono ?_
        rintro e w2 ⟨rfl, n2, rfl⟩
        go_wp2_with fail
        go_roundg (5 - (k + 1))
        case measure => have := Hg.out; omega
        case rel => exact ⟨k + 1, by omega, rfl, by go_num, hxr.trans (Ext.drewN _ _), fun j hj h => by
          by_cases e : j = k
          · subst e; exact He.out
          · exact Hall.out j hj (by omega)⟩
      · have hq := HQ.out
        rw [decide_eq_false he] at hq
        have He := Lib.hid (sameN_not hlt he)
        clear HQ he
        go_wp2_with fail
        refine hq.mono ?_
        rintro e w2 ⟨rfl, n2, rfl⟩
        go_wp2_with fail
        go_ret
        exact ⟨ret_bool He.out.symm, (HX1.trans hxr).trans (Ext.drewN _ _)⟩
    · have hf := sameN_take (k := k) Hall.out (by omega)
      have HF := Lib.hid hf
      clear hf
      go_wp2_with fail
      go_ret
      exact ⟨ret_bool HF.out.symm, HX1.trans hxr⟩
/-- A name's id by the reference. -/
def idN (N : Nms) (kind : Int) (s : ByteArray) : Int := if 0 ≤ kind ∧ kind < 5 then findF (N kind.toNat) s else -1
theorem refId_any (ns : Nat → Value) (N : Nms) (kind : Int) (s : ByteArray) (w : World) (hN : NamV w ns N) :
    Calls Try.prog 34 #[nv ns, .int .i64 kind, .string s] w fun e w' => e = .returned (.int .i64 (idN N kind s)) ∧ Ext w w' := by
  have hd0 : RowAt (w.alloc (.cells (ncells ns).toArray 37)) w.heap.size 37 (ncells ns) := RowAt.new w _ (ncells ns)
  have hdc : ∀ ns : Nat → Value, (ncells ns).toArray = #[ns 0, ns 1, ns 2, ns 3, ns 4] := fun _ => rfl
  unfold nv
  simp only [hdc] at hd0 ⊢
  have HN := Lib.hid hN
  have HD0 := Lib.hid hd0
  clear hd0 hdc hN
  by_cases hk : 0 ≤ kind ∧ kind < 5
  · obtain ⟨k, rfl⟩ := Int.eq_ofNat_of_zero_le hk.1
    have hk5 : k < 5 := by omega
    have hr : Hid (idN N (k : Int) s = findF (N k) s) := Lib.hid (by unfold idN; rw [if_pos hk]; rfl)
    have r0 := HD0.out.cell (i := k) (ncells_at ns hk5)
    have h1 := HN.out k hk5
    have hf := refFind_any (N k) s (ns k) _ (h1.ext (Ext.alloc w (.cells #[ns 0, ns 1, ns 2, ns 3, ns 4] 37)))
    obtain ⟨a, c, e1, _, _⟩ := Sl.shape h1
    rw [e1] at r0 hf
    have HF := Lib.hid hf
    have hk2 : (k : Int) < 5 := by omega
    clear hf h1 e1 hk
    go_enter Try.func34, Try.ntmps34
    go_wp2_with fail
    refine HF.out.mono ?_
    rintro e w2 ⟨rfl, rfl⟩
    go_wp2_with fail
    go_ret
    exact ⟨ret_int hr.out.symm, Ext.alloc _ _⟩
  · have hr : Hid (idN N kind s = -1) := Lib.hid (by unfold idN; rw [if_neg hk])
    have hk' : kind < 0 ∨ 4 < kind := by omega
    clear hk
    rcases hk' with h | h
    all_goals
      go_enter Try.func34, Try.ntmps34
      go_wp2_with fail
      go_ret
      exact ⟨ret_int hr.out.symm, Ext.alloc _ _⟩
end Go.Proofs.Ytogoejlbdbapoaa
