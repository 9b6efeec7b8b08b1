/- A dictionary without names. -/
import Derived.Test.YtogoejlbdbapoaaDicI
namespace Go.Proofs.Ytogoejlbdbapoaa
set_option maxRecDepth 100000
set_option maxHeartbeats 2000000
set_option linter.unusedSimpArgs false
open Go.RowKit Go.Shelf Go.Sort
attribute [local go_sem] Oper.semAt_some wide_fn wide_depth
set_option linter.unusedVariables false

def newD : Dic := fun _ => ([], List.replicate 8 0)
/-- What holds when k tables have been made: the row of tables at block g, all else above. -/
structure NeI (w : World) (D : Dic) (k : Nat) (ts : Nat → Value × Value) (W : World) : Prop where
  below : Ext w W
  out : RowAt W w.heap.size 28 (dcells noV)
  d : RowAt W (w.heap.size + 1) 28 (dcells ts)
  own : ∀ i, i < k → TabOwn (w.heap.size + 1 + 1) W (.agg #[(ts i).1, (ts i).2]) (D i).1 (D i).2
theorem NeI.next {w : World} {D : Dic} {k : Nat} {ts : Nat → Value × Value} {W wb : World} (h : NeI w D k ts W) (hk : k < 5) {v : Value} (hx : Ext W wb) (ht : TabOwn W.heap.size wb v (D k).1 (D k).2) :
    ∃ x y, v = .agg #[x, y] ∧ NeI w D (k + 1) (upd ts k (x, y)) ((wb.setCell ⟨w.heap.size + 1, k * 2, none⟩ x).setCell ⟨w.heap.size + 1, k * 2 + 1, none⟩ y) := by
  obtain ⟨a, n, c, b, m, d, rfl, h1, h2⟩ := ht
  have hz := h.d.lt
  refine ⟨_, _, rfl, ?_, ?_, row_upd (h.d.ext hx) hk _ _, ?_⟩
  · exact ((h.below.trans hx).setCell (p := ⟨w.heap.size + 1, k * 2, none⟩) (Nat.le_succ _) _).setCell (p := ⟨w.heap.size + 1, k * 2 + 1, none⟩) (Nat.le_succ _) _
  · exact (RowAt.set_ne (RowAt.set_ne (h.out.ext hx) (by omega)) (by omega))
  · intro i hi
    by_cases e : i = k
    · subst e
      rw [upd_at]
      refine (TabOwn.setL (g := w.heap.size + 1) ?_ (by omega) [_] _).setL (by omega) [_] _
      exact ⟨_, _, _, _, _, _, rfl, own_base h1 (by omega), own_base h2 (by omega)⟩
    · rw [upd_ne _ _ e]
      exact (((h.own i (by omega)).ext hx).setL (by omega) [_] _).setL (by omega) [_] _
set_option maxHeartbeats 1000000 in
theorem dnew_any (w : World) : Calls Try.prog 19 #[] w fun e w' => ∃ us, e = .returned (dv us) ∧ DicOwn w.heap.size w' us newD ∧ Ext w w' := by
  have hI0 : NeI w newD 0 noV ((w.alloc (.cells (dcells noV).toArray 28)).alloc (.cells (dcells noV).toArray 28)) := ⟨(Ext.alloc _ _).trans (Ext.alloc _ _), (RowAt.new w _ (dcells noV)).ext (Ext.alloc _ _), row_at (by simp), fun i h => by omega⟩
  have hdn : (dcells noV).toArray = #[.slice none 0 0, .slice none 0 0, .slice none 0 0, .slice none 0 0, .slice none 0 0, .slice none 0 0, .slice none 0 0, .slice none 0 0, .slice none 0 0, .slice none 0 0] := rfl
  rw [hdn] at hI0
  have HI0 := Lib.hid hI0
  clear hI0 hdn
  go_enter Try.func19, Try.ntmps19
  go_upto_region 2 with fail
  replace HI0 := HI0.out
  generalize ((w.alloc (.cells #[.slice none 0 0, .slice none 0 0, .slice none 0 0, .slice none 0 0, .slice none 0 0, .slice none 0 0, .slice none 0 0, .slice none 0 0, .slice none 0 0, .slice none 0 0] 28)).alloc (.cells #[.slice none 0 0, .slice none 0 0, .slice none 0 0, .slice none 0 0, .slice none 0 0, .slice none 0 0, .slice none 0 0, .slice none 0 0, .slice none 0 0, .slice none 0 0] 28)) = w1 at *
  go_wp2_with fail
  go_loopg [3] 5 (fun g i wr => ∃ (k : Nat) (ts : Nat → Value × Value), k ≤ 5 ∧ g = 5 - k ∧ i = .int .i64 k ∧ NeI w newD k ts wr)
  case atStart => exact ⟨0, _, Nat.zero_le _, rfl, rfl, HI0⟩
  case round =>
    obtain ⟨k, ts, hk, hg, rfl, hI⟩ := hrel
    have HI := Lib.hid hI
    have Hg := Lib.hid hg
    clear hI hg HI0
    by_cases hlt : k < 5
    · go_wp2_with fail
      refine (new_any _).mono ?_
      rintro e w2 ⟨v, rfl, ht, hx2⟩
      obtain ⟨x, y, rfl, hN⟩ := HI.out.next hlt hx2 ht
      have hd := HI.out.d.ext hx2
      have r0 := hd.cell (i := k * 2) (dcells_at ts hlt).1
      have r1 := hd.cell (i := k * 2 + 1) (dcells_at ts hlt).2
      have f0 := hd.frozen (k * 2)
      have f1 := hd.frozen (k * 2 + 1)
      obtain ⟨a, n, c, b, m, d, e, _, _⟩ := ht
      cases e
      have HN := Lib.hid hN
      have hki : (k : Int) < 5 := by omega
      clear hN hd
      go_wp2_with fail
      go_roundg (5 - (k + 1))
      case measure => have := Hg.out; omega
      case rel => exact ⟨k + 1, _, by omega, rfl, by go_num, HN.out⟩
    · obtain rfl : k = 5 := by omega
      obtain ⟨A, hA1, hA2⟩ := heads (vs := ts) (fun i hi => by obtain ⟨a, c, b, d, e, _⟩ := (HI.out.own i hi).pair; exact ⟨_, _, _, _, _, _, e⟩)
      have hd := HI.out.d
      rw [hA2] at hd
      obtain ⟨c0, c1, c2, c3, c4, c5, c6, c7, c8, c9⟩ := hd.facts10
      obtain ⟨d0, d1, d2, d3, d4, d5, d6, d7, d8, d9⟩ := RowAt.facts10 (vs := noV) HI.out.out
      obtain ⟨g0, g1, g2, g3, g4, g5, g6, g7, g8, g9⟩ := HI.out.out.facts10f
      simp only [noV] at d0 d1 d2 d3 d4 d5 d6 d7 d8 d9
      simp only [hv] at c0 c1 c2 c3 c4 c5 c6 c7 c8 c9
      clear hd
      go_wp2
      rw [set10]
      clear d0 d1 d2 d3 d4 d5 d6 d7 d8 d9 c0 c1 c2 c3 c4 c5 c6 c7 c8 c9 g0 g1 g2 g3 g4 g5 g6 g7 g8 g9
      have hro := row_set10 (hv A) HI.out.out
      have hfin : DicOwn w.heap.size (setL wr w.heap.size 0 (dcells (hv A))) (hv A) newD := fun i hi => by rw [← hA1 i hi]; exact (((HI.out.own i hi).setL (by omega) _ 0).base (by omega))
      have hbf := below_setL (Nat.le_refl w.heap.size) (dcells (hv A)) 0 HI.out.below
      obtain ⟨q0, q1, q2, q3, q4, q5, q6, q7, q8, q9⟩ := RowAt.facts10 hro
      refine bodyPost_ret (v := dv (hv A)) ?_ rfl ⟨_, rfl, hfin, hbf⟩
      unfold dv dcells hv at *
      simp [results, Try.results19, go_sem, q0, q1, q2, q3, q4, q5, q6, q7, q8, q9]
end Go.Proofs.Ytogoejlbdbapoaa
