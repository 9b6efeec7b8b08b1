/- own, cut, small, same; Equal. -/
import Derived.Test.YtkhmkgobmfhchaaTabH
import Derived.Deep.RegionWith
namespace Go.Proofs.Ytkhmkgobmfhchaa
open Go.RowKit Go.Shelf Go.Sort
set_option linter.unusedVariables false

theorem own_set_other {w : World} {B size n : Nat} {e : TypeId} {v : Value} {xs : List Value} (h : w.ownsRow B e size v n xs) {g : Nat} (hg : g < B) (i : Nat) (u : Value) : (w.setCell ⟨g, i, none⟩ u).ownsRow B e size v n xs := by
  refine ⟨h.1, ?_⟩
  rcases h.2 with hn | ⟨k, cap, cur, rfl, hbg, hgg, rest⟩
  · exact .inl hn
  · exact .inr ⟨k, cap, cur, rfl, hbg, ((grown_set w g i u).block k (Array.getElem?_eq_some_iff.1 hgg).1 (fun e => by cases e; omega)).trans hgg, rest⟩
theorem tabOwn_end {w0 w1 wa wb : World} {T : List ByteArray} {S : List Int} {ua ub : Option Addr} {ca cb g : Nat} {k : Nat} (ha : wa.ownsRow (w1.drewN k).heap.size 9 1 (.slice ua T.length ca) T.length (T.map Value.string)) (hxb : Ext wa wb)
    (hb : wb.ownsRow wa.heap.size 3 1 (.slice ub S.length cb) S.length (S.map (Value.int .i64))) (h0 : w0.heap.size ≤ w1.heap.size) (hg : g < w1.heap.size) (h1 : (w1.drewN k).heap.size ≤ wa.heap.size) (h2 : w0.heap.size ≤ g) (u v : Value) :
    TabOwn w0.heap.size ((wb.setCell ⟨g, 0, none⟩ u).setCell ⟨g, 1, none⟩ v) (.agg #[.slice ua T.length ca, .slice ub S.length cb]) T S :=
  ⟨_, _, _, _, _, _, rfl, own_base (own_set_other (own_set_other (own_ext ha hxb) hg 0 u) hg 1 v) h0, own_base (own_set_other (own_set_other hb (Nat.lt_of_lt_of_le hg h1) 0 u) (Nat.lt_of_lt_of_le hg h1) 1 v) (Nat.le_trans h0 h1)⟩

set_option maxRecDepth 100000 in
set_option maxHeartbeats 1000000 in
theorem own_any (T : List ByteArray) (S : List Int) (a : Option Addr) (n c : Nat) (b : Option Addr) (m d : Nat) (w : World) (hT : Strs w (.slice a n c) T) (hS : Ints w .i64 (.slice b m d) S)
    (hT2 : T.length ≤ 1048576) (hS2 : S.length ≤ 1048576) :
    Calls Try.prog 10 #[.agg #[.slice a n c, .slice b m d]] w fun e w' => ∃ v, e = .returned v ∧ TabOwn w.heap.size w' v T S ∧ Ext w w' := by
  go_enter Try.func10, Try.ntmps10
  go_upto_region 1 with fail
  have hx1 : Ext w ((w.alloc (.cells #[.slice a n c, .slice b m d] 25)).alloc (.cells #[.slice none 0 0, .slice none 0 0] 25)) := (Ext.alloc _ _).trans (Ext.alloc _ _)
  have b0 : ((w.alloc (.cells #[.slice a n c, .slice b m d] 25)).alloc (.cells #[.slice none 0 0, .slice none 0 0] 25)).cell? ⟨w.heap.size, 0, none⟩ = some (.slice a n c) := by simp [go_sem]
  have b1 : ((w.alloc (.cells #[.slice a n c, .slice b m d] 25)).alloc (.cells #[.slice none 0 0, .slice none 0 0] 25)).cell? ⟨w.heap.size, 1, none⟩ = some (.slice b m d) := by simp [go_sem]
  have hr : RowAt ((w.alloc (.cells #[.slice a n c, .slice b m d] 25)).alloc (.cells #[.slice none 0 0, .slice none 0 0] 25)) (w.heap.size + 1) 25 [.slice none 0 0, .slice none 0 0] := row_at (by simp)
  generalize ((w.alloc (.cells #[.slice a n c, .slice b m d] 25)).alloc (.cells #[.slice none 0 0, .slice none 0 0] 25)) = w1 at *
  have hB1 : Below w.heap.size w w1 := hx1
  go_region_with (first | (go_at_call 28; refine (cloneS _ T _ (Sl.below hT (below_drewN hB1 1) (Nat.le_refl _)) hT2).mono ?_; rintro e wa ⟨ua, ca, rfl, hoa, hxa⟩; have hrA := (hr.ext (Ext.drewN _ 1)).ext hxa; have hbA := below_step (below_drewN hB1 1) hxa; have c0A := ext_cell hxa (show (w1.drewN 1).cell? _ = _ from b0); have c1A := ext_cell hxa (show (w1.drewN 1).cell? _ = _ from b1)) | (go_at_call 29; refine (cloneI _ S _ (Sl.below hS hbA (Nat.le_refl _)) hS2).mono ?_; rintro e wb ⟨ub, cb, rfl, hob, hxb⟩; have hrB := hrA.ext hxb; have hbB := below_step hbA hxb; have r0 := hrB.cell (i := 0) rfl; have r1 := hrB.cell (i := 1) rfl; have f0 := hrB.frozen 0; have f1 := hrB.frozen 1))
  all_goals
    go_wp2_with fail
    exact bodyPost_ret (v := .agg #[.slice ua T.length ca, .slice ub S.length cb]) (by simp [results, Try.results10, go_sem, r0, r1]) rfl ⟨_, rfl, tabOwn_end hoa hxb hob hx1.size hr.lt hxa.size (by omega) _ _, below_set2 hbB (by omega) _ _⟩
end Go.Proofs.Ytkhmkgobmfhchaa
