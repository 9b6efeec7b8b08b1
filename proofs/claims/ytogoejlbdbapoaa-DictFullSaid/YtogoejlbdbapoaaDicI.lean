/- A dictionary in memory of its own. -/
import Derived.Test.YtogoejlbdbapoaaDicH
import Derived.Test.YtogoejlbdbapoaaGrow
namespace Go.Proofs.Ytogoejlbdbapoaa
set_option maxRecDepth 100000
set_option maxHeartbeats 2000000
set_option linter.unusedSimpArgs false
open Go.RowKit Go.Shelf Go.Sort
attribute [local go_sem] Oper.semAt_some wide_fn wide_depth
set_option linter.unusedVariables false

theorem tab_mark {B : Nat} {W : World} {D : Nat} {v : Value} {T : List ByteArray} {S : List Int} (h : TabOwn B W v T S) (hD : W.heap[D]? = some (.deferred (some []))) : TabOwn B (W.putObj D (.deferred none)) v T S := by
  obtain ⟨a, n, c, b, m, d, rfl, h1, h2⟩ := h
  exact ⟨a, n, c, b, m, d, rfl, own_mark h1 hD, own_mark h2 hD⟩
/-- What holds when k tables have been copied. -/
structure OwI (w : World) (vs : Nat → Value × Value) (D : Dic) (k : Nat) (ts : Nat → Value × Value) (W : World) : Prop where
  below : Below w.heap.size w W
  arg : RowAt W (w.heap.size + 1 + 1) 28 (dcells vs)
  out : RowAt W (w.heap.size + 1) 28 (dcells noV)
  d : RowAt W w.heap.size 28 (dcells ts)
  own : ∀ i, i < k → TabOwn (w.heap.size + 1 + 1 + 1) W (.agg #[(ts i).1, (ts i).2]) (D i).1 (D i).2
theorem Stab.tabOwn (B b : Nat) (v : Value) (T : List ByteArray) (S : List Int) : Stab B (fun W => TabOwn b W v T S) := fun W W' row h hg hr => by
  obtain ⟨a, n, c, b', m, d, rfl, h1, h2⟩ := h
  exact ⟨a, n, c, b', m, d, rfl, Stab.own B _ _ _ _ _ _ W W' row h1 hg hr, Stab.own B _ _ _ _ _ _ W W' row h2 hg hr⟩
theorem OwI.stab (w : World) (vs : Nat → Value × Value) (D : Dic) (k : Nat) (ts : Nat → Value × Value) (B : Nat) (hB : w.heap.size ≤ B) : Stab B (OwI w vs D k ts) := fun W W' row h hg hr =>
  ⟨Stab.belowW w B hB W W' row h.below hg hr, Stab.row _ _ _ _ W W' row h.arg hg hr, Stab.row _ _ _ _ W W' row h.out hg hr, Stab.row _ _ _ _ W W' row h.d hg hr, fun i hi => Stab.tabOwn _ _ _ _ _ W W' row (h.own i hi) hg hr⟩
theorem OwI.ext {w : World} {vs : Nat → Value × Value} {D : Dic} {k : Nat} {ts : Nat → Value × Value} {W W' : World} (h : OwI w vs D k ts W) (hx : Ext W W') : OwI w vs D k ts W' :=
  ⟨Below.ext h.below hx h.below.size, h.arg.ext hx, h.out.ext hx, h.d.ext hx, fun i hi => (h.own i hi).ext hx⟩
theorem OwI.next {w : World} {vs : Nat → Value × Value} {D : Dic} {k : Nat} {ts : Nat → Value × Value} {W : World} (h : OwI w vs D k ts W) (hk : k < 5) {ua ub : Option Addr} {ca cb : Nat} {wa wb : World}
    (hxa : Ext W wa) (ha : wa.ownsRow W.heap.size 9 1 (.slice ua (D k).1.length ca) (D k).1.length ((D k).1.map Value.string)) (hxb : Ext wa wb) (hb : wb.ownsRow wa.heap.size 3 1 (.slice ub (D k).2.length cb) (D k).2.length ((D k).2.map (Value.int .i64))) (B : Nat) :
    KeepsFrom B W ((wb.setCell ⟨w.heap.size, k * 2, none⟩ (.slice ua (D k).1.length ca)).setCell ⟨w.heap.size, k * 2 + 1, none⟩ (.slice ub (D k).2.length cb)) ∧
      OwI w vs D (k + 1) (upd ts k (.slice ua (D k).1.length ca, .slice ub (D k).2.length cb)) ((wb.setCell ⟨w.heap.size, k * 2, none⟩ (.slice ua (D k).1.length ca)).setCell ⟨w.heap.size, k * 2 + 1, none⟩ (.slice ub (D k).2.length cb)) := by
  have hI := (h.ext hxa).ext hxb
  have hz := h.arg.lt
  have h1 := hxa.size
  have p1 := hI.d.cell (i := k * 2) (dcells_at ts hk).1
  have r1 := hI.d.set (k * 2) (.slice ua (D k).1.length ca)
  have p2 := r1.cell (i := k * 2 + 1) (by rw [List.getElem?_set_ne (by omega)]; exact (dcells_at ts hk).2)
  refine ⟨((keeps_ext B (hxa.trans hxb)).trans (keeps_set B p1 _)).trans (keeps_set B p2 _), ?_, ?_, ?_, row_upd hI.d hk _ _, ?_⟩
  · exact (hI.below.setCell (p := ⟨w.heap.size, k * 2, none⟩) (Nat.le_refl _) _).setCell (p := ⟨w.heap.size, k * 2 + 1, none⟩) (Nat.le_refl _) _
  · exact (RowAt.set_ne (RowAt.set_ne hI.arg (by omega)) (by omega))
  · exact (RowAt.set_ne (RowAt.set_ne hI.out (by omega)) (by omega))
  · intro i hi
    by_cases e : i = k
    · subst e
      rw [upd_at]
      refine (TabOwn.setL (g := w.heap.size) ?_ (by omega) [_] _).setL (by omega) [_] _
      exact ⟨_, _, _, _, _, _, rfl, own_base (own_ext ha hxb) (by omega), own_base hb (by omega)⟩
    · rw [upd_ne _ _ e]
      exact ((hI.own i (by omega)).setL (by omega) [_] _).setL (by omega) [_] _

def groOwn : Nat → Gro
  | 2 => .read
  | 5 => .read
  | 3 => .grow
  | 6 => .grow
  | 9 => .write
  | 10 => .write
  | _ => .pure
set_option maxRecDepth 100000 in
set_option maxHeartbeats 2000000 in
theorem down_any (vs : Nat → Value × Value) (D : Dic) (w : World) (hV : DicV w vs D) (hS : DicS D) :
    Calls Try.prog 50 #[dv vs] w fun e w' => ∃ us, e = .returned (dv us) ∧ DicOwn w.heap.size w' us D ∧ Ext w w' := by
  have hmo : Try.prog.follows .mixedOrders = true := by kernel_rfl
  have hk := fun w => kinds_any vs w
  have hI0 : OwI w vs D 0 vs (((w.alloc (.cells (dcells vs).toArray 28)).alloc (.cells (dcells noV).toArray 28)).alloc (.cells (dcells vs).toArray 28)) :=
    ⟨((Ext.alloc _ _).trans (Ext.alloc _ _)).trans (Ext.alloc _ _), row_at (by simp), (row_at (xs := dcells noV) (by simp)).ext (Ext.alloc _ _), ((RowAt.new w _ (dcells vs)).ext (Ext.alloc _ _)).ext (Ext.alloc _ _), fun i h => by omega⟩
  have hx0 : Ext w (((w.alloc (.cells (dcells vs).toArray 28)).alloc (.cells (dcells noV).toArray 28)).alloc (.cells (dcells vs).toArray 28)) := ((Ext.alloc _ _).trans (Ext.alloc _ _)).trans (Ext.alloc _ _)
  have hsz : (((w.alloc (.cells (dcells vs).toArray 28)).alloc (.cells (dcells noV).toArray 28)).alloc (.cells (dcells vs).toArray 28)).heap.size = w.heap.size + 1 + 1 + 1 := by simp
  have hsz2 : ((w.alloc (.cells (dcells vs).toArray 28)).alloc (.cells (dcells noV).toArray 28)).heap.size = w.heap.size + 1 + 1 := by simp
  unfold dv at hk
  unfold dv
  have hdc : (dcells vs).toArray = #[(vs 0).1, (vs 0).2, (vs 1).1, (vs 1).2, (vs 2).1, (vs 2).2, (vs 3).1, (vs 3).2, (vs 4).1, (vs 4).2] := rfl
  have hdn : (dcells noV).toArray = #[.slice none 0 0, .slice none 0 0, .slice none 0 0, .slice none 0 0, .slice none 0 0, .slice none 0 0, .slice none 0 0, .slice none 0 0, .slice none 0 0, .slice none 0 0] := rfl
  rw [hdc]
  simp only [hdc, hdn] at hI0 hx0 hsz hsz2 hk
  refine calls_of_wp_marks Try.func50 rfl ?_
  simp only [Try.ntmps50, List.size_toArray, List.length_cons, List.length_nil, Nat.reduceAdd, Nat.reduceSub, Array.replicate_succ, Array.replicate_zero, List.push_toArray, List.append_toArray, List.nil_append, List.cons_append]
  go_wp2_with (go_at_call 40; refine (hk _).mono ?_; rintro e w' ⟨rfl, rfl⟩)
  generalize (((w.alloc (.cells #[(vs 0).1, (vs 0).2, (vs 1).1, (vs 1).2, (vs 2).1, (vs 2).2, (vs 3).1, (vs 3).2, (vs 4).1, (vs 4).2] 28)).alloc (.cells #[.slice none 0 0, .slice none 0 0, .slice none 0 0, .slice none 0 0, .slice none 0 0, .slice none 0 0, .slice none 0 0, .slice none 0 0, .slice none 0 0, .slice none 0 0] 28)).alloc (.cells #[(vs 0).1, (vs 0).2, (vs 1).1, (vs 1).2, (vs 2).1, (vs 2).2, (vs 3).1, (vs 3).2, (vs 4).1, (vs 4).2] 28)) = w1 at *
  have hsh := hV.shape
  have HV := Lib.hid (hV.ext hx0)
  have HV0 := Lib.hid hV
  have HS := Lib.hid hS
  have hwz := hx0.size
  have HXW := Lib.hid hx0
  clear hk hx0 hdc hdn hV hS hsz2
  refine wp_overI rfl (enters_of Try.func63 (by kernel_rfl) rfl) (kinds_iter vs _ hsh)
    (by rintro k W args rfl; rfl) (fun k args => Stab.pure _ _)
    (fun k W => ∃ ts, OwI w vs D k ts W) (fun q W => False)
    (fun k => Stab.ex fun ts => OwI.stab _ _ _ _ _ _ hwz) (fun q => Stab.pure _ _) (fun k W ⟨ts, h⟩ => h.arg) ⟨_, hI0⟩ ?_ ?_ ?_
  · rintro k args W L hk hL ⟨ts0, hI0'⟩ rfl
    obtain ⟨a, n, c, b, m, d, hv, hT, hSl⟩ := HV0.out k hk
    obtain ⟨hD1, hD2, hD3⟩ := HS.out k hk
    obtain ⟨e1, e2⟩ := fst_eq hv
    rw [e1, e2]
    clear hsh hI0 hv e1 e2 hsz
    gi_wp2
    refine ⟨keeps_ext _ (Ext.alloc _ _), ⟨ts0, hI0'.ext (Ext.alloc _ _)⟩, trivial, ?_⟩
    have hb2 : RowAt (W.alloc (.cells #[.slice a n c, .slice b m d] 25)) W.heap.size 25 [.slice a n c, .slice b m d] := RowAt.new _ _ _
    rintro W2 hst ⟨ts, hI⟩ -
    replace hb2 := (hst _ (Stab.row _ _ _ _) hb2)
    obtain ⟨p1, p2, q1, q2⟩ := hb2.facts2
    replace hb2 := hb2.ext (Ext.drewN _ 1)
    replace hI := hI.ext (Ext.drewN _ 1)
    have p1' := hb2.facts2.1
    have p2' := hb2.facts2.2.1
    have HT := Lib.hid (hT.below hI.below (Nat.le_refl _))
    have HSl := Lib.hid (hSl.below hI.below (Nat.le_refl _))
    have HI := Lib.hid hI
    have f0 := hI.d.frozen (k * 2)
    clear hst hb2 hT hSl hI hI0' f0
    have hcall : ∀ {f : Nat} {args : Array Value} {w : World} {R : Ending → World → Prop}, Calls Try.prog f args w R → CallsIn (Fence.wide.inRound L) 0 Try.prog f args w R := fun h => (callsIn_wide (n := 0)).2 h
    gi_wp2_with fail
    clear HV HV0 HS hwz HXW hD3 q1 q2 hL
    generalize Value.agg #[(vs 0).1, (vs 0).2, (vs 1).1, (vs 1).2, (vs 2).1, (vs 2).2, (vs 3).1, (vs 3).2, (vs 4).1, (vs 4).2] = dvv
    refine wpIn_region_gro groOwn [0, 1, 4, 8, 2, 5, 3, 6, 7, 9, 10] hmo (by kernel_rfl) (by kernel_rfl) rfl (by kernel_rfl) (fun _ _ _ _ _ h => h) ?_
    replace p1' : W2.drew.cell? _ = _ := p1'
    replace p2' : W2.drew.cell? _ = _ := p2'
    repeat (first
      | (refine groL_pure rfl rfl ?_; intro K hK; go_simp; refine hK _ ?_; clear hK K)
      | (refine groL_read rfl rfl ?_; intro K S hS hK; go_simp; refine hK _ ?_; clear hK K hS S)
      | (refine groL_read rfl rfl ?_; intro K S hS hK; go_simp; refine ⟨hS _ ?_, hK _ ?_⟩; (clear hK K hS S; intro w' hx'; have hce := ext_some hx'; go_simp); clear hK K hS S)
      | (refine groL_write rfl rfl ?_; intro K hK; go_simp; refine hK _ _ ?_; clear hK K))
    refine groL_grow rfl rfl ?_
    intro K hK
    go_simp
    (refine (cloneS _ (D k).1 _ HT.out (by omega)).mono ?_; rintro e wa ⟨ua, ca, rfl, hoa, hxa⟩)
    go_simp
    refine hK _ _ ⟨hxa, ?_⟩
    clear hK K
    refine groL_grow rfl rfl ?_
    intro K hK
    go_simp
    (refine (cloneI _ (D k).2 _ (HSl.out.ext hxa) (by omega)).mono ?_; rintro e wb ⟨ub, cb, rfl, hob, hxb⟩)
    go_simp
    refine hK _ _ ⟨hxb, ?_⟩
    clear hK K
    have hIb := (HI.out.ext hxa).ext hxb
    have r0 := hIb.d.cell (i := k * 2) (dcells_at ts hk).1
    have r1 := hIb.d.cell (i := k * 2 + 1) (dcells_at ts hk).2
    have f0 := hIb.d.frozen (k * 2)
    have f1 := hIb.d.frozen (k * 2 + 1)
    clear hIb
    have hki : (k : Int) < 5 := by omega
    repeat (first
      | (refine groL_pure rfl rfl ?_; intro K hK; go_simp; refine hK _ ?_; clear hK K)
      | (refine groL_read rfl rfl ?_; intro K S hS hK; go_simp; refine hK _ ?_; clear hK K hS S)
      | (refine groL_read rfl rfl ?_; intro K S hS hK; go_simp; refine ⟨hS _ ?_, hK _ ?_⟩; (clear hK K hS S; intro w' hx'; have hce := ext_some hx'; go_simp); clear hK K hS S)
      | (refine groL_write rfl rfl ?_; intro K hK; go_simp; refine hK _ _ ?_; clear hK K))
    refine groL_nil ?_
    have HN := Lib.hid (HI.out.next hk hxa hoa hxb hob w1.heap.size)
    gi_wp2
    exact ⟨(keeps_ext _ (Ext.drewN W2 1)).trans HN.out.1, _, HN.out.2⟩
  · rintro Dd W hD ⟨ts, hI⟩ hdf
    obtain ⟨A, hA1, hA2⟩ := heads (vs := ts) (fun i hi => by obtain ⟨a, c, b, d, e, _⟩ := (hI.own i hi).pair; exact ⟨_, _, _, _, _, _, e⟩)
    have hd := hI.d
    rw [hA2] at hd
    obtain ⟨c0, c1, c2, c3, c4, c5, c6, c7, c8, c9⟩ := hd.facts10
    obtain ⟨d0, d1, d2, d3, d4, d5, d6, d7, d8, d9⟩ := RowAt.facts10 (vs := noV) hI.out
    obtain ⟨g0, g1, g2, g3, g4, g5, g6, g7, g8, g9⟩ := hI.out.facts10f
    have HI := Lib.hid hI
    clear hI0 hsh hI hd
    simp only [noV] at d0 d1 d2 d3 d4 d5 d6 d7 d8 d9
    simp only [hv] at c0 c1 c2 c3 c4 c5 c6 c7 c8 c9
    go_wp2
    rw [set10]
    clear d0 d1 d2 d3 d4 d5 d6 d7 d8 d9 c0 c1 c2 c3 c4 c5 c6 c7 c8 c9 g0 g1 g2 g3 g4 g5 g6 g7 g8 g9
    have hro := row_set10 (hv A) HI.out.out
    have hwl := HI.out.out.lt
    have hD2 : w.heap.size + 1 + 1 + 1 ≤ Dd := by omega
    have hdf' : (setL W (w.heap.size + 1) 0 (dcells (hv A))).heap[Dd]? = some (.deferred (some [])) := (heap_setL_ne (by omega) _ _ _).trans hdf
    have hfin : DicOwn w.heap.size ((setL W (w.heap.size + 1) 0 (dcells (hv A))).putObj Dd (.deferred none)) (hv A) D := fun i hi => by rw [← hA1 i hi]; exact tab_mark ((((HI.out.own i hi).setL (by omega) _ 0).base (by omega))) hdf'
    have hbf := below_mark (D := Dd) (below_setL (Nat.le_succ w.heap.size) (dcells (hv A)) 0 HI.out.below) (by omega)
    obtain ⟨q0, q1, q2, q3, q4, q5, q6, q7, q8, q9⟩ := RowAt.facts10 (row_mark hro hdf')
    refine leave_markedC hdf' (v := dv (hv A)) ?_ ⟨_, rfl, hfin, hbf⟩
    unfold dv dcells hv at *
    simp [results, Try.results50, go_sem, q0, q1, q2, q3, q4, q5, q6, q7, q8, q9]
  · rintro _ _ _ _ ⟨⟩
end Go.Proofs.Ytogoejlbdbapoaa
