/- Are two dictionaries of the same names? -/
import Derived.Test.YtogoejlbdbapoaaDicF
import Derived.Test.YtogoejlbdbapoaaDicO
namespace Go.Proofs.Ytogoejlbdbapoaa
set_option maxRecDepth 100000
set_option maxHeartbeats 2000000
set_option linter.unusedSimpArgs false
open Go.RowKit Go.Shelf Go.Sort
attribute [local go_sem] Oper.semAt_some wide_fn wide_depth
set_option linter.unusedVariables false

def groDs : Nat → Gro
  | 1 => .read
  | 6 => .read
  | 7 => .grow
  | _ => .pure
/-- What holds when k kinds have been looked at. -/
structure SmI (w w1 : World) (vs us : Nat → Value × Value) (D E : Dic) (k : Nat) (W : World) : Prop where
  ext : Ext w1 W
  arg : RowAt W (w.heap.size + 1 + 1 + 1) 28 (dcells vs)
  other : RowAt W (w.heap.size + 1) 28 (dcells us)
  out : RowAt W (w.heap.size + 1 + 1) 4 [.bool false]
  ok : ∀ i, i < k → (D i).1 = (E i).1
theorem SmI.stab (w w1 : World) (vs us : Nat → Value × Value) (D E : Dic) (k : Nat) : Stab w1.heap.size (SmI w w1 vs us D E k) := fun W W' row h hg hr =>
  ⟨Stab.ext_ _ W W' row h.ext hg hr, Stab.row _ _ _ _ W W' row h.arg hg hr, Stab.row _ _ _ _ W W' row h.other hg hr, Stab.row _ _ _ _ W W' row h.out hg hr, h.ok⟩
theorem SmI.grow {w w1 : World} {vs us : Nat → Value × Value} {D E : Dic} {k : Nat} {W W' : World} (h : SmI w w1 vs us D E k W) (hx : Ext W W') : SmI w w1 vs us D E k W' :=
  ⟨h.ext.trans hx, h.arg.ext hx, h.other.ext hx, h.out.ext hx, h.ok⟩
set_option maxRecDepth 100000 in
set_option maxHeartbeats 2000000 in
theorem dsame_any (vs us : Nat → Value × Value) (D E : Dic) (w : World) (hV : DicV w vs D) (hU : DicV w us E) :
    Calls Try.prog 14 #[dv vs, dv us] w fun e w' => e = .returned (.bool (sameN (ofD D) (ofD E))) ∧ Ext w w' := by
  have hmo : Try.prog.follows .mixedOrders = true := by kernel_rfl
  have hk := fun w => kinds_any vs w
  have hI0 : SmI w ((((w.alloc (.cells (dcells vs).toArray 28)).alloc (.cells (dcells us).toArray 28)).alloc (.cells #[.bool false] 4)).alloc (.cells (dcells vs).toArray 28)) vs us D E 0 ((((w.alloc (.cells (dcells vs).toArray 28)).alloc (.cells (dcells us).toArray 28)).alloc (.cells #[.bool false] 4)).alloc (.cells (dcells vs).toArray 28)) :=
    ⟨Ext.refl _, row_at (by simp), ((row_at (xs := dcells us) (by simp)).ext (Ext.alloc _ _)).ext (Ext.alloc _ _), (row_at (xs := [.bool false]) (by simp)).ext (Ext.alloc _ _), fun i h => by omega⟩
  have hx0 : Ext w ((((w.alloc (.cells (dcells vs).toArray 28)).alloc (.cells (dcells us).toArray 28)).alloc (.cells #[.bool false] 4)).alloc (.cells (dcells vs).toArray 28)) := (((Ext.alloc _ _).trans (Ext.alloc _ _)).trans (Ext.alloc _ _)).trans (Ext.alloc _ _)
  have hsz : ((((w.alloc (.cells (dcells vs).toArray 28)).alloc (.cells (dcells us).toArray 28)).alloc (.cells #[.bool false] 4)).alloc (.cells (dcells vs).toArray 28)).heap.size = w.heap.size + 1 + 1 + 1 + 1 := by simp
  have hsz2 : (((w.alloc (.cells (dcells vs).toArray 28)).alloc (.cells (dcells us).toArray 28)).alloc (.cells #[.bool false] 4)).heap.size = w.heap.size + 1 + 1 + 1 := by simp
  have hsh := hV.shape
  have HV := Lib.hid hV
  have HU := Lib.hid hU
  unfold dv at hk
  unfold dv
  have hdc : ∀ vs : Nat → Value × Value, (dcells vs).toArray = #[(vs 0).1, (vs 0).2, (vs 1).1, (vs 1).2, (vs 2).1, (vs 2).2, (vs 3).1, (vs 3).2, (vs 4).1, (vs 4).2] := fun _ => rfl
  simp only [hdc] at hI0 hx0 hsz hsz2 hk ⊢
  clear hdc hV hU
  refine calls_of_wp_marks Try.func14 rfl ?_
  simp only [Try.ntmps14, List.size_toArray, List.length_cons, List.length_nil, Nat.reduceAdd, Nat.reduceSub, Array.replicate_succ, Array.replicate_zero, List.push_toArray, List.append_toArray, List.nil_append, List.cons_append]
  go_wp2_with (go_at_call 40; refine (hk _).mono ?_; rintro e w' ⟨rfl, rfl⟩)
  generalize ((((w.alloc (.cells #[(vs 0).1, (vs 0).2, (vs 1).1, (vs 1).2, (vs 2).1, (vs 2).2, (vs 3).1, (vs 3).2, (vs 4).1, (vs 4).2] 28)).alloc (.cells #[(us 0).1, (us 0).2, (us 1).1, (us 1).2, (us 2).1, (us 2).2, (us 3).1, (us 3).2, (us 4).1, (us 4).2] 28)).alloc (.cells #[.bool false] 4)).alloc (.cells #[(vs 0).1, (vs 0).2, (vs 1).1, (vs 1).2, (vs 2).1, (vs 2).2, (vs 3).1, (vs 3).2, (vs 4).1, (vs 4).2] 28)) = w1 at *
  have HXW := Lib.hid hx0
  have hwz : w.heap.size ≤ w1.heap.size := by omega
  clear hk hx0 hsz2
  refine wp_overI rfl (enters_of Try.func63 (by kernel_rfl) rfl) (kinds_iter vs _ hsh)
    (by rintro k W args rfl; rfl) (fun k args => Stab.pure _ _)
    (fun k W => SmI w w1 vs us D E k W) (fun q W => q = .ret ∧ sameN (ofD D) (ofD E) = false ∧ Below w.heap.size w W ∧ RowAt W (w.heap.size + 1 + 1) 4 [.bool false])
    (fun k => SmI.stab _ _ _ _ _ _ _) (fun q => (Stab.pure _ _).and ((Stab.pure _ _).and ((Stab.belowW w _ hwz).and (Stab.row _ _ _ _)))) (fun k W h => h.arg) hI0 ?_ ?_ ?_
  · rintro k args W L hk hL hI rfl
    obtain ⟨a, n, c, b, m, d, hv, hT, hSl⟩ := HV.out k hk
    obtain ⟨a', n', c', b', m', d', hv', hT', hSl'⟩ := HU.out k hk
    obtain ⟨e1, e2⟩ := fst_eq hv
    rw [e1, e2]
    clear hsh hI0 hv e1 e2 hsz hSl hSl'
    gi_wp2
    refine ⟨keeps_ext _ (Ext.alloc _ _), hI.grow (Ext.alloc _ _), trivial, ?_⟩
    have hb2 : RowAt (W.alloc (.cells #[.slice a n c, .slice b m d] 25)) W.heap.size 25 [.slice a n c, .slice b m d] := RowAt.new _ _ _
    rintro W2 hst hI2 -
    replace hb2 := (hst _ (Stab.row _ _ _ _) hb2)
    replace hb2 := hb2.ext (Ext.drewN _ 1)
    obtain ⟨p1, p2, _, _⟩ := hb2.facts2
    have hI3 := hI2.grow (Ext.drewN _ 1)
    have r0 := hI3.other.cell (i := k * 2) (dcells_at us hk).1
    rw [hv'] at r0
    dsimp only at r0
    have hx3 := HXW.out.trans hI3.ext
    have hT3 := hT.ext hx3
    have hT3' := hT'.ext hx3
    have hki : (k : Int) < 5 := by omega
    have HI3 := Lib.hid hI3
    have HX3 := Lib.hid hx3
    have hcall : ∀ {f : Nat} {args : Array Value} {w : World} {R : Ending → World → Prop}, Calls Try.prog f args w R → CallsIn (Fence.wide.inRound L) 0 Try.prog f args w R := fun h => (callsIn_wide (n := 0)).2 h
    clear hst hb2 hT hT' hI hI2 HV HU hwz HXW hL hv' hI3 hx3
    gi_wp2_with fail
    generalize Value.agg #[(vs 0).1, (vs 0).2, (vs 1).1, (vs 1).2, (vs 2).1, (vs 2).2, (vs 3).1, (vs 3).2, (vs 4).1, (vs 4).2] = dvv
    refine wpIn_region_gro groDs [0, 1, 2, 3, 4, 5, 6, 7, 8] hmo (by kernel_rfl) (by kernel_rfl) rfl (by kernel_rfl) (fun _ _ _ _ _ h => h) ?_
    replace p1 : W2.drew.cell? _ = _ := p1
    replace r0 : W2.drew.cell? _ = _ := r0
    by_cases he : (D k).1 = (E k).1
    · have hq := ext_of_drew (equalS_yes _ _ _ _ _ hT3 hT3' he)
      have He := Lib.hid he
      have HQ := Lib.hid hq
      clear he hq hT3 hT3'
      repeat (first
        | (refine groL_pure rfl rfl ?_; intro K hK; go_simp; refine hK _ ?_; clear hK K)
        | (refine groL_read rfl rfl ?_; intro K S hS hK; go_simp; refine hK _ ?_; clear hK K hS S)
        | (refine groL_read rfl rfl ?_; intro K S hS hK; go_simp; refine ⟨hS _ ?_, hK _ ?_⟩; (clear hK K hS S; intro w' hx'; have hce := ext_some hx'; go_simp); clear hK K hS S)
        | (refine groL_write rfl rfl ?_; intro K hK; go_simp; refine hK _ _ ?_; clear hK K))
      refine groL_grow rfl rfl ?_
      intro K hK
      go_simp
      (refine HQ.out.mono ?_; rintro e wa ⟨rfl, hxa⟩)
      go_simp
      refine hK _ _ ⟨hxa, ?_⟩
      clear hK K
      repeat (first
        | (refine groL_pure rfl rfl ?_; intro K hK; go_simp; refine hK _ ?_; clear hK K)
        | (refine groL_read rfl rfl ?_; intro K S hS hK; go_simp; refine hK _ ?_; clear hK K hS S)
        | (refine groL_read rfl rfl ?_; intro K S hS hK; go_simp; refine ⟨hS _ ?_, hK _ ?_⟩; (clear hK K hS S; intro w' hx'; have hce := ext_some hx'; go_simp); clear hK K hS S)
        | (refine groL_write rfl rfl ?_; intro K hK; go_simp; refine hK _ _ ?_; clear hK K))
      refine groL_nil ?_
      have hI4 := HI3.out.grow hxa
      have HF := Lib.hid (⟨hI4.ext, hI4.arg, hI4.other, hI4.out, fun i hi => by
        by_cases e : i = k
        · subst e; exact He.out
        · exact hI4.ok i (by omega)⟩ : SmI w w1 vs us D E (k + 1) wa)
      have hkp := Lib.hid ((keeps_ext w1.heap.size (Ext.drewN W2 1)).trans (keeps_ext _ hxa))
      clear hI4
      gi_wp2
      exact ⟨hkp.out, HF.out⟩
    · have hq := ext_of_drew (equalS_no _ _ _ _ _ hT3 hT3' he)
      have hno : Hid (sameN (ofD D) (ofD E) = false) := Lib.hid (sameN_not hk he)
      have HQ := Lib.hid hq
      clear he hq hT3 hT3'
      repeat (first
        | (refine groL_pure rfl rfl ?_; intro K hK; go_simp; refine hK _ ?_; clear hK K)
        | (refine groL_read rfl rfl ?_; intro K S hS hK; go_simp; refine hK _ ?_; clear hK K hS S)
        | (refine groL_read rfl rfl ?_; intro K S hS hK; go_simp; refine ⟨hS _ ?_, hK _ ?_⟩; (clear hK K hS S; intro w' hx'; have hce := ext_some hx'; go_simp); clear hK K hS S)
        | (refine groL_write rfl rfl ?_; intro K hK; go_simp; refine hK _ _ ?_; clear hK K))
      refine groL_grow rfl rfl ?_
      intro K hK
      go_simp
      (refine HQ.out.mono ?_; rintro e wa ⟨rfl, hxa⟩)
      go_simp
      refine hK _ _ ⟨hxa, ?_⟩
      clear hK K
      repeat (first
        | (refine groL_pure rfl rfl ?_; intro K hK; go_simp; refine hK _ ?_; clear hK K)
        | (refine groL_read rfl rfl ?_; intro K S hS hK; go_simp; refine hK _ ?_; clear hK K hS S)
        | (refine groL_read rfl rfl ?_; intro K S hS hK; go_simp; refine ⟨hS _ ?_, hK _ ?_⟩; (clear hK K hS S; intro w' hx'; have hce := ext_some hx'; go_simp); clear hK K hS S)
        | (refine groL_write rfl rfl ?_; intro K hK; go_simp; refine hK _ _ ?_; clear hK K))
      refine groL_nil ?_
      have hI4 := HI3.out.grow hxa
      obtain ⟨r1, u1⟩ := hI4.out.facts1
      have HB : Hid (Below w.heap.size w (wa.setCell ⟨w.heap.size + 1 + 1, 0, none⟩ (.bool false)) ∧ RowAt (wa.setCell ⟨w.heap.size + 1 + 1, 0, none⟩ (.bool false)) (w.heap.size + 1 + 1) 4 [.bool false]) := Lib.hid ⟨(HX3.out.trans hxa).setCell (p := ⟨w.heap.size + 1 + 1, 0, none⟩) (by show w.heap.size ≤ w.heap.size + 1 + 1; omega) _, hI4.out.set 0 _⟩
      have hkp := Lib.hid (((keeps_ext w1.heap.size (Ext.drewN W2 1)).trans (keeps_ext _ hxa)).trans (keeps_set _ r1 (.bool false)))
      clear hI4
      gi_wp2
      exact ⟨hkp.out, rfl, hno.out, HB.out⟩
  · rintro Dd W hD hI hdf
    obtain ⟨r0, u0⟩ := hI.out.facts1
    have HI := Lib.hid hI
    have hyes : Hid (sameN (ofD D) (ofD E) = true) := Lib.hid (sameN_iff.2 (fun i hi => hI.ok i hi))
    clear hI0 hsh hI
    go_wp2
    have hdf' := (keeps_set 0 HI.out.out.facts1.1 (.bool true)).same Dd _ (Nat.zero_le _) hdf rfl
    have q0 := (row_mark (HI.out.out.set 0 (.bool true)) hdf').facts1.1
    refine leave_markedC hdf' (v := .bool true) (by simp [results, Try.results14, go_sem, q0]) ⟨ret_bool hyes.out.symm, below_mark ((HXW.out.trans HI.out.ext).setCell (p := ⟨w.heap.size + 1 + 1, 0, none⟩) (by show w.heap.size ≤ w.heap.size + 1 + 1; omega) _) (by omega)⟩
  · rintro Dd q W hD ⟨rfl, hno, hB, hR⟩ hdf
    have HB := Lib.hid hB
    have HN := Lib.hid hno
    have HR := Lib.hid hR
    clear hI0 hsh hB hno hR
    go_wp2
    have q0 := (row_mark HR.out hdf).facts1.1
    exact leave_markedC hdf (v := .bool false) (by simp [results, Try.results14, go_sem, q0]) ⟨ret_bool HN.out.symm, below_mark HB.out (by omega)⟩
end Go.Proofs.Ytogoejlbdbapoaa
