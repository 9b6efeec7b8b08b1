/- Are two dictionaries the same, slot by slot? Is one of nothing? -/
import Derived.Test.YtogoejlbdbapoaaDicN
namespace Go.Proofs.Ytogoejlbdbapoaa
set_option maxRecDepth 100000
set_option maxHeartbeats 2000000
set_option linter.unusedSimpArgs false
open Go.RowKit Go.Shelf Go.Sort
attribute [local go_sem] Oper.semAt_some wide_fn wide_depth
set_option linter.unusedVariables false

theorem ext_of_drew {P : Program} {f : FuncId} {args : Array Value} {w : World} {r : Ending} (h : Calls P f args w fun e w' => e = r ∧ ∃ n, w' = w.drewN n) : Calls P f args w fun e w' => e = r ∧ Ext w w' :=
  h.mono fun e w' ⟨he, n, hn⟩ => ⟨he, by rw [hn]; exact Ext.drewN _ _⟩
def SameD (D E : Dic) : Prop := ∀ i, i < 5 → D i = E i
def groSame : Nat → Gro
  | 1 => .read
  | 6 => .read
  | 7 => .grow
  | 11 => .read
  | 16 => .read
  | 17 => .grow
  | _ => .pure
set_option maxRecDepth 100000 in
set_option maxHeartbeats 2000000 in
theorem lawSame_any (vs us : Nat → Value × Value) (D E : Dic) (w : World) (hV : DicV w vs D) (hU : DicV w us E) :
    Calls Try.prog 20 #[dv vs, dv us] w fun e w' => ∃ r, e = .returned (.bool r) ∧ (r = true ↔ SameD D E) ∧ Ext w w' := by
  have hmo : Try.prog.follows .mixedOrders = true := by kernel_rfl
  have hd0 : RowAt ((w.alloc (.cells (dcells vs).toArray 28)).alloc (.cells (dcells us).toArray 28)) w.heap.size 28 (dcells vs) := (RowAt.new w _ (dcells vs)).ext (Ext.alloc _ _)
  have hd1 : RowAt ((w.alloc (.cells (dcells vs).toArray 28)).alloc (.cells (dcells us).toArray 28)) (w.heap.size + 1) 28 (dcells us) := row_at (by simp)
  have hx1 : Ext w ((w.alloc (.cells (dcells vs).toArray 28)).alloc (.cells (dcells us).toArray 28)) := (Ext.alloc _ _).trans (Ext.alloc _ _)
  have hdc : ∀ vs : Nat → Value × Value, (dcells vs).toArray = #[(vs 0).1, (vs 0).2, (vs 1).1, (vs 1).2, (vs 2).1, (vs 2).2, (vs 3).1, (vs 3).2, (vs 4).1, (vs 4).2] := fun _ => rfl
  have HIX := Lib.hid (ix_any vs)
  unfold dv
  simp only [hdc] at hd0 hd1 hx1 ⊢
  have HD0 := Lib.hid hd0
  have HD1 := Lib.hid hd1
  have HX1 := Lib.hid hx1
  have HV := Lib.hid hV
  have HU := Lib.hid hU
  clear hd0 hd1 hx1 hdc hV hU
  go_enter Try.func20, Try.ntmps20
  go_upto_region 1 with fail
  replace HD0 := HD0.out
  replace HD1 := HD1.out
  replace HX1 := HX1.out
  generalize (w.alloc (.cells #[(vs 0).1, (vs 0).2, (vs 1).1, (vs 1).2, (vs 2).1, (vs 2).2, (vs 3).1, (vs 3).2, (vs 4).1, (vs 4).2] 28)).alloc (.cells #[(us 0).1, (us 0).2, (us 1).1, (us 1).2, (us 2).1, (us 2).2, (us 3).1, (us 3).2, (us 4).1, (us 4).2] 28) = w1 at *
  obtain ⟨c0, c1, c2, c3, c4, c5, c6, c7, c8, c9⟩ := HD0.facts10
  go_wp2_with fail
  clear c0 c1 c2 c3 c4 c5 c6 c7 c8 c9
  go_loopg [9] 5 (fun g i wr => ∃ (k : Nat), k ≤ 5 ∧ g = 5 - k ∧ i = .int .i64 k ∧ Ext w1 wr ∧ ∀ j, j < 5 → j < k → D j = E j)
  case atStart => exact ⟨0, Nat.zero_le _, rfl, rfl, Ext.refl _, fun j _ h => by omega⟩
  case round =>
    obtain ⟨k, hk, hg, rfl, hxr, hall⟩ := hrel
    have Hall := Lib.hid hall
    have Hg := Lib.hid hg
    clear hg hall HD0
    by_cases hlt : k < 5
    · obtain ⟨a, n, c, b, m, d, hv, hT, hSl⟩ := HV.out k hlt
      obtain ⟨a', n', c', b', m', d', hv', hT', hSl'⟩ := HU.out k hlt
      have hix := HIX.out k hlt
      rw [hv] at hix
      dsimp only at hix
      have hx2 : Ext w (wr.alloc (.cells #[.slice a n c, .slice b m d] 25)) := (HX1.trans hxr).trans (Ext.alloc _ _)
      have r0 := ((HD1.ext hxr).ext (Ext.alloc _ (.cells #[.slice a n c, .slice b m d] 25))).cell (i := k * 2) (dcells_at us hlt).1
      have r1 := ((HD1.ext hxr).ext (Ext.alloc _ (.cells #[.slice a n c, .slice b m d] 25))).cell (i := k * 2 + 1) (dcells_at us hlt).2
      rw [hv'] at r0 r1
      dsimp only at r0 r1
      have hbx : RowAt (wr.alloc (.cells #[.slice a n c, .slice b m d] 25)) wr.heap.size 25 [.slice a n c, .slice b m d] := RowAt.new _ _ _
      have HBX := Lib.hid hbx
      have HT := Lib.hid (hT.ext hx2)
      have HS := Lib.hid (hSl.ext hx2)
      have HT' := Lib.hid (hT'.ext hx2)
      have HS' := Lib.hid (hSl'.ext hx2)
      have HX2 := Lib.hid hx2
      have HXA := Lib.hid (hxr.trans (Ext.alloc wr (.cells #[.slice a n c, .slice b m d] 25)))
      have R0 := Lib.hid r0
      have R1 := Lib.hid r1
      clear hT hSl hT' hSl' hv hv' hbx hx2 r0 r1 HIX
      have hki : (k : Int) < 5 := by omega
      go_upto_region 4 with fail
      replace HBX := HBX.out
      replace HT := HT.out
      replace HS := HS.out
      replace HT' := HT'.out
      replace HS' := HS'.out
      replace HX2 := HX2.out
      replace HXA := HXA.out
      replace R0 := R0.out
      replace R1 := R1.out
      generalize wr.alloc (.cells #[.slice a n c, .slice b m d] 25) = wq at *
      have r0 := ext_cell (Ext.drewN wq 1) R0
      have r1 := ext_cell (Ext.drewN wq 1) R1
      obtain ⟨p1, p2, _, _⟩ := (HBX.ext (Ext.drewN wq 1)).facts2
      clear HBX R0 R1
      have HT3 := Lib.hid (HT.ext (Ext.drewN wq 1))
      have HS3 := Lib.hid (HS.ext (Ext.drewN wq 1))
      have HT3' := Lib.hid (HT'.ext (Ext.drewN wq 1))
      have HS3' := Lib.hid (HS'.ext (Ext.drewN wq 1))
      have HX3 := Lib.hid (HX2.trans (Ext.drewN wq 1))
      have HXA3 := Lib.hid (HXA.trans (Ext.drewN wq 1))
      clear HT HS HT' HS' HX2 HXA
      refine wp_region_gro groSame [0, 1, 2, 3, 4, 5, 6, 7, 8, 9, 10, 11, 12, 13, 14, 15, 16, 17, 18, 19] hmo (by kernel_rfl) rfl (by kernel_rfl) (fun _ _ _ _ _ h => h) ?_
      replace p1 : wq.drew.cell? _ = _ := p1
      replace p2 : wq.drew.cell? _ = _ := p2
      replace r0 : wq.drew.cell? _ = _ := r0
      replace r1 : wq.drew.cell? _ = _ := r1
      by_cases he : (D k).1 = (E k).1
      · have hq := ext_of_drew (equalS_yes _ _ _ _ _ HT3.out HT3'.out he)
        have He := Lib.hid he
        have HQ := Lib.hid hq
        clear he hq
        repeat (first
          | (refine groL_pure rfl rfl ?_; intro K hK; go_simp; refine hK _ ?_; clear hK K)
          | (refine groL_read rfl rfl ?_; intro K S hS hK; go_simp; refine hK _ ?_; clear hK K hS S)
          | (refine groL_read rfl rfl ?_; intro K S hS hK; go_simp; refine ⟨hS _ ?_, hK _ ?_⟩; (clear hK K hS S; intro w' hx'; have hce := ext_some hx'; go_simp); clear hK K hS S)
          | (refine groL_write rfl rfl ?_; intro K hK; go_simp; refine hK _ _ ?_; clear hK K))
        refine groL_grow rfl rfl ?_
        intro K hK
        go_simp
        (refine HQ.out.mono ?_; rintro e wa ⟨rfl, hxa⟩)
        go_simp
        refine hK _ _ ⟨hxa, ?_⟩
        clear hK K
        have p1' := ext_cell hxa p1
        have p2' := ext_cell hxa p2
        have r0' := ext_cell hxa r0
        have r1' := ext_cell hxa r1
        by_cases he2 : (D k).2 = (E k).2
        · have hq := ext_of_drew (equalI_yes _ _ _ _ _ (HS3.out.ext hxa) (HS3'.out.ext hxa) he2)
          have He2 := Lib.hid he2
          have HQ2 := Lib.hid hq
          clear he2 hq
          repeat (first
            | (refine groL_pure rfl rfl ?_; intro K hK; go_simp; refine hK _ ?_; clear hK K)
            | (refine groL_read rfl rfl ?_; intro K S hS hK; go_simp; refine hK _ ?_; clear hK K hS S)
            | (refine groL_read rfl rfl ?_; intro K S hS hK; go_simp; refine ⟨hS _ ?_, hK _ ?_⟩; (clear hK K hS S; intro w' hx'; have hce := ext_some hx'; go_simp); clear hK K hS S)
            | (refine groL_write rfl rfl ?_; intro K hK; go_simp; refine hK _ _ ?_; clear hK K))
          refine groL_grow rfl rfl ?_
          intro K hK
          go_simp
          (refine HQ2.out.mono ?_; rintro e wb ⟨rfl, hxb⟩)
          go_simp
          refine hK _ _ ⟨hxb, ?_⟩
          clear hK K
          repeat (first
            | (refine groL_pure rfl rfl ?_; intro K hK; go_simp; refine hK _ ?_; clear hK K)
            | (refine groL_read rfl rfl ?_; intro K S hS hK; go_simp; refine hK _ ?_; clear hK K hS S)
            | (refine groL_read rfl rfl ?_; intro K S hS hK; go_simp; refine ⟨hS _ ?_, hK _ ?_⟩; (clear hK K hS S; intro w' hx'; have hce := ext_some hx'; go_simp); clear hK K hS S)
            | (refine groL_write rfl rfl ?_; intro K hK; go_simp; refine hK _ _ ?_; clear hK K))
          refine groL_nil ?_
          go_wp2_with fail
          go_roundg (5 - (k + 1))
          case measure => have := Hg.out; omega
          case rel => exact ⟨k + 1, by omega, rfl, by go_num, (HXA3.out.trans hxa).trans hxb, fun j hj h => by
            by_cases e : j = k
            · subst e; exact Prod.ext He.out He2.out
            · exact Hall.out j hj (by omega)⟩
        · have hq := ext_of_drew (equalI_no _ _ _ _ _ (HS3.out.ext hxa) (HS3'.out.ext hxa) he2)
          have hno : Hid (¬ SameD D E) := Lib.hid (fun h => he2 (by rw [h k hlt]))
          have HQ2 := Lib.hid hq
          clear he2 hq
          repeat (first
            | (refine groL_pure rfl rfl ?_; intro K hK; go_simp; refine hK _ ?_; clear hK K)
            | (refine groL_read rfl rfl ?_; intro K S hS hK; go_simp; refine hK _ ?_; clear hK K hS S)
            | (refine groL_read rfl rfl ?_; intro K S hS hK; go_simp; refine ⟨hS _ ?_, hK _ ?_⟩; (clear hK K hS S; intro w' hx'; have hce := ext_some hx'; go_simp); clear hK K hS S)
            | (refine groL_write rfl rfl ?_; intro K hK; go_simp; refine hK _ _ ?_; clear hK K))
          refine groL_grow rfl rfl ?_
          intro K hK
          go_simp
          (refine HQ2.out.mono ?_; rintro e wb ⟨rfl, hxb⟩)
          go_simp
          refine hK _ _ ⟨hxb, ?_⟩
          clear hK K
          repeat (first
            | (refine groL_pure rfl rfl ?_; intro K hK; go_simp; refine hK _ ?_; clear hK K)
            | (refine groL_read rfl rfl ?_; intro K S hS hK; go_simp; refine hK _ ?_; clear hK K hS S)
            | (refine groL_read rfl rfl ?_; intro K S hS hK; go_simp; refine ⟨hS _ ?_, hK _ ?_⟩; (clear hK K hS S; intro w' hx'; have hce := ext_some hx'; go_simp); clear hK K hS S)
            | (refine groL_write rfl rfl ?_; intro K hK; go_simp; refine hK _ _ ?_; clear hK K))
          refine groL_nil ?_
          go_wp2_with fail
          go_ret
          exact ⟨false, rfl, ⟨fun h => (by cases h), fun h => absurd h hno.out⟩, (HX3.out.trans hxa).trans hxb⟩
      · have hq := ext_of_drew (equalS_no _ _ _ _ _ HT3.out HT3'.out he)
        have hno : Hid (¬ SameD D E) := Lib.hid (fun h => he (by rw [h k hlt]))
        have HQ := Lib.hid hq
        clear he hq
        repeat (first
          | (refine groL_pure rfl rfl ?_; intro K hK; go_simp; refine hK _ ?_; clear hK K)
          | (refine groL_read rfl rfl ?_; intro K S hS hK; go_simp; refine hK _ ?_; clear hK K hS S)
          | (refine groL_read rfl rfl ?_; intro K S hS hK; go_simp; refine ⟨hS _ ?_, hK _ ?_⟩; (clear hK K hS S; intro w' hx'; have hce := ext_some hx'; go_simp); clear hK K hS S)
          | (refine groL_write rfl rfl ?_; intro K hK; go_simp; refine hK _ _ ?_; clear hK K))
        refine groL_grow rfl rfl ?_
        intro K hK
        go_simp
        (refine HQ.out.mono ?_; rintro e wa ⟨rfl, hxa⟩)
        go_simp
        refine hK _ _ ⟨hxa, ?_⟩
        clear hK K
        repeat (first
          | (refine groL_pure rfl rfl ?_; intro K hK; go_simp; refine hK _ ?_; clear hK K)
          | (refine groL_read rfl rfl ?_; intro K S hS hK; go_simp; refine hK _ ?_; clear hK K hS S)
          | (refine groL_read rfl rfl ?_; intro K S hS hK; go_simp; refine ⟨hS _ ?_, hK _ ?_⟩; (clear hK K hS S; intro w' hx'; have hce := ext_some hx'; go_simp); clear hK K hS S)
          | (refine groL_write rfl rfl ?_; intro K hK; go_simp; refine hK _ _ ?_; clear hK K))
        refine groL_grow rfl rfl ?_
        intro K hK
        go_simp
        refine hK _ _ ⟨Ext.refl _, ?_⟩
        clear hK K
        repeat (first
          | (refine groL_pure rfl rfl ?_; intro K hK; go_simp; refine hK _ ?_; clear hK K)
          | (refine groL_read rfl rfl ?_; intro K S hS hK; go_simp; refine hK _ ?_; clear hK K hS S)
          | (refine groL_read rfl rfl ?_; intro K S hS hK; go_simp; refine ⟨hS _ ?_, hK _ ?_⟩; (clear hK K hS S; intro w' hx'; have hce := ext_some hx'; go_simp); clear hK K hS S)
          | (refine groL_write rfl rfl ?_; intro K hK; go_simp; refine hK _ _ ?_; clear hK K))
        refine groL_nil ?_
        go_wp2_with fail
        go_ret
        exact ⟨false, rfl, ⟨fun h => (by cases h), fun h => absurd h hno.out⟩, HX3.out.trans hxa⟩
    · have HF : Hid (SameD D E) := Lib.hid (fun i hi => Hall.out i hi (by omega))
      go_wp2_with fail
      go_ret
      exact ⟨true, rfl, ⟨fun _ => HF.out, fun _ => rfl⟩, HX1.trans hxr⟩
theorem lawSame_yes (vs us : Nat → Value × Value) (D E : Dic) (w : World) (hV : DicV w vs D) (hU : DicV w us E) (h : SameD D E) :
    Calls Try.prog 20 #[dv vs, dv us] w fun e w' => e = .returned (.bool true) ∧ Ext w w' :=
  (lawSame_any vs us D E w hV hU).mono fun e w' ⟨r, he, hr, hx⟩ => ⟨by rw [he, hr.2 h], hx⟩
theorem noV_view (w : World) : DicV w noV noD := (noV_own 0 w).view
/-- A dictionary of nothing: the law's own test says so. -/
theorem none_any (w : World) : Calls Try.prog 23 #[dv noV] w fun e w' => e = .returned (.bool true) ∧ Ext w w' := by
  have hs := fun w' => lawSame_yes noV noV noD noD w' (noV_view w') (noV_view w') (fun i _ => rfl)
  have hd0 : RowAt (w.alloc (.cells (dcells noV).toArray 28)) w.heap.size 28 (dcells noV) := RowAt.new w _ (dcells noV)
  have hdn : (dcells noV).toArray = #[.slice none 0 0, .slice none 0 0, .slice none 0 0, .slice none 0 0, .slice none 0 0, .slice none 0 0, .slice none 0 0, .slice none 0 0, .slice none 0 0, .slice none 0 0] := rfl
  unfold dv at hs ⊢
  rw [hdn] at hd0 ⊢
  rw [hdn] at hs
  obtain ⟨c0, c1, c2, c3, c4, c5, c6, c7, c8, c9⟩ := RowAt.facts10 (vs := noV) hd0
  simp only [noV] at c0 c1 c2 c3 c4 c5 c6 c7 c8 c9
  clear hd0 hdn
  go_enter Try.func23, Try.ntmps23
  go_wp2_with fail
  refine (hs _).mono ?_
  rintro e w2 ⟨rfl, hx2⟩
  go_wp2_with fail
  go_ret
  exact ⟨rfl, (Ext.alloc _ _).trans hx2⟩
end Go.Proofs.Ytogoejlbdbapoaa
