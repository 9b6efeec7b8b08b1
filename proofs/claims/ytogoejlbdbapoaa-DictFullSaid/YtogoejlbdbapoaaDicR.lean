/- The reference's Right. -/
import Derived.Test.YtogoejlbdbapoaaDicC
import Derived.Test.YtogoejlbdbapoaaDicQ
import Derived.Test.YtogoejlbdbapoaaTabX2
namespace Go.Proofs.Ytogoejlbdbapoaa
set_option maxRecDepth 100000
set_option maxHeartbeats 2000000
set_option linter.unusedSimpArgs false
open Go.RowKit Go.Shelf Go.Sort
attribute [local go_sem] Oper.semAt_some wide_fn wide_depth
set_option linter.unusedVariables false

set_option maxRecDepth 100000 in
set_option maxHeartbeats 2000000 in
theorem dright_any (vs : Nat → Value × Value) (D : Dic) (w : World) (hV : DicV w vs D) (hS : DicS D) :
    Calls Try.prog 12 #[dv vs] w fun e w' => ∃ r, e = .returned (.bool r) ∧ (r = true ↔ DicOK D) ∧ Ext w w' := by
  have hd0 : RowAt (w.alloc (.cells (dcells vs).toArray 28)) w.heap.size 28 (dcells vs) := RowAt.new w _ (dcells vs)
  have hx1 : Ext w (w.alloc (.cells (dcells vs).toArray 28)) := Ext.alloc _ _
  have hdc : ∀ vs : Nat → Value × Value, (dcells vs).toArray = #[(vs 0).1, (vs 0).2, (vs 1).1, (vs 1).2, (vs 2).1, (vs 2).2, (vs 3).1, (vs 3).2, (vs 4).1, (vs 4).2] := fun _ => rfl
  have HIX := Lib.hid (ix_any vs)
  unfold dv
  simp only [hdc] at hd0 hx1 ⊢
  have HD0 := Lib.hid hd0
  have HX1 := Lib.hid hx1
  have HV := Lib.hid hV
  have HS := Lib.hid hS
  clear hd0 hx1 hdc hV hS
  go_enter Try.func12, Try.ntmps12
  go_upto_region 1 with fail
  replace HD0 := HD0.out
  replace HX1 := HX1.out
  generalize w.alloc (.cells #[(vs 0).1, (vs 0).2, (vs 1).1, (vs 1).2, (vs 2).1, (vs 2).2, (vs 3).1, (vs 3).2, (vs 4).1, (vs 4).2] 28) = w1 at *
  obtain ⟨c0, c1, c2, c3, c4, c5, c6, c7, c8, c9⟩ := HD0.facts10
  go_wp2_with fail
  clear c0 c1 c2 c3 c4 c5 c6 c7 c8 c9 HD0
  go_loopg [9] 5 (fun g i wr => ∃ (k : Nat), k ≤ 5 ∧ g = 5 - k ∧ i = .int .i64 k ∧ Ext w1 wr ∧ ∀ j, j < 5 → j < k → KindOK j (D j))
  case atStart => exact ⟨0, Nat.zero_le _, rfl, rfl, Ext.refl _, fun j _ h => by omega⟩
  case round =>
    obtain ⟨k, hk, hg, rfl, hxr, hall⟩ := hrel
    have Hall := Lib.hid hall
    have Hg := Lib.hid hg
    clear hg hall
    by_cases hlt : k < 5
    · obtain ⟨a, n, c, b, m, d, hv, hT, hSl⟩ := HV.out k hlt
      obtain ⟨hD1, hD2, hD3⟩ := HS.out k hlt
      have hix := HIX.out k hlt
      rw [hv] at hix
      dsimp only at hix
      have hx2 : Ext w (wr.alloc (.cells #[.slice a n c, .slice b m d] 25)) := (HX1.trans hxr).trans (Ext.alloc _ _)
      have hbx : RowAt (wr.alloc (.cells #[.slice a n c, .slice b m d] 25)) wr.heap.size 25 [.slice a n c, .slice b m d] := RowAt.new _ _ _
      have hm : m ≤ 1048576 := by have := hSl.len; omega
      have hn := hT.len
      have hrt := right_any (D k).1 (D k).2 a n c b m d _ (hT.ext hx2) (hSl.ext hx2) hm hD3
      have HRT := Lib.hid hrt
      have HBX := Lib.hid hbx
      have HT := Lib.hid (hT.ext hx2)
      have HX2 := Lib.hid hx2
      have HXA := Lib.hid (hxr.trans (Ext.alloc wr (.cells #[.slice a n c, .slice b m d] 25)))
      have HD3 := Lib.hid hD3
      clear hT hSl hv hbx hx2 hrt HIX hD3 hD1 hD2 hm
      go_upto_region 4 with fail
      replace HBX := HBX.out
      replace HT := HT.out
      replace HX2 := HX2.out
      replace HXA := HXA.out
      replace HRT := HRT.out
      generalize wr.alloc (.cells #[.slice a n c, .slice b m d] 25) = wq at *
      obtain ⟨p1, p2, _, _⟩ := HBX.facts2
      have HRT := Lib.hid HRT
      go_wp2_with fail
      refine HRT.out.mono ?_
      rintro e w2 ⟨r, rfl, hr, hx3⟩
      have Hr := Lib.hid (hr.trans right_iff)
      clear hr
      have q1 := ext_cell hx3 p1
      have q2 := ext_cell hx3 p2
      clear p1 p2
      cases r with
      | false =>
        have hno : Hid (¬ DicOK D) := Lib.hid (fun h => by have := Hr.out.2 (h k hlt).1; cases this)
        go_wp2_with fail
        go_ret
        exact ⟨false, rfl, ⟨fun h => (by cases h), fun h => absurd h hno.out⟩, HX2.trans hx3⟩
      | true =>
        by_cases hl : 128 < n
        · have hd : decide ((128 : Int) < (n : Int)) = true := decide_eq_true (by omega)
          have hno : Hid (¬ DicOK D) := Lib.hid (fun h => by have := (h k hlt).2.1; omega)
          go_wp2_with fail
          go_ret
          exact ⟨false, rfl, ⟨fun h => (by cases h), fun h => absurd h hno.out⟩, HX2.trans hx3⟩
        · have hd : decide ((128 : Int) < (n : Int)) = false := decide_eq_false (by omega)
          have HTt := Lib.hid (HT.ext hx3)
          have HXt := Lib.hid (HX2.trans hx3)
          have HXBt := Lib.hid (HXA.trans hx3)
          clear HT
          go_wp2_with fail
          go_loopg [25] n (fun g i wi => ∃ (j : Nat), j ≤ n ∧ g = n - j ∧ i = .int .i64 j ∧ Ext w2 wi ∧ badB (k : Int) ((D k).1.take j) = false)
          case atStart => exact ⟨0, Nat.zero_le _, rfl, rfl, Ext.refl _, rfl⟩
          case round =>
            obtain ⟨j, hj, hg2, rfl, hxj, hb⟩ := hrel
            have Hb := Lib.hid hb
            have Hg2 := Lib.hid hg2
            clear hb hg2
            by_cases hlj : j < n
            · have hlj' : j < (D k).1.length := by omega
              obtain ⟨bl, ol, rfl, c0⟩ := (HTt.out.ext hxj).at_ hlj'
              have hm := fun w' => refMay_any (k : Int) (D k).1[j] w' (HD3.out _ (List.getElem_mem hlj'))
              have hsn := badB_take (k : Int) (D k).1 j hlj'
              have hmem := fun h => badB_mem (k := (k : Int)) hlj' h
              rw [Hb.out, Bool.false_or] at hsn
              generalize mayB (k : Int) (bts (D k).1[j]) = mb at *
              generalize (D k).1[j] = s at *
              have HM := Lib.hid hm
              have HSN := Lib.hid hsn
              have HMEM := Lib.hid hmem
              clear hm hsn hmem
              cases mb with
              | true =>
                go_wp2_with fail
                refine (HM.out _).mono ?_
                rintro e w4 ⟨rfl, rfl⟩
                go_wp2_with fail
                go_roundg (n - (j + 1))
                case measure => have := Hg2.out; omega
                case rel => exact ⟨j + 1, by omega, rfl, by go_num, hxj, HSN.out⟩
              | false =>
                have hno : Hid (¬ DicOK D) := Lib.hid (fun h => by have := (h k hlt).2.2; rw [HMEM.out rfl] at this; cases this)
                go_wp2_with fail
                refine (HM.out _).mono ?_
                rintro e w4 ⟨rfl, rfl⟩
                go_wp2_with fail
                go_ret
                exact ⟨false, rfl, ⟨fun h => (by cases h), fun h => absurd h hno.out⟩, HXt.out.trans hxj⟩
            · have hb := Hb.out
              rw [List.take_of_length_le (by omega)] at hb
              have HOK : Hid (KindOK k (D k)) := Lib.hid ⟨Hr.out.1 trivial, by omega, hb⟩
              clear hb
              go_wp2_with fail
              go_roundg (5 - (k + 1))
              case measure => have := Hg.out; omega
              case rel => exact ⟨k + 1, by omega, rfl, by go_num, HXBt.out.trans hxj, fun i hi h => by
                by_cases e : i = k
                · subst e; exact HOK.out
                · exact Hall.out i hi (by omega)⟩
    · have HF : Hid (DicOK D) := Lib.hid (fun i hi => Hall.out i hi (by omega))
      go_wp2_with fail
      go_ret
      exact ⟨true, rfl, ⟨fun _ => HF.out, fun _ => rfl⟩, HX1.trans hxr⟩
end Go.Proofs.Ytogoejlbdbapoaa
