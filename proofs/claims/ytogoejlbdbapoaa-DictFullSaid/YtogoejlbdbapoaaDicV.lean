/- A dictionary in memory of its own is written over. -/
import Derived.Test.YtogoejlbdbapoaaDicU
namespace Go.Proofs.Ytogoejlbdbapoaa
set_option maxRecDepth 100000
set_option maxHeartbeats 2000000
set_option linter.unusedSimpArgs false
open Go.RowKit Go.Shelf Go.Sort
attribute [local go_sem] Oper.semAt_some wide_fn wide_depth
set_option linter.unusedVariables false

/-- Each row stays one, of the same length. -/
def Shp (w wr : World) : Prop := ∀ g t ys, RowAt w g t ys → ∃ ys', RowAt wr g t ys' ∧ ys'.length = ys.length
theorem Shp.refl (w : World) : Shp w w := fun g t ys h => ⟨ys, h, rfl⟩
theorem Shp.ext {w wr wx : World} (h : Shp w wr) (hx : Ext wr wx) : Shp w wx := fun g t ys hr => by
  obtain ⟨ys', h1, h2⟩ := h g t ys hr
  exact ⟨ys', h1.ext hx, h2⟩
theorem Shp.set {w wr : World} (h : Shp w wr) (g i : Nat) (v : Value) : Shp w (wr.setCell ⟨g, i, none⟩ v) := fun g' t ys hr => by
  obtain ⟨ys', h1, h2⟩ := h g' t ys hr
  by_cases e : g = g'
  · subst e
    exact ⟨ys'.set i v, h1.set i v, by rw [List.length_set]; exact h2⟩
  · exact ⟨ys', RowAt.set_ne h1 e, h2⟩
/-- An owned row, known whole. -/
theorem owned_row {w : World} {B n : Nat} {e : TypeId} {a : Option Addr} {m c : Nat} {xs : List Value} (h : w.ownsRow B e 1 (.slice a m c) n xs) (h0 : 0 < n) : ∃ g ys, a = some ⟨g, 0, none⟩ ∧ B ≤ g ∧ RowAt w g e ys ∧ n ≤ ys.length := by
  rcases h.2 with ⟨_, h2⟩ | ⟨g, cap, cur, h1, hb, hg, hn, hm, hc, hx⟩
  · omega
  · cases h1
    exact ⟨g, cur.toList, rfl, hb, hg, by simp; omega⟩
def spoiltS : Value := .string ⟨#[115, 112, 111, 105, 108, 116]⟩
set_option maxRecDepth 100000 in
set_option maxHeartbeats 2000000 in
theorem spoil_any (B : Nat) (us : Nat → Value × Value) (D : Dic) (w : World) (hU : DicOwn B w us D) (hB : B ≤ w.heap.size) :
    Calls Try.prog 24 #[dv us] w fun e w' => e = .returned (.tuple #[]) ∧ Below B w w' := by
  have hd0 : RowAt (w.alloc (.cells (dcells us).toArray 28)) w.heap.size 28 (dcells us) := RowAt.new w _ (dcells us)
  have hx1 : Ext w (w.alloc (.cells (dcells us).toArray 28)) := Ext.alloc _ _
  have hdc : ∀ vs : Nat → Value × Value, (dcells vs).toArray = #[(vs 0).1, (vs 0).2, (vs 1).1, (vs 1).2, (vs 2).1, (vs 2).2, (vs 3).1, (vs 3).2, (vs 4).1, (vs 4).2] := fun _ => rfl
  have HIX := Lib.hid (ix_any us)
  unfold dv
  simp only [hdc] at hd0 hx1 ⊢
  have HD0 := Lib.hid hd0
  have HX1 := Lib.hid hx1
  have HU := Lib.hid hU
  clear hd0 hx1 hdc hU
  go_enter Try.func24, Try.ntmps24
  go_upto_region 1 with fail
  replace HD0 := HD0.out
  replace HX1 := HX1.out
  generalize w.alloc (.cells #[(us 0).1, (us 0).2, (us 1).1, (us 1).2, (us 2).1, (us 2).2, (us 3).1, (us 3).2, (us 4).1, (us 4).2] 28) = w1 at *
  obtain ⟨c0, c1, c2, c3, c4, c5, c6, c7, c8, c9⟩ := HD0.facts10
  go_wp2_with fail
  have hw1 := HD0.lt
  clear c0 c1 c2 c3 c4 c5 c6 c7 c8 c9 HD0
  go_loopg [8] 5 (fun g i wr => ∃ (k : Nat), k ≤ 5 ∧ g = 5 - k ∧ i = .int .i64 k ∧ Below B w1 wr ∧ Shp w wr ∧ w.heap.size < wr.heap.size)
  case atStart => exact ⟨0, Nat.zero_le _, rfl, rfl, Below.refl _ _, (Shp.refl w).ext HX1, hw1⟩
  case round =>
    obtain ⟨k, hk, hg, rfl, hbr, hsr, hzr⟩ := hrel
    have Hg := Lib.hid hg
    clear hg
    by_cases hlt : k < 5
    · obtain ⟨a, c, b, d, hv, hoT, hoS⟩ := (HU.out k hlt).pair
      have hix := HIX.out k hlt
      rw [hv] at hix
      dsimp only at hix
      have hbx : RowAt (wr.alloc (.cells #[.slice a (D k).1.length c, .slice b (D k).2.length d] 25)) wr.heap.size 25 [.slice a (D k).1.length c, .slice b (D k).2.length d] := RowAt.new _ _ _
      have HBX := Lib.hid hbx
      have HB := Lib.hid (Below.ext hbr (Ext.alloc wr (.cells #[.slice a (D k).1.length c, .slice b (D k).2.length d] 25)) (by omega))
      have HS := Lib.hid (hsr.ext (Ext.alloc wr (.cells #[.slice a (D k).1.length c, .slice b (D k).2.length d] 25)))
      have HOT := Lib.hid (fun h : 0 < (D k).1.length => owned_row hoT h)
      have HOS := Lib.hid (fun h : 0 < (D k).2.length => owned_row hoS h)
      have hn1 : (D k).1.length ≤ 9223372036854775807 := by obtain ⟨_, _, e, h1, h2⟩ := Sl.shape (Sl.of_own hoT); simp only [Value.slice.injEq] at e; omega
      have hn2 : (D k).2.length ≤ 9223372036854775807 := by obtain ⟨_, _, e, h1, h2⟩ := Sl.shape (Sl.of_own hoS); simp only [Value.slice.injEq] at e; omega
      clear hv hbx hoT hoS HIX hbr hsr
      go_upto_region 4 with fail
      replace HBX := HBX.out
      replace HB := HB.out
      replace HS := HS.out
      generalize hwq : wr.alloc (.cells #[.slice a (D k).1.length c, .slice b (D k).2.length d] 25) = wq at *
      clear hwq
      generalize hbxe : wr.heap.size = bx at *
      generalize (D k).1.length = n at *
      generalize (D k).2.length = m at *
      have hgq := HBX.lt
      obtain ⟨p1, p2, _, _⟩ := HBX.facts2
      go_wp2_with fail
      clear p1 p2
      go_loopg [14] n (fun g i wi => ∃ (j : Nat), j ≤ n ∧ g = n - j ∧ i = .int .i64 j ∧ Below B w1 wi ∧ Shp w wi ∧ RowAt wi bx 25 [.slice a n c, .slice b m d])
      case atStart => exact ⟨0, Nat.zero_le _, rfl, rfl, HB, HS, HBX⟩
      case round =>
        obtain ⟨j, hj, hg2, rfl, hbi, hsi, hri⟩ := hrel
        have Hg2 := Lib.hid hg2
        clear hg2
        by_cases hlj : j < n
        · obtain ⟨g, ys, rfl, hgB, hrow, hny⟩ := HOT.out (by omega)
          have hgl := hrow.lt
          obtain ⟨ys', hr1, hr2⟩ := hsi g _ ys hrow
          have hcell := hr1.cell (i := j) (v := ys'[j]'(by omega)) (List.getElem?_eq_getElem _)
          have hfro := hr1.frozen j
          obtain ⟨p1, p2, _, _⟩ := hri.facts2
          have HF := Lib.hid (⟨hbi.setCell (p := ⟨g, j, none⟩) hgB spoiltS, hsi.set g j spoiltS, RowAt.set_ne hri (show g ≠ bx by omega)⟩ : Go.RowKit.Below B w1 (wr.setCell ⟨g, j, none⟩ spoiltS) ∧ Shp w (wr.setCell ⟨g, j, none⟩ spoiltS) ∧ RowAt (wr.setCell ⟨g, j, none⟩ spoiltS) bx 25 [.slice (some ⟨g, 0, none⟩) n c, .slice b m d])
          clear hrow hr1 hri hsi hbi
          go_wp2_with fail
          go_roundg (n - (j + 1))
          case measure => have := Hg2.out; omega
          case rel => exact ⟨j + 1, by omega, rfl, by go_num, HF.out⟩
        · obtain ⟨p1, p2, _, _⟩ := hri.facts2
          have HB2 := Lib.hid hbi
          have HS2 := Lib.hid hsi
          have HR2 := Lib.hid hri
          clear hri hsi hbi HB HS HBX
          go_wp2_with fail
          go_loopg [25] m (fun g i wi => ∃ (j : Nat), j ≤ m ∧ g = m - j ∧ i = .int .i64 j ∧ Below B w1 wi ∧ Shp w wi ∧ RowAt wi bx 25 [.slice a n c, .slice b m d])
          case atStart => exact ⟨0, Nat.zero_le _, rfl, rfl, HB2.out, HS2.out, HR2.out⟩
          case round =>
            obtain ⟨j, hj, hg2, rfl, hbi, hsi, hri⟩ := hrel
            have Hg2 := Lib.hid hg2
            clear hg2 p1 p2
            by_cases hlj : j < m
            · obtain ⟨g, ys, rfl, hgB, hrow, hny⟩ := HOS.out (by omega)
              have hgl := hrow.lt
              obtain ⟨ys', hr1, hr2⟩ := hsi g _ ys hrow
              have hcell := hr1.cell (i := j) (v := ys'[j]'(by omega)) (List.getElem?_eq_getElem _)
              have hfro := hr1.frozen j
              obtain ⟨p1, p2, _, _⟩ := hri.facts2
              have HF := Lib.hid (⟨hbi.setCell (p := ⟨g, j, none⟩) hgB (.int .i64 (-1)), hsi.set g j (.int .i64 (-1)), RowAt.set_ne hri (show g ≠ bx by omega)⟩ : Go.RowKit.Below B w1 (wr.setCell ⟨g, j, none⟩ (.int .i64 (-1))) ∧ Shp w (wr.setCell ⟨g, j, none⟩ (.int .i64 (-1))) ∧ RowAt (wr.setCell ⟨g, j, none⟩ (.int .i64 (-1))) bx 25 [.slice a n c, .slice (some ⟨g, 0, none⟩) m d])
              clear hrow hr1 hri hsi hbi
              go_wp2_with fail
              go_roundg (m - (j + 1))
              case measure => have := Hg2.out; omega
              case rel => exact ⟨j + 1, by omega, rfl, by go_num, HF.out⟩
            · have hz := hri.lt
              go_wp2_with fail
              go_roundg (5 - (k + 1))
              case measure => have := Hg.out; omega
              case rel => exact ⟨k + 1, by omega, rfl, by go_num, hbi, hsi, by omega⟩
    · go_wp2_with fail
      go_end0
      exact ⟨rfl, (HX1.mono hB).trans hbr⟩
end Go.Proofs.Ytogoejlbdbapoaa
