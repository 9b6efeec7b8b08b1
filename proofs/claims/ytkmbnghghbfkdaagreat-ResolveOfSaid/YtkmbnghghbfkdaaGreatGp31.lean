/- The ways of the kinds, and which one an atom's is. -/
import Derived.Test.YtkmbnghghbfkdaaGreatGp27
set_option linter.unusedSimpArgs false
set_option linter.unusedVariables false
set_option maxHeartbeats 2000000
set_option maxRecDepth 100000

namespace Go.Proofs.YtkmbnghghbfkdaaGreat
open Go.RowKit Go.Shelf Go.Sort
attribute [local go_sem] Oper.semAt_some wide_fn wide_depth
def waysL : List Value := [.int .i64 1, .func (.func 115) #[] #[], .func (.func 117) #[] #[], .int .i64 2, .func (.func 119) #[] #[], .func (.func 121) #[] #[],
 .int .i64 3, .func (.func 123) #[] #[], .func (.func 124) #[] #[], .int .i64 4, .func (.func 125) #[] #[], .func (.func 126) #[] #[]]
def waysV : Value := .agg waysL.toArray
theorem ways_any (w : World) : Calls Tryz.prog 88 #[] w fun e w' => e = .returned waysV ∧ Ext w w' := by
 go_enter Tryz.func88, Tryz.ntmps88
 go_wp2_with fail
 exact bodyPost_ret (v := waysV) (by simp [results, Tryz.results88, go_sem, waysV, waysL]) rfl ⟨rfl, Ext.alloc _ _⟩
theorem isWay_any (x k : Int) (f1 f2 : FuncId) (y : Nat) (w : World) (hy : w.cell? ⟨y, 0, none⟩ = some (.int .i64 k)) :
 Calls Tryz.prog 90 #[.agg #[.int .i64 x, .func (.func f1) #[] #[], .func (.func f2) #[] #[]], .pointer (some ⟨y, 0, none⟩)] w fun e w' => e = .returned (.bool (x == k)) ∧ Ext w w' := by
 have hx := Ext.alloc w (.cells #[.int .i64 x, .func (.func f1) #[] #[], .func (.func f2) #[] #[]] 147)
 have hc := ext_cell hx hy
 have HX := Lib.hid hx
 clear hx hy
 go_enter Tryz.func90, Tryz.ntmps90
 go_wp2_with fail
 go_ret
 exact ⟨rfl, HX.out⟩
theorem idxWay_any (k : Nat) (hk : k < 4) (g y : Nat) (w : World) (hg : RowAt w g 148 waysL) (hy : w.cell? ⟨y, 0, none⟩ = some (.int .i64 ((k : Int) + 1))) :
 Calls Tryz.prog 89 #[.slice (some ⟨g, 0, none⟩) 4 4, .func (.func 90) #[] #[.pointer (some ⟨y, 0, none⟩)]] w fun e w' => e = .returned (.int .i64 k) ∧ Ext w w' := by
 have HG := Lib.hid hg
 have HY := Lib.hid hy
 have HK := Lib.hid hk
 clear hg hy hk
 go_enter Tryz.func89, Tryz.ntmps89
 go_wp2_with fail
 go_loopg [8] k (fun g i wr => ∃ j : Nat, j ≤ k ∧ g = k - j ∧ i = .int .i64 j ∧ Ext w wr)
 case atStart => exact ⟨0, Nat.zero_le _, rfl, rfl, Ext.refl _⟩
 case round =>
  obtain ⟨j, hj, hg, rfl, hx⟩ := hrel
  have Hg := Lib.hid hg
  have HX := Lib.hid hx
  have HG2 := Lib.hid (HG.out.ext hx)
  have HY2 := Lib.hid (ext_cell hx HY.out)
  have hj4 : j = 0 ∨ j = 1 ∨ j = 2 ∨ j = 3 := by have := HK.out; omega
  have HJ := Lib.hid hj
  clear hg hx hj
  rcases hj4 with rfl | rfl | rfl | rfl
  ·
   have c0 := HG2.out.cell (i := 0 * 3) rfl
   have c1 := HG2.out.cell (i := 0 * 3 + 1) rfl
   have c2 := HG2.out.cell (i := 0 * 3 + 2) rfl
   obtain ⟨b, hb⟩ : ∃ b, ((1 : Int) == (k : Int) + 1) = b := ⟨_, rfl⟩
   have HC := isWay_any 1 ((k : Int) + 1) 115 117 y wr HY2.out
   rw [hb] at HC
   replace HC := Lib.hid HC
   have HB := Lib.hid hb
   clear hb
   cases b
   case false =>
    have hne : ¬ k = 0 := by have := HB.out; simp at this; omega
    have HNE := Lib.hid hne
    clear hne
    go_wp2_with fail
    refine HC.out.mono ?_
    rintro e w2 ⟨rfl, hx2⟩
    have HX2 := Lib.hid (HX.out.trans hx2)
    clear hx2 HC c0 c1 c2
    go_wp2_with fail
    go_roundg (k - (0 + 1))
    case measure => have := Hg.out; have := HJ.out; have := HNE.out; omega
    case rel => exact ⟨0 + 1, by have := HJ.out; have := HNE.out; omega, rfl, by first | rfl | go_num, HX2.out⟩
   case true =>
    have he : k = 0 := by have := HB.out; simp at this; omega
    subst he
    go_wp2_with fail
    refine HC.out.mono ?_
    rintro e w2 ⟨rfl, hx2⟩
    have HX2 := Lib.hid (HX.out.trans hx2)
    clear hx2 HC c0 c1 c2
    go_wp2_with fail
    go_ret
    exact ⟨rfl, HX2.out⟩
  ·
   have c0 := HG2.out.cell (i := 1 * 3) rfl
   have c1 := HG2.out.cell (i := 1 * 3 + 1) rfl
   have c2 := HG2.out.cell (i := 1 * 3 + 2) rfl
   obtain ⟨b, hb⟩ : ∃ b, ((2 : Int) == (k : Int) + 1) = b := ⟨_, rfl⟩
   have HC := isWay_any 2 ((k : Int) + 1) 119 121 y wr HY2.out
   rw [hb] at HC
   replace HC := Lib.hid HC
   have HB := Lib.hid hb
   clear hb
   cases b
   case false =>
    have hne : ¬ k = 1 := by have := HB.out; simp at this; omega
    have HNE := Lib.hid hne
    clear hne
    go_wp2_with fail
    refine HC.out.mono ?_
    rintro e w2 ⟨rfl, hx2⟩
    have HX2 := Lib.hid (HX.out.trans hx2)
    clear hx2 HC c0 c1 c2
    go_wp2_with fail
    go_roundg (k - (1 + 1))
    case measure => have := Hg.out; have := HJ.out; have := HNE.out; omega
    case rel => exact ⟨1 + 1, by have := HJ.out; have := HNE.out; omega, rfl, by first | rfl | go_num, HX2.out⟩
   case true =>
    have he : k = 1 := by have := HB.out; simp at this; omega
    subst he
    go_wp2_with fail
    refine HC.out.mono ?_
    rintro e w2 ⟨rfl, hx2⟩
    have HX2 := Lib.hid (HX.out.trans hx2)
    clear hx2 HC c0 c1 c2
    go_wp2_with fail
    go_ret
    exact ⟨rfl, HX2.out⟩
  ·
   have c0 := HG2.out.cell (i := 2 * 3) rfl
   have c1 := HG2.out.cell (i := 2 * 3 + 1) rfl
   have c2 := HG2.out.cell (i := 2 * 3 + 2) rfl
   obtain ⟨b, hb⟩ : ∃ b, ((3 : Int) == (k : Int) + 1) = b := ⟨_, rfl⟩
   have HC := isWay_any 3 ((k : Int) + 1) 123 124 y wr HY2.out
   rw [hb] at HC
   replace HC := Lib.hid HC
   have HB := Lib.hid hb
   clear hb
   cases b
   case false =>
    have hne : ¬ k = 2 := by have := HB.out; simp at this; omega
    have HNE := Lib.hid hne
    clear hne
    go_wp2_with fail
    refine HC.out.mono ?_
    rintro e w2 ⟨rfl, hx2⟩
    have HX2 := Lib.hid (HX.out.trans hx2)
    clear hx2 HC c0 c1 c2
    go_wp2_with fail
    go_roundg (k - (2 + 1))
    case measure => have := Hg.out; have := HJ.out; have := HNE.out; omega
    case rel => exact ⟨2 + 1, by have := HJ.out; have := HNE.out; omega, rfl, by first | rfl | go_num, HX2.out⟩
   case true =>
    have he : k = 2 := by have := HB.out; simp at this; omega
    subst he
    go_wp2_with fail
    refine HC.out.mono ?_
    rintro e w2 ⟨rfl, hx2⟩
    have HX2 := Lib.hid (HX.out.trans hx2)
    clear hx2 HC c0 c1 c2
    go_wp2_with fail
    go_ret
    exact ⟨rfl, HX2.out⟩
  ·
   have c0 := HG2.out.cell (i := 3 * 3) rfl
   have c1 := HG2.out.cell (i := 3 * 3 + 1) rfl
   have c2 := HG2.out.cell (i := 3 * 3 + 2) rfl
   obtain ⟨b, hb⟩ : ∃ b, ((4 : Int) == (k : Int) + 1) = b := ⟨_, rfl⟩
   have HC := isWay_any 4 ((k : Int) + 1) 125 126 y wr HY2.out
   rw [hb] at HC
   replace HC := Lib.hid HC
   have HB := Lib.hid hb
   clear hb
   cases b
   case false =>
    have hne : ¬ k = 3 := by have := HB.out; simp at this; omega
    have HNE := Lib.hid hne
    clear hne
    go_wp2_with fail
    refine HC.out.mono ?_
    rintro e w2 ⟨rfl, hx2⟩
    have HX2 := Lib.hid (HX.out.trans hx2)
    clear hx2 HC c0 c1 c2
    go_wp2_with fail
    go_roundg (k - (3 + 1))
    case measure => have := Hg.out; have := HJ.out; have := HNE.out; omega
    case rel => exact ⟨3 + 1, by have := HJ.out; have := HNE.out; omega, rfl, by first | rfl | go_num, HX2.out⟩
   case true =>
    have he : k = 3 := by have := HB.out; simp at this; omega
    subst he
    go_wp2_with fail
    refine HC.out.mono ?_
    rintro e w2 ⟨rfl, hx2⟩
    have HX2 := Lib.hid (HX.out.trans hx2)
    clear hx2 HC c0 c1 c2
    go_wp2_with fail
    go_ret
    exact ⟨rfl, HX2.out⟩
end Go.Proofs.YtkmbnghghbfkdaaGreat
