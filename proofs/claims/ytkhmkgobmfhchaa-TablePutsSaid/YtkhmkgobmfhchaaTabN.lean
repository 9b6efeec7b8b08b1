/- What wakes the layer. -/
import Derived.Test.YtkhmkgobmfhchaaTabM
namespace Go.Proofs.Ytkhmkgobmfhchaa
open Go.RowKit Go.Shelf Go.Sort
set_option linter.unusedVariables false

theorem tabOK_new : TabOK [] (List.replicate 8 0) := by
  refine ⟨⟨0, by simp⟩, by simp, by simp, Laid.nil [] 8⟩
def strA : ByteArray := ⟨#[97]⟩
def strB : ByteArray := ⟨#[98]⟩
theorem putF_new {T : List ByteArray} {S : List Int} {s : ByteArray} (h : TabOK T S) (hs : s ∉ T) (hn : T.length < 1024) : ∃ S', putF T S s = some (T ++ [s], S', (T.length : Int)) := by
  refine ⟨laidN (T ++ [s]) (moreN T S.length) (T.length + 1), ?_⟩
  unfold putF
  rw [findF_no.2 hs, if_neg (by omega), if_neg (by omega)]
theorem putF_old {T : List ByteArray} {S : List Int} {s : ByteArray} (h : TabOK T S) {n : Nat} (hn : n < T.length) (hs : T[n] = s) : putF T S s = some (T, S, (n : Int)) := by
  unfold putF
  rw [← hs, findF_distinct h.distinct hn, if_pos (by omega)]
theorem wakes_plain : ∃ T S, allF [strB, strA, strB] [] (List.replicate 8 0) [] = some (T, S, [0, 1, 0]) ∧ T = [strB, strA] ∧ TabOK T S ∧ S.length ≤ 4096 := by
  obtain ⟨S1, h1⟩ := putF_new tabOK_new (s := strB) (by simp) (by simp)
  have o1 := putF_ok tabOK_new h1
  obtain ⟨S2, h2⟩ := putF_new o1.1 (s := strA) (fun h => by simp at h; exact absurd h (by decide)) (by simp)
  have o2 := putF_ok o1.1 h2
  have h3 := putF_old o2.1 (n := 0) (by simp) (s := strB) rfl
  refine ⟨[strB, strA], S2, ?_, rfl, o2.1, by have := o1.2.2.1; have := o2.2.2.1; simp at *; omega⟩
  simp only [allF, h1, h2, h3]
  rfl

set_option maxRecDepth 100000 in
set_option maxHeartbeats 1000000 in
theorem wakes_any (w : World) : Calls Try.prog 8 #[] w fun e w' => e = .returned (.bool true) ∧ Ext w w' := by
  obtain ⟨T, S, hall, hT, hok, hS⟩ := wakes_plain
  have Hall := Lib.hid hall
  have HT := Lib.hid hT
  have Hok := Lib.hid hok
  clear hall hT hok
  go_enter Try.func8, Try.ntmps8
  go_wp2_with fail
  refine (new_any _).mono ?_
  rintro e w1 ⟨v, rfl, hto, hx1⟩
  obtain ⟨a, n, c, b, m, d, rfl, hT1, hI1, rfl, rfl, _, _⟩ := hto.views
  go_wp2_with fail
  refine (all_yes [] (List.replicate 8 0) [strB, strA, strB] _ _ _ _ _ _ _ _ (hT1.ext (Ext.alloc _ _)) (hI1.ext (Ext.alloc _ _)) (Sl.new w1 #[.string strB, .string strA, .string strB] 9 3 3 (Nat.le_refl _) (by unfold maxLen; omega)) (by simp) (by intro s hs; simp at hs; rcases hs with rfl | rfl | rfl <;> decide) (by simp) (by simp) tabOK_new).mono ?_
  rintro e w2 ⟨hx2, hm⟩
  rw [Hall.out] at hm
  obtain ⟨v, u, rfl, hto2, hou⟩ := hm
  obtain ⟨a2, n2, c2, b2, m2, d2, rfl, hT2, hI2, rfl, rfl, _, _⟩ := hto2.views
  obtain ⟨au, cu, rfl⟩ := own_sl hou
  have hu2 : Ints w2 .i64 _ [0, 1, 0] := Sl.of_own hou
  have hx12 := (hx1.trans (Ext.alloc w1 (.cells #[.string strB, .string strA, .string strB] 9))).trans hx2
  have HT2 := Lib.hid hT2
  have HI2 := Lib.hid hI2
  have HU2 := Lib.hid hu2
  have HX := Lib.hid hx12
  have hts : ∀ s ∈ T, s.size ≤ 9223372036854775807 := by rw [HT.out]; intro s hs; simp at hs; rcases hs with rfl | rfl <;> decide
  have Hts := Lib.hid hts
  clear hto hto2 hou hT1 hI1 hT2 hI2 hu2 hx1 hx2 hx12 hts
  go_upto_region 2 with fail
  generalize hw3 : w2.alloc (.cells #[.slice a2 T.length c2, .slice b2 S.length d2] 25) = w3
  have hx3 : Ext w2 w3 := by rw [← hw3]; exact Ext.alloc _ _
  have hr3 : RowAt w3 w2.heap.size 25 [.slice a2 T.length c2, .slice b2 S.length d2] := by rw [← hw3]; exact RowAt.new w2 25 [.slice a2 T.length c2, .slice b2 S.length d2]
  have b0 := hr3.cell (i := 0) rfl
  have b1 := hr3.cell (i := 1) rfl
  clear hw3 hr3
  have hfa : findF T strA = 1 := by rw [HT.out]; decide
  have Hfa := Lib.hid hfa
  clear hfa
  go_wp2_with fail
  refine (find_yes T S strA _ _ _ _ _ _ _ (HT2.out.ext hx3) (HI2.out.ext hx3) (by omega) Hts.out (by decide) Hok.out).mono ?_
  rintro e w4 ⟨rfl, hx4⟩
  rw [Hfa.out]
  have b0 := ext_cell hx4 b0
  have b1 := ext_cell hx4 b1
  go_wp2_with fail
  refine (text_yes T S 2 _ _ _ _ _ _ _ (HT2.out.ext (hx3.trans hx4)) (HI2.out.ext (hx3.trans hx4)) (by omega) Hts.out Hok.out).mono ?_
  rintro e w5 ⟨rfl, hx5⟩
  have htx : textF T 2 = .tuple #[.string ⟨#[]⟩, .int .i64 4] := by unfold textF; rw [HT.out]; rfl
  rw [htx]
  clear htx
  go_wp2_with fail
  refine (equalI_yes _ _ [0, 1, 0] [0, 1, 0] _ (Ints.ext HU2.out (((hx3.trans hx4).trans hx5).trans (Ext.alloc _ _))) (Sl.new w5 #[.int .i64 0, .int .i64 1, .int .i64 0] 3 3 3 (Nat.le_refl _) (by unfold maxLen; omega)) rfl).mono ?_
  rintro e w6 ⟨rfl, n6, rfl⟩
  have hx6 := ((hx3.trans hx4).trans hx5).trans ((Ext.alloc w5 (.cells #[.int .i64 0, .int .i64 1, .int .i64 0] 3)).trans (Ext.drewN _ n6))
  generalize (w5.alloc (.cells #[.int .i64 0, .int .i64 1, .int .i64 0] 3)).drewN n6 = w7 at *
  go_wp2_with fail
  refine (hash_any _ _ (by decide)).mono ?_
  rintro e w8 ⟨rfl, rfl⟩
  rw [show hashL 14695981039346656037 (sbt ⟨#[]⟩) = 14695981039346656037 from rfl]
  go_wp2_with fail
  refine (new_any _).mono ?_
  rintro e w9 ⟨v9, rfl, hto9, hx9⟩
  obtain ⟨a9, n9, c9, b9, m9, d9, rfl, _, _, rfl, rfl, _, _⟩ := hto9.views
  clear hto9
  have hfield : ∀ w, (Instr.field 25 (.agg #[.slice a9 0 c9, .slice b9 8 d9]) 1).run Try.prog w = .ok (.slice b9 8 d9) w := fun w => by kernel_rfl
  go_wp2
  go_ret
  exact ⟨rfl, (HX.out.trans hx6).trans hx9⟩
end Go.Proofs.Ytkhmkgobmfhchaa
