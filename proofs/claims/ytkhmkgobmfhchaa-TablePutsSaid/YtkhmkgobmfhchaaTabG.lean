/- laid: the walk. -/
import Derived.Test.YtkhmkgobmfhchaaTabF
namespace Go.Proofs.Ytkhmkgobmfhchaa
open Go.RowKit Go.Shelf Go.Sort
set_option linter.unusedVariables false

set_option maxRecDepth 100000 in
set_option maxHeartbeats 1000000 in
theorem laid_any (T : List ByteArray) (a : Option Addr) (n c m : Nat) (w : World) (hT : Strs w (.slice a n c) T) (hm : m ≤ 1048576) (hn : n < m) (hn2 : n ≤ 1024)
    (hTs : ∀ s ∈ T, s.size ≤ 9223372036854775807) (hd : Distinct T) :
    Calls Try.prog 32 #[.slice a n c, .int .i64 m] w fun e w' => ∃ v, e = .returned v ∧ TabOwn w.heap.size w' v T (laidN T m n) ∧ Ext w w' := by
  have HT := Lib.hid hT
  have HTs := Lib.hid hTs
  have Hd := Lib.hid hd
  have hmS := make_S n (by omega)
  have hmI := make_I m (by omega)
  clear hT hTs hd
  go_enter Try.func32, Try.ntmps32
  go_upto_region 1 with fail
  go_cut [5] (fun s5 wx => ∃ B g1 g2, s5 = .pointer (some ⟨B, 0, none⟩) ∧ LaidAt w n m B g1 g2 (List.replicate n (.string ⟨#[]⟩)) (List.replicate m (.int .i64 0)) wx)
  case first =>
    go_region_with (fail)
    all_goals (go_wp2_with fail; go_meet)
    all_goals
      first
      | (refine ⟨_, w.heap.size + 1, w.heap.size + 1 + 1, rfl, below_drewN ((((((Below.refl _ _).alloc (Nat.le_refl _) _).alloc (by simp) _).alloc (by simp; omega) _).alloc (by simp; omega) _)) 1, ?_, ?_, ?_, ?_, ?_, ?_, ?_, ?_⟩; all_goals first | omega | exact (row_at (by simp)).ext (Ext.drewN _ 1) | exact ((row_at (by simp)).ext (Ext.alloc _ _)).ext (Ext.drewN _ 1) | exact (((row_at (by simp)).ext (Ext.alloc _ _)).ext (Ext.alloc _ _)).ext (Ext.drewN _ 1) | exact ((((row_at (by simp)).ext (Ext.alloc _ _)).ext (Ext.alloc _ _)).ext (Ext.alloc _ _)).ext (Ext.drewN _ 1))
      | (refine ⟨_, w.heap.size + 1, w.heap.size + 1 + 1 + 1, rfl, below_drewN ((((((Below.refl _ _).alloc (Nat.le_refl _) _).alloc (by simp) _).alloc (by simp; omega) _).alloc (by simp; omega) _)) 1, ?_, ?_, ?_, ?_, ?_, ?_, ?_, ?_⟩; all_goals first | omega | exact (row_at (by simp)).ext (Ext.drewN _ 1) | exact ((row_at (by simp)).ext (Ext.alloc _ _)).ext (Ext.drewN _ 1) | exact (((row_at (by simp)).ext (Ext.alloc _ _)).ext (Ext.alloc _ _)).ext (Ext.drewN _ 1) | exact ((((row_at (by simp)).ext (Ext.alloc _ _)).ext (Ext.alloc _ _)).ext (Ext.alloc _ _)).ext (Ext.drewN _ 1))
      | (refine ⟨_, w.heap.size + 1 + 1, w.heap.size + 1, rfl, below_drewN ((((((Below.refl _ _).alloc (Nat.le_refl _) _).alloc (by simp) _).alloc (by simp; omega) _).alloc (by simp; omega) _)) 1, ?_, ?_, ?_, ?_, ?_, ?_, ?_, ?_⟩; all_goals first | omega | exact (row_at (by simp)).ext (Ext.drewN _ 1) | exact ((row_at (by simp)).ext (Ext.alloc _ _)).ext (Ext.drewN _ 1) | exact (((row_at (by simp)).ext (Ext.alloc _ _)).ext (Ext.alloc _ _)).ext (Ext.drewN _ 1) | exact ((((row_at (by simp)).ext (Ext.alloc _ _)).ext (Ext.alloc _ _)).ext (Ext.alloc _ _)).ext (Ext.drewN _ 1))
      | (refine ⟨_, w.heap.size + 1 + 1 + 1, w.heap.size + 1, rfl, below_drewN ((((((Below.refl _ _).alloc (Nat.le_refl _) _).alloc (by simp) _).alloc (by simp; omega) _).alloc (by simp; omega) _)) 1, ?_, ?_, ?_, ?_, ?_, ?_, ?_, ?_⟩; all_goals first | omega | exact (row_at (by simp)).ext (Ext.drewN _ 1) | exact ((row_at (by simp)).ext (Ext.alloc _ _)).ext (Ext.drewN _ 1) | exact (((row_at (by simp)).ext (Ext.alloc _ _)).ext (Ext.alloc _ _)).ext (Ext.drewN _ 1) | exact ((((row_at (by simp)).ext (Ext.alloc _ _)).ext (Ext.alloc _ _)).ext (Ext.alloc _ _)).ext (Ext.drewN _ 1))
      | (refine ⟨_, w.heap.size + 1 + 1, w.heap.size + 1 + 1 + 1, rfl, below_drewN ((((((Below.refl _ _).alloc (Nat.le_refl _) _).alloc (by simp) _).alloc (by simp; omega) _).alloc (by simp; omega) _)) 1, ?_, ?_, ?_, ?_, ?_, ?_, ?_, ?_⟩; all_goals first | omega | exact (row_at (by simp)).ext (Ext.drewN _ 1) | exact ((row_at (by simp)).ext (Ext.alloc _ _)).ext (Ext.drewN _ 1) | exact (((row_at (by simp)).ext (Ext.alloc _ _)).ext (Ext.alloc _ _)).ext (Ext.drewN _ 1) | exact ((((row_at (by simp)).ext (Ext.alloc _ _)).ext (Ext.alloc _ _)).ext (Ext.alloc _ _)).ext (Ext.drewN _ 1))
      | (refine ⟨_, w.heap.size + 1 + 1 + 1, w.heap.size + 1 + 1, rfl, below_drewN ((((((Below.refl _ _).alloc (Nat.le_refl _) _).alloc (by simp) _).alloc (by simp; omega) _).alloc (by simp; omega) _)) 1, ?_, ?_, ?_, ?_, ?_, ?_, ?_, ?_⟩; all_goals first | omega | exact (row_at (by simp)).ext (Ext.drewN _ 1) | exact ((row_at (by simp)).ext (Ext.alloc _ _)).ext (Ext.drewN _ 1) | exact (((row_at (by simp)).ext (Ext.alloc _ _)).ext (Ext.alloc _ _)).ext (Ext.drewN _ 1) | exact ((((row_at (by simp)).ext (Ext.alloc _ _)).ext (Ext.alloc _ _)).ext (Ext.alloc _ _)).ext (Ext.drewN _ 1))
  case rest =>
    obtain ⟨B, g1, g2, rfl, hL⟩ := hcut
    have HT2 := Lib.hid (Strs.ext HT.out hL.below)
    have b0 := hL.box.cell (i := 0) rfl
    have b1 := hL.box.cell (i := 1) rfl
    have hlenT := HT.out.len
    obtain ⟨wd, hcp, hrw, hgw⟩ := run_copy_onto (P := Try.prog) 22 22 3 elS (n := n) (g := g1) (cap := n) (u := .slice a n c) (xs := T.map Value.string) (show Sl wc (.slice a n c) n _ from by have h := HT2.out; unfold Strs at h; rw [hlenT] at h; exact h) (by simpa using hlenT) (str_one _) hL.row1 (by simp)
    have hL2 := hL.copied hrw hgw
    rw [show (List.replicate m (Value.int .i64 0)) = (laidN T m 0).map (Value.int .i64) from by simp [laidN]] at hL2
    have HL2 := Lib.hid hL2
    have HlenT := Lib.hid hlenT
    clear hrw hgw HT2 hL hL2 hlenT hmS hmI
    go_wp2_with fail
    clear hcp b0 b1
    go_loopg [7, 21] n (fun g _ i wr => ∃ k : Nat, k ≤ n ∧ g = n - k ∧ i = .int .i64 k ∧ LaidAt w n m B g1 g2 (T.map Value.string) ((laidN T m k).map (Value.int .i64)) wr)
    case atStart => exact ⟨0, Nat.zero_le _, rfl, rfl, HL2.out⟩
    case round =>
      obtain ⟨k, hk, hg, rfl, hL⟩ := hrel
      have hlenT := HlenT.out
      have Hg := Lib.hid hg
      have HL := Lib.hid hL
      clear hg
      by_cases hlt : k < n
      · obtain ⟨p, hp, hpm, hp0, hnext⟩ := laidN_next T m k Hd.out (by omega) (by omega)
        have hlay := laidN_ok T m k Hd.out (by omega) (by omega)
        have hl := laidN_len T m k
        have hone := lay_one T (laidN T m k) (some ⟨g1, 0, none⟩) n n g2 m m B k p wr
          (show Strs wr _ T from by have := hL.row1.sl n n (Nat.le_refl _) (by unfold maxLen; omega); unfold Strs; rw [hlenT]; exact this)
          (show Ints wr .i64 _ (laidN T m k) from by have := hL.row2.sl m m (Nat.le_refl _) (by unfold maxLen; omega); unfold Ints; rw [hl]; exact this)
          (by omega) HTs.out (fun x hx => by have := hlay.range x hx; omega) (by omega) (by omega) hp hpm (hL.box.cell rfl) (hL.box.cell rfl) (hL.row2.frozen p)
        have Hone := Lib.hid hone
        have Hnext := Lib.hid hnext
        clear hL hp hp0 hnext hlay hl hone hlenT
        go_wp2_with fail
        refine Hone.out.mono ?_
        rintro e w3 ⟨⟨v, rfl⟩, w2, hx2, rfl⟩
        have hL3 := (HL.out.ext hx2).set p (.int .i64 ((k : Int) + 1))
        rw [← List.map_set, ← Hnext.out] at hL3
        have HL3 := Lib.hid hL3
        clear hL3
        go_wp2_with fail
        go_roundg (n - (k + 1))
        case measure => have := Hg.out; omega
        case rel => exact ⟨k + 1, by omega, rfl, by go_num, HL3.out⟩
      · obtain rfl : k = n := by omega
        have b0 := hL.box.cell (i := 0) rfl
        have b1 := hL.box.cell (i := 1) rfl
        have r0 := hL.res.cell (i := 0) rfl
        have r1 := hL.res.cell (i := 1) rfl
        have f0 := hL.res.frozen 0
        have f1 := hL.res.frozen 1
        clear hL hlenT hlt
        go_wp2
        exact bodyPost_ret (v := .agg #[.slice (some ⟨g1, 0, none⟩) k k, .slice (some ⟨g2, 0, none⟩) m m]) (by simp [results, Try.results32, go_sem, r0, r1]) rfl ⟨_, rfl, HL.out.done HlenT.out (laidN_len _ _ _) (by unfold maxLen; omega) (by unfold maxLen; omega) _ _⟩
end Go.Proofs.Ytkhmkgobmfhchaa
