/- A change that can be gone through. -/
import Derived.Test.YtilbofkpjgcchaaDoorBatC
import Derived.Test.YtilbofkpjgcchaaDoorMix
namespace Go.Proofs.YtilbofkpjgcchaaDoor
set_option maxRecDepth 100000
set_option maxHeartbeats 2000000
set_option linter.unusedVariables false
set_option linter.unusedSimpArgs false
open Go.RowKit

theorem RowAt.set_ne' {w : World} {g g' i : Nat} {t : TypeId} {xs : List Value} {v : Value} (h : RowAt w g t xs) (hne : g' ≠ g) : RowAt (w.setCell ⟨g', i, none⟩ v) g t xs := h.kept (grown_set w g' i v) (fun e => hne (Option.some.inj e))
def cut60 (s : ByteArray) : ByteArray := s.extract 0 (min (s.size : Int) 60).toNat
theorem run_cut60 (s : ByteArray) (hs : s.size ≤ 9223372036854775807) (w : World) :
    (Instr.slice 9 (.string s) none (some (.int .i64 (min (s.size : Int) 60))) none).run Tryd.prog w = .ok (.string (cut60 s)) w := by
  unfold cut60
  obtain ⟨n, hn, hle⟩ : ∃ n : Nat, min (s.size : Int) 60 = n ∧ n ≤ s.size := ⟨min s.size 60, by omega, by omega⟩
  rw [hn, run_slice_string_h w 9 s Tryd.underlying9 .i64 (n : Int) (by omega) (by omega)]
theorem cut60_size (s : ByteArray) : (cut60 s).size ≤ 60 := by unfold cut60; simp; omega
def cutC (c : Ch) : Ch := ⟨c.kind, cut60 c.key, cut60 c.name, cut60 c.val, cut60 c.to_⟩
def mixCut (i : Nat) : Mix := [Mix.pure, .read, .pure, .read, .pure, .pure, .pure, .pure, .read, .pure, .read, .pure, .pure, .pure, .pure, .read, .pure, .read, .pure, .pure, .pure, .pure, .read, .pure, .read, .pure, .pure, .pure, .pure, .write, .pure, .write, .pure, .write, .pure, .write].getD i .write
theorem cutC_any (c : Ch) (w : World) (hf : c.Fits) : Calls Tryd.prog 26 #[c.v] w fun e w' => e = .returned (cutC c).v ∧ Ext w w' := by
  obtain ⟨kd, key, name, val, to_⟩ := c
  obtain ⟨z0, z1, z2, z3⟩ := hf
  dsimp only at z0 z1 z2 z3
  unfold Ch.v cutC
  dsimp only
  have hr0 := RowAt.new w 27 [.int .i64 kd, .string key, .string name, .string val, .string to_]
  have hr1 : RowAt ((w.alloc (.cells #[.int .i64 kd, .string key, .string name, .string val, .string to_] 27)).alloc (.cells #[.int .i64 0, .string ⟨#[]⟩, .string ⟨#[]⟩, .string ⟨#[]⟩, .string ⟨#[]⟩] 27)) (w.heap.size + 1) 27 [.int .i64 0, .string ⟨#[]⟩, .string ⟨#[]⟩, .string ⟨#[]⟩, .string ⟨#[]⟩] := row_at (by simp)
  have hx : Ext w ((w.alloc (.cells #[.int .i64 kd, .string key, .string name, .string val, .string to_] 27)).alloc (.cells #[.int .i64 0, .string ⟨#[]⟩, .string ⟨#[]⟩, .string ⟨#[]⟩, .string ⟨#[]⟩] 27)) := (Ext.alloc _ _).trans (Ext.alloc _ _)
  replace hr0 := hr0.ext (Ext.alloc _ (.cells #[.int .i64 0, .string ⟨#[]⟩, .string ⟨#[]⟩, .string ⟨#[]⟩, .string ⟨#[]⟩] 27))
  go_enter Tryd.func26, Tryd.ntmps26
  go_upto_region 1 with fail
  generalize (w.alloc (.cells #[.int .i64 kd, .string key, .string name, .string val, .string to_] 27)).alloc (.cells #[.int .i64 0, .string ⟨#[]⟩, .string ⟨#[]⟩, .string ⟨#[]⟩, .string ⟨#[]⟩] 27) = w1 at *
  have hxd : Ext w1 w1.drew := Ext.drewN w1 1
  replace hr0 := hr0.ext hxd
  replace hr1 := hr1.ext hxd
  replace hx := hx.trans hxd
  refine wp_region_mix mixCut [0, 1, 2, 3, 4, 5, 6, 7, 8, 9, 10, 11, 12, 13, 14, 15, 16, 17, 18, 19, 20, 21, 22, 23, 24, 25, 26, 27, 28, 29, 30, 31, 32, 33, 34, 35] (by kernel_rfl) (by kernel_rfl) rfl (by kernel_rfl) (fun _ _ _ _ _ h => h) ?_
  generalize w1.drew = w2 at *
  obtain ⟨c0, c1, c2, c3, c4, f0, f1, f2, f3, f4⟩ := hr0.facts5
  obtain ⟨d0, d1, d2, d3, d4, g0, g1, g2, g3, g4⟩ := hr1.facts5
  have sl0 := run_cut60 key z0
  have sl1 := run_cut60 name z1
  have sl2 := run_cut60 val z2
  have sl3 := run_cut60 to_ z3
  have HX : Hid (Ext w ((((w2.setCell ⟨w.heap.size, 1, none⟩ (.string (cut60 key))).setCell ⟨w.heap.size, 2, none⟩ (.string (cut60 name))).setCell ⟨w.heap.size, 3, none⟩ (.string (cut60 val))).setCell ⟨w.heap.size, 4, none⟩ (.string (cut60 to_)))) :=
    Lib.hid (Ext.set_of (Ext.set_of (Ext.set_of (Ext.set_of hx (Nat.le_refl _) _) (Nat.le_refl _) _) (Nat.le_refl _) _) (Nat.le_refl _) _)
  have HR0 := Lib.hid ((((hr0.set 1 (.string (cut60 key))).set 2 (.string (cut60 name))).set 3 (.string (cut60 val))).set 4 (.string (cut60 to_)))
  have ne : w.heap.size ≠ w.heap.size + 1 := by omega
  have HR1 := Lib.hid ((((hr1.set_ne' (i := 1) (v := .string (cut60 key)) ne).set_ne' (i := 2) (v := .string (cut60 name)) ne).set_ne' (i := 3) (v := .string (cut60 val)) ne).set_ne' (i := 4) (v := .string (cut60 to_)) ne)
  clear hr0 hr1 hxd hx ne
  repeat (first
    | (refine mixL_pure rfl rfl (fun K hK => ?_); go_simp; refine hK _ ?_; clear hK K)
    | (refine mixL_read rfl rfl (fun K hK => ?_); go_simp; refine hK _ ?_; clear hK K)
    | (refine mixL_write rfl rfl (fun K hK => ?_); go_simp; refine hK _ _ ?_; clear hK K))
  refine mixL_nil ?_
  clear c0 c1 c2 c3 c4 f0 f1 f2 f3 f4 d0 d1 d2 d3 d4 g0 g1 g2 g3 g4
  generalize (((w2.setCell ⟨w.heap.size, 1, none⟩ (.string (cut60 key))).setCell ⟨w.heap.size, 2, none⟩ (.string (cut60 name))).setCell ⟨w.heap.size, 3, none⟩ (.string (cut60 val))).setCell ⟨w.heap.size, 4, none⟩ (.string (cut60 to_)) = w3 at *
  obtain ⟨c0, c1, c2, c3, c4, f0, f1, f2, f3, f4⟩ := HR0.out.facts5
  obtain ⟨d0, d1, d2, d3, d4, g0, g1, g2, g3, g4⟩ := HR1.out.facts5
  have HX2 := Lib.hid (Ext.set_of (Ext.set_of (Ext.set_of (Ext.set_of (Ext.set_of HX.out (Nat.le_succ _) (.int .i64 kd) (o := 0)) (Nat.le_succ _) (.string (cut60 key)) (o := 1)) (Nat.le_succ _) (.string (cut60 name)) (o := 2)) (Nat.le_succ _) (.string (cut60 val)) (o := 3)) (Nat.le_succ _) (.string (cut60 to_)) (o := 4))
  have HR2 := Lib.hid (((((HR1.out.set 0 (.int .i64 kd)).set 1 (.string (cut60 key))).set 2 (.string (cut60 name))).set 3 (.string (cut60 val))).set 4 (.string (cut60 to_)))
  go_wp2_with fail
  clear c0 c1 c2 c3 c4 f0 f1 f2 f3 f4 d0 d1 d2 d3 d4 g0 g1 g2 g3 g4
  generalize ((((w3.setCell ⟨w.heap.size + 1, 0, none⟩ (.int .i64 kd)).setCell ⟨w.heap.size + 1, 1, none⟩ (.string (cut60 key))).setCell ⟨w.heap.size + 1, 2, none⟩ (.string (cut60 name))).setCell ⟨w.heap.size + 1, 3, none⟩ (.string (cut60 val))).setCell ⟨w.heap.size + 1, 4, none⟩ (.string (cut60 to_)) = w4 at *
  obtain ⟨d0, d1, d2, d3, d4, g0, g1, g2, g3, g4⟩ := HR2.out.facts5
  refine bodyPost_ret (v := .agg #[.int .i64 kd, .string (cut60 key), .string (cut60 name), .string (cut60 val), .string (cut60 to_)]) (by simp [results, Tryd.results26, go_sem, d0, d1, d2, d3, d4]) rfl ⟨rfl, HX2.out⟩
end Go.Proofs.YtilbofkpjgcchaaDoor
