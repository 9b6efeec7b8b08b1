/- Changes that can be gone through; equal rows of changes. -/
import Derived.Test.YtilbofkpjgcchaaDoorBatK
import Derived.Test.YtilbofkpjgcchaaDoorBatCut
namespace Go.Proofs.YtilbofkpjgcchaaDoor
set_option maxRecDepth 100000
set_option maxHeartbeats 2000000
set_option linter.unusedVariables false
set_option linter.unusedSimpArgs false
open Go.RowKit

def fewL (l : List Ch) : List Ch := (l.take 80).map cutC
theorem cutC_small (c : Ch) : (cutC c).Small 60 := ⟨cut60_size _, cut60_size _, cut60_size _, cut60_size _⟩
theorem Ch.Small.fits {c : Ch} {n : Nat} (h : c.Small n) (hn : n ≤ 9223372036854775807) : c.Fits := ⟨Nat.le_trans h.1 hn, Nat.le_trans h.2.1 hn, Nat.le_trans h.2.2.1 hn, Nat.le_trans h.2.2.2 hn⟩
theorem fewL_len (l : List Ch) : (fewL l).length ≤ 80 := by unfold fewL; simp; omega
theorem fewL_small {l : List Ch} {c : Ch} (h : c ∈ fewL l) : c.Small 60 := by
  unfold fewL at h
  obtain ⟨x, _, rfl⟩ := List.mem_map.1 h
  exact cutC_small x
theorem fewL_fits {l : List Ch} {c : Ch} (h : c ∈ fewL l) : c.Fits := (fewL_small h).fits (by omega)
theorem fewL_snoc (l : List Ch) (k : Nat) (hk : k < l.length) (h80 : k < 80) : fewL (l.take (k + 1)) = fewL (l.take k) ++ [cutC l[k]] := by
  unfold fewL
  rw [List.take_take, List.take_take, Nat.min_eq_right (by omega), Nat.min_eq_right (by omega), take_snoc l k hk, List.map_append]; rfl
theorem fewL_stay (l : List Ch) (k : Nat) (h80 : 80 ≤ k) : fewL (l.take (k + 1)) = fewL (l.take k) := by
  unfold fewL
  rw [List.take_take, List.take_take, Nat.min_eq_left (by omega), Nat.min_eq_left (by omega)]
theorem fewL_take_len (l : List Ch) (k : Nat) (hk : k ≤ l.length) : (fewL (l.take k)).length = min k 80 := by unfold fewL; simp; omega

theorem eqChs_yes (v u : Value) (l : List Ch) (w : World) (hv : Chs w v l) (hu : Chs w u l) :
    Calls Tryd.prog 21 #[v, u] w fun e w' => e = .returned (.bool true) ∧ Ext w w' := by
  obtain ⟨a, c, rfl, hc1, hc2⟩ := hv.shape
  obtain ⟨a', c', rfl, hc1', hc2'⟩ := hu.shape
  have HV := Lib.hid hv
  have HU := Lib.hid hu
  clear hv hu
  go_enter Tryd.func21, Tryd.ntmps21
  go_wp2_with fail
  go_loopg [13] l.length (fun g i wr => ∃ k : Nat, k ≤ l.length ∧ g = l.length - k ∧ i = .int .i64 k ∧ Ext w wr)
  case atStart => exact ⟨0, Nat.zero_le _, rfl, rfl, Ext.refl _⟩
  case round =>
    obtain ⟨k, hk, hg, rfl, hx⟩ := hrel
    have Hg := Lib.hid hg
    clear hg
    by_cases hlt : k < l.length
    · obtain ⟨b, o, rfl, c0, c1, c2, c3, c4⟩ := (HV.out.ext hx).at_ hlt
      obtain ⟨b', o', rfl, d0, d1, d2, d3, d4⟩ := (HU.out.ext hx).at_ hlt
      generalize l[k] = x at *
      have hq := fun w => ch_neq x x w
      rw [(x.eqB_iff x).2 rfl] at hq
      rw [Bool.not_true] at hq
      go_wp2_with fail
      go_quiet (fail)
      go_wp2_with fail
      go_roundg (l.length - (k + 1))
      case measure => have := Hg.out; omega
      case rel => exact ⟨k + 1, by omega, rfl, by go_num, (by repeat (first | exact Ext.refl _ | with_reducible assumption | with_reducible refine Ext.alloc_of ?_ _ | with_reducible refine Ext.drewN_of ?_ _ | with_reducible refine Ext.drew_of ?_ | (with_reducible refine Ext.set_of ?_ ?hsz _; case hsz => ((first | exact Nat.le_refl _ | omega | (simp; omega)))) | with_reducible refine Ext.via (by assumption) ?_))⟩
    · go_wp2_with fail
      go_ret
      exact ⟨rfl, (by repeat (first | exact Ext.refl _ | with_reducible assumption | with_reducible refine Ext.alloc_of ?_ _ | with_reducible refine Ext.drewN_of ?_ _ | with_reducible refine Ext.drew_of ?_ | (with_reducible refine Ext.set_of ?_ ?hsz _; case hsz => ((first | exact Nat.le_refl _ | omega | (simp; omega)))) | with_reducible refine Ext.via (by assumption) ?_))⟩
theorem few_any (v : Value) (l : List Ch) (w : World) (hv : Chs w v l) (hf : ∀ c ∈ l, c.Fits) :
    Calls Tryd.prog 10 #[v] w fun e w' => ∃ u, e = .returned u ∧ Chs w' u (fewL l) ∧ Ext w w' := by
  obtain ⟨a, c, rfl, hc1, hc2⟩ := hv.shape
  have HV := Lib.hid hv
  have HT := Lib.hid hf
  clear hv hf
  go_enter Tryd.func10, Tryd.ntmps10
  go_wp2_with fail
  go_loopg [3, 8] l.length (fun g v i wr => ∃ k : Nat, k ≤ l.length ∧ g = l.length - k ∧ i = .int .i64 k ∧ wr.ownsRow w.heap.size 27 5 v (min k 80) ((fewL (l.take k)).flatMap Ch.cells) ∧ Ext w wr)
  case atStart => exact ⟨0, Nat.zero_le _, rfl, rfl, World.ownsRow_nil _ _ _ _, Ext.refl _⟩
  case round =>
    obtain ⟨k, hk, hg, rfl, ho, hx⟩ := hrel
    have Hg := Lib.hid hg
    have HO := Lib.hid ho
    clear hg ho
    by_cases hlt : k < l.length
    · obtain ⟨b, o, rfl, c0, c1, c2, c3, c4⟩ := (HV.out.ext hx).at_ hlt
      have hbl := cell_lt c0
      have hca := fun w => cutC_any l[k] w (HT.out _ (List.getElem_mem hlt))
      have Hsn := Lib.hid (fewL_snoc l k hlt)
      have Hst := Lib.hid (fewL_stay l k)
      generalize l[k] = x at *
      obtain ⟨kd, key, name, val, to_⟩ := x
      unfold Ch.v at hca
      dsimp only at hca c0 c1 c2 c3 c4
      have HCA := Lib.hid hca
      have hbx := RowAt.new wr 27 [.int .i64 kd, .string key, .string name, .string val, .string to_]
      clear hca
      go_upto_region 5 with fail
      have hx1 := Ext.alloc wr (.cells #[.int .i64 kd, .string key, .string name, .string val, .string to_] 27)
      generalize wr.alloc (.cells #[.int .i64 kd, .string key, .string name, .string val, .string to_] 27) = w1 at *
      clear c0 c1 c2 c3 c4
      obtain ⟨c0, c1, c2, c3, c4, f0, f1, f2, f3, f4⟩ := hbx.facts5
      by_cases h80 : k < 80
      · go_wp2_with fail
        refine (HCA.out _).mono ?_
        rintro e w2 ⟨rfl, hx2⟩
        generalize cutC ⟨kd, key, name, val, to_⟩ = y at *
        obtain ⟨kd', key', name', val', to'⟩ := y
        dsimp only
        have ho2 := own_ext HO.out (show Ext wr w2 from (by repeat (first | exact Ext.refl _ | with_reducible assumption | with_reducible refine Ext.alloc_of ?_ _ | with_reducible refine Ext.drewN_of ?_ _ | with_reducible refine Ext.drew_of ?_ | (with_reducible refine Ext.set_of ?_ ?hsz _; case hsz => ((first | exact Nat.le_refl _ | omega | (simp; omega)))) | with_reducible refine Ext.via (by assumption) ?_)))
        have hBx : Ext w w2 := (by repeat (first | exact Ext.refl _ | with_reducible assumption | with_reducible refine Ext.alloc_of ?_ _ | with_reducible refine Ext.drewN_of ?_ _ | with_reducible refine Ext.drew_of ?_ | (with_reducible refine Ext.set_of ?_ ?hsz _; case hsz => ((first | exact Nat.le_refl _ | omega | (simp; omega)))) | with_reducible refine Ext.via (by assumption) ?_))
        have hB2 := hBx.size
        go_wp2_with (at_builtin; refine wpList_append_sl _ rfl _ _ 22 rfl elCh rfl (own_ext ho2 (Ext.alloc _ _)) rfl (Sl.new _ _ _ 1 1 (Nat.le_refl _) ?_) rfl ?_ ?_ ?_ ?_ ?_)
        · unfold maxLen; omega
        · exact ⟨rfl, rfl, rfl, rfl, rfl⟩
        · omega
        · unfold maxLen; omega
        · first | omega | (simp; omega)
        intro v4 w4 hown4 hB4 _ _
        have HO4 : Hid (w4.ownsRow w.heap.size 27 5 v4 (min (k + 1) 80) ((fewL (l.take (k + 1))).flatMap Ch.cells)) := Lib.hid (by
          rw [Hsn.out h80, List.flatMap_append]
          have e : min k 80 + 1 = min (k + 1) 80 := by omega
          rw [← e]
          exact hown4)
        have HX4 : Hid (Ext w w4) := Lib.hid ((below_step hBx (Ext.alloc _ _)).trans hB4)
        clear hown4 hB4 ho2
        go_wp2_with fail
        go_roundg (l.length - (k + 1))
        case measure => have := Hg.out; omega
        case rel => exact ⟨k + 1, by omega, rfl, by go_num, HO4.out, HX4.out⟩
      · go_wp2_with fail
        go_roundg (l.length - (k + 1))
        case measure => have := Hg.out; omega
        case rel =>
          refine ⟨k + 1, by omega, rfl, by go_num, ?_, (by repeat (first | exact Ext.refl _ | with_reducible assumption | with_reducible refine Ext.alloc_of ?_ _ | with_reducible refine Ext.drewN_of ?_ _ | with_reducible refine Ext.drew_of ?_ | (with_reducible refine Ext.set_of ?_ ?hsz _; case hsz => ((first | exact Nat.le_refl _ | omega | (simp; omega)))) | with_reducible refine Ext.via (by assumption) ?_))⟩
          rw [Hst.out (by omega)]
          have e : min (k + 1) 80 = min k 80 := by omega
          rw [e]
          exact own_ext HO.out (by repeat (first | exact Ext.refl _ | with_reducible assumption | with_reducible refine Ext.alloc_of ?_ _ | with_reducible refine Ext.drewN_of ?_ _ | with_reducible refine Ext.drew_of ?_ | (with_reducible refine Ext.set_of ?_ ?hsz _; case hsz => ((first | exact Nat.le_refl _ | omega | (simp; omega)))) | with_reducible refine Ext.via (by assumption) ?_))
    · have ho := HO.out
      have hkk : k = l.length := by omega
      have hl := fewL_take_len l k hk
      rw [List.take_of_length_le (by omega)] at ho hl
      rw [← hl] at ho
      have HF := Lib.hid (Sl.of_own ho)
      clear ho hl
      go_wp2_with fail
      go_ret
      exact ⟨_, rfl, HF.out, hx⟩
end Go.Proofs.YtilbofkpjgcchaaDoor
