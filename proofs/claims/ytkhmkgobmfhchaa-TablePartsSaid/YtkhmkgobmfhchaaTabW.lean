/- The texts that fill a table. -/
import Derived.Test.YtkhmkgobmfhchaaTabU
import Derived.Laws.BytesArg
namespace Go.Proofs.Ytkhmkgobmfhchaa
set_option linter.unusedVariables false
set_option linter.unusedSimpArgs false
open Go.RowKit Go.Shelf Go.Sort

/-- Bytes turned into a text. -/
theorem run_conv_str {w : World} {v : Value} {l : List Int} (hv : Ints w .u8 v l) : (convert 50 9 v).run Try.prog w = .ok (.string (strOfNums l)) w := by
  obtain ⟨a, cap, rfl, h1, h2, h3⟩ := hv
  cases l with
  | nil =>
    cases a with
    | none => exact run_convert_bytes_nil w _ 5 Try.underlying50 Try.underlying5 _ _ _ Try.underlying9
    | some ad =>
      obtain ⟨b, o, sp⟩ := ad
      rw [run_convert_bytes_string w _ _ 5 _ _ _ Try.underlying50 Try.underlying5 Try.underlying9]
      show Sem.run Try.prog (Conv.bytesToString (.slice (some ⟨b, o, sp⟩) 0 cap)) w = _
      rw [run_bytesToString w ⟨b, o, sp⟩ 0 cap [] (by simp [loadCells, loadCellsFrom])]
      rfl
  | cons c l =>
    obtain ⟨b, o, rfl, hc⟩ := h3 (by simp)
    refine run_convert_bytes_arg w _ 5 Try.underlying50 Try.underlying5 b o _ cap (c :: l) rfl (fun i hi => ?_) _ Try.underlying9
    refine hc i _ ?_
    rw [List.getElem?_map, List.getElem?_eq_getElem hi]
    simp [List.getD, List.getElem?_eq_getElem hi]
theorem sl_at' (w : World) (xs : Array Value) (t : TypeId) (b n : Nat) (hb : w.heap.size = b) (hm : n ≤ maxLen) : Sl (w.alloc (.cells xs t)) (.slice (some ⟨b, 0, none⟩) n n) n xs.toList := by subst hb; exact Sl.new w xs t n n (Nat.le_refl _) hm
theorem sbt_str {l : List Int} (h : Byt l) : sbt (strOfNums l) = l := by
  unfold sbt
  rw [strOfNums_data, List.map_map]
  conv => rhs; rw [← List.map_id l]
  refine List.map_congr_left fun c hc => ?_
  have := h c hc
  simp
  omega
def fullB (i : Nat) : List Int := [97 + (i : Int) % 26, 97 + (i : Int) / 26 % 26, 97 + (i : Int) / 676]
def fullT (i : Nat) : ByteArray := strOfNums (fullB i)
def fullL (k : Nat) : List ByteArray := (List.range k).map fullT
theorem fullB_byt {i : Nat} (h : i < 1024) : Byt (fullB i) := by intro c hc; simp [fullB] at hc; omega
theorem fullT_inj {i j : Nat} (hi : i < 1024) (hj : j < 1024) (h : fullT i = fullT j) : i = j := by
  have := congrArg sbt h
  unfold fullT at this
  rw [sbt_str (fullB_byt hi), sbt_str (fullB_byt hj)] at this
  simp [fullB] at this
  omega
theorem fullL_snoc (k : Nat) : fullL (k + 1) = fullL k ++ [fullT k] := by unfold fullL; rw [List.range_succ, List.map_append]; rfl
theorem fullL_len (k : Nat) : (fullL k).length = k := by simp [fullL]
theorem fullT_size (i : Nat) : (fullT i).size = 3 := by unfold fullT; rw [strOfNums_size]; rfl
theorem fullL_distinct : Distinct (fullL 1024) := by
  intro i j hi hj h
  rw [fullL_len] at hi hj
  simp [fullL] at h
  exact fullT_inj hi hj h
theorem fullL_sizes : ∀ s ∈ fullL 1024, s.size ≤ 9223372036854775807 := by
  intro s hs
  obtain ⟨i, _, rfl⟩ := List.mem_map.1 hs
  rw [fullT_size]; omega
theorem full_ok : TabOK (fullL 1024) (laidN (fullL 1024) 2048 1024) := by
  have := TabOK.mk' (m := 2048) fullL_distinct ⟨8, rfl⟩ (by rw [fullL_len]; omega) (by rw [fullL_len]; omega)
  rwa [fullL_len] at this

set_option maxRecDepth 100000 in
set_option maxHeartbeats 4000000 in
theorem full_walk (s0 : ByteArray) (q : Int) (w : World) (h1 : s0.size ≤ 9223372036854775807) (h2 : -9223372036854775808 ≤ q ∧ q ≤ 9223372036854775807) :
    Calls Try.prog 5 #[.string s0, .int .i64 q] w fun e w' => e = .returned (.bool true) ∧ Ext w w' := by
  go_enter Try.func5, Try.ntmps5
  go_wp2_with fail
  refine (wakes_any _).mono ?_
  rintro e w1 ⟨rfl, hx1⟩
  go_wp2_with fail
  go_loopg [5, 6, 18] 1024 (fun g s5 _ i wr => ∃ k : Nat, k ≤ 1024 ∧ g = 1024 - k ∧ i = .int .i64 k ∧ wr.ownsRow w.heap.size 9 1 s5 k ((fullL k).map Value.string) ∧ Below w.heap.size w wr)
  case atStart => exact ⟨0, Nat.zero_le _, rfl, rfl, World.ownsRow_nil _ _ _ _, hx1⟩
  case round =>
    obtain ⟨k, hk, hg, rfl, ho, hB⟩ := hrel
    have Hg := Lib.hid hg
    clear hg
    by_cases hlt : k < 1024
    · have e1 : 0 ≤ (k : Int) % 26 ∧ (k : Int) % 26 ≤ 25 := by omega
      have e2 : 0 ≤ (k : Int) / 26 % 26 ∧ (k : Int) / 26 % 26 ≤ 25 := by omega
      have e3 : 0 ≤ (k : Int) / 676 ∧ (k : Int) / 676 ≤ 1 := by omega
      have hcv := run_conv_str (w := wr.alloc (.cells #[.int .u8 (97 + (k : Int) % 26), .int .u8 (97 + (k : Int) / 26 % 26), .int .u8 (97 + (k : Int) / 676)] 5)) (v := .slice (some ⟨wr.heap.size, 0, none⟩) 3 3) (l := fullB k)
        (Sl.new wr #[.int .u8 (97 + (k : Int) % 26), .int .u8 (97 + (k : Int) / 26 % 26), .int .u8 (97 + (k : Int) / 676)] 5 3 3 (Nat.le_refl _) (by unfold maxLen; omega))
      rw [show strOfNums (fullB k) = fullT k from rfl] at hcv
      obtain ⟨g5, c5, rfl⟩ := own_sl ho
      have HFs := Lib.hid (fullL_snoc k)
      have hsize := hB.size
      go_wp2_with (at_builtin; refine wpList_append_sl _ rfl _ _ 22 rfl elS rfl ((ho.alloc _).alloc _) rfl (sl_at' _ #[.string (fullT k)] 9 _ 1 (by simp) (by unfold maxLen; omega)) rfl ?_ ?_ ?_ ?_ ?_)
      · rfl
      · omega
      · unfold maxLen; omega
      · simp; omega
      intro v5 w5 hown hb _ _
      have hfin : w5.ownsRow w.heap.size 9 1 v5 (k + 1) ((fullL (k + 1)).map Value.string) := by rw [HFs.out, List.map_append]; exact hown
      have hB5 := (below_step hB ((Ext.alloc wr (.cells #[.int .u8 (97 + (k : Int) % 26), .int .u8 (97 + (k : Int) / 26 % 26), .int .u8 (97 + (k : Int) / 676)] 5)).trans (Ext.alloc _ (.cells #[.string (fullT k)] 9)))).trans hb
      have Hfin := Lib.hid hfin
      have HB5 := Lib.hid hB5
      clear hfin hB5 hown hb hcv ho hB
      go_wp2_with fail
      go_roundg (1024 - (k + 1))
      case measure => have := Hg.out; omega
      case rel => exact ⟨k + 1, by omega, rfl, by go_num, Hfin.out, HB5.out⟩
    · obtain rfl : k = 1024 := by omega
      obtain ⟨g5, c5, rfl⟩ := own_sl ho
      have hT : Strs wr (.slice g5 1024 c5) (fullL 1024) := by have := Sl.of_own ho; unfold Strs; rw [fullL_len]; exact this
      have HT := Lib.hid hT
      have hl := fullL_len 1024
      have hX1 : Ext w wr := hB
      generalize hTT : fullL 1024 = T at hT hl
      have HTT := Lib.hid hTT
      clear hT ho hTT hB
      go_wp2_with fail
      rw [HTT.out] at HT
      refine (lay_any T g5 1024 c5 2048 wr HT.out (by omega) (by omega) (by omega) (by rw [← HTT.out]; exact fullL_sizes) (by rw [← HTT.out]; exact fullL_distinct)).mono ?_
      rintro e w2 ⟨g, rfl, ho2, hx2⟩
      have hl2 : (laidN T 2048 1024).length = 2048 := laidN_len _ _ _
      have hok : TabOK T (laidN T 2048 1024) := by rw [← HTT.out]; exact full_ok
      have hTs : ∀ s ∈ T, s.size ≤ 9223372036854775807 := by rw [← HTT.out]; exact fullL_sizes
      generalize laidN T 2048 1024 = S at ho2 hl2 hok
      have hS : Ints w2 .i64 (.slice (some ⟨g, 0, none⟩) 2048 2048) S := by have := Sl.of_own ho2; unfold Ints; rw [hl2]; exact this
      have Hok := Lib.hid hok
      have HTs := Lib.hid hTs
      have Hl := Lib.hid hl
      have Hl2 := Lib.hid hl2
      have HS := Lib.hid hS
      have HT := Lib.hid (HT.out.ext hx2)
      have hX1 := hX1.trans hx2
      clear hok hTs ho2 hS hl hl2 hx2
      go_upto_region 10 with fail
      have hx3 : Ext w2 (w2.alloc (.cells #[.slice g5 1024 c5, .slice (some ⟨g, 0, none⟩) 2048 2048] 25)) := Ext.alloc _ _
      have hr3 : RowAt (w2.alloc (.cells #[.slice g5 1024 c5, .slice (some ⟨g, 0, none⟩) 2048 2048] 25)) w2.heap.size 25 [.slice g5 1024 c5, .slice (some ⟨g, 0, none⟩) 2048 2048] := RowAt.new w2 25 [.slice g5 1024 c5, .slice (some ⟨g, 0, none⟩) 2048 2048]
      generalize (w2.alloc (.cells #[.slice g5 1024 c5, .slice (some ⟨g, 0, none⟩) 2048 2048] 25)) = w3 at *
      have t0 := hr3.cell (i := 0) rfl
      have t1 := hr3.cell (i := 1) rfl
      have HT := Lib.hid (HT.out.ext hx3)
      have HS := Lib.hid (HS.out.ext hx3)
      have hX1 := hX1.trans hx3
      clear hr3 hx3
      go_wp2_with fail
      refine (cut_any s0 _ h1).mono ?_
      rintro e w' ⟨rfl, rfl⟩
      have hcs : (cutT s0).size ≤ 9223372036854775807 := by have := cutT_size s0; omega
      generalize cutT s0 = s at hcs
      have hput := put_yes T S s g5 1024 c5 (some ⟨g, 0, none⟩) 2048 2048 w3 HT.out HS.out (by omega) HTs.out hcs Hok.out
      have hfr := findF_range T s
      have hrf := fun w' (hx : Ext w3 w') => refFind_any T s (.slice g5 1024 c5) w' (HT.out.ext hx)
      have hpf : putF T S s = if 0 ≤ findF T s then some (T, S, findF T s) else none := by unfold putF; rw [if_pos Hl.out]
      rw [hpf] at hput
      generalize findF T s = f at hput hfr hrf
      have Hrf := Lib.hid hrf
      clear hpf hrf
      by_cases hf : 0 ≤ f
      · rw [if_pos hf] at hput
        have Hput := Lib.hid hput
        clear hput
        obtain ⟨k, rfl⟩ := Int.eq_ofNat_of_zero_le hf
        have hk : k < 1024 := by have := Hl.out; omega
        go_wp2_with fail
        refine Hput.out.mono ?_
        rintro e w4 ⟨hx4, v4, rfl, hto4⟩
        obtain ⟨a4, n4, c4, b4, m4, d4, rfl, hT4, hS4, rfl, rfl, _, _⟩ := hto4.views
        have t0 := ext_cell hx4 t0
        have t1 := ext_cell hx4 t1
        have HT4 := Lib.hid hT4
        have HS4 := Lib.hid hS4
        clear hto4 hT4 hS4
        go_upto_region 12 with fail
        have hx5 : Ext w4 (w4.alloc (.cells #[.slice a4 T.length c4, .slice b4 S.length d4] 25)) := Ext.alloc _ _
        have hr5 : RowAt (w4.alloc (.cells #[.slice a4 T.length c4, .slice b4 S.length d4] 25)) w4.heap.size 25 [.slice a4 T.length c4, .slice b4 S.length d4] := RowAt.new w4 25 [.slice a4 T.length c4, .slice b4 S.length d4]
        generalize (w4.alloc (.cells #[.slice a4 T.length c4, .slice b4 S.length d4] 25)) = w5 at *
        have g0 := hr5.cell (i := 0) rfl
        have g1 := hr5.cell (i := 1) rfl
        have t0 := ext_cell hx5 t0
        have t1 := ext_cell hx5 t1
        have hx35 := hx4.trans hx5
        have HT4 := Lib.hid (HT4.out.ext hx5)
        have HS4 := Lib.hid (HS4.out.ext hx5)
        clear hr5 hx4 hx5
        go_wp2_with fail
        refine (Hrf.out _ hx35).mono ?_
        rintro e w' ⟨rfl, rfl⟩
        have hqr : 0 ≤ q % 18446744073709551616 % 1024 ∧ q % 18446744073709551616 % 1024 < 1024 := by omega
        obtain ⟨x, hx⟩ := Int.eq_ofNat_of_zero_le hqr.1
        have hmod : RowKit.wrap64 ((IntKind.u64.wrap q).tmod 1024) = (x : Int) := by
          rw [wrap64, Int.tmod_eq_emod_of_nonneg (by omega), hx]
          have := hqr.2
          unfold RowKit.wrap64
          omega
        have hx1024 : x < 1024 := by omega
        have hxT : x < T.length := by have := Hl.out; omega
        obtain ⟨lb, lO, rfl, hlk⟩ := (HT.out.ext hx35).atD hxT
        rw [getD_at hxT] at hlk
        have hkn := HTs.out _ (List.getElem_mem hxT)
        have hpo := putF_old Hok.out hxT rfl
        have hput2 := put_yes T S T[x] _ 1024 c5 (some ⟨g, 0, none⟩) 2048 2048 w5 (HT.out.ext hx35) (HS.out.ext hx35) (by omega) HTs.out hkn Hok.out
        rw [hpo] at hput2
        generalize T[x] = y at hlk hkn hput2
        have Hput2 := Lib.hid hput2
        clear hput2 hpo hx hqr hxT h2
        go_wp2_with fail
        refine Hput2.out.mono ?_
        rintro e w6 ⟨hx6, v6, rfl, hto6⟩
        obtain ⟨a6, n6, c6, b6, m6, d6, rfl, hT6, hS6, rfl, rfl, _, _⟩ := hto6.views
        have hx6 := hx6.trans (Ext.alloc w6 (.cells #[.slice a6 T.length c6, .slice b6 S.length d6] 25))
        have g0 := ext_cell hx6 g0
        have g1 := ext_cell hx6 g1
        have hlk := ext_cell hx6 hlk
        clear hto6 hT6 hS6
        go_upto_region 17 with fail
        generalize (w6.alloc (.cells #[.slice a6 T.length c6, .slice b6 S.length d6] 25)) = w7 at *
        go_wp2_with fail
        refine (right_any T S a4 T.length c4 b4 S.length d4 w7 (HT4.out.ext hx6) (HS4.out.ext hx6) (by have := Hl2.out; omega) HTs.out).mono ?_
        rintro e w8 ⟨r, rfl, hr, hx8⟩
        obtain rfl : r = true := hr.2 (right_iff.2 Hok.out)
        go_wp2
        go_ret
        exact ⟨rfl, ((hX1.trans hx35).trans hx6).trans hx8⟩
      · rw [if_neg hf] at hput
        have Hput := Lib.hid hput
        clear hput
        obtain rfl : f = -1 := by omega
        go_wp2_with fail
        refine Hput.out.mono ?_
        rintro e w4 ⟨hx4, rfl⟩
        unfold nilTab
        have hx5 := hx4.trans (Ext.alloc w4 (.cells #[.slice none 0 0, .slice none 0 0] 25))
        go_wp2_with fail
        refine (Hrf.out _ hx5).mono ?_
        rintro e w' ⟨rfl, rfl⟩
        go_wp2
        go_ret
        exact ⟨rfl, hX1.trans hx5⟩
end Go.Proofs.Ytkhmkgobmfhchaa
