/- The document's Lay. -/
import Derived.Test.YtkhmkgobmfhchaaTabS
namespace Go.Proofs.Ytkhmkgobmfhchaa
set_option linter.unusedVariables false
set_option linter.unusedSimpArgs false
open Go.RowKit Go.Shelf Go.Sort

/-- The first free slot is where a text that is not there is laid. -/
theorem laid_probe {T : List ByteArray} {S : List Int} {n : Nat} (h : Laid T S n) (hn : n < T.length) (hS : n < S.length) (hd : Distinct T) : ∃ j, j < S.length ∧ placeF T S T[n] = probe S.length T[n] j ∧ S.getD (probe S.length T[n] j) 0 = 0 ∧ ∀ i, i < j → 0 < S.getD (probe S.length T[n] i) 0 := by
  obtain ⟨p, h1, h2, h3⟩ := h.place_free (Nat.le_of_lt hn) hS (s := T[n]) (fun i hi e => by have := hd i n (by omega) hn e; omega)
  obtain ⟨j, j1, j2, j3, j4⟩ := placeF_yes.1 h1
  refine ⟨j, j1, by rw [h1, j2], by rw [j2]; exact h3, fun i hi => ?_⟩
  have h5 := j4 i hi
  have h6 := (h.range _ (getD_mem (probe_lt S.length T[n] i (by omega)))).1
  rcases Int.lt_or_eq_of_le h6 with h7 | h7
  · exact h7
  · rw [hit_zero h7.symm] at h5; cases h5

structure LayAt (w0 : World) (v1 v2 : Value) (Y : List Value) (w : World) : Prop where
  below : Below w0.heap.size w0 w
  box : RowAt w (w0.heap.size + 2) 25 [v1, v2]
  row : RowAt w (w0.heap.size + 1) 3 Y
  res : RowAt w w0.heap.size 25 [.slice none 0 0, .slice none 0 0]
theorem LayAt.ext {w0 w w' : World} {v1 v2 : Value} {Y : List Value} (h : LayAt w0 v1 v2 Y w) (hx : Ext w w') : LayAt w0 v1 v2 Y w' := ⟨below_step h.below hx, h.box.ext hx, h.row.ext hx, h.res.ext hx⟩
theorem LayAt.set {w0 w : World} {v1 v2 : Value} {Y : List Value} (h : LayAt w0 v1 v2 Y w) (p : Nat) (u : Value) : LayAt w0 v1 v2 (Y.set p u) (w.setCell ⟨w0.heap.size + 1, p, none⟩ u) :=
  have hg := grown_set w (w0.heap.size + 1) p u
  ⟨h.below.grown hg h.below.size (fun k e => by cases e; omega), h.box.kept hg (by intro e; injection e; omega), h.row.set p u, h.res.kept hg (by intro e; injection e; omega)⟩

set_option maxRecDepth 100000 in
set_option maxHeartbeats 2000000 in
theorem lay_any (T : List ByteArray) (a : Option Addr) (n c m : Nat) (w : World) (hT : Strs w (.slice a n c) T) (hm : m ≤ 1048576) (hn : n < m) (hn2 : n ≤ 1048576)
    (hTs : ∀ s ∈ T, s.size ≤ 9223372036854775807) (hd : Distinct T) :
    Calls Try.prog 25 #[.slice a n c, .int .i64 m] w fun e w' => ∃ g, e = .returned (.agg #[.slice a n c, .slice (some ⟨g, 0, none⟩) m m]) ∧ w'.ownsRow w.heap.size 3 1 (.slice (some ⟨g, 0, none⟩) m m) m ((laidN T m n).map (Value.int .i64)) ∧ Ext w w' := by
  have HT := Lib.hid hT
  have HTs := Lib.hid hTs
  have Hd := Lib.hid hd
  have hlenT := Lib.hid hT.len
  have hmI := make_I m (by omega)
  have hm0 : 0 < (m : Int) := by omega
  clear hT hTs hd
  go_enter Try.func25, Try.ntmps25
  go_upto_region 2 with fail
  clear hmI
  have hL : LayAt w (.slice a n c) (.slice (some ⟨w.heap.size + 1, 0, none⟩) m m) ((laidN T m 0).map (Value.int .i64)) (((w.alloc (.cells #[.slice none 0 0, .slice none 0 0] 25)).alloc (.cells (Array.replicate m (.int .i64 0)) 3)).alloc (.cells #[.slice a n c, .slice (some ⟨w.heap.size + 1, 0, none⟩) m m] 25)) := by
    rw [show (laidN T m 0).map (Value.int .i64) = List.replicate m (.int .i64 0) from by simp [laidN]]
    exact ⟨((Ext.alloc _ _).trans (Ext.alloc _ _)).trans (Ext.alloc _ _), row_at (by simp), (row_at (xs := List.replicate m (.int .i64 0)) (by simp)).ext (Ext.alloc _ _), ((row_at rfl).ext (Ext.alloc _ _)).ext (Ext.alloc _ _)⟩
  generalize (((w.alloc (.cells #[.slice none 0 0, .slice none 0 0] 25)).alloc (.cells (Array.replicate m (.int .i64 0)) 3)).alloc (.cells #[.slice a n c, .slice (some ⟨w.heap.size + 1, 0, none⟩) m m] 25)) = w1 at *
  have HL := Lib.hid hL
  clear hL
  go_wp2_with fail
  go_loopg [15] n (fun g i wr => ∃ k : Nat, k ≤ n ∧ g = n - k ∧ i = .int .i64 k ∧ LayAt w (.slice a n c) (.slice (some ⟨w.heap.size + 1, 0, none⟩) m m) ((laidN T m k).map (Value.int .i64)) wr)
  case atStart => exact ⟨0, Nat.zero_le _, rfl, rfl, HL.out⟩
  case round =>
    obtain ⟨k, hk, hg, rfl, hL⟩ := hrel
    have Hg := Lib.hid hg
    have HLk := Lib.hid hL
    clear hg
    by_cases hlt : k < n
    · have hTr := Strs.below HT.out hL.below (Nat.le_refl _)
      have hkT : k < T.length := by have := hlenT.out; omega
      obtain ⟨tb, tO, rfl, htk⟩ := hTr.atD hkT
      rw [getD_at hkT] at htk
      have hss := HTs.out _ (List.getElem_mem hkT)
      have hlay := laidN_ok T m k Hd.out (by have := hlenT.out; omega) (by omega)
      have hll := laidN_len T m k
      obtain ⟨j, j1, j2, j3, j4⟩ := laid_probe hlay hkT (by rw [hll]; omega) Hd.out
      obtain ⟨p, hp, hpm, hp0, hnext⟩ := laidN_next T m k Hd.out (by have := hlenT.out; omega) hkT
      rw [hll] at j1 j2 j3 j4
      rw [hp] at j2
      have j2 : p = probe m T[k] j := by omega
      subst j2
      generalize T[k] = s at htk hss j3 j4 hp hpm hp0 hnext
      have J4 := Lib.hid j4
      have J3 := Lib.hid j3
      have Hnext := Lib.hid hnext
      have hH := (hashL_range 14695981039346656037 (sbt s) (by omega) (by omega))
      have hHn : (hashN s : Int) = hashL 14695981039346656037 (sbt s) := by unfold hashN; omega
      have hp0' : ((hashN s : Int) % (m : Int)) = ((probe m s 0 : Nat) : Int) := by unfold probe; simp
      have hps : ∀ k, (probe m s k + 1) % m = probe m s (k + 1) := fun k => by unfold probe; rw [Nat.mod_add_mod]; rfl
      have Hps := Lib.hid hps
      have HHn := Lib.hid hHn
      have Hp0' := Lib.hid hp0'
      have Hll := Lib.hid hll
      have hpl0 : probe m s 0 < m := probe_lt m s 0 (by omega)
      clear hTr hL hlay j4 j3 hnext hH hHn hp0' hps hp hp0 hll
      go_wp2_with fail
      refine (refHash_any s _ hss).mono ?_
      rintro e w2 ⟨rfl, n1, rfl⟩
      have hxd := Ext.drewN wr n1
      have HL2 := Lib.hid (HLk.out.ext hxd)
      generalize wr.drewN n1 = w2 at *
      rw [← HHn.out]
      have hp0' := Hp0'.out
      have hH0 : 0 ≤ (hashN s : Int) := by omega
      generalize (hashN s : Int) = H at hp0' hH0
      have b0 := HL2.out.box.cell (i := 0) rfl
      have b1 := HL2.out.box.cell (i := 1) rfl
      clear htk hss hxd
      go_wp2_with fail
      go_loopg [8] j (fun g s8 wx => ∃ i : Nat, i ≤ j ∧ g = j - i ∧ s8 = .int .i64 (probe m s i) ∧ wx = w2)
      case atStart => exact ⟨0, Nat.zero_le _, rfl, rfl, rfl⟩
      case round =>
        obtain ⟨i, hi, hg2, rfl, rfl⟩ := hrel
        have Hg2 := Lib.hid hg2
        clear hg2 hp0' hpl0
        have hpli := probe_lt m s i (by omega)
        have hci := HL2.out.row.cell (i := probe m s i) (v := .int .i64 ((laidN T m k).getD (probe m s i) 0)) (by rw [List.getElem?_map, List.getElem?_eq_getElem (by rw [Hll.out]; exact hpli)]; simp [List.getD, Hll.out, hpli])
        by_cases hij : i < j
        · have hpos := J4.out i hij
          have hpn : ((probe m s i : Int) + 1) % (m : Int) = (probe m s (i + 1) : Nat) := by rw [← Hps.out i]; rfl
          generalize (laidN T m k).getD (probe m s i) 0 = x at hci hpos
          go_wp2_with fail
          go_roundg (j - (i + 1))
          case measure => have := Hg2.out; omega
          case rel => exact ⟨i + 1, by omega, rfl, int_congr (by rw [← Hps.out i]; rfl), rfl⟩
        · obtain rfl : i = j := by omega
          rw [J3.out] at hci
          have hfi := HL2.out.row.frozen (probe m s i)
          have hL3 := HL2.out.set (probe m s i) (.int .i64 ((k : Int) + 1))
          rw [← List.map_set, ← Hnext.out] at hL3
          have HL3 := Lib.hid hL3
          clear hL3
          go_wp2_with fail
          go_roundg (n - (k + 1))
          case measure => have := Hg.out; omega
          case rel => exact ⟨k + 1, by omega, rfl, by go_num, HL3.out⟩
    · obtain rfl : k = n := by omega
      have b0 := hL.box.cell (i := 0) rfl
      have b1 := hL.box.cell (i := 1) rfl
      have r0 := hL.res.cell (i := 0) rfl
      have r1 := hL.res.cell (i := 1) rfl
      have f0 := hL.res.frozen 0
      have f1 := hL.res.frozen 1
      have ho := hL.row.own (base := w.heap.size) (by omega) (by simp [laidN_len]; unfold maxLen; omega)
      rw [List.length_map, laidN_len] at ho
      have hno := row_not_own hL.res (by decide) ho
      have ho2 := fun u v => own_set_ne (own_set_ne ho hno 0 u) hno 1 v
      have hB2 := fun u v => below_set2 hL.below (Nat.le_refl _) u v
      have Ho2 := Lib.hid ho2
      have HB2 := Lib.hid hB2
      clear hL ho hno ho2 hB2
      go_wp2_with fail
      exact bodyPost_ret (v := .agg #[.slice a k c, .slice (some ⟨w.heap.size + 1, 0, none⟩) m m]) (by simp [results, Try.results25, go_sem, r0, r1]) rfl ⟨_, rfl, Ho2.out _ _, HB2.out _ _⟩
end Go.Proofs.Ytkhmkgobmfhchaa
