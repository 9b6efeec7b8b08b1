/- The change that a line says. -/
import Derived.Test.YtilbofkpjgcchaaDoorBatQ
import Derived.Test.YtilbofkpjgcchaaDoorRowG
import Derived.Deep.MidRow
namespace Go.Proofs.YtilbofkpjgcchaaDoor
set_option maxRecDepth 100000
set_option maxHeartbeats 2000000
set_option linter.unusedVariables false
set_option linter.unusedSimpArgs false
open Go.RowKit

theorem ways_range {w : World} (h : Ways w) : w.rangeAt 0 0 waysL := by
  intro j v hj
  have hjl : j < 45 := (List.getElem?_eq_some_iff.1 hj).1
  have hd : j = j / 5 * 5 + j % 5 := by omega
  have hk : j / 5 < 9 := by omega
  rw [Nat.zero_add]
  have key := flatMap_at wayRow 5 (fun _ => rfl) (List.range 9) (j / 5) (j % 5) (by simpa using hk) (by omega)
  rw [List.getElem_range] at key
  rw [hd, show waysL[j / 5 * 5 + j % 5]? = _ from key] at hj
  rw [hd]
  exact h _ hk _ _ hj
theorem ways_index (k : Nat) (hk : k < 9) (w : World) : (Instr.index 55 (.agg waysL.toArray) (.int .i64 k)).run Tryd.prog w = .ok (.agg #[.string (txt (wordOf k)), .bool (hasOf k 0), .bool (hasOf k 1), .bool (hasOf k 2), .bool (hasOf k 3)]) w := by
  have h : k = 0 ∨ k = 1 ∨ k = 2 ∨ k = 3 ∨ k = 4 ∨ k = 5 ∨ k = 6 ∨ k = 7 ∨ k = 8 := by omega
  rcases h with rfl | rfl | rfl | rfl | rfl | rfl | rfl | rfl | rfl <;> rfl
theorem Ways.below {B : Nat} {w w' : World} (h : Ways w) (hb : Below B w w') (hB : w.heap.size ≤ B) : Ways w' := fun k hk j v hj => (hb.cell (p := ⟨0, k * 5 + j, none⟩) (Nat.lt_of_lt_of_le (cell_lt (h k hk j v hj)) hB)).trans (h k hk j v hj)
theorem below5 {B b : Nat} {w w' : World} (h : Below B w w') (hb : B ≤ b) (u0 u1 u2 u3 u4 : Value) : Below B w (((((w'.setCell ⟨b, 0, none⟩ u0).setCell ⟨b, 1, none⟩ u1).setCell ⟨b, 2, none⟩ u2).setCell ⟨b, 3, none⟩ u3).setCell ⟨b, 4, none⟩ u4) :=
  ((((h.setCell (p := ⟨b, 0, none⟩) hb _).setCell (p := ⟨b, 1, none⟩) hb _).setCell (p := ⟨b, 2, none⟩) hb _).setCell (p := ⟨b, 3, none⟩) hb _).setCell (p := ⟨b, 4, none⟩) hb _
theorem line_len {c : Ch} (h : okC c = true) : (lineL c).length ≤ 180 := by
  obtain ⟨_, _, h0, h1, h2, h3⟩ := okC_iff.1 h
  have z0 := okF_size h0
  have z1 := okF_size h1
  have z2 := okF_size h2
  have z3 := okF_size h3
  have hp : ∀ (i : Nat) (q : Bool) (s : ByteArray), s.size ≤ 40 → (partL i q s).length ≤ 43 := by
    intro i q s hs
    unfold partL
    split
    · split
      · simp [bts_len]; omega
      · simp [bts_len]; omega
    · simp
  have p0 := hp 0 (hasOf c.kind.toNat 0) _ z0
  have p1 := hp 1 (hasOf c.kind.toNat 1) _ z1
  have p2 := hp 2 (hasOf c.kind.toNat 2) _ z2
  have p3 := hp 3 (hasOf c.kind.toNat 3) _ z3
  have := word_len c.kind.toNat
  unfold lineL
  simp only [List.length_append]
  omega
theorem line_parse (s : ByteArray) (w : World) (hs : s.size ≤ 1000000) (hW : Ways w) :
    Calls Tryd.prog 32 #[.string s] w fun e w' => e = .returned (.tuple #[(parseC s).v, .bool (saysB s)]) ∧ Ext w w' := by
  have HR0 := RowAt.new w 27 [.int .i64 0, .string ⟨#[]⟩, .string ⟨#[]⟩, .string ⟨#[]⟩, .string ⟨#[]⟩]
  have hld := fun w' (h : Ext w w') => ways_range (hW.ext h)
  have HLD := Lib.hid hld
  clear hld
  go_enter Tryd.func32, Tryd.ntmps32
  go_upto_region 1 with fail
  have hx0 := Ext.alloc w (.cells #[.int .i64 0, .string ⟨#[]⟩, .string ⟨#[]⟩, .string ⟨#[]⟩, .string ⟨#[]⟩] 27)
  generalize w.alloc (.cells #[.int .i64 0, .string ⟨#[]⟩, .string ⟨#[]⟩, .string ⟨#[]⟩, .string ⟨#[]⟩] 27) = w1 at *
  go_wp2_with fail
  refine (cut_any s _ (by omega)).mono ?_
  rintro e w2 ⟨⟨bb, rfl⟩, hx2⟩
  go_upto_region 3 with fail
  have HR1 := RowAt.new w2 27 [.int .i64 0, .string ⟨#[]⟩, .string ⟨#[]⟩, .string ⟨#[]⟩, .string ⟨#[]⟩]
  have hx3 := Ext.alloc w2 (.cells #[.int .i64 0, .string ⟨#[]⟩, .string ⟨#[]⟩, .string ⟨#[]⟩, .string ⟨#[]⟩] 27)
  generalize w2.alloc (.cells #[.int .i64 0, .string ⟨#[]⟩, .string ⟨#[]⟩, .string ⟨#[]⟩, .string ⟨#[]⟩] 27) = w3 at *
  have hb1 : w.heap.size ≤ w2.heap.size := (hx0.trans hx2).size
  have hlt0 := HR0.lt
  have hb01 : w.heap.size < w2.heap.size := Nat.lt_of_lt_of_le hlt0 hx2.size
  have hl3 := HLD.out w3 (by repeat (first | exact Ext.refl _ | with_reducible assumption | with_reducible refine Ext.alloc_of ?_ _ | with_reducible refine Ext.drewN_of ?_ _ | with_reducible refine Ext.drew_of ?_ | (with_reducible refine Ext.set_of ?_ ?hsz _; case hsz => ((first | exact Nat.le_refl _ | omega | (simp; omega)))) | with_reducible refine Ext.via (by assumption) ?_))
  have hB3 : Below w.heap.size w w3 := Ext.trans (Ext.trans hx0 hx2) hx3
  replace HR0 := (HR0.ext hx2).ext hx3
  clear HLD hx0 hx2 hx3 hlt0
  generalize w2.heap.size = b1 at *
  refine wp_region_lit (wpList_load_mid rfl _ _ rfl 0 0 rfl waysL _ hl3 Tryd.underlying55 rfl (by kernel_rfl) ?_)
  clear hl3
  have hwi := ways_index
  generalize waysL.toArray = WA at *
  go_upto_region 4 with fail
  obtain ⟨K, hK⟩ : ∃ K, K = kindL (bts (cut1 s)) := ⟨_, rfl⟩
  have hK8 : K ≤ 8 := hK ▸ kindL_le _
  have hwk : ∀ i, 1 ≤ i → i ≤ 8 → (txt (wordOf i) = cut1 s ↔ i = K) := by
    intro i h1 h8
    constructor
    · intro h
      rw [hK, ← h, bts_txt, kindL_word h1 h8]
    · rintro rfl
      rw [word_kindL hK.symm (by omega), txt_bts]
  have hp0 : K = 0 → parseC s = Ch.none := fun h => by unfold parseC; rw [← hK, if_pos h]
  have hp1 : K ≠ 0 → parseC s = (fromF (hasOf K 0) (hasOf K 1) (hasOf K 2) (hasOf K 3) 0 (⟨K, ⟨#[]⟩, ⟨#[]⟩, ⟨#[]⟩, ⟨#[]⟩⟩, cut2 s)).1 := fun h => by unfold parseC; rw [← hK, if_neg h]
  have HP0 := Lib.hid hp0
  have HP1 := Lib.hid hp1
  have HWK := Lib.hid hwk
  have hc2 := cut2_size s
  clear hp0 hp1 hwk hK
  go_loopw [5, 22] (fun u v wr => ∃ (i : Nat) (c : Ch) (r : ByteArray), i ≤ 9 ∧ v = .int .i64 i ∧ u = .string r ∧ RowAt wr b1 27 c.cells ∧ Below b1 w3 wr ∧ (K = 0 ∨ i ≤ K → c = Ch.none ∧ r = cut2 s) ∧ (¬ (K = 0 ∨ i ≤ K) → c = parseC s)) (fun _ v _ => 9 - (intOf v).toNat)
  case atStart => exact ⟨0, Ch.none, cut2 s, by omega, rfl, rfl, HR1, Below.refl _ _, fun _ => ⟨rfl, rfl⟩, fun h => by omega⟩
  case round =>
    obtain ⟨i, c, r, hi, rfl, rfl, hR1, hB, hs1, hs2⟩ := hrel
    by_cases hi9 : i = 9
    · subst hi9
      have hc : c = parseC s := by
        rcases Nat.eq_zero_or_pos K with h | h
        · rw [HP0.out h]; exact (hs1 (.inl h)).1
        · exact hs2 (by omega)
      have HCE := Lib.hid hc.symm
      have hsm := parseC_small s
      rw [← hc] at hsm
      have hsy : saysB s = (okC c && decide (lineL c = bts s)) := by rw [hc]; rfl
      have hR0 := HR0.below hB hb01
      have hBw : Below w.heap.size w wr := hB3.trans (hB.mono hb1)
      have hWr : Ways wr := hW.below hBw (Nat.le_refl _)
      clear hc hs1 hs2 HP0 HP1 HWK hwi hK8
      obtain ⟨kd, key, name, val, to_⟩ := c
      obtain ⟨y0, y1, y2, y3⟩ := hsm
      dsimp only at y0 y1 y2 y3
      have hln := fun w' (h : Ext wr w') => line_any ⟨kd, key, name, val, to_⟩ w' ⟨by dsimp only; omega, by dsimp only; omega, by dsimp only; omega, by dsimp only; omega⟩ (hWr.ext h)
      unfold Ch.v lineE at hln
      dsimp only at hln
      have HLN := Lib.hid hln
      have HSY := Lib.hid hsy
      clear hln hsy
      obtain ⟨c0, c1, c2, c3, c4, f0, f1, f2, f3, f4⟩ := hR1.facts5
      go_wp2_with fail
      refine (HLN.out _ (Ext.refl _)).mono ?_
      rintro e w5 ⟨rfl, hx5⟩
      obtain ⟨c0, c1, c2, c3, c4, f0, f1, f2, f3, f4⟩ := (hR1.ext hx5).facts5
      obtain ⟨d0, d1, d2, d3, d4, g0, g1, g2, g3, g4⟩ := (hR0.ext hx5).facts5
      have hBf : Hid (Below w.heap.size w w5) := Lib.hid (Below.ext hBw hx5 hBw.size)
      cases hok : okC ⟨kd, key, name, val, to_⟩ with
      | false =>
        have HF : Hid (saysB s = false) := Lib.hid (by rw [HSY.out, hok]; rfl)
        simp only [Bool.false_eq_true, if_false]
        clear HLN HSY hok
        go_wp2_with fail
        exact bodyPost_ret (v := .tuple #[.agg #[.int .i64 kd, .string key, .string name, .string val, .string to_], .bool false]) (by simp [results, Tryd.results32, go_sem, d0, d1, d2, d3, d4]) rfl ⟨by rw [HCE.out, HF.out]; rfl, below5 hBf.out (Nat.le_refl _) _ _ _ _ _⟩
      | true =>
        have hsz := line_len hok
        simp only [if_true]
        by_cases hl : lineL ⟨kd, key, name, val, to_⟩ = bts s
        · have HF : Hid (saysB s = true) := Lib.hid (by rw [HSY.out, hok, decide_eq_true hl]; rfl)
          have e1 : ((txt (lineL ⟨kd, key, name, val, to_⟩)).toList == s.toList) = true := str_yes (by rw [hl, txt_bts])
          clear HLN HSY hok
          generalize txt (lineL ⟨kd, key, name, val, to_⟩) = L at *
          clear hl
          go_wp2_with fail
          exact bodyPost_ret (v := .tuple #[.agg #[.int .i64 kd, .string key, .string name, .string val, .string to_], .bool true]) (by simp [results, Tryd.results32, go_sem, d0, d1, d2, d3, d4]) rfl ⟨by rw [HCE.out, HF.out]; rfl, below5 hBf.out (Nat.le_refl _) _ _ _ _ _⟩
        · have HF : Hid (saysB s = false) := Lib.hid (by rw [HSY.out, hok, decide_eq_false hl]; rfl)
          have e1 : ((txt (lineL ⟨kd, key, name, val, to_⟩)).toList == s.toList) = false := str_no (by intro e; exact hl (by rw [← e, bts_txt]))
          clear HLN HSY hok
          generalize txt (lineL ⟨kd, key, name, val, to_⟩) = L at *
          clear hl
          go_wp2_with fail
          exact bodyPost_ret (v := .tuple #[.agg #[.int .i64 kd, .string key, .string name, .string val, .string to_], .bool false]) (by simp [results, Tryd.results32, go_sem, d0, d1, d2, d3, d4]) rfl ⟨by rw [HCE.out, HF.out]; rfl, below5 hBf.out (Nat.le_refl _) _ _ _ _ _⟩
    · have hi' : i < 9 := by omega
      have hixk := hwi i hi'
      have hbx := RowAt.new wr 54 [.string (txt (wordOf i)), .bool (hasOf i 0), .bool (hasOf i 1), .bool (hasOf i 2), .bool (hasOf i 3)]
      go_upto_region 6 with fail
      have hxq := Ext.alloc wr (.cells #[.string (txt (wordOf i)), .bool (hasOf i 0), .bool (hasOf i 1), .bool (hasOf i 2), .bool (hasOf i 3)] 54)
      generalize wr.alloc (.cells #[.string (txt (wordOf i)), .bool (hasOf i 0), .bool (hasOf i 1), .bool (hasOf i 2), .bool (hasOf i 3)] 54) = wq at *
      obtain ⟨c0, c1, c2, c3, c4, f0, f1, f2, f3, f4⟩ := hbx.facts5
      by_cases he : txt (wordOf i) = cut1 s
      · have e1 := str_yes he
        by_cases h0 : i = 0
        · have ez : ((i : Int) == 0) = true := by simp; omega
          have Hne : Hid (i = 0) := Lib.hid h0
          clear he h0
          have Hnx : Hid (¬ (K = 0 ∨ i + 1 ≤ K) → c = parseC s) := Lib.hid (fun h => hs2 (by have := Hne.out; omega))
          go_wp2_with fail
          go_roundw
          case rel => exact ⟨i + 1, c, r, by omega, by go_num, rfl, hR1.ext hxq, Below.ext hB hxq (Nat.le_of_lt hR1.lt), fun h => hs1 (by omega), fun h => Hnx.out h⟩
          case measure => simp [intOf]; omega
        · have ez : ((i : Int) == 0) = false := by simp; omega
          have hiK : i = K := (HWK.out i (by omega) (by omega)).1 he
          obtain ⟨rfl, rfl⟩ := hs1 (by omega)
          subst hiK
          have hp1 := HP1.out h0
          have HP1' := Lib.hid hp1
          have hlt1 := hR1.lt
          have n1 : ¬ wr.heap.size = b1 := by omega
          have n2 : ¬ b1 = wr.heap.size := by omega
          obtain ⟨d0, d1, d2, d3, d4, g0, g1, g2, g3, g4⟩ := (hR1.ext hxq).facts5
          have hR2 := (hR1.ext hxq).set 0 (.int .i64 i)
          have hB2 : Below b1 w3 (wq.setCell ⟨b1, 0, none⟩ (.int .i64 i)) := (Below.ext hB hxq (Nat.le_of_lt hlt1)).setCell (p := ⟨b1, 0, none⟩) (Nat.le_refl _) _
          clear hp1 HP1 HP0 HWK hs2 hs1 he
          go_upto_region 10 with fail
          have ix0 : ∀ q0 q1 q2 q3 w, (Instr.index 52 (.agg #[.bool q0, .bool q1, .bool q2, .bool q3]) (.int .i64 0)).run Tryd.prog w = .ok (.bool q0) w := fun _ _ _ _ _ => rfl
          have ix1 : ∀ q0 q1 q2 q3 w, (Instr.index 52 (.agg #[.bool q0, .bool q1, .bool q2, .bool q3]) (.int .i64 1)).run Tryd.prog w = .ok (.bool q1) w := fun _ _ _ _ _ => rfl
          have ix2 : ∀ q0 q1 q2 q3 w, (Instr.index 52 (.agg #[.bool q0, .bool q1, .bool q2, .bool q3]) (.int .i64 2)).run Tryd.prog w = .ok (.bool q2) w := fun _ _ _ _ _ => rfl
          have ix3 : ∀ q0 q1 q2 q3 w, (Instr.index 52 (.agg #[.bool q0, .bool q1, .bool q2, .bool q3]) (.int .i64 3)).run Tryd.prog w = .ok (.bool q3) w := fun _ _ _ _ _ => rfl
          clear hR1 hB d0 d1 d2 d3 d4 g0 g1 g2 g3 g4 c0 c1 c2 c3 c4 f0 f1 f2 f3 f4
          generalize wq.setCell ⟨b1, 0, none⟩ (.int .i64 i) = wz at *
          clear hlt1 n1 n2 hixk e1
          have ix0 := ix0 (hasOf i 0) (hasOf i 1) (hasOf i 2) (hasOf i 3)
          have ix1 := ix1 (hasOf i 0) (hasOf i 1) (hasOf i 2) (hasOf i 3)
          have ix2 := ix2 (hasOf i 0) (hasOf i 1) (hasOf i 2) (hasOf i 3)
          have ix3 := ix3 (hasOf i 0) (hasOf i 1) (hasOf i 2) (hasOf i 3)
          obtain ⟨q0, hq0⟩ : ∃ q, q = hasOf i 0 := ⟨_, rfl⟩
          obtain ⟨q1, hq1⟩ : ∃ q, q = hasOf i 1 := ⟨_, rfl⟩
          obtain ⟨q2, hq2⟩ : ∃ q, q = hasOf i 2 := ⟨_, rfl⟩
          obtain ⟨q3, hq3⟩ : ∃ q, q = hasOf i 3 := ⟨_, rfl⟩
          have hd9 : decide ((i : Int) < 9) = true := decide_eq_true (by omega)
          simp only [← hq0, ← hq1, ← hq2, ← hq3, hd9] at ix0 ix1 ix2 ix3 HP1' ⊢
          clear hd9
          clear hq0 hq1 hq2 hq3
          go_loopw [5, 40] (fun u v wr => ∃ (j : Nat) (c : Ch) (r : ByteArray), j ≤ 4 ∧ v = .int .i64 j ∧ u = .string r ∧ RowAt wr b1 27 c.cells ∧ Below b1 w3 wr ∧ fromF q0 q1 q2 q3 j (c, r) = fromF q0 q1 q2 q3 0 (⟨i, ⟨#[]⟩, ⟨#[]⟩, ⟨#[]⟩, ⟨#[]⟩⟩, cut2 s) ∧ r.size ≤ s.size) (fun _ v _ => 4 - (intOf v).toNat)
          case atStart => exact ⟨0, ⟨i, ⟨#[]⟩, ⟨#[]⟩, ⟨#[]⟩, ⟨#[]⟩⟩, cut2 s, by omega, rfl, rfl, hR2, hB2, rfl, hc2⟩
          case round =>
            obtain ⟨j, c, r, hj, rfl, rfl, hR1, hB, hfin, hrs⟩ := hrel
            have hFin := Lib.hid hfin
            clear hfin
            have hcases : j = 0 ∨ j = 1 ∨ j = 2 ∨ j = 3 ∨ j = 4 := by omega
            rcases hcases with rfl | rfl | rfl | rfl | rfl
            · cases q0 with
              | true =>
                go_wp2_with fail
                refine (field_any b1 0 _ (by omega)).mono ?_
                rintro e w4 ⟨rfl, hx4⟩
                obtain ⟨c0, c1, c2, c3, c4, f0, f1, f2, f3, f4⟩ := (hR1.ext hx4).facts5
                go_wp2_with fail
                refine (cut_any r _ (by omega)).mono ?_
                rintro e w5 ⟨⟨bb, rfl⟩, hx5⟩
                obtain ⟨c0, c1, c2, c3, c4, f0, f1, f2, f3, f4⟩ := ((hR1.ext hx4).ext hx5).facts5
                have hR1' := ((hR1.ext hx4).ext hx5).set (0 + 1) (.string (cut1 r))
                have hB' : Below b1 w3 (w5.setCell ⟨b1, 0 + 1, none⟩ (.string (cut1 r))) := (Below.ext hB (hx4.trans hx5) (Nat.le_of_lt hR1.lt)).setCell (p := ⟨b1, 0 + 1, none⟩) (Nat.le_refl _) _
                go_wp2_with fail
                go_roundw
                case rel => exact ⟨0 + 1, c.put 0 (cut1 r), cut2 r, by omega, rfl, rfl, hR1', hB', by rw [← hFin.out]; simp [fromF, stepF], by have := cut2_size r; omega⟩
                case measure => simp [intOf]
              | false =>
                go_wp2_with fail
                go_roundw
                case rel => exact ⟨0 + 1, c, r, by omega, rfl, rfl, hR1, hB, by rw [← hFin.out]; simp [fromF, stepF], hrs⟩
                case measure => simp [intOf]
            · cases q1 with
              | true =>
                go_wp2_with fail
                refine (field_any b1 1 _ (by omega)).mono ?_
                rintro e w4 ⟨rfl, hx4⟩
                obtain ⟨c0, c1, c2, c3, c4, f0, f1, f2, f3, f4⟩ := (hR1.ext hx4).facts5
                go_wp2_with fail
                refine (cut_any r _ (by omega)).mono ?_
                rintro e w5 ⟨⟨bb, rfl⟩, hx5⟩
                obtain ⟨c0, c1, c2, c3, c4, f0, f1, f2, f3, f4⟩ := ((hR1.ext hx4).ext hx5).facts5
                have hR1' := ((hR1.ext hx4).ext hx5).set (1 + 1) (.string (cut1 r))
                have hB' : Below b1 w3 (w5.setCell ⟨b1, 1 + 1, none⟩ (.string (cut1 r))) := (Below.ext hB (hx4.trans hx5) (Nat.le_of_lt hR1.lt)).setCell (p := ⟨b1, 1 + 1, none⟩) (Nat.le_refl _) _
                go_wp2_with fail
                go_roundw
                case rel => exact ⟨1 + 1, c.put 1 (cut1 r), cut2 r, by omega, rfl, rfl, hR1', hB', by rw [← hFin.out]; simp [fromF, stepF], by have := cut2_size r; omega⟩
                case measure => simp [intOf]
              | false =>
                go_wp2_with fail
                go_roundw
                case rel => exact ⟨1 + 1, c, r, by omega, rfl, rfl, hR1, hB, by rw [← hFin.out]; simp [fromF, stepF], hrs⟩
                case measure => simp [intOf]
            · cases q2 with
              | true =>
                go_wp2_with fail
                refine (Tryd.strings_TrimPrefix r ⟨#[34]⟩ _).mono ?_
                rintro e w' ⟨rfl, rfl⟩
                have ht := tp_len (bts r) [34]
                rw [bts_len] at ht
                go_wp2_with fail
                refine (Tryd.strings_TrimSuffix (txt (Lib.trimPrefix (bts r) [34])) ⟨#[34]⟩ _ (by rw [txt_size]; omega)).mono ?_
                rintro e w' ⟨rfl, rfl⟩
                go_wp2_with fail
                refine (field_any b1 2 _ (by omega)).mono ?_
                rintro e w4 ⟨rfl, hx4⟩
                obtain ⟨c0, c1, c2, c3, c4, f0, f1, f2, f3, f4⟩ := (hR1.ext hx4).facts5
                have hR1' := (hR1.ext hx4).set (2 + 1) (.string (trimQ r))
                have hB' : Below b1 w3 (w4.setCell ⟨b1, 2 + 1, none⟩ (.string (trimQ r))) := (Below.ext hB hx4 (Nat.le_of_lt hR1.lt)).setCell (p := ⟨b1, 2 + 1, none⟩) (Nat.le_refl _) _
                go_wp2_with fail
                go_roundw
                case rel => exact ⟨2 + 1, c.put 2 (trimQ r), ⟨#[]⟩, by omega, rfl, rfl, hR1', hB', by rw [← hFin.out]; simp [fromF, stepF], Nat.zero_le _⟩
                case measure => simp [intOf]
              | false =>
                go_wp2_with fail
                go_roundw
                case rel => exact ⟨2 + 1, c, r, by omega, rfl, rfl, hR1, hB, by rw [← hFin.out]; simp [fromF, stepF], hrs⟩
                case measure => simp [intOf]
            · cases q3 with
              | true =>
                go_wp2_with fail
                refine (field_any b1 3 _ (by omega)).mono ?_
                rintro e w4 ⟨rfl, hx4⟩
                obtain ⟨c0, c1, c2, c3, c4, f0, f1, f2, f3, f4⟩ := (hR1.ext hx4).facts5
                go_wp2_with fail
                refine (cut_any r _ (by omega)).mono ?_
                rintro e w5 ⟨⟨bb, rfl⟩, hx5⟩
                obtain ⟨c0, c1, c2, c3, c4, f0, f1, f2, f3, f4⟩ := ((hR1.ext hx4).ext hx5).facts5
                have hR1' := ((hR1.ext hx4).ext hx5).set (3 + 1) (.string (cut1 r))
                have hB' : Below b1 w3 (w5.setCell ⟨b1, 3 + 1, none⟩ (.string (cut1 r))) := (Below.ext hB (hx4.trans hx5) (Nat.le_of_lt hR1.lt)).setCell (p := ⟨b1, 3 + 1, none⟩) (Nat.le_refl _) _
                go_wp2_with fail
                go_roundw
                case rel => exact ⟨3 + 1, c.put 3 (cut1 r), cut2 r, by omega, rfl, rfl, hR1', hB', by rw [← hFin.out]; simp [fromF, stepF], by have := cut2_size r; omega⟩
                case measure => simp [intOf]
              | false =>
                go_wp2_with fail
                go_roundw
                case rel => exact ⟨3 + 1, c, r, by omega, rfl, rfl, hR1, hB, by rw [← hFin.out]; simp [fromF, stepF], hrs⟩
                case measure => simp [intOf]
            · have hc : c = parseC s := by rw [HP1'.out, ← hFin.out]; rfl
              have Hc := Lib.hid hc
              clear hc
              go_wp2_with fail
              go_roundw
              case rel => exact ⟨i + 1, c, r, by omega, by go_num, rfl, hR1, hB, fun h => by omega, fun _ => Hc.out⟩
              case measure => simp [intOf]; omega
      · have e1 := str_no he
        have Hne : Hid (1 ≤ i → i ≠ K) := Lib.hid (fun h1 h => he ((HWK.out i h1 (by omega)).2 h))
        clear he
        have Hnx : Hid (¬ (K = 0 ∨ i + 1 ≤ K) → c = parseC s) := Lib.hid (fun h => by
          by_cases hz : i = 0
          · exact hs2 (by omega)
          · have := Hne.out (by omega)
            exact hs2 (by omega))
        go_wp2_with fail
        go_roundw
        case rel => exact ⟨i + 1, c, r, by omega, by go_num, rfl, hR1.ext hxq, Below.ext hB hxq (Nat.le_of_lt hR1.lt), fun h => hs1 (by omega), fun h => Hnx.out h⟩
        case measure => simp [intOf]; omega
end Go.Proofs.YtilbofkpjgcchaaDoor
