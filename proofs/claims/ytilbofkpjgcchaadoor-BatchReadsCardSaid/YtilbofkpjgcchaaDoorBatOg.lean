/- The reference's change of a line: the walk. -/
import Derived.Test.YtilbofkpjgcchaaDoorBatOf
namespace Go.Proofs.YtilbofkpjgcchaaDoor
set_option maxRecDepth 100000
set_option maxHeartbeats 2000000
set_option linter.unusedVariables false
set_option linter.unusedSimpArgs false
open Go.RowKit

theorem of_store {w W : World} {xs : List Value} (hx : Ext w W) (hr : RowAt W w.heap.size 27 xs) (u0 u1 u2 u3 u4 : Value) (hl : xs.length = 5) :
    Ext w (((((W.setCell ⟨w.heap.size, 0, none⟩ u0).setCell ⟨w.heap.size, 1, none⟩ u1).setCell ⟨w.heap.size, 2, none⟩ u2).setCell ⟨w.heap.size, 3, none⟩ u3).setCell ⟨w.heap.size, 4, none⟩ u4) ∧
    RowAt (((((W.setCell ⟨w.heap.size, 0, none⟩ u0).setCell ⟨w.heap.size, 1, none⟩ u1).setCell ⟨w.heap.size, 2, none⟩ u2).setCell ⟨w.heap.size, 3, none⟩ u3).setCell ⟨w.heap.size, 4, none⟩ u4) w.heap.size 27 [u0, u1, u2, u3, u4] := by
  refine ⟨Ext.set_of (Ext.set_of (Ext.set_of (Ext.set_of (Ext.set_of hx (Nat.le_refl _) _) (Nat.le_refl _) _) (Nat.le_refl _) _) (Nat.le_refl _) _) (Nat.le_refl _) _, ?_⟩
  have := ((((hr.set 0 u0).set 1 u1).set 2 u2).set 3 u3).set 4 u4
  match xs, hl with
  | [a, b, c, d, e], _ => exact this
def ofE (s : ByteArray) : Value := match ofR s with
  | some c => .tuple #[c.v, .bool true]
  | none => .tuple #[Ch.none.v, .bool false]
theorem words9 (k : Nat) (h : k < 9) : ([.string ⟨#[]⟩, .string ⟨#[97, 100, 100]⟩, .string ⟨#[100, 114, 111, 112]⟩, .string ⟨#[108, 97, 98, 101, 108]⟩, .string ⟨#[117, 110, 108, 97, 98, 101, 108]⟩, .string ⟨#[115, 101, 116]⟩, .string ⟨#[117, 110, 115, 101, 116]⟩, .string ⟨#[108, 105, 110, 107]⟩, .string ⟨#[117, 110, 108, 105, 110, 107]⟩] : List Value)[k]? = some (.string (txt (wordOf k))) := by
  have hc : k = 0 ∨ k = 1 ∨ k = 2 ∨ k = 3 ∨ k = 4 ∨ k = 5 ∨ k = 6 ∨ k = 7 ∨ k = 8 := by omega
  rcases hc with rfl | rfl | rfl | rfl | rfl | rfl | rfl | rfl | rfl <;> rfl
theorem ofC_eq (k : Nat) (s : ByteArray) : ofC k s = ⟨k, txt (atL (wordsL (bts s)) 1), if 3 ≤ k then txt (atL (wordsL (bts s)) 2) else ⟨#[]⟩,
    if k = 5 ∧ (txt (wordOf k)).size + (txt (atL (wordsL (bts s)) 1)).size + (txt (atL (wordsL (bts s)) 2)).size + 4 < s.size then s.extract ((txt (wordOf k)).size + (txt (atL (wordsL (bts s)) 1)).size + (txt (atL (wordsL (bts s)) 2)).size + 4) (s.size - 1) else ⟨#[]⟩, if 7 ≤ k then txt (atL (wordsL (bts s)) 3) else ⟨#[]⟩⟩ := by
  rw [txt_size, txt_size, txt_size]; rfl
theorem of_ext {w w' : World} {b i : Nat} (hx : Ext w w') (hb : w.heap.size ≤ b) (v : Value) : Ext w (w'.setCell ⟨b, i, none⟩ v) := Ext.set_of hx hb v
set_option maxHeartbeats 16000000 in
theorem of_any (s : ByteArray) (w : World) (hs : s.size ≤ 1000000) :
    Calls Tryd.prog 34 #[.string s] w fun e w' => e = .returned (ofE s) ∧ Ext w w' := by
  have hr0 := RowAt.new w 27 [.int .i64 0, .string ⟨#[]⟩, .string ⟨#[]⟩, .string ⟨#[]⟩, .string ⟨#[]⟩]
  have hx0 := Ext.alloc w (.cells #[.int .i64 0, .string ⟨#[]⟩, .string ⟨#[]⟩, .string ⟨#[]⟩, .string ⟨#[]⟩] 27)
  have hkw : kindW s = kindL (atL (wordsL (bts s)) 0) := rfl
  have hk8 : kindW s ≤ 8 := kindL_le _
  have hcq := ofC_eq (kindW s) s
  have hl1 := atL_len (bts s) 1
  have hl2 := atL_len (bts s) 2
  have hl3 := atL_len (bts s) 3
  rw [bts_len, ← txt_size] at hl1 hl2 hl3
  have hwl : 0 < (wordsL (bts s)).length := by obtain ⟨a, b, e⟩ := wordsL_ne (bts s); rw [e]; simp
  have hdef : ∀ K, kindW s = K → K ≠ 0 → ofR s = if okC (ofC K s) = true ∧ lineL (ofC K s) = bts s then some (ofC K s) else none := fun K h h0 => by unfold ofR; rw [if_neg (by omega), h]
  have hno : kindW s = 0 → ofR s = none := fun h => by unfold ofR; rw [if_pos h]
  go_enter Tryd.func34, Tryd.ntmps34
  go_upto_region 1 with fail
  generalize w.alloc (.cells #[.int .i64 0, .string ⟨#[]⟩, .string ⟨#[]⟩, .string ⟨#[]⟩, .string ⟨#[]⟩] 27) = w1 at *
  go_wp2_with fail
  refine (words_any s _ hs).mono ?_
  rintro e w2 ⟨u, rfl, hu, hx2⟩
  obtain ⟨au, cu, rfl⟩ := own_vw hu
  have hws := Sl.of_own hu
  clear hu
  go_upto_region 3 with fail
  have hr9 := RowAt.new w2 9 [.string ⟨#[]⟩, .string ⟨#[97, 100, 100]⟩, .string ⟨#[100, 114, 111, 112]⟩, .string ⟨#[108, 97, 98, 101, 108]⟩, .string ⟨#[117, 110, 108, 97, 98, 101, 108]⟩, .string ⟨#[115, 101, 116]⟩, .string ⟨#[117, 110, 115, 101, 116]⟩, .string ⟨#[108, 105, 110, 107]⟩, .string ⟨#[117, 110, 108, 105, 110, 107]⟩]
  have hx3 := Ext.alloc w2 (.cells #[.string ⟨#[]⟩, .string ⟨#[97, 100, 100]⟩, .string ⟨#[100, 114, 111, 112]⟩, .string ⟨#[108, 97, 98, 101, 108]⟩, .string ⟨#[117, 110, 108, 97, 98, 101, 108]⟩, .string ⟨#[115, 101, 116]⟩, .string ⟨#[117, 110, 115, 101, 116]⟩, .string ⟨#[108, 105, 110, 107]⟩, .string ⟨#[117, 110, 108, 105, 110, 107]⟩] 9)
  generalize w2.alloc (.cells #[.string ⟨#[]⟩, .string ⟨#[97, 100, 100]⟩, .string ⟨#[100, 114, 111, 112]⟩, .string ⟨#[108, 97, 98, 101, 108]⟩, .string ⟨#[117, 110, 108, 97, 98, 101, 108]⟩, .string ⟨#[115, 101, 116]⟩, .string ⟨#[117, 110, 115, 101, 116]⟩, .string ⟨#[108, 105, 110, 107]⟩, .string ⟨#[117, 110, 108, 105, 110, 107]⟩] 9) = w3 at *
  have HWS := Lib.hid (hws.ext hx3)
  have HR2 := Lib.hid ((hr0.ext hx2).ext hx3)
  have HX1 := Lib.hid (hx0.trans (hx2.trans hx3))
  have HR9 := Lib.hid (fun k h => hr9.cell (words9 k h))
  have HDEF := Lib.hid hdef
  have HNO := Lib.hid hno
  have HE : Hid (ofE s = match ofR s with | some c => .tuple #[c.v, .bool true] | none => .tuple #[Ch.none.v, .bool false]) := Lib.hid rfl
  clear hws hr0 hx0 hx2 hx3 hdef hno hr9
  generalize wordsL (bts s) = ws at *
  generalize kindW s = K at *
  generalize h1 : txt (atL ws 1) = key at *
  generalize h2 : txt (atL ws 2) = nm at *
  generalize h3 : txt (atL ws 3) = t3 at *
  have HA1 := Lib.hid h1
  have HA2 := Lib.hid h2
  have HA3 := Lib.hid h3
  have HKW := Lib.hid hkw
  have Hcq0 := Lib.hid hcq
  clear h1 h2 h3 hkw hcq
  go_loopg [13] 9 (fun g i wr => ∃ k : Nat, k ≤ 9 ∧ g = 9 - k ∧ i = .int .i64 k ∧ (K ≠ 0 → K < k → ofR s = none) ∧ Ext w3 wr)
  case atStart => exact ⟨0, by omega, rfl, rfl, fun _ h => by omega, Ext.refl _⟩
  case round =>
    obtain ⟨k, hk, hg, rfl, hnone, hx⟩ := hrel
    have Hg := Lib.hid hg
    have HN := Lib.hid hnone
    clear hg hnone
    by_cases hlt : k < 9
    · have c9 := ext_cell hx (HR9.out k hlt)
      obtain ⟨b, o, rfl, _, c0⟩ := strs_cell (HWS.out.ext hx) hwl
      rw [Nat.add_zero] at c0
      by_cases hk0 : k = 0
      · subst hk0
        go_wp2_with fail
        go_roundg 8
        case measure => have := Hg.out; omega
        case rel => exact ⟨1, by omega, by omega, by go_num, fun h1 h2 => absurd h2 (by omega), hx⟩
      · by_cases hkK : K = k
        · subst hkK
          have k0 : ((K : Int) == 0) = false := by simp; omega
          have w0e : atL ws 0 = wordOf K := (word_kindL HKW.out.symm hk0).symm
          rw [w0e] at c0
          have hst0 := str_yes (x := txt (wordOf K)) rfl
          have hwk : (txt (wordOf K)).size ≤ 7 := by rw [txt_size]; exact word_len K
          have HDK := Lib.hid (HDEF.out K rfl hk0)
          generalize txt (wordOf K) = wk at *
          have HBX := RowAt.new wr 27 [.int .i64 K, .string key, .string ⟨#[]⟩, .string ⟨#[]⟩, .string ⟨#[]⟩]
          have hxa := Ext.alloc wr (.cells #[.int .i64 K, .string key, .string ⟨#[]⟩, .string ⟨#[]⟩, .string ⟨#[]⟩] 27)
          go_wp2_with fail
          refine (at_any _ _ 1 _ (HWS.out.ext hx) (by omega)).mono ?_
          rintro e w' ⟨rfl, rfl⟩
          rw [HA1.out]
          go_upto_region 7 with fail
          generalize wr.alloc (.cells #[.int .i64 K, .string key, .string ⟨#[]⟩, .string ⟨#[]⟩, .string ⟨#[]⟩] 27) = wa at *
          have HXA := Lib.hid (hx.trans hxa)
          have HXW := Lib.hid hx.size
          clear c0 c9 w0e hx hxa
          by_cases hk2 : K ≤ 2
          · have k5 : ((K : Int) == 5) = false := by simp; omega
            have Hcq : Hid (ofC K s = ⟨K, key, ⟨#[]⟩, ⟨#[]⟩, ⟨#[]⟩⟩) := Lib.hid (by rw [Hcq0.out, if_neg (by omega), if_neg (by omega), if_neg (by omega)])
            obtain ⟨c0, c1, c2, c3, c4, f0, f1, f2, f3, f4⟩ := HBX.facts5
            have HRW := Lib.hid HBX
            have HXR := HXA
            clear HBX
            go_upto_region 14 with fail
            have hrow := HRW.out
            obtain ⟨c0, c1, c2, c3, c4, f0, f1, f2, f3, f4⟩ := hrow.facts5
            have hcq := Hcq.out
            have hri := fun w => rightR (Ch.mk K key ⟨#[]⟩ ⟨#[]⟩ ⟨#[]⟩) w ⟨by dsimp only; omega, Nat.zero_le _, Nat.zero_le _, Nat.zero_le _⟩
            have hlr := fun w (h : okC (Ch.mk K key ⟨#[]⟩ ⟨#[]⟩ ⟨#[]⟩) = true) => lineR (Ch.mk K key ⟨#[]⟩ ⟨#[]⟩ ⟨#[]⟩) w h
            have hof : ofR s = if okC (Ch.mk K key ⟨#[]⟩ ⟨#[]⟩ ⟨#[]⟩) = true ∧ lineL (Ch.mk K key ⟨#[]⟩ ⟨#[]⟩ ⟨#[]⟩) = bts s then some (Ch.mk K key ⟨#[]⟩ ⟨#[]⟩ ⟨#[]⟩) else none := by rw [← hcq]; exact HDK.out
            unfold Ch.v at hri hlr
            dsimp only at hri hlr
            cases hok : okC (Ch.mk K key ⟨#[]⟩ ⟨#[]⟩ ⟨#[]⟩) with
            | false =>
              rw [hok] at hri
              have HRI := Lib.hid hri
              have HF : Hid (ofR s = none) := Lib.hid (by rw [hof, hok]; simp)
              clear hri hlr hof hok hcq hrow
              go_wp2_with fail
              refine (HRI.out _).mono ?_
              rintro e wb ⟨rfl, hxb⟩
              go_wp2_with fail
              go_roundg (9 - (K + 1))
              case measure => have := Hg.out; omega
              case rel => exact ⟨K + 1, by omega, rfl, by go_num, fun _ _ => HF.out, HXR.out.trans hxb⟩
            | true =>
              have hlr' := fun w => hlr w hok
              rw [hok] at hri
              have HRI := Lib.hid hri
              have HLR := Lib.hid hlr'
              by_cases hle : lineL (Ch.mk K key ⟨#[]⟩ ⟨#[]⟩ ⟨#[]⟩) = bts s
              · have HF : Hid (ofR s = some (Ch.mk K key ⟨#[]⟩ ⟨#[]⟩ ⟨#[]⟩)) := Lib.hid (by rw [hof, if_pos ⟨hok, hle⟩])
                have hts : txt (lineL (Ch.mk K key ⟨#[]⟩ ⟨#[]⟩ ⟨#[]⟩)) = s := by rw [hle, txt_bts]
                rw [hts] at HLR
                have hst := str_yes (x := s) rfl
                clear hri hlr hlr' hof hok hcq hle hts hrow
                go_wp2_with fail
                refine (HRI.out _).mono ?_
                rintro e wb ⟨rfl, hxb⟩
                obtain ⟨c0, c1, c2, c3, c4, f0, f1, f2, f3, f4⟩ := (HRW.out.ext hxb).facts5
                go_wp2_with fail
                refine (HLR.out _).mono ?_
                rintro e wc ⟨rfl, hxc⟩
                obtain ⟨c0, c1, c2, c3, c4, f0, f1, f2, f3, f4⟩ := ((HRW.out.ext hxb).ext hxc).facts5
                have HXC := Lib.hid (HXR.out.trans (hxb.trans hxc))
                have hr2 := HR2.out.ext HXC.out
                obtain ⟨d0, d1, d2, d3, d4, g0, g1, g2, g3, g4⟩ := hr2.facts5
                have HEND := Lib.hid (of_store (HX1.out.trans HXC.out) hr2 (.int .i64 K) (.string key) (.string ⟨#[]⟩) (.string ⟨#[]⟩) (.string ⟨#[]⟩) rfl)
                clear hxb hxc hr2
                go_wp2_with fail
                obtain ⟨hxe, hre⟩ := HEND.out
                obtain ⟨e0, e1, e2, e3, e4, _⟩ := hre.facts5
                refine bodyPost_ret (v := .tuple #[(Ch.mk K key ⟨#[]⟩ ⟨#[]⟩ ⟨#[]⟩).v, .bool true]) (by simp [results, Tryd.results34, go_sem, e0, e1, e2, e3, e4, Ch.v]) rfl ⟨by rw [HE.out, HF.out], hxe⟩
              · have HF : Hid (ofR s = none) := Lib.hid (by rw [hof, if_neg (fun h => hle h.2)])
                have hst : ((txt (lineL (Ch.mk K key ⟨#[]⟩ ⟨#[]⟩ ⟨#[]⟩))).toList == s.toList) = false := str_no (fun e => hle (by rw [← e, bts_txt]))
                generalize txt (lineL (Ch.mk K key ⟨#[]⟩ ⟨#[]⟩ ⟨#[]⟩)) = tl at *
                clear hri hlr hlr' hof hok hcq hle hrow
                go_wp2_with fail
                refine (HRI.out _).mono ?_
                rintro e wb ⟨rfl, hxb⟩
                obtain ⟨c0, c1, c2, c3, c4, f0, f1, f2, f3, f4⟩ := (HRW.out.ext hxb).facts5
                go_wp2_with fail
                refine (HLR.out _).mono ?_
                rintro e wc ⟨rfl, hxc⟩
                go_wp2_with fail
                go_roundg (9 - (K + 1))
                case measure => have := Hg.out; omega
                case rel => exact ⟨K + 1, by omega, rfl, by go_num, fun _ _ => HF.out, HXR.out.trans (hxb.trans hxc)⟩
          · have hk2' : 2 < K := by omega
            obtain ⟨c0, c1, c2, c3, c4, f0, f1, f2, f3, f4⟩ := HBX.facts5
            go_wp2_with fail
            refine (at_any _ _ 2 _ (HWS.out.ext HXA.out) (by omega)).mono ?_
            rintro e w' ⟨rfl, rfl⟩
            rw [HA2.out]
            have HRB := HBX.set 2 (.string nm)
            have HXB : Hid (Ext w3 (wa.setCell ⟨wr.heap.size, 2, none⟩ (.string nm))) := Lib.hid (of_ext HXA.out HXW.out _)
            go_upto_region 9 with fail
            clear c0 c1 c2 c3 c4 f0 f1 f2 f3 f4
            generalize wa.setCell ⟨wr.heap.size, 2, none⟩ (.string nm) = wb at *
            obtain ⟨c0, c1, c2, c3, c4, f0, f1, f2, f3, f4⟩ := HRB.facts5
            have HRB' := Lib.hid HRB
            clear HBX HRB
            by_cases hk7 : 7 ≤ K
            · have k5 : ((K : Int) == 5) = false := by simp; omega
              have Hcq : Hid (ofC K s = ⟨K, key, nm, ⟨#[]⟩, t3⟩) := Lib.hid (by rw [Hcq0.out, if_pos (by omega), if_neg (by omega), if_pos (by omega)])
              go_wp2_with fail
              refine (at_any _ _ 3 _ (HWS.out.ext HXB.out) (by omega)).mono ?_
              rintro e w' ⟨rfl, rfl⟩
              rw [HA3.out]
              have HRW := Lib.hid (HRB'.out.set 4 (.string t3))
              have HXR : Hid (Ext w3 (wb.setCell ⟨wr.heap.size, 4, none⟩ (.string t3))) := Lib.hid (of_ext HXB.out HXW.out _)
              clear HRB' HXB
              go_upto_region 11 with fail
              clear c0 c1 c2 c3 c4 f0 f1 f2 f3 f4
              generalize wb.setCell ⟨wr.heap.size, 4, none⟩ (.string t3) = wf at *
              obtain ⟨c0, c1, c2, c3, c4, f0, f1, f2, f3, f4⟩ := HRW.out.facts5
              go_upto_region 14 with fail
              have hrow := HRW.out
              obtain ⟨c0, c1, c2, c3, c4, f0, f1, f2, f3, f4⟩ := hrow.facts5
              have hcq := Hcq.out
              have hri := fun w => rightR (Ch.mk K key nm ⟨#[]⟩ t3) w ⟨by dsimp only; omega, by dsimp only; omega, Nat.zero_le _, by dsimp only; omega⟩
              have hlr := fun w (h : okC (Ch.mk K key nm ⟨#[]⟩ t3) = true) => lineR (Ch.mk K key nm ⟨#[]⟩ t3) w h
              have hof : ofR s = if okC (Ch.mk K key nm ⟨#[]⟩ t3) = true ∧ lineL (Ch.mk K key nm ⟨#[]⟩ t3) = bts s then some (Ch.mk K key nm ⟨#[]⟩ t3) else none := by rw [← hcq]; exact HDK.out
              unfold Ch.v at hri hlr
              dsimp only at hri hlr
              cases hok : okC (Ch.mk K key nm ⟨#[]⟩ t3) with
              | false =>
                rw [hok] at hri
                have HRI := Lib.hid hri
                have HF : Hid (ofR s = none) := Lib.hid (by rw [hof, hok]; simp)
                clear hri hlr hof hok hcq hrow
                go_wp2_with fail
                refine (HRI.out _).mono ?_
                rintro e wb ⟨rfl, hxb⟩
                go_wp2_with fail
                go_roundg (9 - (K + 1))
                case measure => have := Hg.out; omega
                case rel => exact ⟨K + 1, by omega, rfl, by go_num, fun _ _ => HF.out, HXR.out.trans hxb⟩
              | true =>
                have hlr' := fun w => hlr w hok
                rw [hok] at hri
                have HRI := Lib.hid hri
                have HLR := Lib.hid hlr'
                by_cases hle : lineL (Ch.mk K key nm ⟨#[]⟩ t3) = bts s
                · have HF : Hid (ofR s = some (Ch.mk K key nm ⟨#[]⟩ t3)) := Lib.hid (by rw [hof, if_pos ⟨hok, hle⟩])
                  have hts : txt (lineL (Ch.mk K key nm ⟨#[]⟩ t3)) = s := by rw [hle, txt_bts]
                  rw [hts] at HLR
                  have hst := str_yes (x := s) rfl
                  clear hri hlr hlr' hof hok hcq hle hts hrow
                  go_wp2_with fail
                  refine (HRI.out _).mono ?_
                  rintro e wb ⟨rfl, hxb⟩
                  obtain ⟨c0, c1, c2, c3, c4, f0, f1, f2, f3, f4⟩ := (HRW.out.ext hxb).facts5
                  go_wp2_with fail
                  refine (HLR.out _).mono ?_
                  rintro e wc ⟨rfl, hxc⟩
                  obtain ⟨c0, c1, c2, c3, c4, f0, f1, f2, f3, f4⟩ := ((HRW.out.ext hxb).ext hxc).facts5
                  have HXC := Lib.hid (HXR.out.trans (hxb.trans hxc))
                  have hr2 := HR2.out.ext HXC.out
                  obtain ⟨d0, d1, d2, d3, d4, g0, g1, g2, g3, g4⟩ := hr2.facts5
                  have HEND := Lib.hid (of_store (HX1.out.trans HXC.out) hr2 (.int .i64 K) (.string key) (.string nm) (.string ⟨#[]⟩) (.string t3) rfl)
                  clear hxb hxc hr2
                  go_wp2_with fail
                  obtain ⟨hxe, hre⟩ := HEND.out
                  obtain ⟨e0, e1, e2, e3, e4, _⟩ := hre.facts5
                  refine bodyPost_ret (v := .tuple #[(Ch.mk K key nm ⟨#[]⟩ t3).v, .bool true]) (by simp [results, Tryd.results34, go_sem, e0, e1, e2, e3, e4, Ch.v]) rfl ⟨by rw [HE.out, HF.out], hxe⟩
                · have HF : Hid (ofR s = none) := Lib.hid (by rw [hof, if_neg (fun h => hle h.2)])
                  have hst : ((txt (lineL (Ch.mk K key nm ⟨#[]⟩ t3))).toList == s.toList) = false := str_no (fun e => hle (by rw [← e, bts_txt]))
                  generalize txt (lineL (Ch.mk K key nm ⟨#[]⟩ t3)) = tl at *
                  clear hri hlr hlr' hof hok hcq hle hrow
                  go_wp2_with fail
                  refine (HRI.out _).mono ?_
                  rintro e wb ⟨rfl, hxb⟩
                  obtain ⟨c0, c1, c2, c3, c4, f0, f1, f2, f3, f4⟩ := (HRW.out.ext hxb).facts5
                  go_wp2_with fail
                  refine (HLR.out _).mono ?_
                  rintro e wc ⟨rfl, hxc⟩
                  go_wp2_with fail
                  go_roundg (9 - (K + 1))
                  case measure => have := Hg.out; omega
                  case rel => exact ⟨K + 1, by omega, rfl, by go_num, fun _ _ => HF.out, HXR.out.trans (hxb.trans hxc)⟩
            · have hk7' : K < 7 := by omega
              by_cases hk5 : K = 5
              · have k5 : ((K : Int) == 5) = true := by simp; omega
                by_cases hbg : wk.size + key.size + nm.size + 4 < s.size
                · have Hcq : Hid (ofC K s = ⟨K, key, nm, s.extract (wk.size + key.size + nm.size + 4) (s.size - 1), ⟨#[]⟩⟩) := Lib.hid (by rw [Hcq0.out, if_pos (by omega), if_pos ⟨hk5, hbg⟩, if_neg (by omega)])
                  have hvs : (s.extract (wk.size + key.size + nm.size + 4) (s.size - 1)).size ≤ 1000000 := by rw [ByteArray.size_extract]; omega
                  have hbg' : (wk.size : Int) + key.size + nm.size + 4 < s.size := by omega
                  clear hk5 hbg
                  have HRW := Lib.hid (HRB'.out.set 3 (.string (s.extract (wk.size + key.size + nm.size + 4) (s.size - 1))))
                  have HXR : Hid (Ext w3 (wb.setCell ⟨wr.heap.size, 3, none⟩ (.string (s.extract (wk.size + key.size + nm.size + 4) (s.size - 1))))) := Lib.hid (of_ext HXB.out HXW.out _)
                  clear HRB' HXB
                  go_upto_region 14 with fail
                  clear c0 c1 c2 c3 c4 f0 f1 f2 f3 f4
                  generalize wb.setCell ⟨wr.heap.size, 3, none⟩ (.string (s.extract (wk.size + key.size + nm.size + 4) (s.size - 1))) = wf at *
                  generalize s.extract (wk.size + key.size + nm.size + 4) (s.size - 1) = vs at *
                  have hrow := HRW.out
                  obtain ⟨c0, c1, c2, c3, c4, f0, f1, f2, f3, f4⟩ := hrow.facts5
                  have hcq := Hcq.out
                  have hri := fun w => rightR (Ch.mk K key nm vs ⟨#[]⟩) w ⟨by dsimp only; omega, by dsimp only; omega, by dsimp only; omega, Nat.zero_le _⟩
                  have hlr := fun w (h : okC (Ch.mk K key nm vs ⟨#[]⟩) = true) => lineR (Ch.mk K key nm vs ⟨#[]⟩) w h
                  have hof : ofR s = if okC (Ch.mk K key nm vs ⟨#[]⟩) = true ∧ lineL (Ch.mk K key nm vs ⟨#[]⟩) = bts s then some (Ch.mk K key nm vs ⟨#[]⟩) else none := by rw [← hcq]; exact HDK.out
                  unfold Ch.v at hri hlr
                  dsimp only at hri hlr
                  cases hok : okC (Ch.mk K key nm vs ⟨#[]⟩) with
                  | false =>
                    rw [hok] at hri
                    have HRI := Lib.hid hri
                    have HF : Hid (ofR s = none) := Lib.hid (by rw [hof, hok]; simp)
                    clear hri hlr hof hok hcq hrow
                    go_wp2_with fail
                    refine (HRI.out _).mono ?_
                    rintro e wb ⟨rfl, hxb⟩
                    go_wp2_with fail
                    go_roundg (9 - (K + 1))
                    case measure => have := Hg.out; omega
                    case rel => exact ⟨K + 1, by omega, rfl, by go_num, fun _ _ => HF.out, HXR.out.trans hxb⟩
                  | true =>
                    have hlr' := fun w => hlr w hok
                    rw [hok] at hri
                    have HRI := Lib.hid hri
                    have HLR := Lib.hid hlr'
                    by_cases hle : lineL (Ch.mk K key nm vs ⟨#[]⟩) = bts s
                    · have HF : Hid (ofR s = some (Ch.mk K key nm vs ⟨#[]⟩)) := Lib.hid (by rw [hof, if_pos ⟨hok, hle⟩])
                      have hts : txt (lineL (Ch.mk K key nm vs ⟨#[]⟩)) = s := by rw [hle, txt_bts]
                      rw [hts] at HLR
                      have hst := str_yes (x := s) rfl
                      clear hri hlr hlr' hof hok hcq hle hts hrow
                      go_wp2_with fail
                      refine (HRI.out _).mono ?_
                      rintro e wb ⟨rfl, hxb⟩
                      obtain ⟨c0, c1, c2, c3, c4, f0, f1, f2, f3, f4⟩ := (HRW.out.ext hxb).facts5
                      go_wp2_with fail
                      refine (HLR.out _).mono ?_
                      rintro e wc ⟨rfl, hxc⟩
                      obtain ⟨c0, c1, c2, c3, c4, f0, f1, f2, f3, f4⟩ := ((HRW.out.ext hxb).ext hxc).facts5
                      have HXC := Lib.hid (HXR.out.trans (hxb.trans hxc))
                      have hr2 := HR2.out.ext HXC.out
                      obtain ⟨d0, d1, d2, d3, d4, g0, g1, g2, g3, g4⟩ := hr2.facts5
                      have HEND := Lib.hid (of_store (HX1.out.trans HXC.out) hr2 (.int .i64 K) (.string key) (.string nm) (.string vs) (.string ⟨#[]⟩) rfl)
                      clear hxb hxc hr2
                      go_wp2_with fail
                      obtain ⟨hxe, hre⟩ := HEND.out
                      obtain ⟨e0, e1, e2, e3, e4, _⟩ := hre.facts5
                      refine bodyPost_ret (v := .tuple #[(Ch.mk K key nm vs ⟨#[]⟩).v, .bool true]) (by simp [results, Tryd.results34, go_sem, e0, e1, e2, e3, e4, Ch.v]) rfl ⟨by rw [HE.out, HF.out], hxe⟩
                    · have HF : Hid (ofR s = none) := Lib.hid (by rw [hof, if_neg (fun h => hle h.2)])
                      have hst : ((txt (lineL (Ch.mk K key nm vs ⟨#[]⟩))).toList == s.toList) = false := str_no (fun e => hle (by rw [← e, bts_txt]))
                      generalize txt (lineL (Ch.mk K key nm vs ⟨#[]⟩)) = tl at *
                      clear hri hlr hlr' hof hok hcq hle hrow
                      go_wp2_with fail
                      refine (HRI.out _).mono ?_
                      rintro e wb ⟨rfl, hxb⟩
                      obtain ⟨c0, c1, c2, c3, c4, f0, f1, f2, f3, f4⟩ := (HRW.out.ext hxb).facts5
                      go_wp2_with fail
                      refine (HLR.out _).mono ?_
                      rintro e wc ⟨rfl, hxc⟩
                      go_wp2_with fail
                      go_roundg (9 - (K + 1))
                      case measure => have := Hg.out; omega
                      case rel => exact ⟨K + 1, by omega, rfl, by go_num, fun _ _ => HF.out, HXR.out.trans (hxb.trans hxc)⟩
                · have Hcq : Hid (ofC K s = ⟨K, key, nm, ⟨#[]⟩, ⟨#[]⟩⟩) := Lib.hid (by rw [Hcq0.out, if_pos (by omega), if_neg (fun h => hbg h.2), if_neg (by omega)])
                  clear hk5
                  have hbg' : (s.size : Int) ≤ (wk.size : Int) + key.size + nm.size + 4 := by omega
                  clear hbg
                  have HRW := HRB'
                  have HXR := HXB
                  go_upto_region 14 with fail
                  have hrow := HRW.out
                  obtain ⟨c0, c1, c2, c3, c4, f0, f1, f2, f3, f4⟩ := hrow.facts5
                  have hcq := Hcq.out
                  have hri := fun w => rightR (Ch.mk K key nm ⟨#[]⟩ ⟨#[]⟩) w ⟨by dsimp only; omega, by dsimp only; omega, Nat.zero_le _, Nat.zero_le _⟩
                  have hlr := fun w (h : okC (Ch.mk K key nm ⟨#[]⟩ ⟨#[]⟩) = true) => lineR (Ch.mk K key nm ⟨#[]⟩ ⟨#[]⟩) w h
                  have hof : ofR s = if okC (Ch.mk K key nm ⟨#[]⟩ ⟨#[]⟩) = true ∧ lineL (Ch.mk K key nm ⟨#[]⟩ ⟨#[]⟩) = bts s then some (Ch.mk K key nm ⟨#[]⟩ ⟨#[]⟩) else none := by rw [← hcq]; exact HDK.out
                  unfold Ch.v at hri hlr
                  dsimp only at hri hlr
                  cases hok : okC (Ch.mk K key nm ⟨#[]⟩ ⟨#[]⟩) with
                  | false =>
                    rw [hok] at hri
                    have HRI := Lib.hid hri
                    have HF : Hid (ofR s = none) := Lib.hid (by rw [hof, hok]; simp)
                    clear hri hlr hof hok hcq hrow
                    go_wp2_with fail
                    refine (HRI.out _).mono ?_
                    rintro e wb ⟨rfl, hxb⟩
                    go_wp2_with fail
                    go_roundg (9 - (K + 1))
                    case measure => have := Hg.out; omega
                    case rel => exact ⟨K + 1, by omega, rfl, by go_num, fun _ _ => HF.out, HXR.out.trans hxb⟩
                  | true =>
                    have hlr' := fun w => hlr w hok
                    rw [hok] at hri
                    have HRI := Lib.hid hri
                    have HLR := Lib.hid hlr'
                    by_cases hle : lineL (Ch.mk K key nm ⟨#[]⟩ ⟨#[]⟩) = bts s
                    · have HF : Hid (ofR s = some (Ch.mk K key nm ⟨#[]⟩ ⟨#[]⟩)) := Lib.hid (by rw [hof, if_pos ⟨hok, hle⟩])
                      have hts : txt (lineL (Ch.mk K key nm ⟨#[]⟩ ⟨#[]⟩)) = s := by rw [hle, txt_bts]
                      rw [hts] at HLR
                      have hst := str_yes (x := s) rfl
                      clear hri hlr hlr' hof hok hcq hle hts hrow
                      go_wp2_with fail
                      refine (HRI.out _).mono ?_
                      rintro e wb ⟨rfl, hxb⟩
                      obtain ⟨c0, c1, c2, c3, c4, f0, f1, f2, f3, f4⟩ := (HRW.out.ext hxb).facts5
                      go_wp2_with fail
                      refine (HLR.out _).mono ?_
                      rintro e wc ⟨rfl, hxc⟩
                      obtain ⟨c0, c1, c2, c3, c4, f0, f1, f2, f3, f4⟩ := ((HRW.out.ext hxb).ext hxc).facts5
                      have HXC := Lib.hid (HXR.out.trans (hxb.trans hxc))
                      have hr2 := HR2.out.ext HXC.out
                      obtain ⟨d0, d1, d2, d3, d4, g0, g1, g2, g3, g4⟩ := hr2.facts5
                      have HEND := Lib.hid (of_store (HX1.out.trans HXC.out) hr2 (.int .i64 K) (.string key) (.string nm) (.string ⟨#[]⟩) (.string ⟨#[]⟩) rfl)
                      clear hxb hxc hr2
                      go_wp2_with fail
                      obtain ⟨hxe, hre⟩ := HEND.out
                      obtain ⟨e0, e1, e2, e3, e4, _⟩ := hre.facts5
                      refine bodyPost_ret (v := .tuple #[(Ch.mk K key nm ⟨#[]⟩ ⟨#[]⟩).v, .bool true]) (by simp [results, Tryd.results34, go_sem, e0, e1, e2, e3, e4, Ch.v]) rfl ⟨by rw [HE.out, HF.out], hxe⟩
                    · have HF : Hid (ofR s = none) := Lib.hid (by rw [hof, if_neg (fun h => hle h.2)])
                      have hst : ((txt (lineL (Ch.mk K key nm ⟨#[]⟩ ⟨#[]⟩))).toList == s.toList) = false := str_no (fun e => hle (by rw [← e, bts_txt]))
                      generalize txt (lineL (Ch.mk K key nm ⟨#[]⟩ ⟨#[]⟩)) = tl at *
                      clear hri hlr hlr' hof hok hcq hle hrow
                      go_wp2_with fail
                      refine (HRI.out _).mono ?_
                      rintro e wb ⟨rfl, hxb⟩
                      obtain ⟨c0, c1, c2, c3, c4, f0, f1, f2, f3, f4⟩ := (HRW.out.ext hxb).facts5
                      go_wp2_with fail
                      refine (HLR.out _).mono ?_
                      rintro e wc ⟨rfl, hxc⟩
                      go_wp2_with fail
                      go_roundg (9 - (K + 1))
                      case measure => have := Hg.out; omega
                      case rel => exact ⟨K + 1, by omega, rfl, by go_num, fun _ _ => HF.out, HXR.out.trans (hxb.trans hxc)⟩
              · have k5 : ((K : Int) == 5) = false := by simp; omega
                have Hcq : Hid (ofC K s = ⟨K, key, nm, ⟨#[]⟩, ⟨#[]⟩⟩) := Lib.hid (by rw [Hcq0.out, if_pos (by omega), if_neg (fun h => hk5 h.1), if_neg (by omega)])
                have HRW := HRB'
                have HXR := HXB
                go_upto_region 14 with fail
                have hrow := HRW.out
                obtain ⟨c0, c1, c2, c3, c4, f0, f1, f2, f3, f4⟩ := hrow.facts5
                have hcq := Hcq.out
                have hri := fun w => rightR (Ch.mk K key nm ⟨#[]⟩ ⟨#[]⟩) w ⟨by dsimp only; omega, by dsimp only; omega, Nat.zero_le _, Nat.zero_le _⟩
                have hlr := fun w (h : okC (Ch.mk K key nm ⟨#[]⟩ ⟨#[]⟩) = true) => lineR (Ch.mk K key nm ⟨#[]⟩ ⟨#[]⟩) w h
                have hof : ofR s = if okC (Ch.mk K key nm ⟨#[]⟩ ⟨#[]⟩) = true ∧ lineL (Ch.mk K key nm ⟨#[]⟩ ⟨#[]⟩) = bts s then some (Ch.mk K key nm ⟨#[]⟩ ⟨#[]⟩) else none := by rw [← hcq]; exact HDK.out
                unfold Ch.v at hri hlr
                dsimp only at hri hlr
                cases hok : okC (Ch.mk K key nm ⟨#[]⟩ ⟨#[]⟩) with
                | false =>
                  rw [hok] at hri
                  have HRI := Lib.hid hri
                  have HF : Hid (ofR s = none) := Lib.hid (by rw [hof, hok]; simp)
                  clear hri hlr hof hok hcq hrow
                  go_wp2_with fail
                  refine (HRI.out _).mono ?_
                  rintro e wb ⟨rfl, hxb⟩
                  go_wp2_with fail
                  go_roundg (9 - (K + 1))
                  case measure => have := Hg.out; omega
                  case rel => exact ⟨K + 1, by omega, rfl, by go_num, fun _ _ => HF.out, HXR.out.trans hxb⟩
                | true =>
                  have hlr' := fun w => hlr w hok
                  rw [hok] at hri
                  have HRI := Lib.hid hri
                  have HLR := Lib.hid hlr'
                  by_cases hle : lineL (Ch.mk K key nm ⟨#[]⟩ ⟨#[]⟩) = bts s
                  · have HF : Hid (ofR s = some (Ch.mk K key nm ⟨#[]⟩ ⟨#[]⟩)) := Lib.hid (by rw [hof, if_pos ⟨hok, hle⟩])
                    have hts : txt (lineL (Ch.mk K key nm ⟨#[]⟩ ⟨#[]⟩)) = s := by rw [hle, txt_bts]
                    rw [hts] at HLR
                    have hst := str_yes (x := s) rfl
                    clear hri hlr hlr' hof hok hcq hle hts hrow
                    go_wp2_with fail
                    refine (HRI.out _).mono ?_
                    rintro e wb ⟨rfl, hxb⟩
                    obtain ⟨c0, c1, c2, c3, c4, f0, f1, f2, f3, f4⟩ := (HRW.out.ext hxb).facts5
                    go_wp2_with fail
                    refine (HLR.out _).mono ?_
                    rintro e wc ⟨rfl, hxc⟩
                    obtain ⟨c0, c1, c2, c3, c4, f0, f1, f2, f3, f4⟩ := ((HRW.out.ext hxb).ext hxc).facts5
                    have HXC := Lib.hid (HXR.out.trans (hxb.trans hxc))
                    have hr2 := HR2.out.ext HXC.out
                    obtain ⟨d0, d1, d2, d3, d4, g0, g1, g2, g3, g4⟩ := hr2.facts5
                    have HEND := Lib.hid (of_store (HX1.out.trans HXC.out) hr2 (.int .i64 K) (.string key) (.string nm) (.string ⟨#[]⟩) (.string ⟨#[]⟩) rfl)
                    clear hxb hxc hr2
                    go_wp2_with fail
                    obtain ⟨hxe, hre⟩ := HEND.out
                    obtain ⟨e0, e1, e2, e3, e4, _⟩ := hre.facts5
                    refine bodyPost_ret (v := .tuple #[(Ch.mk K key nm ⟨#[]⟩ ⟨#[]⟩).v, .bool true]) (by simp [results, Tryd.results34, go_sem, e0, e1, e2, e3, e4, Ch.v]) rfl ⟨by rw [HE.out, HF.out], hxe⟩
                  · have HF : Hid (ofR s = none) := Lib.hid (by rw [hof, if_neg (fun h => hle h.2)])
                    have hst : ((txt (lineL (Ch.mk K key nm ⟨#[]⟩ ⟨#[]⟩))).toList == s.toList) = false := str_no (fun e => hle (by rw [← e, bts_txt]))
                    generalize txt (lineL (Ch.mk K key nm ⟨#[]⟩ ⟨#[]⟩)) = tl at *
                    clear hri hlr hlr' hof hok hcq hle hrow
                    go_wp2_with fail
                    refine (HRI.out _).mono ?_
                    rintro e wb ⟨rfl, hxb⟩
                    obtain ⟨c0, c1, c2, c3, c4, f0, f1, f2, f3, f4⟩ := (HRW.out.ext hxb).facts5
                    go_wp2_with fail
                    refine (HLR.out _).mono ?_
                    rintro e wc ⟨rfl, hxc⟩
                    go_wp2_with fail
                    go_roundg (9 - (K + 1))
                    case measure => have := Hg.out; omega
                    case rel => exact ⟨K + 1, by omega, rfl, by go_num, fun _ _ => HF.out, HXR.out.trans (hxb.trans hxc)⟩
        · have hne : ((txt (wordOf k)).toList == (txt (atL ws 0)).toList) = false := str_no (fun e => hkK (by rw [HKW.out, ← txt_inj e, kindL_word (by omega) (by omega)]))
          have k0 : ((k : Int) == 0) = false := by simp; omega
          generalize txt (wordOf k) = wk at *
          generalize txt (atL ws 0) = w0 at *
          go_wp2_with fail
          go_roundg (9 - (k + 1))
          case measure => have := Hg.out; omega
          case rel => exact ⟨k + 1, by omega, rfl, by go_num, fun h1 h2 => HN.out h1 (by omega), hx⟩
    · have hF : Hid (ofR s = none) := Lib.hid (by
        by_cases h0 : K = 0
        · exact HNO.out h0
        · exact HN.out h0 (by omega))
      have HEND := Lib.hid (of_store (HX1.out.trans hx) (HR2.out.ext hx) (.int .i64 0) (.string ⟨#[]⟩) (.string ⟨#[]⟩) (.string ⟨#[]⟩) (.string ⟨#[]⟩) rfl)
      obtain ⟨d0, d1, d2, d3, d4, g0, g1, g2, g3, g4⟩ := (HR2.out.ext hx).facts5
      go_wp2_with fail
      obtain ⟨hxe, hre⟩ := HEND.out
      obtain ⟨e0, e1, e2, e3, e4, _⟩ := hre.facts5
      refine bodyPost_ret (v := .tuple #[Ch.none.v, .bool false]) (by simp [results, Tryd.results34, go_sem, e0, e1, e2, e3, e4, Ch.v, Ch.none]) rfl ⟨by rw [HE.out, hF.out], hxe⟩
end Go.Proofs.YtilbofkpjgcchaaDoor
