/- The walk of BatchMay. -/
import Derived.Test.YtilbofkpjgcchaaDoorBatM
import Derived.Test.YtilbofkpjgcchaaDoorBatN
import Derived.Test.YtilbofkpjgcchaaDoorBatO
import Derived.Test.YtilbofkpjgcchaaDoorOpenCh
namespace Go.Proofs.YtilbofkpjgcchaaDoor
set_option maxRecDepth 100000
set_option maxHeartbeats 2000000
set_option linter.unusedVariables false
set_option linter.unusedSimpArgs false
open Go.RowKit

/-- What is asked of the texts. -/
theorem may_text (s : ByteArray) (w : World) (hs : s.size ≤ 9223372036854775807) :
    Calls Tryd.prog 15 #[.string s] w (fun e w' => e = .returned (.bool (nameB s)) ∧ w = w') ∧ Calls Tryd.prog 16 #[.string s] w (fun e w' => e = .returned (.bool (nameB s)) ∧ w = w') ∧
    Calls Tryd.prog 17 #[.string s] w (fun e w' => e = .returned (.bool (valB s)) ∧ w = w') ∧ Calls Tryd.prog 18 #[.string s] w (fun e w' => e = .returned (.bool (valB s)) ∧ w = w') :=
  ⟨name_any s w hs, nameR s w hs, val_any s w hs, valR s w hs⟩
set_option maxHeartbeats 8000000 in
theorem may_walk (v : Value) (z : List Ch) (u : Value) (ss : List ByteArray) (w : World) (hv : Chs w v z ∧ ∀ c ∈ z, c.Fits) (hu : Strs w u ss ∧ ∀ s ∈ ss, s.size ≤ 9223372036854775807) (hW : Ways w) :
    Calls Tryd.prog 3 #[v, u] w fun e w' => e = .returned (.bool true) ∧ Ext w w' := by
  obtain ⟨hu, hss⟩ := hu
  obtain ⟨au, cu, rfl, hcu1, hcu2⟩ := Sl.shape hu
  have HU := Lib.hid hu
  have HSS := Lib.hid hss
  have HV := Lib.hid hv
  clear hu hss hv
  go_enter Tryd.func3, Tryd.ntmps3
  go_wp2_with fail
  refine (wakes_any _ hW).mono ?_
  rintro e w1 ⟨rfl, hx1⟩
  go_wp2_with fail
  refine (few_any v z _ (HV.out.1.ext hx1) HV.out.2).mono ?_
  rintro e w2 ⟨f, rfl, hf, hx2⟩
  have hfl := fewL_len z
  have hff := fun c (h : c ∈ fewL z) => fewL_fits (l := z) h
  generalize fewL z = l at *
  obtain ⟨af, cf, rfl, hcf1, hcf2⟩ := hf.shape
  have HF := Lib.hid hf
  have HFF := Lib.hid hff
  have HX2 := Lib.hid (hx1.trans hx2)
  have hW2 := hW.ext (hx1.trans hx2)
  clear hf hff hx1 hx2 hW
  go_wp2_with fail
  go_loopg [19] l.length (fun g i wr => ∃ k : Nat, k ≤ l.length ∧ k ≤ 20 ∧ g = l.length - k ∧ i = .int .i64 k ∧ Ext w2 wr)
  case atStart => exact ⟨0, Nat.zero_le _, by omega, rfl, rfl, Ext.refl _⟩
  case round =>
    obtain ⟨k, hk, hk20, hg, rfl, hx⟩ := hrel
    have Hg := Lib.hid hg
    clear hg
    by_cases hlt : k < l.length
    · obtain ⟨b, o, rfl, c0, c1, c2, c3, c4⟩ := (HF.out.ext hx).at_ hlt
      have hfit := HFF.out _ (List.getElem_mem hlt)
      generalize l[k] = x at *
      have hri := fun w => rightR x w hfit
      have hch := fun w (h : Ext w2 w) => check_any x w hfit (hW2.ext h)
      have hli := fun w (h : Ext w2 w) => line_any x w hfit (hW2.ext h)
      have hlr := fun w h => lineR x w h
      unfold errC at hch
      unfold lineE at hli
      generalize txt (lineL x) = t at *
      generalize okC x = ok at *
      obtain ⟨kd, key, name, val, to_⟩ := x
      unfold Ch.v at hri hch hli hlr
      dsimp only at hri hch hli hlr c0 c1 c2 c3 c4
      have HRI := Lib.hid hri
      have HCH := Lib.hid hch
      have HLI := Lib.hid hli
      have HLR := Lib.hid hlr
      have HBX := Lib.hid (RowAt.new wr 27 [.int .i64 kd, .string key, .string name, .string val, .string to_])
      clear hri hch hli hlr hfit
      go_upto_region 6 with fail
      have hxa := Ext.alloc wr (.cells #[.int .i64 kd, .string key, .string name, .string val, .string to_] 27)
      generalize wr.alloc (.cells #[.int .i64 kd, .string key, .string name, .string val, .string to_] 27) = wa at *
      clear c0 c1 c2 c3 c4
      by_cases h20 : k = 20
      · subst h20
        have HXT : Hid (Ext w wa) := Lib.hid (HX2.out.trans (hx.trans hxa))
        clear hx hxa hW2
        go_wp2_with fail
        go_loopg [63] ss.length (fun g i wz => ∃ k : Nat, k ≤ ss.length ∧ g = ss.length - k ∧ i = .int .i64 k ∧ Ext wa wz)
        case atStart => exact ⟨0, Nat.zero_le _, rfl, rfl, Ext.refl _⟩
        case round =>
          obtain ⟨k, hk, hg, rfl, hx⟩ := hrel
          have Hg := Lib.hid hg
          clear hg
          by_cases hlt : k < ss.length
          · have hxz := HXT.out.trans hx
            obtain ⟨b, o, rfl, c0⟩ := (HU.out.ext hxz).at_ hlt
            have hsz := HSS.out _ (List.getElem_mem hlt)
            generalize ss[k] = s at *
            have Hct := Lib.hid (fun w => may_text (cut60 s) w (by have := cut60_size s; omega))
            have hct := run_cut60 s hsz
            go_upto_region 20 with fail
            generalize cut60 s = s' at *
            clear hct
            generalize nameB s' = nb at *
            generalize valB s' = vb at *
            by_cases h20 : k < 20
            · cases nb <;> cases vb
              all_goals
                go_wp2_with (first | (go_at_call 15; refine (Hct.out _).1.mono ?_; rintro e w' ⟨rfl, rfl⟩) | (go_at_call 16; refine (Hct.out _).2.1.mono ?_; rintro e w' ⟨rfl, rfl⟩) | (go_at_call 17; refine (Hct.out _).2.2.1.mono ?_; rintro e w' ⟨rfl, rfl⟩) | (go_at_call 18; refine (Hct.out _).2.2.2.mono ?_; rintro e w' ⟨rfl, rfl⟩))
                go_roundg (ss.length - (k + 1))
                case measure => have := Hg.out; omega
                case rel => exact ⟨k + 1, by omega, rfl, by go_num, hx⟩
            · go_wp2_with fail
              go_roundg (ss.length - (k + 1))
              case measure => have := Hg.out; omega
              case rel => exact ⟨k + 1, by omega, rfl, by go_num, hx⟩
          · go_wp2_with fail
            go_ret
            exact ⟨rfl, HXT.out.trans hx⟩
      · obtain ⟨c0, c1, c2, c3, c4, f0, f1, f2, f3, f4⟩ := HBX.out.facts5
        have k20 : ((k : Int) == 20) = false := by simp; omega
        cases ok with
        | true =>
          simp only [if_true, true_implies] at HCH HLI HLR
          go_wp2_with fail
          refine (HRI.out _).mono ?_
          rintro e wb ⟨rfl, hxb⟩
          obtain ⟨c0, c1, c2, c3, c4, f0, f1, f2, f3, f4⟩ := (HBX.out.ext hxb).facts5
          go_wp2_with fail
          refine (HCH.out _ (by repeat (first | exact Ext.refl _ | with_reducible assumption | with_reducible refine Ext.alloc_of ?_ _ | with_reducible refine Ext.drewN_of ?_ _ | with_reducible refine Ext.drew_of ?_ | (with_reducible refine Ext.set_of ?_ ?hsz _; case hsz => ((first | exact Nat.le_refl _ | omega | (simp; omega)))) | with_reducible refine Ext.via (by assumption) ?_))).mono ?_
          rintro e wc ⟨rfl, hxc⟩
          obtain ⟨c0, c1, c2, c3, c4, f0, f1, f2, f3, f4⟩ := (HBX.out.ext (hxb.trans hxc)).facts5
          go_wp2_with fail
          refine (HLI.out _ (by repeat (first | exact Ext.refl _ | with_reducible assumption | with_reducible refine Ext.alloc_of ?_ _ | with_reducible refine Ext.drewN_of ?_ _ | with_reducible refine Ext.drew_of ?_ | (with_reducible refine Ext.set_of ?_ ?hsz _; case hsz => ((first | exact Nat.le_refl _ | omega | (simp; omega)))) | with_reducible refine Ext.via (by assumption) ?_))).mono ?_
          rintro e wd ⟨rfl, hxd⟩
          obtain ⟨c0, c1, c2, c3, c4, f0, f1, f2, f3, f4⟩ := (HBX.out.ext ((hxb.trans hxc).trans hxd)).facts5
          go_wp2_with fail
          refine (HLR.out _).mono ?_
          rintro e we ⟨rfl, hxe⟩
          have hs := str_yes (x := t) rfl
          go_wp2_with fail
          go_roundg (l.length - (k + 1))
          case measure => have := Hg.out; omega
          case rel => exact ⟨k + 1, by omega, by omega, rfl, by go_num, (by repeat (first | exact Ext.refl _ | with_reducible assumption | with_reducible refine Ext.alloc_of ?_ _ | with_reducible refine Ext.drewN_of ?_ _ | with_reducible refine Ext.drew_of ?_ | (with_reducible refine Ext.set_of ?_ ?hsz _; case hsz => ((first | exact Nat.le_refl _ | omega | (simp; omega)))) | with_reducible refine Ext.via (by assumption) ?_))⟩
        | false =>
          simp only [Bool.false_eq_true, if_false] at HCH HLI
          go_wp2_with fail
          refine (HRI.out _).mono ?_
          rintro e wb ⟨rfl, hxb⟩
          obtain ⟨c0, c1, c2, c3, c4, f0, f1, f2, f3, f4⟩ := (HBX.out.ext hxb).facts5
          go_wp2_with fail
          refine (HCH.out _ (by repeat (first | exact Ext.refl _ | with_reducible assumption | with_reducible refine Ext.alloc_of ?_ _ | with_reducible refine Ext.drewN_of ?_ _ | with_reducible refine Ext.drew_of ?_ | (with_reducible refine Ext.set_of ?_ ?hsz _; case hsz => ((first | exact Nat.le_refl _ | omega | (simp; omega)))) | with_reducible refine Ext.via (by assumption) ?_))).mono ?_
          rintro e wc ⟨rfl, hxc⟩
          obtain ⟨c0, c1, c2, c3, c4, f0, f1, f2, f3, f4⟩ := (HBX.out.ext (hxb.trans hxc)).facts5
          go_wp2_with fail
          refine (HLI.out _ (by repeat (first | exact Ext.refl _ | with_reducible assumption | with_reducible refine Ext.alloc_of ?_ _ | with_reducible refine Ext.drewN_of ?_ _ | with_reducible refine Ext.drew_of ?_ | (with_reducible refine Ext.set_of ?_ ?hsz _; case hsz => ((first | exact Nat.le_refl _ | omega | (simp; omega)))) | with_reducible refine Ext.via (by assumption) ?_))).mono ?_
          rintro e wd ⟨rfl, hxd⟩
          obtain ⟨c0, c1, c2, c3, c4, f0, f1, f2, f3, f4⟩ := (HBX.out.ext ((hxb.trans hxc).trans hxd)).facts5
          go_wp2_with fail
          go_roundg (l.length - (k + 1))
          case measure => have := Hg.out; omega
          case rel => exact ⟨k + 1, by omega, by omega, rfl, by go_num, (by repeat (first | exact Ext.refl _ | with_reducible assumption | with_reducible refine Ext.alloc_of ?_ _ | with_reducible refine Ext.drewN_of ?_ _ | with_reducible refine Ext.drew_of ?_ | (with_reducible refine Ext.set_of ?_ ?hsz _; case hsz => ((first | exact Nat.le_refl _ | omega | (simp; omega)))) | with_reducible refine Ext.via (by assumption) ?_))⟩
    · have HXT : Hid (Ext w wr) := Lib.hid (HX2.out.trans hx)
      clear hx hW2
      go_wp2_with fail
      go_loopg [63] ss.length (fun g i wz => ∃ k : Nat, k ≤ ss.length ∧ g = ss.length - k ∧ i = .int .i64 k ∧ Ext wr wz)
      case atStart => exact ⟨0, Nat.zero_le _, rfl, rfl, Ext.refl _⟩
      case round =>
        obtain ⟨k, hk, hg, rfl, hx⟩ := hrel
        have Hg := Lib.hid hg
        clear hg
        by_cases hlt : k < ss.length
        · have hxz := HXT.out.trans hx
          obtain ⟨b, o, rfl, c0⟩ := (HU.out.ext hxz).at_ hlt
          have hsz := HSS.out _ (List.getElem_mem hlt)
          generalize ss[k] = s at *
          have Hct := Lib.hid (fun w => may_text (cut60 s) w (by have := cut60_size s; omega))
          have hct := run_cut60 s hsz
          go_upto_region 20 with fail
          generalize cut60 s = s' at *
          clear hct
          generalize nameB s' = nb at *
          generalize valB s' = vb at *
          by_cases h20 : k < 20
          · cases nb <;> cases vb
            all_goals
              go_wp2_with (first | (go_at_call 15; refine (Hct.out _).1.mono ?_; rintro e w' ⟨rfl, rfl⟩) | (go_at_call 16; refine (Hct.out _).2.1.mono ?_; rintro e w' ⟨rfl, rfl⟩) | (go_at_call 17; refine (Hct.out _).2.2.1.mono ?_; rintro e w' ⟨rfl, rfl⟩) | (go_at_call 18; refine (Hct.out _).2.2.2.mono ?_; rintro e w' ⟨rfl, rfl⟩))
              go_roundg (ss.length - (k + 1))
              case measure => have := Hg.out; omega
              case rel => exact ⟨k + 1, by omega, rfl, by go_num, hx⟩
          · go_wp2_with fail
            go_roundg (ss.length - (k + 1))
            case measure => have := Hg.out; omega
            case rel => exact ⟨k + 1, by omega, rfl, by go_num, hx⟩
        · go_wp2_with fail
          go_ret
          exact ⟨rfl, HXT.out.trans hx⟩
end Go.Proofs.YtilbofkpjgcchaaDoor
