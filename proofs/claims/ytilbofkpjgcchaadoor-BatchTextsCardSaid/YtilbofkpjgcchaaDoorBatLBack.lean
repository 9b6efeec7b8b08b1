/- The walk of BatchBack. -/
import Derived.Test.YtilbofkpjgcchaaDoorBatM
import Derived.Test.YtilbofkpjgcchaaDoorBatTx
import Derived.Test.YtilbofkpjgcchaaDoorOpenCh
namespace Go.Proofs.YtilbofkpjgcchaaDoor
set_option maxRecDepth 100000
set_option maxHeartbeats 2000000
set_option linter.unusedVariables false
set_option linter.unusedSimpArgs false
open Go.RowKit

theorem okC_fits {c : Ch} (h : okC c = true) : c.Fits := by
  obtain ⟨_, _, q0, q1, q2, q3⟩ := okC_iff.1 h
  replace q0 := okF_size q0
  replace q1 := okF_size q1
  replace q2 := okF_size q2
  replace q3 := okF_size q3
  exact ⟨by omega, by omega, by omega, by omega⟩
theorem batchF_ok {l : List Ch} (h64 : l.length ≤ 64) (h : ∀ c ∈ l, okC c = true) : (batchF l).2 = 0 := by
  rw [batchF_good h64 (fun j hj _ => h _ (List.getElem_mem hj))]
set_option maxHeartbeats 8000000 in
theorem back_walk (v : Value) (z : List Ch) (s : ByteArray) (w : World) (hv : Chs w v z ∧ ∀ c ∈ z, c.Fits) (hs : s.size ≤ 9223372036854775807) (hW : Ways w) :
    Calls Tryd.prog 7 #[v, .string s] w fun e w' => e = .returned (.bool true) ∧ Ext w w' := by
  have HV := Lib.hid hv
  have HWAYS := Lib.hid hW
  clear hv
  go_enter Tryd.func7, Tryd.ntmps7
  go_wp2_with fail
  refine (wakes_any _ hW).mono ?_
  rintro e w1 ⟨rfl, hx1⟩
  go_wp2_with fail
  refine (few_any v z _ (HV.out.1.ext hx1) HV.out.2).mono ?_
  rintro e w2 ⟨f, rfl, hf, hx2⟩
  have hff := fun c (h : c ∈ fewL z) => fewL_fits (l := z) h
  generalize fewL z = l at *
  obtain ⟨af, cf, rfl, hcf1, hcf2⟩ := hf.shape
  have hta := text_any _ l _ hf hff (hW.ext (hx1.trans hx2))
  have HF := Lib.hid hf
  have HX2 := Lib.hid (hx1.trans hx2)
  clear hf hff hx1 hx2 hW
  rcases batchF_cases l with ⟨h64, hok, hb⟩ | hb
  · have htE : textE l = (txt (textF l), 0) := by unfold textE; rw [hb]; rfl
    have hrt := readF_text hok h64
    have htl := textF_len hok
    have htz := txt_size (textF l)
    rw [htE] at hta
    rw [← bts_txt (textF l)] at hrt
    generalize txt (textF l) = t at *
    have hra := fun w' (h : Ext w2 w') => read_go t w' (by omega) (HWAYS.out.ext (HX2.out.trans h))
    rw [hrt] at hra
    have HTA := Lib.hid hta
    have HRA0 := Lib.hid hra
    clear hta hra hok hb htE hrt htl htz
    go_wp2_with fail
    refine HTA.out.mono ?_
    rintro e w3 ⟨rfl, hx3⟩
    dsimp only
    go_wp2_with fail
    refine (HRA0.out _ hx3).mono ?_
    rintro e w4 hp
    obtain ⟨v0, rfl, hb0, hx4⟩ := hp.chs
    clear hp
    dsimp only at hb0 ⊢
    obtain ⟨a0, c0, rfl, hc01, hc02⟩ := hb0.shape
    have heq := eqChs_yes _ _ l _ hb0 (HF.out.ext (hx3.trans hx4))
    have HEQ := Lib.hid heq
    clear heq hb0
    go_wp2_with fail
    refine HEQ.out.mono ?_
    rintro e w5 ⟨rfl, hx5⟩
    have HXX : Hid (Ext w w5) := Lib.hid (HX2.out.trans (hx3.trans (hx4.trans hx5)))
    clear hx3 hx4 hx5
    go_upto_region 10 with fail
    have z1 : (s.extract 0 (min (s.size : Int) 5000).toNat).size ≤ 5000 := by simp; omega
    generalize s.extract 0 (min (s.size : Int) 5000).toNat = s' at *
    have hra := fun w' (h : Ext w5 w') => read_go s' w' (by omega) (HWAYS.out.ext (HXX.out.trans h))
    rcases readF_cases (bts s') with ⟨m, hr, hm64, hmok, hmt, _⟩ | ⟨hr, _⟩ | ⟨k, _, _, hr, _⟩
    · rw [hr] at hra
      have hst := str_yes (x := s') rfl
      have htE : textE m = (s', 0) := by
        unfold textE
        rcases batchF_cases m with ⟨_, _, hb⟩ | hb
        · rw [hb, if_pos rfl, hmt, txt_bts]
        · exact absurd (batchF_ok hm64 hmok) hb
      have hfit : ∀ c ∈ m, c.Fits := fun c hc => okC_fits (hmok c hc)
      have HRA := Lib.hid hra
      have HTE := Lib.hid htE
      have HFT := Lib.hid hfit
      clear hra htE hfit hr hmok hmt
      go_wp2_with fail
      refine (HRA.out _ (Ext.refl _)).mono ?_
      rintro e wa hp
      obtain ⟨v1, rfl, hb1, hxa⟩ := hp.chs
      clear hp
      dsimp only at hb1 ⊢
      obtain ⟨a1, c1, rfl, hc11, hc12⟩ := hb1.shape
      have hta := text_any _ m _ hb1 HFT.out (HWAYS.out.ext (HXX.out.trans hxa))
      rw [HTE.out] at hta
      have HTA := Lib.hid hta
      clear hta hb1
      go_wp2_with fail
      refine HTA.out.mono ?_
      rintro e wb ⟨rfl, hxb⟩
      dsimp only
      go_wp2_with fail
      go_ret
      exact ⟨rfl, HXX.out.trans (hxa.trans hxb)⟩
    · rw [hr] at hra
      have HRA := Lib.hid hra
      clear hra hr
      go_wp2_with fail
      refine (HRA.out _ (Ext.refl _)).mono ?_
      rintro e wa hp
      obtain ⟨v1, rfl, hb1, hxa⟩ := hp.chs
      clear hp
      dsimp only at hb1 ⊢
      obtain ⟨a1, c1, rfl, hc11, hc12⟩ := hb1.shape
      clear hb1
      go_wp2_with fail
      go_ret
      exact ⟨rfl, HXX.out.trans hxa⟩
    · rw [hr] at hra
      have HRA := Lib.hid hra
      clear hra hr
      go_wp2_with fail
      refine (HRA.out _ (Ext.refl _)).mono ?_
      rintro e wa hp
      obtain ⟨v1, rfl, hb1, hxa⟩ := hp.chs
      clear hp
      dsimp only at hb1 ⊢
      obtain ⟨a1, c1, rfl, hc11, hc12⟩ := hb1.shape
      clear hb1
      go_wp2_with fail
      go_ret
      exact ⟨rfl, HXX.out.trans hxa⟩
  · have htE : textE l = (⟨#[]⟩, (batchF l).2) := by unfold textE; rw [if_neg hb]
    rw [htE] at hta
    generalize (batchF l).2 = q at *
    have hq : (q == 0) = false := by simp [hb]
    have HTA := Lib.hid hta
    clear hta htE
    go_wp2_with fail
    refine HTA.out.mono ?_
    rintro e w3 ⟨rfl, hx3⟩
    dsimp only
    have HXX : Hid (Ext w w3) := Lib.hid (HX2.out.trans hx3)
    clear hx3
    go_upto_region 10 with fail
    have z1 : (s.extract 0 (min (s.size : Int) 5000).toNat).size ≤ 5000 := by simp; omega
    generalize s.extract 0 (min (s.size : Int) 5000).toNat = s' at *
    have hra := fun w' (h : Ext w3 w') => read_go s' w' (by omega) (HWAYS.out.ext (HXX.out.trans h))
    rcases readF_cases (bts s') with ⟨m, hr, hm64, hmok, hmt, _⟩ | ⟨hr, _⟩ | ⟨k, _, _, hr, _⟩
    · rw [hr] at hra
      have hst := str_yes (x := s') rfl
      have htE : textE m = (s', 0) := by
        unfold textE
        rcases batchF_cases m with ⟨_, _, hb⟩ | hb
        · rw [hb, if_pos rfl, hmt, txt_bts]
        · exact absurd (batchF_ok hm64 hmok) hb
      have hfit : ∀ c ∈ m, c.Fits := fun c hc => okC_fits (hmok c hc)
      have HRA := Lib.hid hra
      have HTE := Lib.hid htE
      have HFT := Lib.hid hfit
      clear hra htE hfit hr hmok hmt
      go_wp2_with fail
      refine (HRA.out _ (Ext.refl _)).mono ?_
      rintro e wa hp
      obtain ⟨v1, rfl, hb1, hxa⟩ := hp.chs
      clear hp
      dsimp only at hb1 ⊢
      obtain ⟨a1, c1, rfl, hc11, hc12⟩ := hb1.shape
      have hta := text_any _ m _ hb1 HFT.out (HWAYS.out.ext (HXX.out.trans hxa))
      rw [HTE.out] at hta
      have HTA := Lib.hid hta
      clear hta hb1
      go_wp2_with fail
      refine HTA.out.mono ?_
      rintro e wb ⟨rfl, hxb⟩
      dsimp only
      go_wp2_with fail
      go_ret
      exact ⟨rfl, HXX.out.trans (hxa.trans hxb)⟩
    · rw [hr] at hra
      have HRA := Lib.hid hra
      clear hra hr
      go_wp2_with fail
      refine (HRA.out _ (Ext.refl _)).mono ?_
      rintro e wa hp
      obtain ⟨v1, rfl, hb1, hxa⟩ := hp.chs
      clear hp
      dsimp only at hb1 ⊢
      obtain ⟨a1, c1, rfl, hc11, hc12⟩ := hb1.shape
      clear hb1
      go_wp2_with fail
      go_ret
      exact ⟨rfl, HXX.out.trans hxa⟩
    · rw [hr] at hra
      have HRA := Lib.hid hra
      clear hra hr
      go_wp2_with fail
      refine (HRA.out _ (Ext.refl _)).mono ?_
      rintro e wa hp
      obtain ⟨v1, rfl, hb1, hxa⟩ := hp.chs
      clear hp
      dsimp only at hb1 ⊢
      obtain ⟨a1, c1, rfl, hc11, hc12⟩ := hb1.shape
      clear hb1
      go_wp2_with fail
      go_ret
      exact ⟨rfl, HXX.out.trans hxa⟩
end Go.Proofs.YtilbofkpjgcchaaDoor
