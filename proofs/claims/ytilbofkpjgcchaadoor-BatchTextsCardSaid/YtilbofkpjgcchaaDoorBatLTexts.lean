/- The walk of BatchTexts. -/
import Derived.Test.YtilbofkpjgcchaaDoorBatLBack
import Derived.Test.YtilbofkpjgcchaaDoorBatN
import Derived.Test.YtilbofkpjgcchaaDoorBatO
namespace Go.Proofs.YtilbofkpjgcchaaDoor
set_option maxRecDepth 100000
set_option maxHeartbeats 2000000
set_option linter.unusedVariables false
set_option linter.unusedSimpArgs false
open Go.RowKit

set_option maxHeartbeats 8000000 in
theorem texts_walk (v : Value) (z : List Ch) (w : World) (hv : Chs w v z ∧ ∀ c ∈ z, c.Fits) (hW : Ways w) :
    Calls Tryd.prog 6 #[v] w fun e w' => e = .returned (.bool true) ∧ Ext w w' := by
  have HV := Lib.hid hv
  have HWAYS := Lib.hid hW
  clear hv
  go_enter Tryd.func6, Tryd.ntmps6
  go_wp2_with fail
  refine (wakes_any _ hW).mono ?_
  rintro e w1 ⟨rfl, hx1⟩
  go_wp2_with fail
  refine (few_any v z _ (HV.out.1.ext hx1) HV.out.2).mono ?_
  rintro e w2 ⟨f, rfl, hf, hx2⟩
  have hff := fun c (h : c ∈ fewL z) => fewL_fits (l := z) h
  obtain ⟨l, hle⟩ : ∃ l, fewL z = l := ⟨_, rfl⟩
  rw [hle] at hf hff
  obtain ⟨af, cf, rfl, hcf1, hcf2⟩ := hf.shape
  have HF := Lib.hid hf
  have HFF := Lib.hid hff
  have HLE := Lib.hid hle
  have HX2 := Lib.hid (hx1.trans hx2)
  have hba := batch_any _ l _ hf hff (hW.ext (hx1.trans hx2))
  have HBA := Lib.hid hba
  clear hf hff hx1 hx2 hW hle hba
  by_cases h64 : l.length ≤ 64
  · go_wp2_with fail
    refine HBA.out.mono ?_
    rintro e w3 ⟨rfl, hx3⟩
    dsimp only
    go_wp2_with fail
    have hd : decide ((l.length : Int) ≤ 64) = true := decide_eq_true (by omega)
    simp only [hd]
    clear hd
    go_loopg [6, 7, 8, 29] l.length (fun g p q t i wr => ∃ k : Nat, k ≤ l.length ∧ g = l.length - k ∧ p = .int .i64 l.length ∧ q = .int .i64 0 ∧ i = .int .i64 k ∧ t = .string (txt (textF (l.take k))) ∧ AllOk l k ∧ Ext w2 wr)
    case atStart => exact ⟨0, Nat.zero_le _, rfl, rfl, rfl, rfl, rfl, fun j _ h => by omega, hx3⟩
    case round =>
      obtain ⟨k, hk, hg, rfl, rfl, rfl, rfl, hok, hx⟩ := hrel
      have Hg := Lib.hid hg
      have HOK := Lib.hid hok
      clear hg hok
      by_cases hlt : k < l.length
      · obtain ⟨b, o, rfl, c0, c1, c2, c3, c4⟩ := (HF.out.ext hx).at_ hlt
        have hfit := HFF.out _ (List.getElem_mem hlt)
        have hri := fun w => rightR l[k] w hfit
        have HSN := Lib.hid (textF_snoc l k hlt)
        have hlr := fun w (h : okC l[k] = true) => lineR l[k] w h
        have hlen := fun (h : okC l[k] = true) => lineL_len (c := l[k]) h
        have htl := textF_len (l := l.take k) (fun c hc => by
          obtain ⟨j, hj, rfl⟩ := List.getElem_of_mem hc
          rw [List.length_take] at hj
          rw [List.getElem_take]
          exact HOK.out j (by omega) (by omega))
        rw [List.length_take] at htl
        have hbad := fun (h : okC l[k] = false) => batchF_bad (l := l) (k := k) h64 hlt HOK.out h
        have hnx : okC l[k] = true → AllOk l (k + 1) := fun h j hj hjk => by
          by_cases e : j = k
          · subst e; exact h
          · exact HOK.out j hj (by omega)
        have hsn : textF (l.take (k + 1)) = bts (txt (textF (l.take k))) ++ (bts (txt (lineL l[k])) ++ [10]) := by rw [HSN.out, bts_txt, bts_txt]
        have htl' : (txt (textF (l.take k))).size ≤ 16064 := by rw [txt_size]; omega
        have hlen' : okC l[k] = true → (txt (lineL l[k])).size ≤ 250 := fun h => by rw [txt_size]; exact hlen h
        clear HSN htl hlen
        generalize txt (textF (l.take k)) = tt at *
        generalize txt (lineL l[k]) = tl at *
        generalize okC l[k] = ok at *
        have HSN := Lib.hid hsn
        clear hsn
        generalize l[k] = x at *
        obtain ⟨kd, key, name, val, to_⟩ := x
        unfold Ch.v at hri hlr
        dsimp only at hri hlr c0 c1 c2 c3 c4
        have HRI := Lib.hid hri
        have HLR := Lib.hid hlr
        have HNX := Lib.hid hnx
        have HLEN := Lib.hid hlen'
        have HBAD := Lib.hid hbad
        have HBX := RowAt.new wr 27 [.int .i64 kd, .string key, .string name, .string val, .string to_]
        clear hri hlr hnx hbad hfit hlen'
        go_upto_region 11 with fail
        have hxa := Ext.alloc wr (.cells #[.int .i64 kd, .string key, .string name, .string val, .string to_] 27)
        generalize wr.alloc (.cells #[.int .i64 kd, .string key, .string name, .string val, .string to_] 27) = wa at *
        clear c0 c1 c2 c3 c4
        obtain ⟨c0, c1, c2, c3, c4, f0, f1, f2, f3, f4⟩ := HBX.facts5
        cases ok with
        | true =>
          have hlen := HLEN.out rfl
          have HLR' := Lib.hid (fun w => HLR.out w rfl)
          have HNX' := Lib.hid (HNX.out rfl)
          clear HLR HNX HBAD HLEN
          go_wp2_with fail
          refine (HRI.out _).mono ?_
          rintro e wb ⟨rfl, hxb⟩
          obtain ⟨c0, c1, c2, c3, c4, f0, f1, f2, f3, f4⟩ := (HBX.ext hxb).facts5
          go_wp2_with fail
          refine (HLR'.out _).mono ?_
          rintro e wc ⟨rfl, hxc⟩
          have s10 : (⟨#[10]⟩ : ByteArray).size = 1 := rfl
          have hz1 : (tl ++ (⟨#[10]⟩ : ByteArray)).size ≤ 251 := by rw [ByteArray.size_append]; omega
          go_wp2_with fail
          go_roundg (l.length - (k + 1))
          case measure => have := Hg.out; omega
          case rel =>
            refine ⟨k + 1, by omega, rfl, rfl, rfl, by go_num, ?_, HNX'.out, (by repeat (first | exact Ext.refl _ | with_reducible assumption | with_reducible refine Ext.alloc_of ?_ _ | with_reducible refine Ext.drewN_of ?_ _ | with_reducible refine Ext.drew_of ?_ | (with_reducible refine Ext.set_of ?_ ?hsz _; case hsz => ((first | exact Nat.le_refl _ | omega | (simp; omega)))) | with_reducible refine Ext.via (by assumption) ?_))⟩
            rw [HSN.out]
            exact congrArg Value.string (bts_inj (by rw [bts_txt]; simp [bts_append, bts]))
        | false =>
          have hb := HBAD.out rfl
          have hte : textE l = (⟨#[]⟩, 190) := by unfold textE; rw [hb]; rfl
          have HTE := Lib.hid hte
          rw [hb]
          clear hte hb HLR HNX HBAD HLEN
          dsimp only
          go_wp2_with fail
          refine (HRI.out _).mono ?_
          rintro e wb ⟨rfl, hxb⟩
          go_wp2_with fail
          have hta := text_any _ l _ (HF.out.ext (hx.trans (hxa.trans hxb))) HFF.out (HWAYS.out.ext (HX2.out.trans (hx.trans (hxa.trans hxb))))
          rw [HTE.out] at hta
          have HTA := Lib.hid hta
          clear hta
          go_wp2_with fail
          refine HTA.out.mono ?_
          rintro e wt ⟨rfl, hxt⟩
          have HXT : Hid (Ext w2 wt) := Lib.hid (Ext.trans (hx.trans (hxa.trans hxb)) hxt)
          clear hxt
          dsimp only
          have hst := str_yes (x := (⟨#[]⟩ : ByteArray)) rfl
          have hfw := few_any v z wt (HV.out.1.ext (HX2.out.trans HXT.out)) HV.out.2
          rw [HLE.out] at hfw
          have HFW := Lib.hid hfw
          clear hfw
          go_wp2_with fail
          refine HFW.out.mono ?_
          rintro e wu ⟨f2, rfl, hf2, hxu⟩
          have HF2 := Lib.hid hf2
          clear hf2
          go_wp2_with fail
          refine (eqChs_yes _ _ l _ (HF.out.ext (HXT.out.trans hxu)) HF2.out).mono ?_
          rintro e wz ⟨rfl, hxz⟩
          go_wp2_with fail
          go_ret
          exact ⟨rfl, HX2.out.trans (HXT.out.trans (hxu.trans hxz))⟩
      · have hgood := batchF_good h64 (fun j hj _ => HOK.out j hj (by omega))
        have hte : textE l = (txt (textF l), 0) := by unfold textE; rw [hgood]; rfl
        rw [List.take_of_length_le (by omega)]
        generalize txt (textF l) = tx at *
        have HTE := Lib.hid hte
        rw [hgood]
        clear hte hgood HOK
        dsimp only
        go_wp2_with fail
        have hta := text_any _ l _ (HF.out.ext hx) HFF.out (HWAYS.out.ext (HX2.out.trans hx))
        rw [HTE.out] at hta
        have HTA := Lib.hid hta
        clear hta
        go_wp2_with fail
        refine HTA.out.mono ?_
        rintro e wt ⟨rfl, hxt⟩
        have HXT : Hid (Ext w2 wt) := Lib.hid (Ext.trans hx hxt)
        clear hxt
        dsimp only
        have hst := str_yes (x := tx) rfl
        have hfw := few_any v z wt (HV.out.1.ext (HX2.out.trans HXT.out)) HV.out.2
        rw [HLE.out] at hfw
        have HFW := Lib.hid hfw
        clear hfw
        go_wp2_with fail
        refine HFW.out.mono ?_
        rintro e wu ⟨f2, rfl, hf2, hxu⟩
        have HF2 := Lib.hid hf2
        clear hf2
        go_wp2_with fail
        refine (eqChs_yes _ _ l _ (HF.out.ext (HXT.out.trans hxu)) HF2.out).mono ?_
        rintro e wz ⟨rfl, hxz⟩
        go_wp2_with fail
        go_ret
        exact ⟨rfl, HX2.out.trans (HXT.out.trans (hxu.trans hxz))⟩
  · have hb : batchF l = (0, 3) := by unfold batchF; rw [if_pos (by omega)]
    have hte : textE l = (⟨#[]⟩, 3) := by unfold textE; rw [hb]; rfl
    have HTE := Lib.hid hte
    rw [hb] at HBA
    clear hte hb
    go_wp2_with fail
    refine HBA.out.mono ?_
    rintro e w3 ⟨rfl, hx3⟩
    dsimp only
    go_wp2_with fail
    have hta := text_any _ l _ (HF.out.ext hx3) HFF.out (HWAYS.out.ext (HX2.out.trans hx3))
    rw [HTE.out] at hta
    have HTA := Lib.hid hta
    clear hta
    go_wp2_with fail
    refine HTA.out.mono ?_
    rintro e wt ⟨rfl, hxt⟩
    have HXT : Hid (Ext w2 wt) := Lib.hid (Ext.trans hx3 hxt)
    clear hxt
    dsimp only
    have hst := str_yes (x := (⟨#[]⟩ : ByteArray)) rfl
    have hfw := few_any v z wt (HV.out.1.ext (HX2.out.trans HXT.out)) HV.out.2
    rw [HLE.out] at hfw
    have HFW := Lib.hid hfw
    clear hfw
    go_wp2_with fail
    refine HFW.out.mono ?_
    rintro e wu ⟨f2, rfl, hf2, hxu⟩
    have HF2 := Lib.hid hf2
    clear hf2
    go_wp2_with fail
    refine (eqChs_yes _ _ l _ (HF.out.ext (HXT.out.trans hxu)) HF2.out).mono ?_
    rintro e wz ⟨rfl, hxz⟩
    go_wp2_with fail
    go_ret
    exact ⟨rfl, HX2.out.trans (HXT.out.trans (hxu.trans hxz))⟩
end Go.Proofs.YtilbofkpjgcchaaDoor
