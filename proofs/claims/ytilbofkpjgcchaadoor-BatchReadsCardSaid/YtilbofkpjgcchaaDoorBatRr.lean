/- The reference's changes of a text. -/
import Derived.Test.YtilbofkpjgcchaaDoorBatLn
import Derived.Test.YtilbofkpjgcchaaDoorBatM
namespace Go.Proofs.YtilbofkpjgcchaaDoor
set_option maxRecDepth 100000
set_option maxHeartbeats 2000000
set_option linter.unusedVariables false
set_option linter.unusedSimpArgs false
open Go.RowKit

theorem lineCh_of {x d : List UInt8} {c : UInt8} (h : x = d ++ [c]) : lineCh x = if c = 10 then ofR (txt d) else none := by
  subst h
  rw [ofR_eq]
  by_cases hc : c = 10
  · subst hc
    rw [if_pos rfl]
    unfold lineCh
    rw [(suffix_feed d).1, (suffix_feed d).2, Bool.true_and]
  · rw [if_neg hc]
    unfold lineCh
    have : Lib.hasSuffix (d ++ [c]) [10] = false := by
      cases h : Lib.hasSuffix (d ++ [c]) [10] with
      | false => rfl
      | true =>
        obtain ⟨a, ha, _⟩ := feed_suffix h
        have := (List.append_inj' ha rfl).2
        simp at this
        exact absurd this hc
    rw [this]; rfl
theorem chs_own_snoc (ls : List (List UInt8)) (k : Nat) (hk : k < ls.length) {c : Ch} (h : lineCh ls[k] = some c) : (chsOf (ls.take (k + 1))).flatMap Ch.cells = (chsOf (ls.take k)).flatMap Ch.cells ++ c.cells := by
  rw [chsOf_snoc ls k hk h, List.flatMap_append]; simp
set_option maxHeartbeats 8000000 in
theorem refRead_any (s : ByteArray) (w : World) (hs : s.size ≤ 100000) :
    Calls Tryd.prog 20 #[.string s] w fun e w' => ∃ v, e = .returned (.tuple #[v, .int .i64 (readF (bts s)).2.1, .int .i64 (readF (bts s)).2.2]) ∧ Chs w' v (readF (bts s)).1 ∧ Ext w w' := by
  have hmem := linesL_mem _ (bts s) (Nat.le_refl _)
  have hlen := linesL_len _ (bts s) (Nat.le_refl _)
  rw [bts_len] at hmem hlen
  have hbad := fun k hk h64 hg hb => readF_bad (l := bts s) (k := k) hk h64 hg hb
  have hgood := fun k hg hk => readF_good (l := bts s) (k := k) hg hk
  go_enter Tryd.func20, Tryd.ntmps20
  go_wp2_with fail
  refine (refLines_any s _ (by omega)).mono ?_
  rintro e w1 ⟨u, rfl, hu, hx1⟩
  obtain ⟨R, hR⟩ : ∃ R, readF (bts s) = R := ⟨_, rfl⟩
  rw [hR] at hbad hgood
  have HR := Lib.hid hR
  generalize linesL (bts s) = ls at *
  obtain ⟨au, cu, rfl, hcu1, hcu2⟩ := Sl.shape hu
  have HU := Lib.hid hu
  have HM := Lib.hid hmem
  have HB := Lib.hid hbad
  have HG := Lib.hid hgood
  clear hu hmem hbad hgood hR
  go_wp2_with fail
  go_loopg [5, 13] ls.length (fun g v i wr => ∃ k : Nat, k ≤ ls.length ∧ k ≤ 64 ∧ g = ls.length - k ∧ i = .int .i64 k ∧ wr.ownsRow w1.heap.size 27 5 v k ((chsOf (ls.take k)).flatMap Ch.cells) ∧ Good ls k ∧ Ext w1 wr)
  case atStart => exact ⟨0, Nat.zero_le _, by omega, rfl, rfl, World.ownsRow_nil _ _ _ _, fun j _ h => by omega, Ext.refl _⟩
  case round =>
    obtain ⟨k, hk, hk64, hg, rfl, ho, hgd, hx⟩ := hrel
    have Hg := Lib.hid hg
    have HO := Lib.hid ho
    have HGD := Lib.hid hgd
    clear hg ho hgd
    by_cases hlt : k < ls.length
    · obtain ⟨b, o, rfl, _, c0⟩ := strs_cell (HU.out.ext hx) hlt
      by_cases h64 : k = 64
      · subst h64
        have hF := HG.out 64 HGD.out (.inl (Nat.le_refl _))
        rw [if_pos hlt] at hF
        have HF := Lib.hid hF
        clear hF
        go_wp2_with fail
        go_ret3
        exact ⟨_, by rw [HR.out, HF.out]; rfl, by rw [HR.out, HF.out]; exact Sl.nil _, hx1.trans hx⟩
      · have k64 : ((k : Int) == 64) = false := by simp; omega
        have hx0 : atL ls k = ls[k] := by unfold atL; rw [List.getD_eq_getElem?_getD, List.getElem?_eq_getElem hlt]; rfl
        obtain ⟨hm1, hm2⟩ := HM.out _ (List.getElem_mem hlt)
        have hsn := fun c h => chs_own_snoc ls k hlt (c := c) h
        have hgs : (lineCh ls[k]).isNone = false → Good ls (k + 1) := fun h j hj hjk => by
          by_cases e : j = k
          · subst e; exact h
          · exact HGD.out j hj (by omega)
        have hbd := HB.out k hlt (by omega) HGD.out
        rw [hx0] at c0
        obtain ⟨d, c, hdc⟩ : ∃ d c, ls[k] = d ++ [c] := ⟨_, _, (List.dropLast_concat_getLast hm2).symm⟩
        have hlc := lineCh_of hdc
        rw [hdc] at hsn hgs hbd hm1 c0
        rw [hdc] at hlc
        rw [hlc] at hsn hgs hbd
        have hdl : d.length ≤ 100000 := by rw [List.length_append] at hm1; omega
        have hcut : (txt (d ++ [c])).extract 0 d.length = txt d := bts_inj (by rw [bts_extract, bts_txt, bts_txt]; simp)
        have hsz : (txt (d ++ [c])).size = d.length + 1 := by rw [txt_size]; simp
        have hat : ∀ h : d.length < (txt (d ++ [c])).size, (txt (d ++ [c]))[d.length] = c := fun h => by
          have : (bts (txt (d ++ [c])))[d.length]'(by rw [bts_len]; exact h) = c := by simp [bts_txt]
          exact this
        have hof := fun w => of_any (txt d) w (by rw [txt_size]; omega)
        generalize txt (d ++ [c]) = lx at *
        generalize txt d = dx at *
        generalize d.length = n at *
        clear hdc hlc hm1 hm2 hx0
        have HSN := Lib.hid hsn
        have HGS := Lib.hid hgs
        have HBD := Lib.hid hbd
        have HOF := Lib.hid hof
        clear hsn hgs hbd hof
        unfold ofE at HOF
        have hnl : n < lx.size := by omega
        have hati := hat hnl
        clear hat
        cases hor : ofR dx with
        | none =>
          rw [hor] at HOF HBD
          have HF := Lib.hid (HBD.out (by split <;> rfl))
          have hbx := RowAt.new
          clear HSN HGS HBD hor
          go_wp2_with fail
          refine (HOF.out _).mono ?_
          rintro e wb ⟨rfl, hxb⟩
          unfold Ch.v Ch.none
          dsimp only
          have HXB := Lib.hid (hx1.trans (hx.trans (hxb.trans (Ext.alloc wb (.cells #[.int .i64 0, .string ⟨#[]⟩, .string ⟨#[]⟩, .string ⟨#[]⟩, .string ⟨#[]⟩] 27)))))
          go_upto_region 8 with fail
          generalize wb.alloc (.cells #[.int .i64 0, .string ⟨#[]⟩, .string ⟨#[]⟩, .string ⟨#[]⟩, .string ⟨#[]⟩] 27) = wc at *
          go_wp2_with fail
          go_ret3
          exact ⟨_, by rw [HR.out, HF.out]; rfl, by rw [HR.out, HF.out]; exact Sl.nil _, HXB.out⟩
        | some ch =>
          rw [hor] at HOF HBD HGS HSN
          obtain ⟨kd, key, name, val, to_⟩ := ch
          unfold Ch.v at HOF
          dsimp only at HOF
          have HBX := Lib.hid (fun w => RowAt.new w 27 [.int .i64 kd, .string key, .string name, .string val, .string to_])
          by_cases hc : c = 10
          · have HS' := Lib.hid (HSN.out ⟨kd, key, name, val, to_⟩ (by rw [if_pos hc]))
            have HG' := Lib.hid (HGS.out (by rw [if_pos hc]; rfl))
            have hc' : (lx[n].toNat : Int) = 10 := by rw [hati, hc]; rfl
            have hc'' : ((lx[n].toNat : Int) != 10) = false := by rw [hc']; rfl
            clear HSN HGS HBD hor hc hati
            go_wp2_with fail
            refine (HOF.out _).mono ?_
            rintro e wb ⟨rfl, hxb⟩
            dsimp only
            have hxc := Ext.alloc wb (.cells #[.int .i64 kd, .string key, .string name, .string val, .string to_] 27)
            have hbx := HBX.out wb
            go_upto_region 8 with fail
            generalize wb.alloc (.cells #[.int .i64 kd, .string key, .string name, .string val, .string to_] 27) = wc at *
            obtain ⟨d0, d1, d2, d3, d4, g0, g1, g2, g3, g4⟩ := hbx.facts5
            have ho2 := own_ext HO.out (show Ext wr wc from hxb.trans hxc)
            have hBx : Ext w1 wc := hx.trans (hxb.trans hxc)
            have hB2 := hBx.size
            go_wp2_with (at_builtin; refine wpList_append_sl _ rfl _ _ 22 rfl elCh rfl (own_ext ho2 (Ext.alloc _ _)) rfl (Sl.new _ _ _ 1 1 (Nat.le_refl _) ?_) rfl ?_ ?_ ?_ ?_ ?_)
            · unfold maxLen; omega
            · exact ⟨rfl, rfl, rfl, rfl, rfl⟩
            · omega
            · unfold maxLen; omega
            · first | omega | (simp; omega)
            intro v4 w4 hown4 hB4 hgr4 _
            have HO4 : Hid (w4.ownsRow w1.heap.size 27 5 v4 (k + 1) ((chsOf (ls.take (k + 1))).flatMap Ch.cells)) := Lib.hid (by rw [HS'.out]; exact hown4)
            have HX4 : Hid (Ext w1 w4) := Lib.hid ((below_step hBx (Ext.alloc _ _)).trans hB4)
            clear hown4 hB4 ho2 hgr4
            go_wp2_with fail
            go_roundg (ls.length - (k + 1))
            case measure => have := Hg.out; omega
            case rel => exact ⟨k + 1, by omega, by omega, rfl, by go_num, HO4.out, HG'.out, HX4.out⟩
          · have HF := Lib.hid (HBD.out (by rw [if_neg hc]; rfl))
            have hc' : ¬ (lx[n].toNat : Int) = 10 := fun e => hc (by rw [← hati]; exact UInt8.toNat_inj.1 (by have h32 : (10 : UInt8).toNat = 10 := rfl; omega))
            have hc'' : ((lx[n].toNat : Int) != 10) = true := by simpa using hc'
            clear HSN HGS HBD hor hc hati
            go_wp2_with fail
            refine (HOF.out _).mono ?_
            rintro e wb ⟨rfl, hxb⟩
            dsimp only
            have hxc := Ext.alloc wb (.cells #[.int .i64 kd, .string key, .string name, .string val, .string to_] 27)
            have hbx := HBX.out wb
            have HXB := Lib.hid (hx1.trans (hx.trans (hxb.trans hxc)))
            go_upto_region 8 with fail
            generalize wb.alloc (.cells #[.int .i64 kd, .string key, .string name, .string val, .string to_] 27) = wc at *
            go_wp2_with fail
            go_ret3
            exact ⟨_, by rw [HR.out, HF.out]; rfl, by rw [HR.out, HF.out]; exact Sl.nil _, HXB.out⟩
    · have hkk : k = ls.length := by omega
      have hF := HG.out k HGD.out (.inr (by omega))
      rw [if_neg (by omega)] at hF
      have ho := HO.out
      have hcl := chsOf_len ls (fun x hx => by obtain ⟨j, hj, rfl⟩ := List.getElem_of_mem hx; exact HGD.out j hj (by omega))
      rw [List.take_of_length_le (by omega)] at ho
      obtain ⟨av, cv, rfl⟩ := own_vw ho
      have HS : Hid (Chs wr (.slice av k cv) (chsOf ls)) := Lib.hid (by unfold Chs; rw [hcl, ← hkk]; exact Sl.of_own ho)
      have HF := Lib.hid hF
      clear ho hF hcl
      go_wp2_with fail
      go_ret3
      exact ⟨_, by rw [HR.out, HF.out, ← hkk]; rfl, by rw [HR.out, HF.out]; exact HS.out, hx1.trans hx⟩
end Go.Proofs.YtilbofkpjgcchaaDoor
