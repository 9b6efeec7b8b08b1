/- LexerPlaces: the walk. -/
import Derived.Test.YtofglbngnjcpeaaDoorLexPl
import Derived.Test.YtofglbngnjcpeaaDoorLexK
import Derived.Test.YtofglbngnjcpeaaDoorShelf
import Derived.Shelf.Strings.SlTrimAscii
namespace Go.Proofs.YtofglbngnjcpeaaDoor
set_option maxRecDepth 100000
set_option maxHeartbeats 2000000
set_option linter.unusedVariables false
set_option linter.unusedSimpArgs false
open Go.RowKit

theorem trim_any (s : ByteArray) (w : World) (hs : s.size ≤ 1000) (h : ∀ c ∈ bts s, blankC c.toNat = true) :
    Calls Tryd.prog 8 #[.string s, .string ⟨#[32, 10]⟩] w fun e w' => e = .returned (.string ⟨#[]⟩) ∧ Ext w w' := by
  have := Any.strings_Trim_laid Tryd.lays160 (by kernel_rfl) s ⟨#[32, 10]⟩ w (by omega) (by decide) (ascii_of_all (by decide))
  have e : Lib.trimS s.data.toList (⟨#[32, 10]⟩ : ByteArray).data.toList = [] := trim_blank h
  rw [e] at this
  exact this
set_option maxHeartbeats 4000000 in
theorem places_walk (s : ByteArray) (w : World) (hs : s.size ≤ 9223372036854775807) :
    Calls Tryd.prog 3 #[.string s] w fun e w' => e = .returned (.bool true) ∧ Ext w w' := by
  go_enter Tryd.func3, Tryd.ntmps3
  go_wp2_with fail
  refine (wakes_any _).mono ?_
  rintro e w1 ⟨rfl, hx1⟩
  go_upto_region 4 with fail
  have z1 : (s.extract 0 (min (s.size : Int) 600).toNat).size ≤ 600 := by simp; omega
  generalize s.extract 0 (min (s.size : Int) 600).toNat = s' at *
  have hra := read_any s'
  rcases readF_cases (bts s') with ⟨h5, hr⟩ | ⟨h5, p, hp0, hp1, hr⟩ | ⟨h5, l, hr, hly, hk, hck⟩
  · rw [bts_len] at h5
    rw [hr] at hra
    have HRA2 := Lib.hid hra
    clear hr hra
    go_wp2_with fail
    refine (HRA2.out _ (by omega)).mono ?_
    rintro e wr hp
    obtain ⟨v2, rfl, ht2, hxr⟩ := hp.toks
    dsimp only at ht2 ⊢
    obtain ⟨av, cv, rfl, hcv1, hcv2⟩ := ht2.shape
    clear hp
    go_wp2_with fail
    go_ret
    exact ⟨ret_bool (by first | rfl | exact (decide_eq_true (by omega)).symm | simp; omega), hx1.trans hxr⟩
  · rw [bts_len] at h5 hp1
    rw [hr] at hra
    obtain ⟨n, rfl⟩ := Int.eq_ofNat_of_zero_le hp0
    have hn : n < s'.size := by omega
    have z2 : (s'.extract 0 n).size = n := by rw [ByteArray.size_extract]; omega
    have hrb := read_any (s'.extract 0 n)
    have hcs := readF_cases (bts (s'.extract 0 n))
    rw [bts_len, z2] at hcs
    generalize readF (bts (s'.extract 0 n)) = R at *
    have HRA2 := Lib.hid hra
    have HRB := Lib.hid hrb
    clear hr hra hrb
    generalize hcx : s'.extract 0 n = cx at *
    go_wp2_with fail
    refine (HRA2.out _ (by omega)).mono ?_
    rintro e wr hp
    obtain ⟨v2, rfl, ht2, hxr⟩ := hp.toks
    dsimp only at ht2 ⊢
    obtain ⟨av, cv, rfl, hcv1, hcv2⟩ := ht2.shape
    clear hp
    have hxr1 := hx1.trans hxr
    rcases hcs with ⟨h6, _⟩ | ⟨_, p', hp0', hp1', hr'⟩ | ⟨_, l', hr', _⟩
    · omega
    · rw [hr'] at HRB
      clear hr'
      go_wp2_with fail
      refine (HRB.out _ (by omega)).mono ?_
      rintro e wr hp
      obtain ⟨v2, rfl, ht2, hxr⟩ := hp.toks
      dsimp only at ht2 ⊢
      obtain ⟨av, cv, rfl, hcv1, hcv2⟩ := ht2.shape
      clear hp
      go_wp2_with fail
      go_ret
      exact ⟨ret_bool (by first | rfl | (simp; omega)), hxr1.trans hxr⟩
    · rw [hr'] at HRB
      clear hr'
      go_wp2_with fail
      refine (HRB.out _ (by omega)).mono ?_
      rintro e wr hp
      obtain ⟨v2, rfl, ht2, hxr⟩ := hp.toks
      dsimp only at ht2 ⊢
      obtain ⟨av, cv, rfl, hcv1, hcv2⟩ := ht2.shape
      clear hp
      go_wp2_with fail
      go_ret
      exact ⟨ret_bool (by first | rfl | (simp; omega)), hxr1.trans hxr⟩
  · rw [bts_len] at h5
    rw [hr, bts_len] at hra
    have HRA2 := Lib.hid hra
    have HK := Lib.hid hk
    have HCK := Lib.hid hck
    have hly0 : l = yieldsAt (bts s') (skipL (bts s') 0) := by rw [hly]; rfl
    have HLY := Lib.hid hly0
    clear hr hra hk hck hly hly0
    go_wp2_with fail
    refine (HRA2.out _ (by omega)).mono ?_
    rintro e wq hp
    obtain ⟨v2, rfl, ht2, hxr⟩ := hp.toks
    dsimp only at ht2 ⊢
    obtain ⟨av, cv, rfl, hcv1, hcv2⟩ := ht2.shape
    clear hp
    have HTL := Lib.hid ht2
    have HX2 := Lib.hid (hx1.trans hxr)
    clear ht2 hx1 hxr
    go_wp2_with fail
    go_loopg [9, 70] l.length (fun g ev i wr => ∃ k e : Nat, k ≤ l.length ∧ g = l.length - k ∧ i = .int .i64 k ∧ ev = .int .i64 e ∧ e ≤ s'.size ∧ l.drop k = yieldsAt (bts s') (skipL (bts s') e) ∧ Ext wq wr)
    case atStart => exact ⟨0, 0, Nat.zero_le _, rfl, rfl, rfl, Nat.zero_le _, HLY.out, Ext.refl _⟩
    case round =>
      obtain ⟨k, e, hk, hg, rfl, rfl, he, hdr, hx⟩ := hrel
      have Hg := Lib.hid hg
      have HDR := Lib.hid hdr
      clear hg hdr
      by_cases hlt : k < l.length
      · obtain ⟨b, o, rfl, c0, c1, c2⟩ := (HTL.out.ext hx).at_ hlt
        have hkk := HK.out _ (List.getElem_mem hlt)
        obtain ⟨hchk, hsz⟩ := HCK.out _ (List.getElem_mem hlt)
        have hd := HDR.out
        rw [List.drop_eq_getElem_cons hlt] at hd
        obtain ⟨p1, p2, p3, p4, p5⟩ := place_step hd.symm hkk
        rw [bts_len] at p1 p4 hsz
        have hbl := skip_blank (bts s') e
        have hpe : e ≤ skipL (bts s') e := skipL_ge _ _
        have hst := fun w => Stands_yes (t := l[k]) w (by omega) hchk
        have hss : (txt l[k].stands).size = l[k].stands.length := txt_size _
        generalize skipL (bts s') e = p at *
        generalize hL : l[k].stands.length = n at *
        have hpre : (bts (txt l[k].stands)).isPrefixOf (bts (s'.extract p s'.size)) = true := by
          rw [bts_txt, bts_extract, List.take_of_length_le (by rw [List.length_drop, bts_len]; omega), p3]
          exact List.isPrefixOf_iff_prefix.2 (List.take_prefix _ _)
        have hhp := fun w => starts_any (s'.extract p s'.size) (txt l[k].stands) w
        rw [hpre] at hhp
        have htr := fun w => trim_any (s'.extract e p) w (by rw [ByteArray.size_extract]; omega) (by rw [bts_extract]; exact hbl)
        generalize txt l[k].stands = st at *
        generalize l[k] = t at *
        obtain ⟨kd, tt, at_⟩ := t
        dsimp only at *
        subst p2
        unfold tkV at hst
        have HST := Lib.hid hst
        have HHP := Lib.hid hhp
        have HTR := Lib.hid htr
        have HP5 := Lib.hid p5
        have HBX := RowAt.new wr 28 [.int .i64 kd, .string tt, .int .i64 p]
        clear hst hhp htr p5 p3 hbl hpre hkk hchk hd
        go_upto_region 14 with fail
        have hxa := Ext.alloc wr (.cells #[.int .i64 kd, .string tt, .int .i64 p] 28)
        generalize wr.alloc (.cells #[.int .i64 kd, .string tt, .int .i64 p] 28) = wa at *
        clear c0 c1 c2
        obtain ⟨c0, c1, c2, g0, g1, g2⟩ := HBX.facts3
        go_wp2_with fail
        refine (HST.out _).mono ?_
        rintro e2 wb ⟨rfl, hxb⟩
        obtain ⟨c0, c1, c2, g0, g1, g2⟩ := (HBX.ext hxb).facts3
        have HC2 := Lib.hid (hxb)
        go_wp2_with (first | (go_at_call 7; refine (HHP.out _).mono ?_; rintro e3 w' ⟨rfl, rfl⟩) | (go_at_call 8; refine (HTR.out _).mono ?_; rintro e3 wc ⟨rfl, hxc⟩; obtain ⟨c0, c1, c2, g0, g1, g2⟩ := ((HBX.ext HC2.out).ext hxc).facts3))
        go_roundg (l.length - (k + 1))
        case measure => have := Hg.out; omega
        case rel => exact ⟨k + 1, p + n, by omega, rfl, by go_num, by first | rfl | go_num, by omega, HP5.out, hx.trans (hxa.trans (HC2.out.trans hxc))⟩
      · have hd := HDR.out
        rw [List.drop_eq_nil_of_le (by omega)] at hd
        have hbl := place_end (by rw [bts_len]; exact he) hd.symm
        have htr := fun w => trim_any (s'.extract e s'.size) w (by rw [ByteArray.size_extract]; omega) (by rw [bts_extract, List.take_of_length_le (by rw [List.length_drop, bts_len]; omega)]; exact hbl)
        have HTR := Lib.hid htr
        clear htr hbl hd
        go_wp2_with fail
        refine (HTR.out _).mono ?_
        rintro e3 wc ⟨rfl, hxc⟩
        go_wp2_with fail
        go_ret
        exact ⟨rfl, HX2.out.trans (hx.trans hxc)⟩
end Go.Proofs.YtofglbngnjcpeaaDoor
