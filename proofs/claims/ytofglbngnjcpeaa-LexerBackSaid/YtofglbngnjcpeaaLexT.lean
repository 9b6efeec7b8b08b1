/- The reference's Begin: the token that it takes a text to begin with. -/
import Derived.Test.YtofglbngnjcpeaaLexU
import Derived.Test.YtofglbngnjcpeaaLexF
import Derived.Test.YtofglbngnjcpeaaLexQ
import Derived.Deep.CutBlock
namespace Go.Proofs.Ytofglbngnjcpeaa
set_option maxRecDepth 100000
set_option maxHeartbeats 2000000
set_option linter.unusedVariables false
set_option linter.unusedSimpArgs false
open Go.RowKit

/-- The reference's Begin has its candidate in a box. -/
structure CandAt (w : World) (k : Int) (l : List UInt8) (W : World) : Prop where
  below : Below w.heap.size w W
  res : RowAt W w.heap.size 29 [.int .i64 0, .string ⟨#[]⟩, .int .i64 0]
  box : RowAt W (w.heap.size + 1) 29 [.int .i64 k, .string (txt l), .int .i64 0]
theorem CandAt.new (w : World) : CandAt w 0 [] ((w.alloc (.cells #[.int .i64 0, .string ⟨#[]⟩, .int .i64 0] 29)).alloc (.cells #[.int .i64 0, .string ⟨#[]⟩, .int .i64 0] 29)) :=
  ⟨(show Ext w _ from (by repeat (first | exact Ext.refl _ | with_reducible refine Ext.alloc_of ?_ _ | with_reducible refine Ext.drewN_of ?_ _ | with_reducible refine Ext.drew_of ?_ | (with_reducible refine Ext.set_of ?_ ?hsz _; case hsz => ((first | exact Nat.le_refl _ | omega | (simp; omega)))) | with_reducible refine Ext.via (by assumption) ?_))), (RowAt.new w _ [.int .i64 0, .string ⟨#[]⟩, .int .i64 0]).ext (Ext.alloc _ _), row_at (by simp)⟩
theorem CandAt.ext {w W W' : World} {k : Int} {l : List UInt8} (h : CandAt w k l W) (hx : Ext W W') : CandAt w k l W' := ⟨Below.ext h.below hx h.below.size, h.res.ext hx, h.box.ext hx⟩
theorem CandAt.set {w W : World} {k : Int} {l : List UInt8} (h : CandAt w k l W) (k' : Int) (l' : List UInt8) : CandAt w k' l' (((W.setCell ⟨w.heap.size + 1, 0, none⟩ (.int .i64 k')).setCell ⟨w.heap.size + 1, 1, none⟩ (.string (txt l'))).setCell ⟨w.heap.size + 1, 2, none⟩ (.int .i64 0)) :=
  ⟨((h.below.setCell (p := ⟨w.heap.size + 1, 0, none⟩) (Nat.le_succ _) _).setCell (p := ⟨w.heap.size + 1, 1, none⟩) (Nat.le_succ _) _).setCell (p := ⟨w.heap.size + 1, 2, none⟩) (Nat.le_succ _) _,
    ((h.res.kept (grown_set _ _ 0 _) (fun e => by have := Option.some.inj e; omega)).kept (grown_set _ _ 1 _) (fun e => by have := Option.some.inj e; omega)).kept (grown_set _ _ 2 _) (fun e => by have := Option.some.inj e; omega),
    ((h.box.set 0 _).set 1 _).set 2 _⟩

/-- The reference's token that a text begins with. -/
def begR (l : List UInt8) : Beg := if rightB (candR l).1 (candR l).2 0 && (standsL (candR l).1 (candR l).2).isPrefixOf l then ((candR l).1, (candR l).2, (standsL (candR l).1 (candR l).2).length) else begNo
theorem refBegin_any (s : ByteArray) (w : World) (hs : s.size ≤ 1000000) (c : UInt8) (r : List UInt8) (hcr : bts s = c :: r) :
    Calls Try.prog 23 #[.string s] w fun e w' => e = .returned (begV (begR (bts s))) ∧ Ext w w' := by
  have hpos : 0 < s.size := by rw [← bts_len, hcr]; simp
  have hne : s.toList.isEmpty = false := by rw [ByteArray.toList_eq]; change (bts s).isEmpty = false; rw [hcr]; rfl
  have hc0 : s[0] = c := by have := bts_drop s 0 hpos; rw [List.drop_zero, hcr] at this; simpa using this.symm
  have hsz : s.size = r.length + 1 := by rw [← bts_len, hcr]; simp
  have hcand : candR (bts s) = candR (c :: r) := by rw [hcr]
  have Hcr := Lib.hid hcr
  have Hcand := Lib.hid hcand
  have hN := CandAt.new w
  have HC0 := Lib.hid hc0
  have Hsz := Lib.hid hsz
  clear hcr hcand hc0 hsz
  go_enter Try.func23, Try.ntmps23
  go_upto_block 0 with (fail)
  generalize (w.alloc (.cells #[.int .i64 0, .string ⟨#[]⟩, .int .i64 0] 29)).alloc (.cells #[.int .i64 0, .string ⟨#[]⟩, .int .i64 0] 29) = w1 at *
  go_cut [3] (fun s3 wx => s3 = .int .i64 0 ∧ ∃ k l, candR (bts s) = (k, l) ∧ CandAt w k l wx)
  case first =>
    have HN := Lib.hid hN
    obtain ⟨d0, d1, d2, g0, g1, g2⟩ := hN.box.facts3
    clear hN
    cases hl : letterC (s[0].toNat : Int) with
    | true =>
      have hsp := spanL_le letterC (bts s)
      rw [bts_len] at hsp
      have hL := Lib.hid hl
      clear hl
      go_wp2_with fail
      refine (letterR _ _).mono ?_
      rintro e w' ⟨rfl, rfl⟩
      rw [hL.out]
      go_wp2_with fail
      refine (run_any s _ (by omega)).mono ?_
      rintro e w' ⟨rfl, rfl⟩
      go_wp2_with fail
      go_meet
      refine ⟨rfl, 1, _, ?_, by rw [extract_txt, List.drop_zero, Nat.sub_zero]; exact HN.out.set 1 _⟩
      have h := hL.out
      rw [HC0.out] at h
      rw [Hcand.out, candR_word h, Hcr.out]
    | false =>
      have hL := Lib.hid hl
      clear hl
      go_wp2_with fail
      refine (letterR _ _).mono ?_
      rintro e w' ⟨rfl, rfl⟩
      rw [hL.out]
      have hb : s[0].toNat < 256 := s[0].toNat_lt
      have hlc : letterC c.toNat = false := by have h := hL.out; rwa [HC0.out] at h
      have Hlc := Lib.hid hlc
      clear hlc
      by_cases h64 : s[0].toNat = 64
      · have h64' : c = 64 := by rw [← HC0.out]; exact UInt8.toNat_inj.1 h64
        have H64 := Lib.hid h64'
        have d64 : ((s[0].toNat : Int) == 64) = true := by simp [h64]
        have hrr : bts (s.extract 1 s.size) = r := by rw [bts_extract, Hcr.out, Hsz.out]; simp
        have hrun := run_any (s.extract 1 s.size)
        rw [hrr] at hrun
        have hsp := spanL_le letterC r
        have hss : r.length + 1 = s.size := Hsz.out.symm
        have HR := Lib.hid hrun
        clear h64 h64' hrr hrun
        go_wp2_with fail
        refine (HR.out _ (by simp; omega)).mono ?_
        rintro e w' ⟨rfl, rfl⟩
        go_wp2_with fail
        go_meet
        refine ⟨rfl, 2, r.take (spanL letterC r), by rw [Hcand.out, candR_key Hlc.out H64.out], ?_⟩
        have e : s.extract 1 (1 + spanL letterC r) = txt (r.take (spanL letterC r)) := by rw [extract_txt, Hcr.out]; simp
        rw [e]; exact HN.out.set 2 _
      · have d64 : ((s[0].toNat : Int) == 64) = false := by simp; omega
        have H64 : Hid (c ≠ 64) := Lib.hid (fun e => h64 (by rw [HC0.out, e]; rfl))
        clear h64
        by_cases h34 : s[0].toNat = 34
        · have h34' : c = 34 := by rw [← HC0.out]; exact UInt8.toNat_inj.1 h34
          have H34 := Lib.hid h34'
          have d34 : ((s[0].toNat : Int) == 34) = true := by simp [h34]
          have hdr : r = (bts s).drop 1 := by rw [Hcr.out]; rfl
          have Hdr := Lib.hid hdr
          have hst : spanL (fun x => decide (x ≠ 34)) r + 1 = 1 + spanL (fun x => decide (x ≠ 34)) ((bts s).drop 1) := by rw [hdr]; omega
          have Hst := Lib.hid hst
          clear h34 h34' hdr hst
          go_wp2_with fail
          go_loop [5] (fun i => ∃ k : Nat, 1 ≤ k ∧ k ≤ s.size ∧ i = .int .i64 k ∧ spanL (fun x => decide (x ≠ 34)) r + 1 = k + spanL (fun x => decide (x ≠ 34)) ((bts s).drop k)) (fun i => s.size - (intOf i).toNat)
          case atStart => exact ⟨1, Nat.le_refl _, hpos, rfl, Hst.out⟩
          case round =>
            obtain ⟨k, hk1, hk, rfl, hsp⟩ := hrel
            have Hsp := Lib.hid hsp
            clear hsp
            by_cases hlt : k < s.size
            · have hbk : s[k].toNat < 256 := s[k].toNat_lt
              by_cases hp : s[k].toNat = 34
              · have dp : ((s[k].toNat : Int) != 34) = false := by simp; omega
                have Hd := Lib.hid (spanL_drop_no (p := (fun x => decide (x ≠ 34))) hlt (by simp [hp]))
                clear hp
                go_wp2_with fail
                go_meet
                refine ⟨rfl, 3, r.take (k - 1), ?_, ?_⟩
                · rw [Hcand.out, candR_text Hlc.out (by rw [H34.out]; decide) H34.out]
                  have h := Hsp.out
                  rw [Hd.out] at h
                  rw [show spanL (fun x => decide (x ≠ 34)) r = k - 1 from by omega]
                · have e : s.extract 1 k = txt (r.take (k - 1)) := by rw [extract_txt, Hcr.out]; rfl
                  rw [e]; exact HN.out.set 3 _
              · have dp : ((s[k].toNat : Int) != 34) = true := by simp; omega
                have Hd := Lib.hid (spanL_drop_yes (p := (fun x => decide (x ≠ 34))) hlt (by simp; omega))
                clear hp
                go_wp2_with fail
                go_round
                case rel => exact ⟨k + 1, by omega, by omega, by go_num, by rw [Hsp.out, Hd.out]; omega⟩
                case measure => simp [intOf]; omega
            · have Hd : Hid (spanL (fun x => decide (x ≠ 34)) ((bts s).drop k) = 0) := Lib.hid (by rw [List.drop_eq_nil_of_le (by rw [bts_len]; omega)]; rfl)
              go_wp2_with fail
              go_meet
              refine ⟨rfl, 3, r.take (k - 1), ?_, ?_⟩
              · rw [Hcand.out, candR_text Hlc.out (by rw [H34.out]; decide) H34.out]
                have h := Hsp.out
                rw [Hd.out] at h
                rw [show spanL (fun x => decide (x ≠ 34)) r = k - 1 from by omega]
              · have e : s.extract 1 k = txt (r.take (k - 1)) := by rw [extract_txt, Hcr.out]; rfl
                rw [e]; exact HN.out.set 3 _
        · have d34 : ((s[0].toNat : Int) == 34) = false := by simp; omega
          have H34 : Hid (c ≠ 34) := Lib.hid (fun e => h34 (by rw [HC0.out, e]; rfl))
          clear h34 d0 d1 d2 g0 g1 g2
          have HU : Hid (CandAt w (uptoR 4 (bts s)) [] w1) := Lib.hid (by rw [uptoR_first]; exact HN.out)
          go_wp2_with fail
          go_loopg [6] 8 (fun g i wr => ∃ k : Int, 4 ≤ k ∧ k ≤ 12 ∧ g = (12 - k).toNat ∧ i = .int .i64 k ∧ CandAt w (uptoR k (bts s)) [] wr)
          case atStart => exact ⟨4, by omega, by omega, rfl, rfl, HU.out⟩
          case round =>
            obtain ⟨k, hk1, hk2, hg, rfl, hC⟩ := hrel
            have Hg := Lib.hid hg
            clear hg
            by_cases hlt : k ≤ 11
            · obtain ⟨x, hx, hsx⟩ := sign_in hk1 hlt
              have hsx : signR k = x := hsx
              have HS := Lib.hid hsx
              have HX := Lib.hid hx
              have HC := Lib.hid hC
              clear hsx hx hC
              go_wp2_with fail
              refine (sign_any k _).mono ?_
              rintro e w2 ⟨rfl, hx2⟩
              rw [HS.out]
              have hC2 := HC.out.ext hx2
              obtain ⟨d0, d1, d2, g0, g1, g2⟩ := hC2.box.facts3
              have HC2 := Lib.hid hC2
              clear hC2
              go_wp2_with fail
              refine (startsR s _ _ (by omega)).mono ?_
              rintro e w' ⟨rfl, rfl⟩
              rw [bts_txt]
              cases hp : x.isPrefixOf (bts s) with
              | true =>
                have HF := Lib.hid (uptoR_yes HX.out hp)
                clear hp
                go_wp2_with fail
                go_roundg (12 - (k + 1)).toNat
                case measure => have := Hg.out; omega
                case rel => exact ⟨k + 1, by omega, by omega, rfl, rfl, by rw [HF.out]; exact HC2.out.set k []⟩
              | false =>
                have HF := Lib.hid (uptoR_no HX.out hp)
                clear hp
                go_wp2_with fail
                go_roundg (12 - (k + 1)).toNat
                case measure => have := Hg.out; omega
                case rel => exact ⟨k + 1, by omega, by omega, rfl, rfl, by rw [HF.out]; exact HC2.out⟩
            · obtain rfl : k = 12 := by omega
              have HC := Lib.hid hC
              clear hC
              go_wp2_with fail
              go_meet
              exact ⟨rfl, _, _, by rw [Hcand.out, candR_sign Hlc.out H64.out H34.out, Hcr.out], HC.out⟩
  case rest =>
    obtain ⟨rfl, k, l, hkl, hC⟩ := hcut
    have hll := candR_len (bts s)
    rw [hkl, bts_len] at hll
    dsimp only at hll
    have hbR : begR (bts s) = if rightB k l 0 && (standsL k l).isPrefixOf (bts s) then (k, l, (standsL k l).length) else begNo := by unfold begR; rw [hkl]
    have hri := right_any ⟨k, txt l, 0⟩
    have hst := refStands_any ⟨k, txt l, 0⟩
    unfold Tk.stands tkV at hst
    unfold tkV at hri
    dsimp only at hri hst
    rw [bts_txt] at hri hst
    have hsl := standsL_len k l
    have hts : (txt l).size ≤ 9223372036854775800 := by rw [txt_size]; omega
    generalize standsL k l = S at *
    obtain ⟨b0, b1, b2, e0, e1, e2⟩ := hC.box.facts3
    obtain ⟨r0, r1, r2, f0, f1, f2⟩ := hC.res.facts3
    have HB := Lib.hid hbR
    have HRI := Lib.hid hri
    have HST := Lib.hid hst
    have HC := Lib.hid hC
    clear hkl hbR hri hst hC HC0 Hsz Hcr Hcand hN hpos hne
    cases hr : rightB k l 0 with
    | false =>
      have HF : Hid (begR (bts s) = begNo) := Lib.hid (by rw [HB.out, hr]; rfl)
      have Hr := Lib.hid hr
      clear hr
      go_wp2_with fail
      refine (HRI.out _ hts).mono ?_
      rintro e w2 ⟨rfl, hx2⟩
      rw [Hr.out]
      obtain ⟨b0, b1, b2, e0, e1, e2⟩ := (HC.out.box.ext hx2).facts3
      obtain ⟨r0, r1, r2, f0, f1, f2⟩ := (HC.out.res.ext hx2).facts3
      have hB2 := Lib.hid (HC.out.ext hx2).below
      go_wp2_with fail
      exact bodyPost_ret (v := begV begNo) (by simp [results, Try.results23, go_sem, r0, r1, r2, begV, tokV, begNo, txt]) rfl ⟨by rw [HF.out], ((hB2.out.setCell (p := ⟨w.heap.size, 0, none⟩) (Nat.le_refl _) _).setCell (p := ⟨w.heap.size, 1, none⟩) (Nat.le_refl _) _).setCell (p := ⟨w.heap.size, 2, none⟩) (Nat.le_refl _) _⟩
    | true =>
      cases hp : S.isPrefixOf (bts s) with
      | false =>
        have HF : Hid (begR (bts s) = begNo) := Lib.hid (by rw [HB.out, hr, hp]; rfl)
        have Hr := Lib.hid hr
        have Hp := Lib.hid hp
        clear hr hp
        go_wp2_with fail
        refine (HRI.out _ hts).mono ?_
        rintro e w2a ⟨rfl, hx2a⟩
        rw [Hr.out]
        obtain ⟨b0, b1, b2, e0, e1, e2⟩ := (HC.out.box.ext hx2a).facts3
        go_wp2_with fail
        refine (HST.out _ hts).mono ?_
        rintro e w2b ⟨rfl, hx2b⟩
        go_wp2_with fail
        refine (startsR s _ _ (by omega)).mono ?_
        rintro e w' ⟨rfl, rfl⟩
        rw [bts_txt, Hp.out]
        have hx2 := hx2a.trans hx2b
        clear hx2a hx2b
        generalize w2b = w2 at *
        obtain ⟨b0, b1, b2, e0, e1, e2⟩ := (HC.out.box.ext hx2).facts3
        obtain ⟨r0, r1, r2, f0, f1, f2⟩ := (HC.out.res.ext hx2).facts3
        have hB2 := Lib.hid (HC.out.ext hx2).below
        go_wp2_with fail
        exact bodyPost_ret (v := begV begNo) (by simp [results, Try.results23, go_sem, r0, r1, r2, begV, tokV, begNo, txt]) rfl ⟨by rw [HF.out], ((hB2.out.setCell (p := ⟨w.heap.size, 0, none⟩) (Nat.le_refl _) _).setCell (p := ⟨w.heap.size, 1, none⟩) (Nat.le_refl _) _).setCell (p := ⟨w.heap.size, 2, none⟩) (Nat.le_refl _) _⟩
      | true =>
        have HF : Hid (begR (bts s) = (k, l, S.length)) := Lib.hid (by rw [HB.out, hr, hp]; rfl)
        have Hr := Lib.hid hr
        have Hp := Lib.hid hp
        clear hr hp
        go_wp2_with fail
        refine (HRI.out _ hts).mono ?_
        rintro e w2a ⟨rfl, hx2a⟩
        rw [Hr.out]
        obtain ⟨b0, b1, b2, e0, e1, e2⟩ := (HC.out.box.ext hx2a).facts3
        go_wp2_with fail
        refine (HST.out _ hts).mono ?_
        rintro e w2b ⟨rfl, hx2b⟩
        go_wp2_with fail
        refine (startsR s _ _ (by omega)).mono ?_
        rintro e w' ⟨rfl, rfl⟩
        rw [bts_txt, Hp.out]
        have hx2 := hx2a.trans hx2b
        clear hx2a hx2b
        generalize w2b = w2 at *
        have HBX := Lib.hid (HC.out.box.ext hx2)
        have HRS := Lib.hid (HC.out.res.ext hx2)
        obtain ⟨b0, b1, b2, e0, e1, e2⟩ := HBX.out.facts3
        obtain ⟨r0, r1, r2, f0, f1, f2⟩ := HRS.out.facts3
        have hB2 := Lib.hid (HC.out.ext hx2).below
        have hlt2 := Lib.hid HRS.out.lt
        go_upto_region 20 with fail
        go_region_with (go_at_call 16; refine (HST.out _ hts).mono ?_; rintro e w5 ⟨rfl, hx5⟩; have hx5' : Ext w2 w5 := Ext.trans (Ext.drewN w2 1) hx5; obtain ⟨b0, b1, b2, e0, e1, e2⟩ := (HBX.out.ext hx5').facts3; obtain ⟨r0, r1, r2, f0, f1, f2⟩ := (HRS.out.ext hx5').facts3)
        all_goals go_wp2
        all_goals exact bodyPost_ret (v := begV (k, l, S.length)) (by simp [results, Try.results23, go_sem, Act.put, r0, r1, r2, begV, tokV, txt, ByteArray.size]) rfl ⟨by rw [HF.out], (((Below.ext hB2.out hx5' hB2.out.size).setCell (p := ⟨w.heap.size, 0, none⟩) (Nat.le_refl _) _).setCell (p := ⟨w.heap.size, 1, none⟩) (Nat.le_refl _) _).setCell (p := ⟨w.heap.size, 2, none⟩) (Nat.le_refl _) _⟩
end Go.Proofs.Ytofglbngnjcpeaa
