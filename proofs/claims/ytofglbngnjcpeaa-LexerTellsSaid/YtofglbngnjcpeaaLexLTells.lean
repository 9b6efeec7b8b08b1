/- LexerTells: the walk. -/
import Derived.Test.YtofglbngnjcpeaaLexK
import Derived.Test.YtofglbngnjcpeaaLexM
namespace Go.Proofs.Ytofglbngnjcpeaa
set_option maxRecDepth 100000
set_option maxHeartbeats 2000000
set_option linter.unusedVariables false
set_option linter.unusedSimpArgs false
open Go.RowKit

theorem numL_nonneg (l : List UInt8) : ∀ n : Int, 0 ≤ n → ∀ x, numL n l = some x → 0 ≤ x := by
  induction l with
  | nil => intro n h0 x hx; cases hx; exact h0
  | cons c l ih =>
    intro n h0 x hx
    by_cases h : 48 ≤ c.toNat ∧ c.toNat ≤ 57 ∧ 10 * n + (c.toNat - 48 : Nat) < 2147483648
    · rw [numL_yes h] at hx; exact ih _ (by omega) x hx
    · rw [numL_no h] at hx; cases hx
theorem number_nonneg {t : Tk} {n : Int} (h : t.number = some n) : 0 ≤ n := by
  unfold Tk.number numberF at h
  split at h
  · cases h
  · exact numL_nonneg _ 0 (by omega) n h
theorem own_toks {w : World} {B : Nat} {u : Value} {l : List Tk} (h : w.ownsRow B 29 3 u l.length (l.flatMap tkCells)) : Toks w u l := Sl.of_own h
theorem sameL_refl (l : List Tk) : sameL l l = true := by
  induction l with
  | nil => rfl
  | cons x l ih => rw [sameL, ih, Bool.and_true]; unfold Tk.same; simp

theorem tells_walk (v0 : Value) (x : List Tk) (v1 : Value) (y : List Tk) (w : World) (h0 : Toks w v0 x ∧ ∀ t ∈ x, t.text.size ≤ 9223372036854775807 ∧ -9223372036854775808 ≤ t.kind ∧ t.kind ≤ 9223372036854775807 ∧ -9223372036854775808 ≤ t.at_ ∧ t.at_ ≤ 9223372036854775807)
    (h1 : Toks w v1 y ∧ ∀ t ∈ y, t.text.size ≤ 9223372036854775807 ∧ -9223372036854775808 ≤ t.kind ∧ t.kind ≤ 9223372036854775807 ∧ -9223372036854775808 ≤ t.at_ ∧ t.at_ ≤ 9223372036854775807) :
    Calls Try.prog 5 #[v0, v1] w fun e w' => e = .returned (.bool true) ∧ Ext w w' := by
  have HX := Lib.hid h0.1
  have HY := Lib.hid h1.1
  clear h0 h1
  go_enter Try.func5, Try.ntmps5
  go_wp2_with fail
  refine (wakes_any _).mono ?_
  rintro e w1 ⟨rfl, hx1⟩
  go_wp2_with fail
  refine (few_any v0 x _ (HX.out.ext (by repeat (first | exact Ext.refl _ | with_reducible refine Ext.alloc_of ?_ _ | with_reducible refine Ext.drewN_of ?_ _ | with_reducible refine Ext.drew_of ?_ | (with_reducible refine Ext.set_of ?_ ?hsz _; case hsz => ((first | exact Nat.le_refl _ | omega | (simp; omega)))) | with_reducible refine Ext.via (by assumption) ?_)))).mono ?_
  rintro e w2 ⟨u, rfl, ho, hx2⟩
  have hL := own_toks ho
  have hLn := fewL_len x
  have hLs := fewL_size x
  have HXs : Hid (sameL (fewL x) (fewL x) = true) := Lib.hid (sameL_refl _)
  have HL := Lib.hid hL
  obtain ⟨a, c, rfl, hc1, hc2⟩ := hL.shape
  have HLs := Lib.hid hLs
  have hfx : Hid (∀ w', Ext w w' → Calls Try.prog 11 #[v0] w' fun e w'' => ∃ u, e = .returned u ∧ Toks w'' u (fewL x) ∧ Ext w' w'') := Lib.hid (fun w' hx => (few_any v0 x w' (HX.out.ext hx)).mono fun e w'' ⟨u, he, ho, hx⟩ => ⟨u, he, own_toks ho, hx⟩)
  have hfy : Hid (∀ w', Ext w w' → Calls Try.prog 11 #[v1] w' fun e w'' => ∃ u, e = .returned u ∧ Toks w'' u (fewL y) ∧ Ext w' w'') := Lib.hid (fun w' hx => (few_any v1 y w' (HY.out.ext hx)).mono fun e w'' ⟨u, he, ho, hx⟩ => ⟨u, he, own_toks ho, hx⟩)
  generalize fewL x = L at *
  have hxw : Ext w w2 := hx1.trans hx2
  clear ho hL hLs hx1 hx2
  go_wp2_with fail
  go_loopg [6, 27] L.length (fun g r i wr => ∃ k : Nat, k ≤ L.length ∧ g = L.length - k ∧ i = .int .i64 k ∧ r = .bool ((L.take k).all Tk.check) ∧ Ext w2 wr)
  case atStart => exact ⟨0, Nat.zero_le _, rfl, rfl, rfl, Ext.refl _⟩
  case round =>
    obtain ⟨k, hk, hg, rfl, rfl, hx⟩ := hrel
    have Hg := Lib.hid hg
    clear hg
    by_cases hlt : k < L.length
    · obtain ⟨b, o, rfl, c0, c1, c2⟩ := (HL.out.ext hx).at_ hlt
      have hbl := cell_lt c0
      have hts := HLs.out _ (List.getElem_mem hlt)
      have hsn : (L.take (k + 1)).all Tk.check = ((L.take k).all Tk.check && L[k].check) := by rw [take_snoc L k hlt, List.all_append]; simp
      have Hsn := Lib.hid hsn
      generalize (L.take k).all Tk.check = R at *
      clear hsn
      generalize L[k] = t at *
      have hri := fun w => right_any t w (by omega)
      rw [right_check] at hri
      have hrs := fun w => refStands_any t w (by omega)
      have hnu := fun w => number_any t w (by omega)
      have hrn := fun w => refNum_any t w
      rw [number_ref] at hrn
      have hnn : ∀ n, t.number = some n → 0 ≤ n := fun n h => number_nonneg h
      unfold Tk.number at hnu hnn
      generalize numberF t.kind (bts t.text) = q at *
      have hx5 : Ext w2 (wr.alloc (.cells #[.int .i64 t.kind, .string t.text, .int .i64 t.at_] 29)) := (by repeat (first | exact Ext.refl _ | with_reducible refine Ext.alloc_of ?_ _ | with_reducible refine Ext.drewN_of ?_ _ | with_reducible refine Ext.drew_of ?_ | (with_reducible refine Ext.set_of ?_ ?hsz _; case hsz => ((first | exact Nat.le_refl _ | omega | (simp; omega)))) | with_reducible refine Ext.via (by assumption) ?_))
      have hbx := RowAt.new wr 29 [.int .i64 t.kind, .string t.text, .int .i64 t.at_]
      cases hck : t.check with
      | true =>
        have Hck := Lib.hid hck
        have hc := fun w => check_yes (t := t) w (by omega) hck
        have hs := fun w => Stands_yes (t := t) w (by omega) hck
        unfold Tk.check at hck
        rw [hck] at hri
        unfold tkV at *
        cases R
        all_goals
          have HRI := Lib.hid hri
          have HRS := Lib.hid hrs
          have HNU := Lib.hid hnu
          have HRN := Lib.hid hrn
          have HNN := Lib.hid hnn
          have HC := Lib.hid hc
          have HS := Lib.hid hs
          obtain ⟨d0, d1, d2, g0, g1, g2⟩ := hbx.facts3
          clear hri hrs hnu hrn hnn hc hs hck
          go_upto_region 8 with fail
          generalize wr.alloc (.cells #[.int .i64 t.kind, .string t.text, .int .i64 t.at_] 29) = w3 at *
          clear hx c0 c1 c2 hbl
          have hx := hx5
          clear hx5
          go_wp2_with fail
          refine (HRI.out _).mono ?_
          rintro e w4 ⟨rfl, hx4⟩
          have hx := hx.trans hx4
          have hbx := hbx.ext hx4
          obtain ⟨d0, d1, d2, g0, g1, g2⟩ := hbx.facts3
          go_wp2_with fail
          refine (HC.out _).mono ?_
          rintro e w5 ⟨rfl, hx5⟩
          have hx := hx.trans hx5
          have hbx := hbx.ext hx5
          obtain ⟨d0, d1, d2, g0, g1, g2⟩ := hbx.facts3
          go_wp2_with fail
          refine (HS.out _).mono ?_
          rintro e w6 ⟨rfl, hx6⟩
          have hx := hx.trans hx6
          have hbx := hbx.ext hx6
          obtain ⟨d0, d1, d2, g0, g1, g2⟩ := hbx.facts3
          go_wp2_with fail
          refine (HRS.out _).mono ?_
          rintro e w7 ⟨rfl, hx7⟩
          have hx := hx.trans hx7
          obtain ⟨d0, d1, d2, g0, g1, g2⟩ := (hbx.ext hx7).facts3
          have hbx := hbx.ext hx7
          go_wp2_with fail
          refine (HNU.out _).mono ?_
          rintro e w8 ⟨rfl, hx8⟩
          have hx := hx.trans hx8
          obtain ⟨d0, d1, d2, g0, g1, g2⟩ := (hbx.ext hx8).facts3
          cases q with
          | some n =>
            have hn0 := HNN.out n rfl
            unfold numE
            dsimp only
            go_wp2_with fail
            refine (HRN.out _).mono ?_
            rintro e w9 ⟨rfl, hx9⟩
            have hm : max n 0 = n := by omega
            dsimp only
            go_wp2_with fail
            go_roundg (L.length - (k + 1))
            case measure => have := Hg.out; omega
            case rel => exact ⟨k + 1, by omega, rfl, by go_num, by rw [Hsn.out, Hck.out]; rfl, hx.trans hx9⟩
          | none =>
            unfold numE
            dsimp only
            go_wp2_with fail
            refine (HRN.out _).mono ?_
            rintro e w9 ⟨rfl, hx9⟩
            dsimp only
            go_wp2_with fail
            go_roundg (L.length - (k + 1))
            case measure => have := Hg.out; omega
            case rel => exact ⟨k + 1, by omega, rfl, by go_num, by rw [Hsn.out, Hck.out]; rfl, hx.trans hx9⟩
      | false =>
        have Hck := Lib.hid hck
        have hc := fun w => check_no (t := t) w (by omega) hck
        have hs := fun w => Stands_no (t := t) w (by omega) hck
        unfold Tk.check at hck
        rw [hck] at hri
        unfold tkV at *
        cases R
        all_goals
          have HRI := Lib.hid hri
          have HRS := Lib.hid hrs
          have HNU := Lib.hid hnu
          have HRN := Lib.hid hrn
          have HNN := Lib.hid hnn
          have HC := Lib.hid hc
          have HS := Lib.hid hs
          obtain ⟨d0, d1, d2, g0, g1, g2⟩ := hbx.facts3
          clear hri hrs hnu hrn hnn hc hs hck
          go_upto_region 8 with fail
          generalize wr.alloc (.cells #[.int .i64 t.kind, .string t.text, .int .i64 t.at_] 29) = w3 at *
          clear hx c0 c1 c2 hbl
          have hx := hx5
          clear hx5
          go_wp2_with fail
          refine (HRI.out _).mono ?_
          rintro e w4 ⟨rfl, hx4⟩
          have hx := hx.trans hx4
          have hbx := hbx.ext hx4
          obtain ⟨d0, d1, d2, g0, g1, g2⟩ := hbx.facts3
          go_wp2_with fail
          refine (HC.out _).mono ?_
          rintro e w5 ⟨rfl, hx5⟩
          have hx := hx.trans hx5
          have hbx := hbx.ext hx5
          obtain ⟨d0, d1, d2, g0, g1, g2⟩ := hbx.facts3
          go_wp2_with fail
          refine (HS.out _).mono ?_
          rintro e w6 ⟨rfl, hx6⟩
          have hx := hx.trans hx6
          have hbx := hbx.ext hx6
          obtain ⟨d0, d1, d2, g0, g1, g2⟩ := hbx.facts3
          go_wp2_with fail
          refine (HNU.out _).mono ?_
          rintro e w8 ⟨rfl, hx8⟩
          have hx := hx.trans hx8
          obtain ⟨d0, d1, d2, g0, g1, g2⟩ := (hbx.ext hx8).facts3
          cases q with
          | some n =>
            have hn0 := HNN.out n rfl
            unfold numE
            dsimp only
            go_wp2_with fail
            refine (HRN.out _).mono ?_
            rintro e w9 ⟨rfl, hx9⟩
            have hm : max n 0 = n := by omega
            dsimp only
            go_wp2_with fail
            go_roundg (L.length - (k + 1))
            case measure => have := Hg.out; omega
            case rel => exact ⟨k + 1, by omega, rfl, by go_num, by rw [Hsn.out, Hck.out]; rfl, hx.trans hx9⟩
          | none =>
            unfold numE
            dsimp only
            go_wp2_with fail
            refine (HRN.out _).mono ?_
            rintro e w9 ⟨rfl, hx9⟩
            dsimp only
            go_wp2_with fail
            go_roundg (L.length - (k + 1))
            case measure => have := Hg.out; omega
            case rel => exact ⟨k + 1, by omega, rfl, by go_num, by rw [Hsn.out, Hck.out]; rfl, hx.trans hx9⟩
    · have hkk : (L.take k).all Tk.check = L.all Tk.check := by rw [List.take_of_length_le (by omega)]
      rw [hkk]
      have hpl := fun w' (h : Ext w2 w') => plain_any (.slice a L.length c) L w' (HL.out.ext h) (by omega) (fun t ht => by have := HLs.out t ht; omega)
      have hpr := fun w' (h : Ext w2 w') => plainR (.slice a L.length c) L w' (HL.out.ext h) (by omega) (fun t ht => by have := HLs.out t ht; omega)
      unfold plainF at hpl
      have hts : (txt (joinT L)).size = (joinT L).length := txt_size _
      have HTS := Lib.hid hts
      clear hkk hts
      cases hall : L.all Tk.check with
      | true =>
        rw [if_pos hall] at hpl
        by_cases h5 : 500 < (joinT L).length
        · rw [if_pos h5] at hpl
          have d5 : (500 : Int) < ((txt (joinT L)).size : Int) := by have := HTS.out; omega
          have HPL := Lib.hid hpl
          have HPR := Lib.hid hpr
          clear hpl hpr hall
          go_wp2_with fail
          refine (HPL.out _ (by repeat (first | exact Ext.refl _ | with_reducible refine Ext.alloc_of ?_ _ | with_reducible refine Ext.drewN_of ?_ _ | with_reducible refine Ext.drew_of ?_ | (with_reducible refine Ext.set_of ?_ ?hsz _; case hsz => ((first | exact Nat.le_refl _ | omega | (simp; omega)))) | with_reducible refine Ext.via (by assumption) ?_))).mono ?_
          rintro e w3 ⟨rfl, hx3⟩
          go_wp2_with fail
          refine (HPR.out _ (by repeat (first | exact Ext.refl _ | with_reducible refine Ext.alloc_of ?_ _ | with_reducible refine Ext.drewN_of ?_ _ | with_reducible refine Ext.drew_of ?_ | (with_reducible refine Ext.set_of ?_ ?hsz _; case hsz => ((first | exact Nat.le_refl _ | omega | (simp; omega)))) | with_reducible refine Ext.via (by assumption) ?_))).mono ?_
          rintro e w4 ⟨rfl, hx4⟩
          go_wp2_with fail
          refine (hfy.out _ (by repeat (first | exact Ext.refl _ | with_reducible refine Ext.alloc_of ?_ _ | with_reducible refine Ext.drewN_of ?_ _ | with_reducible refine Ext.drew_of ?_ | (with_reducible refine Ext.set_of ?_ ?hsz _; case hsz => ((first | exact Nat.le_refl _ | omega | (simp; omega)))) | with_reducible refine Ext.via (by assumption) ?_))).mono ?_
          rintro e wa ⟨ua, rfl, hta, hxa⟩
          have HTA := Lib.hid hta
          clear hta
          go_wp2_with fail
          refine (same_any _ _ L _ _ (HL.out.ext (by repeat (first | exact Ext.refl _ | with_reducible refine Ext.alloc_of ?_ _ | with_reducible refine Ext.drewN_of ?_ _ | with_reducible refine Ext.drew_of ?_ | (with_reducible refine Ext.set_of ?_ ?hsz _; case hsz => ((first | exact Nat.le_refl _ | omega | (simp; omega)))) | with_reducible refine Ext.via (by assumption) ?_))) HTA.out).mono ?_
          rintro e wb ⟨rfl, hxb⟩
          go_wp2_with fail
          refine (hfy.out _ (by repeat (first | exact Ext.refl _ | with_reducible refine Ext.alloc_of ?_ _ | with_reducible refine Ext.drewN_of ?_ _ | with_reducible refine Ext.drew_of ?_ | (with_reducible refine Ext.set_of ?_ ?hsz _; case hsz => ((first | exact Nat.le_refl _ | omega | (simp; omega)))) | with_reducible refine Ext.via (by assumption) ?_))).mono ?_
          rintro e wc ⟨uc, rfl, htc, hxc⟩
          have HTC := Lib.hid htc
          clear htc
          go_wp2_with fail
          refine (sameR _ _ L _ _ (HL.out.ext (by repeat (first | exact Ext.refl _ | with_reducible refine Ext.alloc_of ?_ _ | with_reducible refine Ext.drewN_of ?_ _ | with_reducible refine Ext.drew_of ?_ | (with_reducible refine Ext.set_of ?_ ?hsz _; case hsz => ((first | exact Nat.le_refl _ | omega | (simp; omega)))) | with_reducible refine Ext.via (by assumption) ?_))) HTC.out).mono ?_
          rintro e wd ⟨rfl, hxd⟩
          generalize sameL L (fewL y) = sm
          go_wp2_with fail
          refine (hfx.out _ (by repeat (first | exact Ext.refl _ | with_reducible refine Ext.alloc_of ?_ _ | with_reducible refine Ext.drewN_of ?_ _ | with_reducible refine Ext.drew_of ?_ | (with_reducible refine Ext.set_of ?_ ?hsz _; case hsz => ((first | exact Nat.le_refl _ | omega | (simp; omega)))) | with_reducible refine Ext.via (by assumption) ?_))).mono ?_
          rintro e we ⟨ue, rfl, hte, hxe⟩
          have HTE := Lib.hid hte
          clear hte
          go_wp2_with fail
          refine (same_any _ _ L _ _ (HL.out.ext (by repeat (first | exact Ext.refl _ | with_reducible refine Ext.alloc_of ?_ _ | with_reducible refine Ext.drewN_of ?_ _ | with_reducible refine Ext.drew_of ?_ | (with_reducible refine Ext.set_of ?_ ?hsz _; case hsz => ((first | exact Nat.le_refl _ | omega | (simp; omega)))) | with_reducible refine Ext.via (by assumption) ?_))) HTE.out).mono ?_
          rintro e wf ⟨rfl, hxf⟩
          rw [HXs.out]
          go_wp2_with fail
          go_ret
          exact ⟨rfl, (by repeat (first | exact Ext.refl _ | with_reducible refine Ext.alloc_of ?_ _ | with_reducible refine Ext.drewN_of ?_ _ | with_reducible refine Ext.drew_of ?_ | (with_reducible refine Ext.set_of ?_ ?hsz _; case hsz => ((first | exact Nat.le_refl _ | omega | (simp; omega)))) | with_reducible refine Ext.via (by assumption) ?_))⟩
        · rw [if_neg h5] at hpl
          have d5 : ((txt (joinT L)).size : Int) ≤ (500 : Int) := by have := HTS.out; omega
          have HPL := Lib.hid hpl
          have HPR := Lib.hid hpr
          clear hpl hpr hall
          go_wp2_with fail
          refine (HPL.out _ (by repeat (first | exact Ext.refl _ | with_reducible refine Ext.alloc_of ?_ _ | with_reducible refine Ext.drewN_of ?_ _ | with_reducible refine Ext.drew_of ?_ | (with_reducible refine Ext.set_of ?_ ?hsz _; case hsz => ((first | exact Nat.le_refl _ | omega | (simp; omega)))) | with_reducible refine Ext.via (by assumption) ?_))).mono ?_
          rintro e w3 ⟨rfl, hx3⟩
          go_wp2_with fail
          refine (HPR.out _ (by repeat (first | exact Ext.refl _ | with_reducible refine Ext.alloc_of ?_ _ | with_reducible refine Ext.drewN_of ?_ _ | with_reducible refine Ext.drew_of ?_ | (with_reducible refine Ext.set_of ?_ ?hsz _; case hsz => ((first | exact Nat.le_refl _ | omega | (simp; omega)))) | with_reducible refine Ext.via (by assumption) ?_))).mono ?_
          rintro e w4 ⟨rfl, hx4⟩
          go_wp2_with fail
          refine (hfy.out _ (by repeat (first | exact Ext.refl _ | with_reducible refine Ext.alloc_of ?_ _ | with_reducible refine Ext.drewN_of ?_ _ | with_reducible refine Ext.drew_of ?_ | (with_reducible refine Ext.set_of ?_ ?hsz _; case hsz => ((first | exact Nat.le_refl _ | omega | (simp; omega)))) | with_reducible refine Ext.via (by assumption) ?_))).mono ?_
          rintro e wa ⟨ua, rfl, hta, hxa⟩
          have HTA := Lib.hid hta
          clear hta
          go_wp2_with fail
          refine (same_any _ _ L _ _ (HL.out.ext (by repeat (first | exact Ext.refl _ | with_reducible refine Ext.alloc_of ?_ _ | with_reducible refine Ext.drewN_of ?_ _ | with_reducible refine Ext.drew_of ?_ | (with_reducible refine Ext.set_of ?_ ?hsz _; case hsz => ((first | exact Nat.le_refl _ | omega | (simp; omega)))) | with_reducible refine Ext.via (by assumption) ?_))) HTA.out).mono ?_
          rintro e wb ⟨rfl, hxb⟩
          go_wp2_with fail
          refine (hfy.out _ (by repeat (first | exact Ext.refl _ | with_reducible refine Ext.alloc_of ?_ _ | with_reducible refine Ext.drewN_of ?_ _ | with_reducible refine Ext.drew_of ?_ | (with_reducible refine Ext.set_of ?_ ?hsz _; case hsz => ((first | exact Nat.le_refl _ | omega | (simp; omega)))) | with_reducible refine Ext.via (by assumption) ?_))).mono ?_
          rintro e wc ⟨uc, rfl, htc, hxc⟩
          have HTC := Lib.hid htc
          clear htc
          go_wp2_with fail
          refine (sameR _ _ L _ _ (HL.out.ext (by repeat (first | exact Ext.refl _ | with_reducible refine Ext.alloc_of ?_ _ | with_reducible refine Ext.drewN_of ?_ _ | with_reducible refine Ext.drew_of ?_ | (with_reducible refine Ext.set_of ?_ ?hsz _; case hsz => ((first | exact Nat.le_refl _ | omega | (simp; omega)))) | with_reducible refine Ext.via (by assumption) ?_))) HTC.out).mono ?_
          rintro e wd ⟨rfl, hxd⟩
          generalize sameL L (fewL y) = sm
          go_wp2_with fail
          refine (hfx.out _ (by repeat (first | exact Ext.refl _ | with_reducible refine Ext.alloc_of ?_ _ | with_reducible refine Ext.drewN_of ?_ _ | with_reducible refine Ext.drew_of ?_ | (with_reducible refine Ext.set_of ?_ ?hsz _; case hsz => ((first | exact Nat.le_refl _ | omega | (simp; omega)))) | with_reducible refine Ext.via (by assumption) ?_))).mono ?_
          rintro e we ⟨ue, rfl, hte, hxe⟩
          have HTE := Lib.hid hte
          clear hte
          go_wp2_with fail
          refine (same_any _ _ L _ _ (HL.out.ext (by repeat (first | exact Ext.refl _ | with_reducible refine Ext.alloc_of ?_ _ | with_reducible refine Ext.drewN_of ?_ _ | with_reducible refine Ext.drew_of ?_ | (with_reducible refine Ext.set_of ?_ ?hsz _; case hsz => ((first | exact Nat.le_refl _ | omega | (simp; omega)))) | with_reducible refine Ext.via (by assumption) ?_))) HTE.out).mono ?_
          rintro e wf ⟨rfl, hxf⟩
          rw [HXs.out]
          go_wp2_with fail
          go_ret
          exact ⟨rfl, (by repeat (first | exact Ext.refl _ | with_reducible refine Ext.alloc_of ?_ _ | with_reducible refine Ext.drewN_of ?_ _ | with_reducible refine Ext.drew_of ?_ | (with_reducible refine Ext.set_of ?_ ?hsz _; case hsz => ((first | exact Nat.le_refl _ | omega | (simp; omega)))) | with_reducible refine Ext.via (by assumption) ?_))⟩
      | false =>
        rw [if_neg (by rw [hall]; simp)] at hpl
        have HPL := Lib.hid hpl
        have HPR := Lib.hid hpr
        clear hpl hpr hall
        go_wp2_with fail
        refine (HPL.out _ (by repeat (first | exact Ext.refl _ | with_reducible refine Ext.alloc_of ?_ _ | with_reducible refine Ext.drewN_of ?_ _ | with_reducible refine Ext.drew_of ?_ | (with_reducible refine Ext.set_of ?_ ?hsz _; case hsz => ((first | exact Nat.le_refl _ | omega | (simp; omega)))) | with_reducible refine Ext.via (by assumption) ?_))).mono ?_
        rintro e w3 ⟨rfl, hx3⟩
        go_wp2_with fail
        refine (hfy.out _ (by repeat (first | exact Ext.refl _ | with_reducible refine Ext.alloc_of ?_ _ | with_reducible refine Ext.drewN_of ?_ _ | with_reducible refine Ext.drew_of ?_ | (with_reducible refine Ext.set_of ?_ ?hsz _; case hsz => ((first | exact Nat.le_refl _ | omega | (simp; omega)))) | with_reducible refine Ext.via (by assumption) ?_))).mono ?_
        rintro e wa ⟨ua, rfl, hta, hxa⟩
        have HTA := Lib.hid hta
        clear hta
        go_wp2_with fail
        refine (same_any _ _ L _ _ (HL.out.ext (by repeat (first | exact Ext.refl _ | with_reducible refine Ext.alloc_of ?_ _ | with_reducible refine Ext.drewN_of ?_ _ | with_reducible refine Ext.drew_of ?_ | (with_reducible refine Ext.set_of ?_ ?hsz _; case hsz => ((first | exact Nat.le_refl _ | omega | (simp; omega)))) | with_reducible refine Ext.via (by assumption) ?_))) HTA.out).mono ?_
        rintro e wb ⟨rfl, hxb⟩
        go_wp2_with fail
        refine (hfy.out _ (by repeat (first | exact Ext.refl _ | with_reducible refine Ext.alloc_of ?_ _ | with_reducible refine Ext.drewN_of ?_ _ | with_reducible refine Ext.drew_of ?_ | (with_reducible refine Ext.set_of ?_ ?hsz _; case hsz => ((first | exact Nat.le_refl _ | omega | (simp; omega)))) | with_reducible refine Ext.via (by assumption) ?_))).mono ?_
        rintro e wc ⟨uc, rfl, htc, hxc⟩
        have HTC := Lib.hid htc
        clear htc
        go_wp2_with fail
        refine (sameR _ _ L _ _ (HL.out.ext (by repeat (first | exact Ext.refl _ | with_reducible refine Ext.alloc_of ?_ _ | with_reducible refine Ext.drewN_of ?_ _ | with_reducible refine Ext.drew_of ?_ | (with_reducible refine Ext.set_of ?_ ?hsz _; case hsz => ((first | exact Nat.le_refl _ | omega | (simp; omega)))) | with_reducible refine Ext.via (by assumption) ?_))) HTC.out).mono ?_
        rintro e wd ⟨rfl, hxd⟩
        generalize sameL L (fewL y) = sm
        go_wp2_with fail
        refine (hfx.out _ (by repeat (first | exact Ext.refl _ | with_reducible refine Ext.alloc_of ?_ _ | with_reducible refine Ext.drewN_of ?_ _ | with_reducible refine Ext.drew_of ?_ | (with_reducible refine Ext.set_of ?_ ?hsz _; case hsz => ((first | exact Nat.le_refl _ | omega | (simp; omega)))) | with_reducible refine Ext.via (by assumption) ?_))).mono ?_
        rintro e we ⟨ue, rfl, hte, hxe⟩
        have HTE := Lib.hid hte
        clear hte
        go_wp2_with fail
        refine (same_any _ _ L _ _ (HL.out.ext (by repeat (first | exact Ext.refl _ | with_reducible refine Ext.alloc_of ?_ _ | with_reducible refine Ext.drewN_of ?_ _ | with_reducible refine Ext.drew_of ?_ | (with_reducible refine Ext.set_of ?_ ?hsz _; case hsz => ((first | exact Nat.le_refl _ | omega | (simp; omega)))) | with_reducible refine Ext.via (by assumption) ?_))) HTE.out).mono ?_
        rintro e wf ⟨rfl, hxf⟩
        rw [HXs.out]
        go_wp2_with fail
        go_ret
        exact ⟨rfl, (by repeat (first | exact Ext.refl _ | with_reducible refine Ext.alloc_of ?_ _ | with_reducible refine Ext.drewN_of ?_ _ | with_reducible refine Ext.drew_of ?_ | (with_reducible refine Ext.set_of ?_ ?hsz _; case hsz => ((first | exact Nat.le_refl _ | omega | (simp; omega)))) | with_reducible refine Ext.via (by assumption) ?_))⟩
end Go.Proofs.Ytofglbngnjcpeaa
