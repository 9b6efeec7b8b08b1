/- Which patterns may be: the program. -/
import Derived.Test.YthoneahamnmjlaaGreatDoorGp16
import Derived.Test.YthoneahamnmjlaaGreatDoorGp00
import Derived.OpenShut
import Derived.ChangeSame
import Derived.SizedLaws
namespace Go.Proofs.YthoneahamnmjlaaGreatDoor
set_option maxRecDepth 100000
set_option maxHeartbeats 2000000
set_option linter.unusedSimpArgs false
open Go.RowKit Go.Shelf Go.Sort
attribute [local go_sem] Oper.semAt_some wide_fn wide_depth
set_option linter.unusedVariables false

def sizesP (n e v : Nat) : Bool := decide (0 < n) && (decide (n ≤ 40) && (decide (e ≤ 6) && decide (v ≤ 32)))
def namedP (vars ret hint : List ByteArray) : Bool := chosenB vars ret && (chosenB vars hint && (decide (hint.length = 0) || decide (hint.length = vars.length)))
def countedP (cn ds lm : Bool) (off : Int) : Bool := (!cn && !ds) || (cn && (!lm && decide (off = 0)))
def pagedP (lm : Bool) (li off : Int) : Bool := numB li && (numB off && (lm || decide (li = 0)))
/-- May a pattern be? -/
def Pat.okB (P : Pat) : Bool := sizesP P.atoms.length (edgesOf P.atoms) (varsS P.atoms).length && (namedP (varsS P.atoms) P.ret P.hint && (countedP P.count P.distinct P.limited P.offset && (pagedP P.limited P.limit P.offset && P.atoms.all atomB)))
/-- A pattern in memory. -/
def PatAt (w : World) (v : Value) (P : Pat) : Prop := ∃ av rv hv, v = patV av rv hv P ∧ Ats w av P.atoms ∧ Strs w rv P.ret ∧ Strs w hv P.hint
theorem PatAt.ext {w w' : World} {v : Value} {P : Pat} (h : PatAt w v P) (hx : Ext w w') : PatAt w' v P := by
  obtain ⟨av, rv, hv, e, h1, h2, h3⟩ := h
  exact ⟨av, rv, hv, e, h1.ext hx, Strs.ext h2 hx, Strs.ext h3 hx⟩
/-- Small enough for memory. -/
structure Pat.Fits (P : Pat) : Prop where
  atoms : ∀ a ∈ P.atoms, a.Fits
  few : P.atoms.length ≤ 100000
def checkE (P : Pat) : Int := if P.okB = true then 0 else 261
set_option maxRecDepth 100000 in
set_option maxHeartbeats 2000000 in
theorem checkP_any (v : Value) (P : Pat) (w : World) (h : PatAt w v P) (hf : P.Fits) :
    Calls Tryz.prog 13 #[v] w fun e w' => e = .returned (.int .i64 (checkE P)) ∧ Ext w w' := by
  obtain ⟨av, rv, hv, rfl, ha, hr, hh⟩ := h
  obtain ⟨ava, avc, rfl, hac, _⟩ := ha.shape
  obtain ⟨rva, rvc, rfl, hrc, _⟩ := Sl.shape hr
  obtain ⟨hva, hvc, rfl, hhc, _⟩ := Sl.shape hh
  obtain ⟨atoms, ret, cn, ds, lm, li, off, hint⟩ := P
  obtain ⟨hf1, hf2⟩ := hf
  unfold patV patL
  dsimp only at *
  have hE : checkE ⟨atoms, ret, cn, ds, lm, li, off, hint⟩ = if (sizesP atoms.length (edgesOf atoms) (varsS atoms).length && (namedP (varsS atoms) ret hint && (countedP cn ds lm off && (pagedP lm li off && atoms.all atomB)))) = true then 0 else 261 := rfl
  obtain ⟨RES, hRES⟩ : ∃ R, checkE ⟨atoms, ret, cn, ds, lm, li, off, hint⟩ = R := ⟨_, rfl⟩
  rw [hRES] at hE ⊢
  have HRES := Lib.hid hE
  have HX := Lib.hid (Ext.alloc w (.cells #[.slice ava atoms.length avc, .slice rva ret.length rvc, .bool cn, .bool ds, .bool lm, .int .i64 li, .int .i64 off, .slice hva hint.length hvc] 25))
  have HB := Lib.hid (show RowAt (w.alloc (.cells #[.slice ava atoms.length avc, .slice rva ret.length rvc, .bool cn, .bool ds, .bool lm, .int .i64 li, .int .i64 off, .slice hva hint.length hvc] 25)) w.heap.size 25 [.slice ava atoms.length avc, .slice rva ret.length rvc, .bool cn, .bool ds, .bool lm, .int .i64 li, .int .i64 off, .slice hva hint.length hvc] from RowAt.new _ _ _)
  have HA := Lib.hid ha
  have HR := Lib.hid hr
  have HH := Lib.hid hh
  have HF := Lib.hid hf1
  clear ha hr hh hf1 hE hRES
  go_enter Tryz.func13, Tryz.ntmps13
  go_upto_region 1 with fail
  generalize w.alloc (.cells #[.slice ava atoms.length avc, .slice rva ret.length rvc, .bool cn, .bool ds, .bool lm, .int .i64 li, .int .i64 off, .slice hva hint.length hvc] 25) = w1 at *
  obtain ⟨x, hx⟩ : ∃ x, w.heap.size = x := ⟨_, rfl⟩
  rw [hx] at HB
  simp only [hx]
  clear hx
  obtain ⟨d0, d1, d2, d3, d4, d5, d6, d7⟩ := row8_facts HB.out
  have HV := Lib.hid (variables_any _ atoms w1 (HA.out.ext HX.out) hf2)
  have hed : edgesOf atoms ≤ atoms.length := List.length_filter_le _ _
  have hvl := varsS_take_len atoms atoms.length (Nat.le_refl _)
  rw [List.take_length] at hvl
  generalize edgesOf atoms = E at *
  generalize varsS atoms = V at *
  go_wp2_with fail
  refine HV.out.mono ?_
  rintro e w2 ⟨u, rfl, ho, hx2⟩
  have HVS := Lib.hid (show Strs w2 u V from Sl.of_own ho)
  have HX2 := Lib.hid (HX.out.trans hx2)
  have HB2 := Lib.hid (HB.out.ext hx2)
  obtain ⟨ua, uc, rfl⟩ := own_vw ho
  clear HV ho hx2 HB HX d0 d1 d2 d3 d4 d5 d6 d7
  obtain ⟨d0, d1, d2, d3, d4, d5, d6, d7⟩ := row8_facts HB2.out
  obtain ⟨sz, hsz⟩ : ∃ b, sizesP atoms.length E V.length = b := ⟨_, rfl⟩
  obtain ⟨nm, hnm⟩ : ∃ b, namedP V ret hint = b := ⟨_, rfl⟩
  obtain ⟨ct, hct⟩ : ∃ b, countedP cn ds lm off = b := ⟨_, rfl⟩
  obtain ⟨pg, hpg⟩ : ∃ b, pagedP lm li off = b := ⟨_, rfl⟩
  obtain ⟨al, hal⟩ : ∃ b, atoms.all atomB = b := ⟨_, rfl⟩
  have HAL := Lib.hid (fun w' (hv : Ats w' (.slice ava atoms.length avc) atoms) => hasNotAtom_any _ atoms w' hv HF.out (by omega))
  have hres := HRES.out
  rw [hsz, hnm, hct, hpg, hal] at hres
  clear HRES
  have HRES := Lib.hid hres
  rw [hal] at HAL
  have HSZ := Lib.hid hsz
  have HNM := Lib.hid hnm
  have HCT := Lib.hid hct
  have HPG := Lib.hid hpg
  clear hsz hnm hct hpg hal hres HF
  go_upto_region 2 with fail
  go_cut [5] (fun s5 wx => s5 = .bool sz ∧ wx = w2)
  case first =>
    by_cases h1 : 0 < atoms.length
    case neg =>
      go_wp2_with fail
      go_meet
      exact ⟨by rw [← HSZ.out]; unfold sizesP; simp; omega, rfl⟩
    by_cases h2 : atoms.length ≤ 40
    case neg =>
      go_wp2_with fail
      go_meet
      exact ⟨by rw [← HSZ.out]; unfold sizesP; simp; omega, rfl⟩
    by_cases h3 : E ≤ 6
    case neg =>
      go_wp2_with fail
      go_meet
      exact ⟨by rw [← HSZ.out]; unfold sizesP; simp; omega, rfl⟩
    by_cases h4 : V.length ≤ 32
    all_goals
      go_wp2_with fail
      go_meet
      exact ⟨by rw [← HSZ.out]; unfold sizesP; rw [decide_eq_true h1, decide_eq_true h2, decide_eq_true h3]; first | (rw [decide_eq_true h4]; rfl) | (rw [decide_eq_false h4]; rfl) | (simp [h4]; omega), rfl⟩
  case rest =>
    obtain ⟨rfl, hwc⟩ := hcut
    rw [hwc]
    clear hwc HSZ
    have HC1 := Lib.hid (chosen_any _ _ ret V w2 (Strs.ext HR.out HX2.out) HVS.out)
    have HC2 := Lib.hid (chosen_any _ _ hint V w2 (Strs.ext HH.out HX2.out) HVS.out)
    obtain ⟨c1, hc1⟩ : ∃ b, chosenB V ret = b := ⟨_, rfl⟩
    obtain ⟨c2, hc2⟩ : ∃ b, chosenB V hint = b := ⟨_, rfl⟩
    rw [hc1] at HC1
    rw [hc2] at HC2
    have hnm := HNM.out
    unfold namedP at hnm
    rw [hc1, hc2] at hnm
    clear HNM hc1 hc2
    have HNM := Lib.hid hnm
    clear hnm
    go_upto_region 3 with fail
    go_cut [6] (fun s6 wx => s6 = .bool nm ∧ wx = w2)
    case first =>
      cases c1 with
      | false =>
        go_wp2_with fail
        refine HC1.out.mono ?_
        rintro e w3 ⟨rfl, rfl⟩
        go_wp2_with fail
        go_meet
        exact ⟨by rw [← HNM.out]; rfl, rfl⟩
      | true =>
        cases c2 with
        | false =>
          go_wp2_with fail
          refine HC1.out.mono ?_
          rintro e w3 ⟨rfl, rfl⟩
          go_wp2_with fail
          refine HC2.out.mono ?_
          rintro e w3 ⟨rfl, rfl⟩
          go_wp2_with fail
          go_meet
          exact ⟨by rw [← HNM.out]; rfl, rfl⟩
        | true =>
          by_cases h0 : hint.length = 0
          · have hb : ((hint.length : Int) == 0) = true := by simp [h0]
            have HN0 : Hid (nm = true) := Lib.hid (by rw [← HNM.out, decide_eq_true h0]; rfl)
            clear h0
            go_wp2_with fail
            refine HC1.out.mono ?_
            rintro e w3 ⟨rfl, rfl⟩
            go_wp2_with fail
            refine HC2.out.mono ?_
            rintro e w3 ⟨rfl, rfl⟩
            go_wp2_with fail
            go_meet
            exact ⟨by rw [HN0.out], rfl⟩
          · have hb : ((hint.length : Int) == 0) = false := beq_eq_false_iff_ne.2 (by omega)
            have HN0 : Hid (nm = decide (hint.length = V.length)) := Lib.hid (by rw [← HNM.out, decide_eq_false h0]; rfl)
            obtain ⟨bq, hbq⟩ : ∃ b, decide (hint.length = V.length) = b := ⟨_, rfl⟩
            rw [hbq] at HN0
            have hb2 : ((hint.length : Int) == (V.length : Int)) = bq := by
              rw [← hbq]
              by_cases h : hint.length = V.length
              · rw [h]; simp
              · rw [decide_eq_false h, beq_eq_false_iff_ne]
                intro e
                exact h (Int.ofNat.inj e)
            clear h0 hbq
            go_wp2_with fail
            refine HC1.out.mono ?_
            rintro e w3 ⟨rfl, rfl⟩
            go_wp2_with fail
            refine HC2.out.mono ?_
            rintro e w3 ⟨rfl, rfl⟩
            go_wp2_with fail
            go_meet
            exact ⟨by rw [HN0.out], rfl⟩
    case rest =>
      obtain ⟨rfl, hwc⟩ := hcut
      rw [hwc]
      clear hwc HNM HC1 HC2 HVS
      go_upto_region 4 with fail
      go_cut [7] (fun s7 wx => s7 = .bool ct ∧ wx = w2)
      case first =>
        obtain ⟨bo, hbo⟩ : ∃ b, decide (off = 0) = b := ⟨_, rfl⟩
        have hb : (off == 0) = bo := by rw [← hbo, Bool.eq_iff_iff]; simp
        have hct := HCT.out
        unfold countedP at hct
        rw [hbo] at hct
        clear HCT hbo
        have HCT := Lib.hid hct
        clear hct
        cases cn <;> cases ds <;> cases lm
        all_goals
          go_wp2_with fail
          go_meet
          exact ⟨by rw [← HCT.out]; simp, rfl⟩
      case rest =>
        obtain ⟨rfl, hwc⟩ := hcut
        rw [hwc]
        clear hwc HCT
        go_upto_region 5 with fail
        go_cut [8] (fun s8 wx => s8 = .bool pg ∧ wx = w2)
        case first =>
          have HN1 := Lib.hid (numberP_any li w2)
          have HN2 := Lib.hid (numberP_any off w2)
          obtain ⟨n1, hn1⟩ : ∃ b, numB li = b := ⟨_, rfl⟩
          obtain ⟨n2, hn2⟩ : ∃ b, numB off = b := ⟨_, rfl⟩
          obtain ⟨bo, hbo⟩ : ∃ b, decide (li = 0) = b := ⟨_, rfl⟩
          have hb : (li == 0) = bo := by rw [← hbo, Bool.eq_iff_iff]; simp
          have hpg := HPG.out
          unfold pagedP at hpg
          rw [hbo, hn1, hn2] at hpg
          rw [hn1] at HN1
          rw [hn2] at HN2
          clear HPG hbo hn1 hn2
          have HPG := Lib.hid hpg
          clear hpg
          cases n1 with
          | false =>
            go_wp2_with fail
            refine HN1.out.mono ?_
            rintro e w3 ⟨rfl, rfl⟩
            go_wp2_with fail
            go_meet
            exact ⟨by rw [← HPG.out]; rfl, rfl⟩
          | true =>
            cases n2 with
            | false =>
              go_wp2_with fail
              refine HN1.out.mono ?_
              rintro e w3 ⟨rfl, rfl⟩
              go_wp2_with fail
              refine HN2.out.mono ?_
              rintro e w3 ⟨rfl, rfl⟩
              go_wp2_with fail
              go_meet
              exact ⟨by rw [← HPG.out]; rfl, rfl⟩
            | true =>
              cases lm
              all_goals
                go_wp2_with fail
                refine HN1.out.mono ?_
                rintro e w3 ⟨rfl, rfl⟩
                go_wp2_with fail
                refine HN2.out.mono ?_
                rintro e w3 ⟨rfl, rfl⟩
                go_wp2_with fail
                go_meet
                exact ⟨by rw [← HPG.out]; simp, rfl⟩
        case rest =>
          obtain ⟨rfl, hwc⟩ := hcut
          rw [hwc]
          clear hwc HPG
          have HA2 := Lib.hid (HAL.out w2 (HA.out.ext HX2.out))
          clear HAL
          cases sz with
          | false =>
            go_wp2_with fail
            go_ret
            exact ⟨ret_int HRES.out.symm, HX2.out⟩
          | true =>
            cases nm with
            | false =>
              go_wp2_with fail
              go_ret
              exact ⟨ret_int HRES.out.symm, HX2.out⟩
            | true =>
              cases ct with
              | false =>
                go_wp2_with fail
                go_ret
                exact ⟨ret_int HRES.out.symm, HX2.out⟩
              | true =>
                cases pg with
                | false =>
                  go_wp2_with fail
                  go_ret
                  exact ⟨ret_int HRES.out.symm, HX2.out⟩
                | true =>
                  cases al
                  all_goals
                    go_wp2_with fail
                    refine HA2.out.mono ?_
                    rintro e w3 ⟨rfl, hx3⟩
                    go_wp2_with fail
                    go_ret
                    exact ⟨ret_int HRES.out.symm, HX2.out.trans hx3⟩
end Go.Proofs.YthoneahamnmjlaaGreatDoor

/- A pattern's variables; are patterns the same? The program. -/
namespace Go.Proofs.YthoneahamnmjlaaGreatDoor
set_option maxRecDepth 100000
set_option maxHeartbeats 2000000
set_option linter.unusedSimpArgs false
open Go.RowKit Go.Shelf Go.Sort
attribute [local go_sem] Oper.semAt_some wide_fn wide_depth
set_option linter.unusedVariables false

def varsE (P : Pat) : List ByteArray := if P.okB = true then varsS P.atoms else []
set_option maxRecDepth 100000 in
set_option maxHeartbeats 2000000 in
theorem varsP_any (v : Value) (P : Pat) (w : World) (h : PatAt w v P) (hf : P.Fits) :
    Calls Tryz.prog 30 #[v] w fun e w' => ∃ u, e = .returned u ∧ w'.ownsRow w.heap.size 9 1 u (varsE P).length ((varsE P).map Value.string) ∧ Ext w w' := by
  have hck := fun w' (hx : Ext w w') => checkP_any v P w' (h.ext hx) hf
  obtain ⟨av, rv, hv, rfl, ha, hr, hh⟩ := h
  obtain ⟨ava, avc, rfl, hac, _⟩ := ha.shape
  obtain ⟨rva, rvc, rfl, hrc, _⟩ := Sl.shape hr
  obtain ⟨hva, hvc, rfl, hhc, _⟩ := Sl.shape hh
  have hfew := hf.few
  obtain ⟨R, hR⟩ : ∃ R, varsE P = R := ⟨_, rfl⟩
  rw [hR]
  have HV := Lib.hid (fun w' (hx : Ext w w') => variables_any _ P.atoms w' (ha.ext hx) hfew)
  obtain ⟨ok, hok⟩ : ∃ b, P.okB = b := ⟨_, rfl⟩
  have HE : Hid (R = if ok = true then varsS P.atoms else []) := Lib.hid (by rw [← hR]; unfold varsE; rw [hok])
  obtain ⟨cd, hcd⟩ : ∃ c, checkE P = c := ⟨_, rfl⟩
  have HCD : Hid ((ok = true → cd = 0) ∧ (ok = false → cd = 261)) := Lib.hid (by
    rw [← hcd]; unfold checkE; rw [hok]
    exact ⟨fun h => if_pos h, fun h => if_neg (by rw [h]; decide)⟩)
  rw [hcd] at hck
  have HCK := Lib.hid hck
  clear hck hcd hok hR hf ha hr hh
  obtain ⟨atoms, ret, cn, ds, lm, li, off, hint⟩ := P
  unfold patV patL at HCK ⊢
  dsimp only at *
  have HX := Lib.hid (Ext.alloc w (.cells #[.slice ava atoms.length avc, .slice rva ret.length rvc, .bool cn, .bool ds, .bool lm, .int .i64 li, .int .i64 off, .slice hva hint.length hvc] 25))
  have HB := Lib.hid (show RowAt (w.alloc (.cells #[.slice ava atoms.length avc, .slice rva ret.length rvc, .bool cn, .bool ds, .bool lm, .int .i64 li, .int .i64 off, .slice hva hint.length hvc] 25)) w.heap.size 25 [.slice ava atoms.length avc, .slice rva ret.length rvc, .bool cn, .bool ds, .bool lm, .int .i64 li, .int .i64 off, .slice hva hint.length hvc] from RowAt.new _ _ _)
  go_enter Tryz.func30, Tryz.ntmps30
  go_upto_region 1 with fail
  generalize w.alloc (.cells #[.slice ava atoms.length avc, .slice rva ret.length rvc, .bool cn, .bool ds, .bool lm, .int .i64 li, .int .i64 off, .slice hva hint.length hvc] 25) = w1 at *
  obtain ⟨x, hx⟩ : ∃ x, w.heap.size = x := ⟨_, rfl⟩
  rw [hx] at HB
  simp only [hx]
  have HWX := Lib.hid hx
  clear hx
  obtain ⟨d0, d1, d2, d3, d4, d5, d6, d7⟩ := row8_facts HB.out
  cases ok with
  | false =>
    have h261 := HCD.out.2 rfl
    subst h261
    clear HCD
    have HE2 : Hid (R = []) := HE
    go_wp2_with fail
    refine (HCK.out w1 HX.out).mono ?_
    rintro e w2 ⟨rfl, hx2⟩
    have HX2 := Lib.hid (HX.out.trans hx2)
    clear hx2 d0 d1 d2 d3 d4 d5 d6 d7
    go_wp2_with fail
    go_ret
    exact ⟨_, rfl, by rw [HE2.out]; exact World.ownsRow_nil _ _ _ _, HX2.out⟩
  | true =>
    have h0 := HCD.out.1 rfl
    subst h0
    clear HCD
    have HE2 : Hid (R = varsS atoms) := HE
    clear HE
    go_wp2_with fail
    refine (HCK.out w1 HX.out).mono ?_
    rintro e w2 ⟨rfl, hx2⟩
    have HX2 := Lib.hid (HX.out.trans hx2)
    have HB2 := Lib.hid (HB.out.ext hx2)
    clear hx2 d0 d1 d2 d3 d4 d5 d6 d7 HB HCK HX
    obtain ⟨d0, d1, d2, d3, d4, d5, d6, d7⟩ := row8_facts HB2.out
    have HV2 := Lib.hid (HV.out w2 HX2.out)
    clear HV
    generalize varsS atoms = V at *
    have hrv := HE2.out
    subst hrv
    clear HE2
    go_wp2_with fail
    refine HV2.out.mono ?_
    rintro e w3 ⟨u, rfl, ho, hx3⟩
    have HO := Lib.hid (own_base ho (show w.heap.size ≤ w2.heap.size from HX2.out.size))
    have HX3 := Lib.hid (HX2.out.trans hx3)
    obtain ⟨ua, uc, rfl⟩ := own_vw ho
    clear ho hx3 HV2
    go_wp2_with fail
    go_ret
    exact ⟨_, rfl, HO.out, HX3.out⟩
/-- Are patterns the same? -/
def sameB (P Q : Pat) : Bool := (P.count == Q.count && (P.distinct == Q.distinct && (P.limited == Q.limited && (P.limit == Q.limit && P.offset == Q.offset)))) && (decide (P.atoms = Q.atoms) && (decide (P.ret = Q.ret) && decide (P.hint = Q.hint)))
theorem sameB_iff (P Q : Pat) : sameB P Q = true ↔ P = Q := by
  obtain ⟨a, b, c, d, e, f, g, h⟩ := P
  obtain ⟨a', b', c', d', e', f', g', h'⟩ := Q
  unfold sameB
  simp only [decide_eq_true_eq, Bool.and_eq_true, beq_iff_eq, Pat.mk.injEq]
  constructor
  · rintro ⟨⟨h3, h4, h5, h6, h7⟩, h1, h2, h8⟩
    exact ⟨h1, h2, h3, h4, h5, h6, h7, h8⟩
  · rintro ⟨h1, h2, h3, h4, h5, h6, h7, h8⟩
    exact ⟨⟨h3, h4, h5, h6, h7⟩, h1, h2, h8⟩
set_option maxRecDepth 100000 in
set_option maxHeartbeats 2000000 in
theorem sameP_any (v u : Value) (P Q : Pat) (w : World) (h : PatAt w v P) (k : PatAt w u Q) (hf : P.atoms.length ≤ 1000000000) (hf2 : Q.atoms.length ≤ 1000000000) :
    Calls Tryz.prog 12 #[v, u] w fun e w' => e = .returned (.bool (sameB P Q)) ∧ Ext w w' := by
  obtain ⟨av, rv, hv, rfl, ha, hr, hh⟩ := h
  obtain ⟨au, ru, hu, rfl, ka, kr, kh⟩ := k
  obtain ⟨ava, avc, rfl, _, _⟩ := ha.shape
  obtain ⟨rva, rvc, rfl, _, _⟩ := Sl.shape hr
  obtain ⟨hva, hvc, rfl, _, _⟩ := Sl.shape hh
  obtain ⟨aua, auc, rfl, _, _⟩ := ka.shape
  obtain ⟨rua, ruc, rfl, _, _⟩ := Sl.shape kr
  obtain ⟨hua, huc, rfl, _, _⟩ := Sl.shape kh
  unfold sameB
  obtain ⟨atoms, ret, cn, ds, lm, li, off, hint⟩ := P
  obtain ⟨atoms2, ret2, cn2, ds2, lm2, li2, off2, hint2⟩ := Q
  unfold patV patL
  dsimp only at *
  have HA := Lib.hid (show ∀ w', Ext w w' → Calls Tryz.prog 33 #[.slice ava atoms.length avc, .slice aua atoms2.length auc] w' (fun e w'' => e = .returned (.bool (decide (atoms = atoms2))) ∧ Ext w' w'') from fun w' (hx : Ext w w') => eqAts_any _ _ atoms atoms2 w' (ha.ext hx) (ka.ext hx) hf hf2)
  have HR := Lib.hid (show ∀ w', Ext w w' → Calls Tryz.prog 34 #[.slice rva ret.length rvc, .slice rua ret2.length ruc] w' (fun e w'' => e = .returned (.bool (decide (ret = ret2))) ∧ Ext w' w'') from fun w' (hx : Ext w w') => eqStrs_any _ _ ret ret2 w' (Strs.ext hr hx) (Strs.ext kr hx))
  have HH := Lib.hid (show ∀ w', Ext w w' → Calls Tryz.prog 34 #[.slice hva hint.length hvc, .slice hua hint2.length huc] w' (fun e w'' => e = .returned (.bool (decide (hint = hint2))) ∧ Ext w' w'') from fun w' (hx : Ext w w') => eqStrs_any _ _ hint hint2 w' (Strs.ext hh hx) (Strs.ext kh hx))
  obtain ⟨b1, q1⟩ : ∃ b, (cn == cn2) = b := ⟨_, rfl⟩
  obtain ⟨b2, q2⟩ : ∃ b, (ds == ds2) = b := ⟨_, rfl⟩
  obtain ⟨b3, q3⟩ : ∃ b, (lm == lm2) = b := ⟨_, rfl⟩
  obtain ⟨b4, q4⟩ : ∃ b, (li == li2) = b := ⟨_, rfl⟩
  obtain ⟨b5, q5⟩ : ∃ b, (off == off2) = b := ⟨_, rfl⟩
  obtain ⟨c1, p1⟩ : ∃ b, decide (atoms = atoms2) = b := ⟨_, rfl⟩
  obtain ⟨c2, p2⟩ : ∃ b, decide (ret = ret2) = b := ⟨_, rfl⟩
  obtain ⟨c3, p3⟩ : ∃ b, decide (hint = hint2) = b := ⟨_, rfl⟩
  rw [q1, q2, q3, q4, q5, p1, p2, p3]
  obtain ⟨F, hF⟩ : ∃ F, (b1 && (b2 && (b3 && (b4 && b5)))) = F := ⟨_, rfl⟩
  obtain ⟨RS, hRS⟩ : ∃ R, (F && (c1 && (c2 && c3))) = R := ⟨_, rfl⟩
  rw [hF, hRS]
  have HFF := Lib.hid hF
  have HRS := Lib.hid hRS
  clear hF hRS
  rw [p1] at HA
  rw [p2] at HR
  rw [p3] at HH
  have hx1 := Ext.alloc w (.cells #[.slice ava atoms.length avc, .slice rva ret.length rvc, .bool cn, .bool ds, .bool lm, .int .i64 li, .int .i64 off, .slice hva hint.length hvc] 25)
  have hx2 := Ext.alloc (w.alloc (.cells #[.slice ava atoms.length avc, .slice rva ret.length rvc, .bool cn, .bool ds, .bool lm, .int .i64 li, .int .i64 off, .slice hva hint.length hvc] 25)) (.cells #[.slice aua atoms2.length auc, .slice rua ret2.length ruc, .bool cn2, .bool ds2, .bool lm2, .int .i64 li2, .int .i64 off2, .slice hua hint2.length huc] 25)
  have hb1 := (RowAt.new w 25 [.slice ava atoms.length avc, .slice rva ret.length rvc, .bool cn, .bool ds, .bool lm, .int .i64 li, .int .i64 off, .slice hva hint.length hvc]).ext hx2
  have hb2 : RowAt ((w.alloc (.cells #[.slice ava atoms.length avc, .slice rva ret.length rvc, .bool cn, .bool ds, .bool lm, .int .i64 li, .int .i64 off, .slice hva hint.length hvc] 25)).alloc (.cells #[.slice aua atoms2.length auc, .slice rua ret2.length ruc, .bool cn2, .bool ds2, .bool lm2, .int .i64 li2, .int .i64 off2, .slice hua hint2.length huc] 25)) (w.heap.size + 1) 25 [.slice aua atoms2.length auc, .slice rua ret2.length ruc, .bool cn2, .bool ds2, .bool lm2, .int .i64 li2, .int .i64 off2, .slice hua hint2.length huc] := row_at (by simp)
  have HX := Lib.hid (hx1.trans hx2)
  have HB := Lib.hid hb1
  have HB2 := Lib.hid hb2
  clear hx1 hx2 hb1 hb2 ha hr hh ka kr kh p1 p2 p3
  go_enter Tryz.func12, Tryz.ntmps12
  go_upto_region 1 with fail
  generalize ((w.alloc (.cells #[.slice ava atoms.length avc, .slice rva ret.length rvc, .bool cn, .bool ds, .bool lm, .int .i64 li, .int .i64 off, .slice hva hint.length hvc] 25)).alloc (.cells #[.slice aua atoms2.length auc, .slice rua ret2.length ruc, .bool cn2, .bool ds2, .bool lm2, .int .i64 li2, .int .i64 off2, .slice hua hint2.length huc] 25)) = w1 at *
  obtain ⟨x, hx⟩ : ∃ x, w.heap.size = x := ⟨_, rfl⟩
  obtain ⟨y, hy⟩ : ∃ y, x + 1 = y := ⟨_, rfl⟩
  rw [hx] at HB HB2
  rw [hy] at HB2
  simp only [hx, hy]
  clear hx hy
  obtain ⟨d0, d1, d2, d3, d4, d5, d6, d7⟩ := row8_facts HB.out
  obtain ⟨e0, e1, e2, e3, e4, e5, e6, e7⟩ := row8_facts HB2.out
  go_cut [5] (fun s5 wx => s5 = .bool F ∧ wx = w1)
  case first =>
    cases b1
    case false =>
      go_wp2_with fail
      go_meet
      exact ⟨by rw [← HFF.out]; rfl, rfl⟩
    cases b2
    case false =>
      go_wp2_with fail
      go_meet
      exact ⟨by rw [← HFF.out]; rfl, rfl⟩
    cases b3
    case false =>
      go_wp2_with fail
      go_meet
      exact ⟨by rw [← HFF.out]; rfl, rfl⟩
    cases b4
    all_goals
      go_wp2_with fail
      go_meet
      exact ⟨by rw [← HFF.out]; rfl, rfl⟩
  case rest =>
    obtain ⟨rfl, hwc⟩ := hcut
    rw [hwc]
    clear hwc q1 q2 q3 q4 q5
    clear HFF
    have HA1 := Lib.hid (HA.out w1 HX.out)
    clear HA
    cases F with
    | false =>
      go_wp2_with fail
      go_ret
      exact ⟨ret_bool HRS.out, HX.out⟩
    | true =>
      go_wp2_with fail
      refine HA1.out.mono ?_
      rintro e w2 ⟨rfl, hx2⟩
      have HX2 := Lib.hid (HX.out.trans hx2)
      have HR2 := Lib.hid (HR.out w2 HX2.out)
      have HB3 := Lib.hid (HB.out.ext hx2)
      have HB4 := Lib.hid (HB2.out.ext hx2)
      clear d0 d1 d2 d3 d4 d5 d6 d7 e0 e1 e2 e3 e4 e5 e6 e7 HA1 HR hx2 HB HB2
      obtain ⟨d0, d1, d2, d3, d4, d5, d6, d7⟩ := row8_facts HB3.out
      obtain ⟨e0, e1, e2, e3, e4, e5, e6, e7⟩ := row8_facts HB4.out
      cases c1 with
      | false =>
        go_wp2_with fail
        go_ret
        exact ⟨ret_bool HRS.out, HX2.out⟩
      | true =>
        go_wp2_with fail
        refine HR2.out.mono ?_
        rintro e w3 ⟨rfl, hx3⟩
        have HX3 := Lib.hid (HX2.out.trans hx3)
        have HH3 := Lib.hid (HH.out w3 HX3.out)
        have HB5 := Lib.hid (HB3.out.ext hx3)
        have HB6 := Lib.hid (HB4.out.ext hx3)
        clear d0 d1 d2 d3 d4 d5 d6 d7 e0 e1 e2 e3 e4 e5 e6 e7 HR2 HH hx3 HB3 HB4
        obtain ⟨d0, d1, d2, d3, d4, d5, d6, d7⟩ := row8_facts HB5.out
        obtain ⟨e0, e1, e2, e3, e4, e5, e6, e7⟩ := row8_facts HB6.out
        cases c2 with
        | false =>
          go_wp2_with fail
          go_ret
          exact ⟨ret_bool HRS.out, HX3.out⟩
        | true =>
          go_wp2_with fail
          refine HH3.out.mono ?_
          rintro e w4 ⟨rfl, hx4⟩
          have HX4 := Lib.hid (HX3.out.trans hx4)
          clear d0 d1 d2 d3 d4 d5 d6 d7 e0 e1 e2 e3 e4 e5 e6 e7 HH3 hx4
          go_wp2_with fail
          go_ret
          exact ⟨ret_bool HRS.out, HX4.out⟩
end Go.Proofs.YthoneahamnmjlaaGreatDoor

/- An argument that is a pattern; what it weighs. -/
namespace Go.Proofs.YthoneahamnmjlaaGreatDoor
set_option maxRecDepth 100000
set_option maxHeartbeats 2000000
set_option linter.unusedVariables false
set_option linter.unusedSimpArgs false
open Go.ChangeShapes Go.WideShapes Go.ChangeAt Go.RowKit Go.Deep

/-- All of it is within reach. -/
def Light {H : Type} (P : Program) (t : TypeId) (d : DataW H) : Prop := ∀ n ∈ d.weights P t, n ≤ reachBytes
theorem light_str {H : Type} {P : Program} {t : TypeId} {s : ByteArray} (h : Light P t (.lit (.string s.data.toList) : DataW H)) : s.size ≤ reachBytes := by
  have := h s.data.toList.length (by simp [DataW.weights])
  simpa using this
theorem light_part {H : Type} {P : Program} {t : TypeId} {fs : Array Field} {parts : List (DataW H)} (ht : P.underlying t = some (.struct fs)) (h : Light P t (.agg parts)) {i : Nat} {f : Field} {d : DataW H}
    (hf : fs[i]? = some f) (hd : parts[i]? = some d) : Light P f.type d := by
  intro n hn
  refine h n ?_
  simp only [DataW.weights, ht]
  exact DataW.weights_mem_each (j := i) (by simp [hf]) hd n hn
theorem weightsAll_mem {H : Type} {P : Program} {e : TypeId} {n : Nat} : ∀ {l : List (DataW H)} {d : DataW H}, d ∈ l → n ∈ d.weights P e → n ∈ DataW.weightsAll P e l
  | x :: r, d, h, hn => by
    simp only [DataW.weightsAll, List.mem_append]
    rcases List.mem_cons.1 h with rfl | h
    · exact .inl hn
    · exact .inr (weightsAll_mem h hn)
theorem light_elem {H : Type} {P : Program} {t e : TypeId} {elems spare : List (DataW H)} (ht : P.underlying t = some (.slice e)) (h : Light P t (.slice elems spare)) {d : DataW H} (hd : d ∈ elems) : Light P e d := by
  intro n hn
  refine h n ?_
  simp only [DataW.weights, ht, List.mem_cons, List.mem_append]
  exact .inr (.inl (weightsAll_mem hd hn))
theorem light_arg {H : Type} {P : Program} {ts : List TypeId} {ds : List (DataW H)} (h : (DataW.weightsEach P ts ds).all (· ≤ reachBytes) = true) {j : Nat} {t : TypeId} {d : DataW H} (ht : ts[j]? = some t) (hd : ds[j]? = some d) : Light P t d := fun n hn => by
  have := List.all_eq_true.1 h n (DataW.weights_mem_each ht hd n hn)
  simpa using this
theorem seven {α : Type} {cs : List α} (h : cs.length = 7) : ∃ c0 c1 c2 c3 c4 c5 c6, cs = [c0, c1, c2, c3, c4, c5, c6] := by
  match cs, h with
  | [c0, c1, c2, c3, c4, c5, c6], _ => exact ⟨c0, c1, c2, c3, c4, c5, c6, rfl⟩
theorem eight {α : Type} {cs : Array α} (h : cs.size = 8) : ∃ c0 c1 c2 c3 c4 c5 c6 c7, cs = #[c0, c1, c2, c3, c4, c5, c6, c7] := by
  obtain ⟨l⟩ := cs
  match l, h with
  | [c0, c1, c2, c3, c4, c5, c6, c7], _ => exact ⟨c0, c1, c2, c3, c4, c5, c6, c7, rfl⟩
theorem open_term {H : Type} {enc : TypeId × Value → H} {w : World} {base : Nat} {spare : Nat → Bool} {held : Bool} {m : Nat} {x y : Value} {z : DataW H × List MemPlace}
    (h : DataW.trod enc Tryz.prog w base spare held m 38 [x, y] = some z) : ∃ b s, x = .bool b ∧ y = .string s ∧ z.1 = .agg [.lit (.bool b), .lit (.string s.data.toList)] := by
  obtain ⟨y0, y1, n, hz, _, h0, h1⟩ := trod_struct2 Tryz.underlying38 h
  have h0' : DataW.trod enc Tryz.prog w base spare held n 4 [x] = some y0 := h0
  have h1' : DataW.trod enc Tryz.prog w base spare held n 9 [y] = some y1 := h1
  obtain ⟨b, e0, e0'⟩ := DataW.trod_bool Tryz.underlying4 h0'
  obtain ⟨s, e1, e1', _⟩ := DataW.trod_string Tryz.underlying9 h1'
  simp at e0 e1
  exact ⟨b, s, e0, e1, by rw [hz, e0', e1']⟩
def Atm.Near (a : Atm) : Prop := a.fn.size ≤ reachBytes ∧ a.name.size ≤ reachBytes ∧ a.value.size ≤ reachBytes ∧ a.tn.size ≤ reachBytes ∧ -9223372036854775808 ≤ a.kind ∧ a.kind ≤ 9223372036854775807
theorem light_term {H : Type} {b : Bool} {s : ByteArray} (h : Light Tryz.prog 38 (.agg [.lit (.bool b), .lit (.string s.data.toList)] : DataW H)) : s.size ≤ reachBytes :=
  light_str (light_part (i := 1) Tryz.underlying38 h rfl rfl)
theorem open_atom {H : Type} {enc : TypeId × Value → H} {w : World} {base : Nat} {spare : Nat → Bool} {held : Bool} {m : Nat} {cs : List Value} {z : DataW H × List MemPlace}
    (h : DataW.trod enc Tryz.prog w base spare held m 40 cs = some z) (hl : Light Tryz.prog 40 z.1) : ∃ a : Atm, cs = atCells a ∧ a.Near := by
  obtain ⟨xs, n, _, hz, hlc, hlen, hf⟩ := DataW.trod_struct Tryz.underlying40 h
  rw [show Tryz.prog.cellsOf 40 = 7 from by kernel_rfl] at hlc
  obtain ⟨c0, c1, c2, c3, c4, c5, c6, rfl⟩ := seven hlc
  have hlen' : xs.length = 5 := hlen
  obtain ⟨x0, x1, x2, x3, x4, rfl⟩ : ∃ x0 x1 x2 x3 x4, xs = [x0, x1, x2, x3, x4] := by
    match xs, hlen' with
    | [x0, x1, x2, x3, x4], _ => exact ⟨x0, x1, x2, x3, x4, rfl⟩
  have hi : Tryz.prog.cellsOf 3 = 1 := by kernel_rfl
  have hs : Tryz.prog.cellsOf 9 = 1 := by kernel_rfl
  have ht : Tryz.prog.cellsOf 38 = 2 := by kernel_rfl
  have h0 : DataW.trod enc Tryz.prog w base spare held n 3 [c0] = some x0 := hf 0 _ rfl
  have h1 : DataW.trod enc Tryz.prog w base spare held n 38 [c1, c2] = some x1 := hf 1 _ rfl
  have h2 : DataW.trod enc Tryz.prog w base spare held n 9 [c3] = some x2 := hf 2 _ rfl
  have h3 : DataW.trod enc Tryz.prog w base spare held n 9 [c4] = some x3 := hf 3 _ rfl
  have h4 : DataW.trod enc Tryz.prog w base spare held n 38 [c5, c6] = some x4 := hf 4 _ rfl
  rw [hz] at hl
  have l1 : Light Tryz.prog 38 x1.1 := light_part (i := 1) Tryz.underlying40 hl rfl rfl
  have l2 : Light Tryz.prog 9 x2.1 := light_part (i := 2) Tryz.underlying40 hl rfl rfl
  have l3 : Light Tryz.prog 9 x3.1 := light_part (i := 3) Tryz.underlying40 hl rfl rfl
  have l4 : Light Tryz.prog 38 x4.1 := light_part (i := 4) Tryz.underlying40 hl rfl rfl
  obtain ⟨q0, e0, _, w0⟩ := DataW.trod_int Tryz.underlying3 h0
  obtain ⟨b1, s1, rfl, rfl, z1⟩ := open_term h1
  obtain ⟨s2, e2, z2, _⟩ := DataW.trod_string Tryz.underlying9 h2
  obtain ⟨s3, e3, z3, _⟩ := DataW.trod_string Tryz.underlying9 h3
  obtain ⟨b4, s4, rfl, rfl, z4⟩ := open_term h4
  simp at e0 e2 e3
  subst e0 e2 e3
  rw [z1] at l1
  rw [z2] at l2
  rw [z3] at l3
  rw [z4] at l4
  have b0 := bd_i64 w0
  exact ⟨⟨q0, b1, s1, s2, s3, b4, s4⟩, rfl, light_term l1, light_str l2, light_str l3, light_term l4, b0.1, b0.2⟩
theorem open_atoms {H : Type} {enc : TypeId × Value → H} {w : World} {base : Nat} {spare : Nat → Bool} {held : Bool} {m : Nat} {v : Value} {z : DataW H × List MemPlace}
    (h : DataW.trod enc Tryz.prog w base spare held m 22 [v] = some z) (hl : Light Tryz.prog 22 z.1) : ∃ l, Ats w v l ∧ ∀ a ∈ l, a.Near := by
  have hC : Tryz.prog.cellsOf 40 = 7 := by kernel_rfl
  rcases open_slice Tryz.underlying22 h with ⟨hcs, _⟩ | ⟨x, len, cap, m, n, D, Pl, hcs, _, hlc, hm, hz, hx, hcell⟩
  · simp at hcs
    subst hcs
    exact ⟨[], Sl.nil w, fun t ht => by simp at ht⟩
  · simp at hcs
    subst hcs
    have hlm : len ≤ m := by split at hz <;> omega
    rw [hx] at hl
    rw [hC] at hcell
    obtain ⟨xs, hx1, hx2⟩ := choose_row len (fun i (t : Atm) => (∀ j v, (atCells t)[j]? = some v → w.cell? (x.add (i * 7 + j)) = some v) ∧ t.Near) (fun i hi => by
      obtain ⟨cs', hc, ht⟩ := hcell i (by omega)
      obtain ⟨a, rfl, hn⟩ := open_atom ht (light_elem Tryz.underlying22 hl (List.mem_map.2 ⟨i, by simpa using hi, rfl⟩))
      obtain ⟨_, hcl, hat⟩ := World.cells?_some hc
      refine ⟨a, fun j v hj => ?_, hn⟩
      have hjl : j < 7 := (List.getElem?_eq_some_iff.1 hj).1
      have := hat j hjl
      rw [Go.Deep.add_add] at this
      rw [this, hj])
    refine ⟨xs, ?_, fun t ht => ?_⟩
    · have := sl_of_rows (w := w) (x := x) atCells (m := 7) (fun _ => rfl) (by omega) hlc hm xs hx1 (fun i hi j v hj => (hx2 i hi).1 j v hj)
      unfold Ats; rw [hx1]; exact this
    · obtain ⟨i, hi, rfl⟩ := List.getElem_of_mem ht
      exact (hx2 i hi).2
theorem slice_shape_of {H : Type} {enc : TypeId × Value → H} {P : Program} {w : World} {base : Nat} {spare : Nat → Bool} {held : Bool} {n : Nat} {t e : TypeId} {v : Value} {y : DataW H × List MemPlace}
    (ht : P.underlying t = some (.slice e)) (h : DataW.trod enc P w base spare held n t [v] = some y) : ∃ a len cap, v = .slice a len cap := by
  rcases open_slice ht h with ⟨hcs, _⟩ | ⟨a, len, cap, m, k, D, Pl, hcs, _⟩
  · simp at hcs; exact ⟨_, _, _, hcs⟩
  · simp at hcs; exact ⟨_, _, _, hcs⟩
/-- What is known of a pattern that an argument holds. -/
def Pat.Near (P : Pat) : Prop := (∀ a ∈ P.atoms, a.Near) ∧ -9223372036854775808 ≤ P.limit ∧ P.limit ≤ 9223372036854775807 ∧ -9223372036854775808 ≤ P.offset ∧ P.offset ≤ 9223372036854775807
end Go.Proofs.YthoneahamnmjlaaGreatDoor
