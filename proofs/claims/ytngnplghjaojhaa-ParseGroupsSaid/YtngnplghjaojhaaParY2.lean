/- A pattern's value. -/
import Derived.Test.YtngnplghjaojhaaParX1
import Derived.Test.YtngnplghjaojhaaGenX4
import Derived.Test.YtngnplghjaojhaaParY1
namespace Go.Proofs.Ytngnplghjaojhaa
set_option maxRecDepth 100000
set_option maxHeartbeats 2000000
set_option linter.unusedVariables false
set_option linter.unusedSimpArgs false
open Go.RowKit
def patL (av rv hv : Value) (P : Pat) : List Value := [av, rv, .bool P.count, .bool P.distinct, .bool P.limited, .int .i64 P.limit, .int .i64 P.offset, hv]
def patV (av rv hv : Value) (P : Pat) : Value := .agg (patL av rv hv P).toArray
def noV : Value := .agg #[.slice none 0 0, .slice none 0 0, .bool false, .bool false, .bool false, .int .i64 0, .int .i64 0, .slice none 0 0]
theorem row8_facts {w : World} {g : Nat} {t : TypeId} {x0 x1 x2 x3 x4 x5 x6 x7 : Value} (h : RowAt w g t [x0, x1, x2, x3, x4, x5, x6, x7]) : w.cell? ⟨g, 0, none⟩ = some x0 ∧ w.cell? ⟨g, 1, none⟩ = some x1 ∧ w.cell? ⟨g, 2, none⟩ = some x2 ∧ w.cell? ⟨g, 3, none⟩ = some x3 ∧ w.cell? ⟨g, 4, none⟩ = some x4 ∧ w.cell? ⟨g, 5, none⟩ = some x5 ∧ w.cell? ⟨g, 6, none⟩ = some x6 ∧ w.cell? ⟨g, 7, none⟩ = some x7 :=
  ⟨h.cell (i := 0) rfl, h.cell (i := 1) rfl, h.cell (i := 2) rfl, h.cell (i := 3) rfl, h.cell (i := 4) rfl, h.cell (i := 5) rfl, h.cell (i := 6) rfl, h.cell (i := 7) rfl⟩
end Go.Proofs.Ytngnplghjaojhaa

/- Which patterns may be: the program. -/
namespace Go.Proofs.Ytngnplghjaojhaa
set_option maxRecDepth 100000
set_option maxHeartbeats 2000000
set_option linter.unusedSimpArgs false
open Go.RowKit Go.Shelf Go.Sort
attribute [local go_sem] Oper.semAt_some wide_fn wide_depth
set_option linter.unusedVariables false

def sizesP (n e v : Nat) : Bool := decide (0 < n) && (decide (n ≤ 40) && (decide (e ≤ 6) && decide (v ≤ 32)))
def namedP (vars ret hint : List ByteArray) : Bool := chosenB vars ret && (chosenB vars hint && (decide (hint.length = 0) || decide (hint.length = vars.length)))
def countedP (cn ds lm : Bool) (off : Int) : Bool := (!cn && !ds) || (cn && (!lm && decide (off = 0)))
def pagedP (lm : Bool) (li off : Int) : Bool := numB li && (numB off && (lm || decide (li = 0)))
/-- May a pattern be? -/
def Pat.okB (P : Pat) : Bool := sizesP P.atoms.length (edgesOf P.atoms) (varsS P.atoms).length && (namedP (varsS P.atoms) P.ret P.hint && (countedP P.count P.distinct P.limited P.offset && (pagedP P.limited P.limit P.offset && P.atoms.all atomB)))
/-- A pattern in memory. -/
def PatAt (w : World) (v : Value) (P : Pat) : Prop := ∃ av rv hv, v = patV av rv hv P ∧ Ats w av P.atoms ∧ Strs w rv P.ret ∧ Strs w hv P.hint
theorem PatAt.ext {w w' : World} {v : Value} {P : Pat} (h : PatAt w v P) (hx : Ext w w') : PatAt w' v P := by
  obtain ⟨av, rv, hv, e, h1, h2, h3⟩ := h
  exact ⟨av, rv, hv, e, h1.ext hx, Strs.ext h2 hx, Strs.ext h3 hx⟩
/-- Small enough for memory. -/
structure Pat.Fits (P : Pat) : Prop where
  atoms : ∀ a ∈ P.atoms, a.Fits
  few : P.atoms.length ≤ 100000
def checkE (P : Pat) : Int := if P.okB = true then 0 else 261
set_option maxRecDepth 100000 in
set_option maxHeartbeats 2000000 in
theorem checkP_any (v : Value) (P : Pat) (w : World) (h : PatAt w v P) (hf : P.Fits) :
    Calls Try.prog 21 #[v] w fun e w' => e = .returned (.int .i64 (checkE P)) ∧ Ext w w' := by
  obtain ⟨av, rv, hv, rfl, ha, hr, hh⟩ := h
  obtain ⟨ava, avc, rfl, hac, _⟩ := ha.shape
  obtain ⟨rva, rvc, rfl, hrc, _⟩ := Sl.shape hr
  obtain ⟨hva, hvc, rfl, hhc, _⟩ := Sl.shape hh
  obtain ⟨atoms, ret, cn, ds, lm, li, off, hint⟩ := P
  obtain ⟨hf1, hf2⟩ := hf
  unfold patV patL
  dsimp only at *
  have hE : checkE ⟨atoms, ret, cn, ds, lm, li, off, hint⟩ = if (sizesP atoms.length (edgesOf atoms) (varsS atoms).length && (namedP (varsS atoms) ret hint && (countedP cn ds lm off && (pagedP lm li off && atoms.all atomB)))) = true then 0 else 261 := rfl
  obtain ⟨RES, hRES⟩ : ∃ R, checkE ⟨atoms, ret, cn, ds, lm, li, off, hint⟩ = R := ⟨_, rfl⟩
  rw [hRES] at hE ⊢
  have HRES := Lib.hid hE
  have HX := Lib.hid (Ext.alloc w (.cells #[.slice ava atoms.length avc, .slice rva ret.length rvc, .bool cn, .bool ds, .bool lm, .int .i64 li, .int .i64 off, .slice hva hint.length hvc] 26))
  have HB := Lib.hid (show RowAt (w.alloc (.cells #[.slice ava atoms.length avc, .slice rva ret.length rvc, .bool cn, .bool ds, .bool lm, .int .i64 li, .int .i64 off, .slice hva hint.length hvc] 26)) w.heap.size 26 [.slice ava atoms.length avc, .slice rva ret.length rvc, .bool cn, .bool ds, .bool lm, .int .i64 li, .int .i64 off, .slice hva hint.length hvc] from RowAt.new _ _ _)
  have HA := Lib.hid ha
  have HR := Lib.hid hr
  have HH := Lib.hid hh
  have HF := Lib.hid hf1
  clear ha hr hh hf1 hE hRES
  go_enter Try.func21, Try.ntmps21
  go_upto_region 1 with fail
  generalize w.alloc (.cells #[.slice ava atoms.length avc, .slice rva ret.length rvc, .bool cn, .bool ds, .bool lm, .int .i64 li, .int .i64 off, .slice hva hint.length hvc] 26) = w1 at *
  obtain ⟨x, hx⟩ : ∃ x, w.heap.size = x := ⟨_, rfl⟩
  rw [hx] at HB
  simp only [hx]
  clear hx
  obtain ⟨d0, d1, d2, d3, d4, d5, d6, d7⟩ := row8_facts HB.out
  have HV := Lib.hid (variables_any _ atoms w1 (HA.out.ext HX.out) hf2)
  have hed : edgesOf atoms ≤ atoms.length := List.length_filter_le _ _
  have hvl := varsS_take_len atoms atoms.length (Nat.le_refl _)
  rw [List.take_length] at hvl
  generalize edgesOf atoms = E at *
  generalize varsS atoms = V at *
  go_wp2_with fail
  refine HV.out.mono ?_
  rintro e w2 ⟨u, rfl, ho, hx2⟩
  have HVS := Lib.hid (show Strs w2 u V from Sl.of_own ho)
  have HX2 := Lib.hid (HX.out.trans hx2)
  have HB2 := Lib.hid (HB.out.ext hx2)
  obtain ⟨ua, uc, rfl⟩ := own_vw ho
  clear HV ho hx2 HB HX d0 d1 d2 d3 d4 d5 d6 d7
  obtain ⟨d0, d1, d2, d3, d4, d5, d6, d7⟩ := row8_facts HB2.out
  obtain ⟨sz, hsz⟩ : ∃ b, sizesP atoms.length E V.length = b := ⟨_, rfl⟩
  obtain ⟨nm, hnm⟩ : ∃ b, namedP V ret hint = b := ⟨_, rfl⟩
  obtain ⟨ct, hct⟩ : ∃ b, countedP cn ds lm off = b := ⟨_, rfl⟩
  obtain ⟨pg, hpg⟩ : ∃ b, pagedP lm li off = b := ⟨_, rfl⟩
  obtain ⟨al, hal⟩ : ∃ b, atoms.all atomB = b := ⟨_, rfl⟩
  have HAL := Lib.hid (fun w' (hv : Ats w' (.slice ava atoms.length avc) atoms) => hasNotAtom_any _ atoms w' hv HF.out (by omega))
  have hres := HRES.out
  rw [hsz, hnm, hct, hpg, hal] at hres
  clear HRES
  have HRES := Lib.hid hres
  rw [hal] at HAL
  have HSZ := Lib.hid hsz
  have HNM := Lib.hid hnm
  have HCT := Lib.hid hct
  have HPG := Lib.hid hpg
  clear hsz hnm hct hpg hal hres HF
  go_upto_region 2 with fail
  go_cut [5] (fun s5 wx => s5 = .bool sz ∧ wx = w2)
  case first =>
    by_cases h1 : 0 < atoms.length
    case neg =>
      go_wp2_with fail
      go_meet
      exact ⟨by rw [← HSZ.out]; unfold sizesP; simp; omega, rfl⟩
    by_cases h2 : atoms.length ≤ 40
    case neg =>
      go_wp2_with fail
      go_meet
      exact ⟨by rw [← HSZ.out]; unfold sizesP; simp; omega, rfl⟩
    by_cases h3 : E ≤ 6
    case neg =>
      go_wp2_with fail
      go_meet
      exact ⟨by rw [← HSZ.out]; unfold sizesP; simp; omega, rfl⟩
    by_cases h4 : V.length ≤ 32
    all_goals
      go_wp2_with fail
      go_meet
      exact ⟨by rw [← HSZ.out]; unfold sizesP; rw [decide_eq_true h1, decide_eq_true h2, decide_eq_true h3]; first | (rw [decide_eq_true h4]; rfl) | (rw [decide_eq_false h4]; rfl) | (simp [h4]; omega), rfl⟩
  case rest =>
    obtain ⟨rfl, hwc⟩ := hcut
    rw [hwc]
    clear hwc HSZ
    have HC1 := Lib.hid (chosen_any _ _ ret V w2 (Strs.ext HR.out HX2.out) HVS.out)
    have HC2 := Lib.hid (chosen_any _ _ hint V w2 (Strs.ext HH.out HX2.out) HVS.out)
    obtain ⟨c1, hc1⟩ : ∃ b, chosenB V ret = b := ⟨_, rfl⟩
    obtain ⟨c2, hc2⟩ : ∃ b, chosenB V hint = b := ⟨_, rfl⟩
    rw [hc1] at HC1
    rw [hc2] at HC2
    have hnm := HNM.out
    unfold namedP at hnm
    rw [hc1, hc2] at hnm
    clear HNM hc1 hc2
    have HNM := Lib.hid hnm
    clear hnm
    go_upto_region 3 with fail
    go_cut [6] (fun s6 wx => s6 = .bool nm ∧ wx = w2)
    case first =>
      cases c1 with
      | false =>
        go_wp2_with fail
        refine HC1.out.mono ?_
        rintro e w3 ⟨rfl, rfl⟩
        go_wp2_with fail
        go_meet
        exact ⟨by rw [← HNM.out]; rfl, rfl⟩
      | true =>
        cases c2 with
        | false =>
          go_wp2_with fail
          refine HC1.out.mono ?_
          rintro e w3 ⟨rfl, rfl⟩
          go_wp2_with fail
          refine HC2.out.mono ?_
          rintro e w3 ⟨rfl, rfl⟩
          go_wp2_with fail
          go_meet
          exact ⟨by rw [← HNM.out]; rfl, rfl⟩
        | true =>
          by_cases h0 : hint.length = 0
          · have hb : ((hint.length : Int) == 0) = true := by simp [h0]
            have HN0 : Hid (nm = true) := Lib.hid (by rw [← HNM.out, decide_eq_true h0]; rfl)
            clear h0
            go_wp2_with fail
            refine HC1.out.mono ?_
            rintro e w3 ⟨rfl, rfl⟩
            go_wp2_with fail
            refine HC2.out.mono ?_
            rintro e w3 ⟨rfl, rfl⟩
            go_wp2_with fail
            go_meet
            exact ⟨by rw [HN0.out], rfl⟩
          · have hb : ((hint.length : Int) == 0) = false := beq_eq_false_iff_ne.2 (by omega)
            have HN0 : Hid (nm = decide (hint.length = V.length)) := Lib.hid (by rw [← HNM.out, decide_eq_false h0]; rfl)
            obtain ⟨bq, hbq⟩ : ∃ b, decide (hint.length = V.length) = b := ⟨_, rfl⟩
            rw [hbq] at HN0
            have hb2 : ((hint.length : Int) == (V.length : Int)) = bq := by
              rw [← hbq]
              by_cases h : hint.length = V.length
              · rw [h]; simp
              · rw [decide_eq_false h, beq_eq_false_iff_ne]
                intro e
                exact h (Int.ofNat.inj e)
            clear h0 hbq
            go_wp2_with fail
            refine HC1.out.mono ?_
            rintro e w3 ⟨rfl, rfl⟩
            go_wp2_with fail
            refine HC2.out.mono ?_
            rintro e w3 ⟨rfl, rfl⟩
            go_wp2_with fail
            go_meet
            exact ⟨by rw [HN0.out], rfl⟩
    case rest =>
      obtain ⟨rfl, hwc⟩ := hcut
      rw [hwc]
      clear hwc HNM HC1 HC2 HVS
      go_upto_region 4 with fail
      go_cut [7] (fun s7 wx => s7 = .bool ct ∧ wx = w2)
      case first =>
        obtain ⟨bo, hbo⟩ : ∃ b, decide (off = 0) = b := ⟨_, rfl⟩
        have hb : (off == 0) = bo := by rw [← hbo, Bool.eq_iff_iff]; simp
        have hct := HCT.out
        unfold countedP at hct
        rw [hbo] at hct
        clear HCT hbo
        have HCT := Lib.hid hct
        clear hct
        cases cn <;> cases ds <;> cases lm
        all_goals
          go_wp2_with fail
          go_meet
          exact ⟨by rw [← HCT.out]; simp, rfl⟩
      case rest =>
        obtain ⟨rfl, hwc⟩ := hcut
        rw [hwc]
        clear hwc HCT
        go_upto_region 5 with fail
        go_cut [8] (fun s8 wx => s8 = .bool pg ∧ wx = w2)
        case first =>
          have HN1 := Lib.hid (numberP_any li w2)
          have HN2 := Lib.hid (numberP_any off w2)
          obtain ⟨n1, hn1⟩ : ∃ b, numB li = b := ⟨_, rfl⟩
          obtain ⟨n2, hn2⟩ : ∃ b, numB off = b := ⟨_, rfl⟩
          obtain ⟨bo, hbo⟩ : ∃ b, decide (li = 0) = b := ⟨_, rfl⟩
          have hb : (li == 0) = bo := by rw [← hbo, Bool.eq_iff_iff]; simp
          have hpg := HPG.out
          unfold pagedP at hpg
          rw [hbo, hn1, hn2] at hpg
          rw [hn1] at HN1
          rw [hn2] at HN2
          clear HPG hbo hn1 hn2
          have HPG := Lib.hid hpg
          clear hpg
          cases n1 with
          | false =>
            go_wp2_with fail
            refine HN1.out.mono ?_
            rintro e w3 ⟨rfl, rfl⟩
            go_wp2_with fail
            go_meet
            exact ⟨by rw [← HPG.out]; rfl, rfl⟩
          | true =>
            cases n2 with
            | false =>
              go_wp2_with fail
              refine HN1.out.mono ?_
              rintro e w3 ⟨rfl, rfl⟩
              go_wp2_with fail
              refine HN2.out.mono ?_
              rintro e w3 ⟨rfl, rfl⟩
              go_wp2_with fail
              go_meet
              exact ⟨by rw [← HPG.out]; rfl, rfl⟩
            | true =>
              cases lm
              all_goals
                go_wp2_with fail
                refine HN1.out.mono ?_
                rintro e w3 ⟨rfl, rfl⟩
                go_wp2_with fail
                refine HN2.out.mono ?_
                rintro e w3 ⟨rfl, rfl⟩
                go_wp2_with fail
                go_meet
                exact ⟨by rw [← HPG.out]; simp, rfl⟩
        case rest =>
          obtain ⟨rfl, hwc⟩ := hcut
          rw [hwc]
          clear hwc HPG
          have HA2 := Lib.hid (HAL.out w2 (HA.out.ext HX2.out))
          clear HAL
          cases sz with
          | false =>
            go_wp2_with fail
            go_ret
            exact ⟨ret_int HRES.out.symm, HX2.out⟩
          | true =>
            cases nm with
            | false =>
              go_wp2_with fail
              go_ret
              exact ⟨ret_int HRES.out.symm, HX2.out⟩
            | true =>
              cases ct with
              | false =>
                go_wp2_with fail
                go_ret
                exact ⟨ret_int HRES.out.symm, HX2.out⟩
              | true =>
                cases pg with
                | false =>
                  go_wp2_with fail
                  go_ret
                  exact ⟨ret_int HRES.out.symm, HX2.out⟩
                | true =>
                  cases al
                  all_goals
                    go_wp2_with fail
                    refine HA2.out.mono ?_
                    rintro e w3 ⟨rfl, hx3⟩
                    go_wp2_with fail
                    go_ret
                    exact ⟨ret_int HRES.out.symm, HX2.out.trans hx3⟩
end Go.Proofs.Ytngnplghjaojhaa
