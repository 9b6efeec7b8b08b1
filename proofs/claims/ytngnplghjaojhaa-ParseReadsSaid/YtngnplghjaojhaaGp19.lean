/- Which patterns may be: the program. -/
import Derived.Test.YtngnplghjaojhaaGp18
import Derived.Test.YtngnplghjaojhaaGp00
import Derived.OpenShut
import Derived.ChangeSame
import Derived.SizedLaws
import Derived.Test.YtngnplghjaojhaaGp12
namespace Go.Proofs.Ytngnplghjaojhaa
set_option maxRecDepth 100000
set_option maxHeartbeats 2000000
set_option linter.unusedSimpArgs false
open Go.RowKit Go.Shelf Go.Sort
attribute [local go_sem] Oper.semAt_some wide_fn wide_depth
set_option linter.unusedVariables false

def sizesP (n e v : Nat) : Bool := decide (0 < n) && (decide (n ≤ 40) && (decide (e ≤ 6) && decide (v ≤ 32)))
def namedP (vars ret hint : List ByteArray) : Bool := chosenB vars ret && (chosenB vars hint && (decide (hint.length = 0) || decide (hint.length = vars.length)))
def countedP (cn ds lm : Bool) (off : Int) : Bool := (!cn && !ds) || (cn && (!lm && decide (off = 0)))
def pagedP (lm : Bool) (li off : Int) : Bool := numB li && (numB off && (lm || decide (li = 0)))
/-- May a pattern be? -/
def Pat.okB (P : Pat) : Bool := sizesP P.atoms.length (edgesOf P.atoms) (varsS P.atoms).length && (namedP (varsS P.atoms) P.ret P.hint && (countedP P.count P.distinct P.limited P.offset && (pagedP P.limited P.limit P.offset && P.atoms.all atomB)))
/-- A pattern in memory. -/
def PatAt (w : World) (v : Value) (P : Pat) : Prop := ∃ av rv hv, v = patV av rv hv P ∧ Ats w av P.atoms ∧ Strs w rv P.ret ∧ Strs w hv P.hint
theorem PatAt.ext {w w' : World} {v : Value} {P : Pat} (h : PatAt w v P) (hx : Ext w w') : PatAt w' v P := by
  obtain ⟨av, rv, hv, e, h1, h2, h3⟩ := h
  exact ⟨av, rv, hv, e, h1.ext hx, Strs.ext h2 hx, Strs.ext h3 hx⟩
/-- Small enough for memory. -/
structure Pat.Fits (P : Pat) : Prop where
  atoms : ∀ a ∈ P.atoms, a.Fits
  few : P.atoms.length ≤ 100000
def checkE (P : Pat) : Int := if P.okB = true then 0 else 261
set_option maxRecDepth 100000 in
set_option maxHeartbeats 2000000 in
theorem checkP_any (v : Value) (P : Pat) (w : World) (h : PatAt w v P) (hf : P.Fits) :
    Calls Try.prog 21 #[v] w fun e w' => e = .returned (.int .i64 (checkE P)) ∧ Ext w w' := by
  obtain ⟨av, rv, hv, rfl, ha, hr, hh⟩ := h
  obtain ⟨ava, avc, rfl, hac, _⟩ := ha.shape
  obtain ⟨rva, rvc, rfl, hrc, _⟩ := Sl.shape hr
  obtain ⟨hva, hvc, rfl, hhc, _⟩ := Sl.shape hh
  obtain ⟨atoms, ret, cn, ds, lm, li, off, hint⟩ := P
  obtain ⟨hf1, hf2⟩ := hf
  unfold patV patL
  dsimp only at *
  have hE : checkE ⟨atoms, ret, cn, ds, lm, li, off, hint⟩ = if (sizesP atoms.length (edgesOf atoms) (varsS atoms).length && (namedP (varsS atoms) ret hint && (countedP cn ds lm off && (pagedP lm li off && atoms.all atomB)))) = true then 0 else 261 := rfl
  obtain ⟨RES, hRES⟩ : ∃ R, checkE ⟨atoms, ret, cn, ds, lm, li, off, hint⟩ = R := ⟨_, rfl⟩
  rw [hRES] at hE ⊢
  have HRES := Lib.hid hE
  have HX := Lib.hid (Ext.alloc w (.cells #[.slice ava atoms.length avc, .slice rva ret.length rvc, .bool cn, .bool ds, .bool lm, .int .i64 li, .int .i64 off, .slice hva hint.length hvc] 26))
  have HB := Lib.hid (show RowAt (w.alloc (.cells #[.slice ava atoms.length avc, .slice rva ret.length rvc, .bool cn, .bool ds, .bool lm, .int .i64 li, .int .i64 off, .slice hva hint.length hvc] 26)) w.heap.size 26 [.slice ava atoms.length avc, .slice rva ret.length rvc, .bool cn, .bool ds, .bool lm, .int .i64 li, .int .i64 off, .slice hva hint.length hvc] from RowAt.new _ _ _)
  have HA := Lib.hid ha
  have HR := Lib.hid hr
  have HH := Lib.hid hh
  have HF := Lib.hid hf1
  clear ha hr hh hf1 hE hRES
  go_enter Try.func21, Try.ntmps21
  go_upto_region 1 with fail
  generalize w.alloc (.cells #[.slice ava atoms.length avc, .slice rva ret.length rvc, .bool cn, .bool ds, .bool lm, .int .i64 li, .int .i64 off, .slice hva hint.length hvc] 26) = w1 at *
  obtain ⟨x, hx⟩ : ∃ x, w.heap.size = x := ⟨_, rfl⟩
  rw [hx] at HB
  simp only [hx]
  clear hx
  obtain ⟨d0, d1, d2, d3, d4, d5, d6, d7⟩ := row8_facts HB.out
  have HV := Lib.hid (variables_any _ atoms w1 (HA.out.ext HX.out) hf2)
  have hed : edgesOf atoms ≤ atoms.length := List.length_filter_le _ _
  have hvl := varsS_take_len atoms atoms.length (Nat.le_refl _)
  rw [List.take_length] at hvl
  generalize edgesOf atoms = E at *
  generalize varsS atoms = V at *
  go_wp2_with fail
  refine HV.out.mono ?_
  rintro e w2 ⟨u, rfl, ho, hx2⟩
  have HVS := Lib.hid (show Strs w2 u V from Sl.of_own ho)
  have HX2 := Lib.hid (HX.out.trans hx2)
  have HB2 := Lib.hid (HB.out.ext hx2)
  obtain ⟨ua, uc, rfl⟩ := own_vw ho
  clear HV ho hx2 HB HX d0 d1 d2 d3 d4 d5 d6 d7
  obtain ⟨d0, d1, d2, d3, d4, d5, d6, d7⟩ := row8_facts HB2.out
  obtain ⟨sz, hsz⟩ : ∃ b, sizesP atoms.length E V.length = b := ⟨_, rfl⟩
  obtain ⟨nm, hnm⟩ : ∃ b, namedP V ret hint = b := ⟨_, rfl⟩
  obtain ⟨ct, hct⟩ : ∃ b, countedP cn ds lm off = b := ⟨_, rfl⟩
  obtain ⟨pg, hpg⟩ : ∃ b, pagedP lm li off = b := ⟨_, rfl⟩
  obtain ⟨al, hal⟩ : ∃ b, atoms.all atomB = b := ⟨_, rfl⟩
  have HAL := Lib.hid (fun w' (hv : Ats w' (.slice ava atoms.length avc) atoms) => hasNotAtom_any _ atoms w' hv HF.out (by omega))
  have hres := HRES.out
  rw [hsz, hnm, hct, hpg, hal] at hres
  clear HRES
  have HRES := Lib.hid hres
  rw [hal] at HAL
  have HSZ := Lib.hid hsz
  have HNM := Lib.hid hnm
  have HCT := Lib.hid hct
  have HPG := Lib.hid hpg
  clear hsz hnm hct hpg hal hres HF
  go_upto_region 2 with fail
  go_cut [5] (fun s5 wx => s5 = .bool sz ∧ wx = w2)
  case first =>
    by_cases h1 : 0 < atoms.length
    case neg =>
      go_wp2_with fail
      go_meet
      exact ⟨by rw [← HSZ.out]; unfold sizesP; simp; omega, rfl⟩
    by_cases h2 : atoms.length ≤ 40
    case neg =>
      go_wp2_with fail
      go_meet
      exact ⟨by rw [← HSZ.out]; unfold sizesP; simp; omega, rfl⟩
    by_cases h3 : E ≤ 6
    case neg =>
      go_wp2_with fail
      go_meet
      exact ⟨by rw [← HSZ.out]; unfold sizesP; simp; omega, rfl⟩
    by_cases h4 : V.length ≤ 32
    all_goals
      go_wp2_with fail
      go_meet
      exact ⟨by rw [← HSZ.out]; unfold sizesP; rw [decide_eq_true h1, decide_eq_true h2, decide_eq_true h3]; first | (rw [decide_eq_true h4]; rfl) | (rw [decide_eq_false h4]; rfl) | (simp [h4]; omega), rfl⟩
  case rest =>
    obtain ⟨rfl, hwc⟩ := hcut
    rw [hwc]
    clear hwc HSZ
    have HC1 := Lib.hid (chosen_any _ _ ret V w2 (Strs.ext HR.out HX2.out) HVS.out)
    have HC2 := Lib.hid (chosen_any _ _ hint V w2 (Strs.ext HH.out HX2.out) HVS.out)
    obtain ⟨c1, hc1⟩ : ∃ b, chosenB V ret = b := ⟨_, rfl⟩
    obtain ⟨c2, hc2⟩ : ∃ b, chosenB V hint = b := ⟨_, rfl⟩
    rw [hc1] at HC1
    rw [hc2] at HC2
    have hnm := HNM.out
    unfold namedP at hnm
    rw [hc1, hc2] at hnm
    clear HNM hc1 hc2
    have HNM := Lib.hid hnm
    clear hnm
    go_upto_region 3 with fail
    go_cut [6] (fun s6 wx => s6 = .bool nm ∧ wx = w2)
    case first =>
      cases c1 with
      | false =>
        go_wp2_with fail
        refine HC1.out.mono ?_
        rintro e w3 ⟨rfl, rfl⟩
        go_wp2_with fail
        go_meet
        exact ⟨by rw [← HNM.out]; rfl, rfl⟩
      | true =>
        cases c2 with
        | false =>
          go_wp2_with fail
          refine HC1.out.mono ?_
          rintro e w3 ⟨rfl, rfl⟩
          go_wp2_with fail
          refine HC2.out.mono ?_
          rintro e w3 ⟨rfl, rfl⟩
          go_wp2_with fail
          go_meet
          exact ⟨by rw [← HNM.out]; rfl, rfl⟩
        | true =>
          by_cases h0 : hint.length = 0
          · have hb : ((hint.length : Int) == 0) = true := by simp [h0]
            have HN0 : Hid (nm = true) := Lib.hid (by rw [← HNM.out, decide_eq_true h0]; rfl)
            clear h0
            go_wp2_with fail
            refine HC1.out.mono ?_
            rintro e w3 ⟨rfl, rfl⟩
            go_wp2_with fail
            refine HC2.out.mono ?_
            rintro e w3 ⟨rfl, rfl⟩
            go_wp2_with fail
            go_meet
            exact ⟨by rw [HN0.out], rfl⟩
          · have hb : ((hint.length : Int) == 0) = false := beq_eq_false_iff_ne.2 (by omega)
            have HN0 : Hid (nm = decide (hint.length = V.length)) := Lib.hid (by rw [← HNM.out, decide_eq_false h0]; rfl)
            obtain ⟨bq, hbq⟩ : ∃ b, decide (hint.length = V.length) = b := ⟨_, rfl⟩
            rw [hbq] at HN0
            have hb2 : ((hint.length : Int) == (V.length : Int)) = bq := by
              rw [← hbq]
              by_cases h : hint.length = V.length
              · rw [h]; simp
              · rw [decide_eq_false h, beq_eq_false_iff_ne]
                intro e
                exact h (Int.ofNat.inj e)
            clear h0 hbq
            go_wp2_with fail
            refine HC1.out.mono ?_
            rintro e w3 ⟨rfl, rfl⟩
            go_wp2_with fail
            refine HC2.out.mono ?_
            rintro e w3 ⟨rfl, rfl⟩
            go_wp2_with fail
            go_meet
            exact ⟨by rw [HN0.out], rfl⟩
    case rest =>
      obtain ⟨rfl, hwc⟩ := hcut
      rw [hwc]
      clear hwc HNM HC1 HC2 HVS
      go_upto_region 4 with fail
      go_cut [7] (fun s7 wx => s7 = .bool ct ∧ wx = w2)
      case first =>
        obtain ⟨bo, hbo⟩ : ∃ b, decide (off = 0) = b := ⟨_, rfl⟩
        have hb : (off == 0) = bo := by rw [← hbo, Bool.eq_iff_iff]; simp
        have hct := HCT.out
        unfold countedP at hct
        rw [hbo] at hct
        clear HCT hbo
        have HCT := Lib.hid hct
        clear hct
        cases cn <;> cases ds <;> cases lm
        all_goals
          go_wp2_with fail
          go_meet
          exact ⟨by rw [← HCT.out]; simp, rfl⟩
      case rest =>
        obtain ⟨rfl, hwc⟩ := hcut
        rw [hwc]
        clear hwc HCT
        go_upto_region 5 with fail
        go_cut [8] (fun s8 wx => s8 = .bool pg ∧ wx = w2)
        case first =>
          have HN1 := Lib.hid (numberP_any li w2)
          have HN2 := Lib.hid (numberP_any off w2)
          obtain ⟨n1, hn1⟩ : ∃ b, numB li = b := ⟨_, rfl⟩
          obtain ⟨n2, hn2⟩ : ∃ b, numB off = b := ⟨_, rfl⟩
          obtain ⟨bo, hbo⟩ : ∃ b, decide (li = 0) = b := ⟨_, rfl⟩
          have hb : (li == 0) = bo := by rw [← hbo, Bool.eq_iff_iff]; simp
          have hpg := HPG.out
          unfold pagedP at hpg
          rw [hbo, hn1, hn2] at hpg
          rw [hn1] at HN1
          rw [hn2] at HN2
          clear HPG hbo hn1 hn2
          have HPG := Lib.hid hpg
          clear hpg
          cases n1 with
          | false =>
            go_wp2_with fail
            refine HN1.out.mono ?_
            rintro e w3 ⟨rfl, rfl⟩
            go_wp2_with fail
            go_meet
            exact ⟨by rw [← HPG.out]; rfl, rfl⟩
          | true =>
            cases n2 with
            | false =>
              go_wp2_with fail
              refine HN1.out.mono ?_
              rintro e w3 ⟨rfl, rfl⟩
              go_wp2_with fail
              refine HN2.out.mono ?_
              rintro e w3 ⟨rfl, rfl⟩
              go_wp2_with fail
              go_meet
              exact ⟨by rw [← HPG.out]; rfl, rfl⟩
            | true =>
              cases lm
              all_goals
                go_wp2_with fail
                refine HN1.out.mono ?_
                rintro e w3 ⟨rfl, rfl⟩
                go_wp2_with fail
                refine HN2.out.mono ?_
                rintro e w3 ⟨rfl, rfl⟩
                go_wp2_with fail
                go_meet
                exact ⟨by rw [← HPG.out]; simp, rfl⟩
        case rest =>
          obtain ⟨rfl, hwc⟩ := hcut
          rw [hwc]
          clear hwc HPG
          have HA2 := Lib.hid (HAL.out w2 (HA.out.ext HX2.out))
          clear HAL
          cases sz with
          | false =>
            go_wp2_with fail
            go_ret
            exact ⟨ret_int HRES.out.symm, HX2.out⟩
          | true =>
            cases nm with
            | false =>
              go_wp2_with fail
              go_ret
              exact ⟨ret_int HRES.out.symm, HX2.out⟩
            | true =>
              cases ct with
              | false =>
                go_wp2_with fail
                go_ret
                exact ⟨ret_int HRES.out.symm, HX2.out⟩
              | true =>
                cases pg with
                | false =>
                  go_wp2_with fail
                  go_ret
                  exact ⟨ret_int HRES.out.symm, HX2.out⟩
                | true =>
                  cases al
                  all_goals
                    go_wp2_with fail
                    refine HA2.out.mono ?_
                    rintro e w3 ⟨rfl, hx3⟩
                    go_wp2_with fail
                    go_ret
                    exact ⟨ret_int HRES.out.symm, HX2.out.trans hx3⟩
end Go.Proofs.Ytngnplghjaojhaa

/- A pattern's variables; are patterns the same? The program. -/
namespace Go.Proofs.Ytngnplghjaojhaa
set_option maxRecDepth 100000
set_option maxHeartbeats 2000000
set_option linter.unusedSimpArgs false
open Go.RowKit Go.Shelf Go.Sort
attribute [local go_sem] Oper.semAt_some wide_fn wide_depth
set_option linter.unusedVariables false

def varsE (P : Pat) : List ByteArray := if P.okB = true then varsS P.atoms else []
set_option maxRecDepth 100000 in
set_option maxHeartbeats 2000000 in
theorem varsP_any (v : Value) (P : Pat) (w : World) (h : PatAt w v P) (hf : P.Fits) :
    Calls Try.prog 26 #[v] w fun e w' => ∃ u, e = .returned u ∧ w'.ownsRow w.heap.size 9 1 u (varsE P).length ((varsE P).map Value.string) ∧ Ext w w' := by
  have hck := fun w' (hx : Ext w w') => checkP_any v P w' (h.ext hx) hf
  obtain ⟨av, rv, hv, rfl, ha, hr, hh⟩ := h
  obtain ⟨ava, avc, rfl, hac, _⟩ := ha.shape
  obtain ⟨rva, rvc, rfl, hrc, _⟩ := Sl.shape hr
  obtain ⟨hva, hvc, rfl, hhc, _⟩ := Sl.shape hh
  have hfew := hf.few
  obtain ⟨R, hR⟩ : ∃ R, varsE P = R := ⟨_, rfl⟩
  rw [hR]
  have HV := Lib.hid (fun w' (hx : Ext w w') => variables_any _ P.atoms w' (ha.ext hx) hfew)
  obtain ⟨ok, hok⟩ : ∃ b, P.okB = b := ⟨_, rfl⟩
  have HE : Hid (R = if ok = true then varsS P.atoms else []) := Lib.hid (by rw [← hR]; unfold varsE; rw [hok])
  obtain ⟨cd, hcd⟩ : ∃ c, checkE P = c := ⟨_, rfl⟩
  have HCD : Hid ((ok = true → cd = 0) ∧ (ok = false → cd = 261)) := Lib.hid (by
    rw [← hcd]; unfold checkE; rw [hok]
    exact ⟨fun h => if_pos h, fun h => if_neg (by rw [h]; decide)⟩)
  rw [hcd] at hck
  have HCK := Lib.hid hck
  clear hck hcd hok hR hf ha hr hh
  obtain ⟨atoms, ret, cn, ds, lm, li, off, hint⟩ := P
  unfold patV patL at HCK ⊢
  dsimp only at *
  have HX := Lib.hid (Ext.alloc w (.cells #[.slice ava atoms.length avc, .slice rva ret.length rvc, .bool cn, .bool ds, .bool lm, .int .i64 li, .int .i64 off, .slice hva hint.length hvc] 26))
  have HB := Lib.hid (show RowAt (w.alloc (.cells #[.slice ava atoms.length avc, .slice rva ret.length rvc, .bool cn, .bool ds, .bool lm, .int .i64 li, .int .i64 off, .slice hva hint.length hvc] 26)) w.heap.size 26 [.slice ava atoms.length avc, .slice rva ret.length rvc, .bool cn, .bool ds, .bool lm, .int .i64 li, .int .i64 off, .slice hva hint.length hvc] from RowAt.new _ _ _)
  go_enter Try.func26, Try.ntmps26
  go_upto_region 1 with fail
  generalize w.alloc (.cells #[.slice ava atoms.length avc, .slice rva ret.length rvc, .bool cn, .bool ds, .bool lm, .int .i64 li, .int .i64 off, .slice hva hint.length hvc] 26) = w1 at *
  obtain ⟨x, hx⟩ : ∃ x, w.heap.size = x := ⟨_, rfl⟩
  rw [hx] at HB
  simp only [hx]
  have HWX := Lib.hid hx
  clear hx
  obtain ⟨d0, d1, d2, d3, d4, d5, d6, d7⟩ := row8_facts HB.out
  cases ok with
  | false =>
    have h261 := HCD.out.2 rfl
    subst h261
    clear HCD
    have HE2 : Hid (R = []) := HE
    go_wp2_with fail
    refine (HCK.out w1 HX.out).mono ?_
    rintro e w2 ⟨rfl, hx2⟩
    have HX2 := Lib.hid (HX.out.trans hx2)
    clear hx2 d0 d1 d2 d3 d4 d5 d6 d7
    go_wp2_with fail
    go_ret
    exact ⟨_, rfl, by rw [HE2.out]; exact World.ownsRow_nil _ _ _ _, HX2.out⟩
  | true =>
    have h0 := HCD.out.1 rfl
    subst h0
    clear HCD
    have HE2 : Hid (R = varsS atoms) := HE
    clear HE
    go_wp2_with fail
    refine (HCK.out w1 HX.out).mono ?_
    rintro e w2 ⟨rfl, hx2⟩
    have HX2 := Lib.hid (HX.out.trans hx2)
    have HB2 := Lib.hid (HB.out.ext hx2)
    clear hx2 d0 d1 d2 d3 d4 d5 d6 d7 HB HCK HX
    obtain ⟨d0, d1, d2, d3, d4, d5, d6, d7⟩ := row8_facts HB2.out
    have HV2 := Lib.hid (HV.out w2 HX2.out)
    clear HV
    generalize varsS atoms = V at *
    have hrv := HE2.out
    subst hrv
    clear HE2
    go_wp2_with fail
    refine HV2.out.mono ?_
    rintro e w3 ⟨u, rfl, ho, hx3⟩
    have HO := Lib.hid (own_base ho (show w.heap.size ≤ w2.heap.size from HX2.out.size))
    have HX3 := Lib.hid (HX2.out.trans hx3)
    obtain ⟨ua, uc, rfl⟩ := own_vw ho
    clear ho hx3 HV2
    go_wp2_with fail
    go_ret
    exact ⟨_, rfl, HO.out, HX3.out⟩
/-- Are patterns the same? -/
def sameB (P Q : Pat) : Bool := (P.count == Q.count && (P.distinct == Q.distinct && (P.limited == Q.limited && (P.limit == Q.limit && P.offset == Q.offset)))) && (decide (P.atoms = Q.atoms) && (decide (P.ret = Q.ret) && decide (P.hint = Q.hint)))
theorem sameB_iff (P Q : Pat) : sameB P Q = true ↔ P = Q := by
  obtain ⟨a, b, c, d, e, f, g, h⟩ := P
  obtain ⟨a', b', c', d', e', f', g', h'⟩ := Q
  unfold sameB
  simp only [decide_eq_true_eq, Bool.and_eq_true, beq_iff_eq, Pat.mk.injEq]
  constructor
  · rintro ⟨⟨h3, h4, h5, h6, h7⟩, h1, h2, h8⟩
    exact ⟨h1, h2, h3, h4, h5, h6, h7, h8⟩
  · rintro ⟨h1, h2, h3, h4, h5, h6, h7, h8⟩
    exact ⟨⟨h3, h4, h5, h6, h7⟩, h1, h2, h8⟩
end Go.Proofs.Ytngnplghjaojhaa

/- An argument that is a pattern; what it weighs. -/
namespace Go.Proofs.Ytngnplghjaojhaa
set_option maxRecDepth 100000
set_option maxHeartbeats 2000000
set_option linter.unusedVariables false
set_option linter.unusedSimpArgs false
open Go.ChangeShapes Go.WideShapes Go.ChangeAt Go.RowKit Go.Deep

/-- All of it is within reach. -/
def Light {H : Type} (P : Program) (t : TypeId) (d : DataW H) : Prop := ∀ n ∈ d.weights P t, n ≤ reachBytes
theorem light_str {H : Type} {P : Program} {t : TypeId} {s : ByteArray} (h : Light P t (.lit (.string s.data.toList) : DataW H)) : s.size ≤ reachBytes := by
  have := h s.data.toList.length (by simp [DataW.weights])
  simpa using this
theorem light_part {H : Type} {P : Program} {t : TypeId} {fs : Array Field} {parts : List (DataW H)} (ht : P.underlying t = some (.struct fs)) (h : Light P t (.agg parts)) {i : Nat} {f : Field} {d : DataW H}
    (hf : fs[i]? = some f) (hd : parts[i]? = some d) : Light P f.type d := by
  intro n hn
  refine h n ?_
  simp only [DataW.weights, ht]
  exact DataW.weights_mem_each (j := i) (by simp [hf]) hd n hn
theorem weightsAll_mem {H : Type} {P : Program} {e : TypeId} {n : Nat} : ∀ {l : List (DataW H)} {d : DataW H}, d ∈ l → n ∈ d.weights P e → n ∈ DataW.weightsAll P e l
  | x :: r, d, h, hn => by
    simp only [DataW.weightsAll, List.mem_append]
    rcases List.mem_cons.1 h with rfl | h
    · exact .inl hn
    · exact .inr (weightsAll_mem h hn)
theorem light_elem {H : Type} {P : Program} {t e : TypeId} {elems spare : List (DataW H)} (ht : P.underlying t = some (.slice e)) (h : Light P t (.slice elems spare)) {d : DataW H} (hd : d ∈ elems) : Light P e d := by
  intro n hn
  refine h n ?_
  simp only [DataW.weights, ht, List.mem_cons, List.mem_append]
  exact .inr (.inl (weightsAll_mem hd hn))
theorem light_arg {H : Type} {P : Program} {ts : List TypeId} {ds : List (DataW H)} (h : (DataW.weightsEach P ts ds).all (· ≤ reachBytes) = true) {j : Nat} {t : TypeId} {d : DataW H} (ht : ts[j]? = some t) (hd : ds[j]? = some d) : Light P t d := fun n hn => by
  have := List.all_eq_true.1 h n (DataW.weights_mem_each ht hd n hn)
  simpa using this
end Go.Proofs.Ytngnplghjaojhaa

/- What is told, name by name: plain. -/
namespace Go.Proofs.Ytngnplghjaojhaa
set_option maxRecDepth 100000
set_option maxHeartbeats 2000000
set_option linter.unusedSimpArgs false
set_option linter.unusedVariables false

/-- The names that are told, k more may follow; behind commas, or one behind the other; where it stops, or the place of the wrong token. -/
def someP (ts : List Tk) (vars : List ByteArray) (cm : Bool) : Nat → List ByteArray → Nat → List ByteArray × Except Nat Nat
  | 0, acc, p => (acc, .ok p)
  | k + 1, acc, p => match varP ts vars acc p with
    | .error q => (acc, .error q)
    | .ok (acc', p') => if cm = true then (if k ≠ 0 ∧ kindAt ts p' = 6 then someP ts vars cm k acc' (p' + 1) else (acc', .ok p')) else someP ts vars cm k acc' p'
def pairP (x : List ByteArray × Except Nat Nat) : Except Nat (List ByteArray × Nat) := match x with
  | (l, .ok q) => .ok (l, q)
  | (_, .error q) => .error q
theorem retP_some (ts : List Tk) (vars : List ByteArray) : ∀ (k : Nat) (acc : List ByteArray) (p : Nat), retP ts vars k acc p = pairP (someP ts vars true k acc p)
  | 0, acc, p => rfl
  | k + 1, acc, p => by
    unfold retP someP
    cases hv : varP ts vars acc p with
    | error q => rfl
    | ok x =>
      obtain ⟨acc', p'⟩ := x
      simp only [Except.bind, if_true]
      split
      · exact retP_some ts vars k acc' (p' + 1)
      · rfl
theorem hintP_some (ts : List Tk) (vars : List ByteArray) : ∀ (k : Nat) (acc : List ByteArray) (p : Nat), hintP ts vars k acc p = pairP (someP ts vars false k acc p)
  | 0, acc, p => rfl
  | k + 1, acc, p => by
    unfold hintP someP
    cases hv : varP ts vars acc p with
    | error q => rfl
    | ok x =>
      obtain ⟨acc', p'⟩ := x
      simp only [Except.bind]
      exact hintP_some ts vars k acc' p'
/-- One name. -/
theorem varP_cases (ts : List Tk) (vars acc : List ByteArray) (p : Nat) :
    (kindAt ts p ≠ 1 ∧ varP ts vars acc p = .error p) ∨ (kindAt ts p = 1 ∧ (textAt ts p ∉ vars ∨ textAt ts p ∈ acc) ∧ varP ts vars acc p = .error p) ∨
    (kindAt ts p = 1 ∧ textAt ts p ∈ vars ∧ textAt ts p ∉ acc ∧ varP ts vars acc p = .ok (acc ++ [textAt ts p], p + 1)) := by
  unfold varP takeP
  by_cases hk : kindAt ts p = 1
  · rw [if_pos hk]
    simp only [Except.bind]
    by_cases h : hasB (textAt ts p) vars = false ∨ hasB (textAt ts p) acc = true
    · rw [if_pos h]
      exact .inr (.inl ⟨hk, h.imp hasB_no.1 hasB_iff.1, rfl⟩)
    · rw [if_neg h]
      have h1 : ¬ hasB (textAt ts p) vars = false := fun e => h (.inl e)
      have h2 : ¬ hasB (textAt ts p) acc = true := fun e => h (.inr e)
      exact .inr (.inr ⟨hk, hasB_iff.1 (by simpa using h1), fun e => h2 (hasB_iff.2 e), rfl⟩)
  · rw [if_neg hk]
    exact .inl ⟨hk, rfl⟩
theorem someP_pre (ts : List Tk) (vars : List ByteArray) (cm : Bool) : ∀ (k : Nat) (acc : List ByteArray) (p : Nat), ∃ r, (someP ts vars cm k acc p).1 = acc ++ r
  | 0, acc, p => ⟨[], by simp [someP]⟩
  | k + 1, acc, p => by
    unfold someP
    rcases varP_cases ts vars acc p with ⟨_, h⟩ | ⟨_, _, h⟩ | ⟨_, _, _, h⟩
    · rw [h]; exact ⟨[], by simp⟩
    · rw [h]; exact ⟨[], by simp⟩
    · rw [h]
      simp only []
      split
      · split
        · obtain ⟨r, hr⟩ := someP_pre ts vars cm k (acc ++ [textAt ts p]) (p + 1 + 1)
          exact ⟨textAt ts p :: r, by rw [hr]; simp⟩
        · exact ⟨[textAt ts p], rfl⟩
      · obtain ⟨r, hr⟩ := someP_pre ts vars cm k (acc ++ [textAt ts p]) (p + 1)
        exact ⟨textAt ts p :: r, by rw [hr]; simp⟩
/-- May one more follow, behind n of them? -/
def folB (ts : List Tk) (cm : Bool) (many n p : Nat) : Bool := decide (n < many) && (!cm || decide (kindAt ts p = 6))
def folQ (ts : List Tk) (cm : Bool) (many n p : Nat) : Nat := if folB ts cm many n p = true ∧ cm = true then p + 1 else p
theorem someP_go {ts : List Tk} {vars : List ByteArray} {cm : Bool} {many : Nat} {acc : List ByteArray} {p : Nat} (hlt : acc.length < many) (hv : varP ts vars acc p = .ok (acc ++ [textAt ts p], p + 1)) :
    someP ts vars cm (many - acc.length) acc p = if folB ts cm many (acc.length + 1) (p + 1) = true then someP ts vars cm (many - (acc ++ [textAt ts p]).length) (acc ++ [textAt ts p]) (folQ ts cm many (acc.length + 1) (p + 1)) else (acc ++ [textAt ts p], .ok (p + 1)) := by
  obtain ⟨k, hk⟩ : ∃ k, many - acc.length = k + 1 := ⟨many - acc.length - 1, by omega⟩
  rw [hk]
  have hk2 : many - (acc ++ [textAt ts p]).length = k := by rw [List.length_append]; simp; omega
  rw [hk2]
  have hd : decide (acc.length + 1 < many) = decide (k ≠ 0) := by by_cases h : k = 0 <;> simp [h] <;> omega
  conv => lhs; unfold someP
  rw [hv]
  simp only [folB, folQ, hd]
  cases cm with
  | true =>
    by_cases h0 : k = 0
    · simp [h0]
    · by_cases h6 : kindAt ts (p + 1) = 6
      · simp [h0, h6]
      · simp [h0, h6]
  | false =>
    by_cases h0 : k = 0
    · subst h0; simp [someP]
    · simp [h0]
theorem someP_bad {ts : List Tk} {vars : List ByteArray} {cm : Bool} {many : Nat} {acc : List ByteArray} {p q : Nat} (hlt : acc.length < many) (hv : varP ts vars acc p = .error q) :
    someP ts vars cm (many - acc.length) acc p = (acc, .error q) := by
  obtain ⟨k, hk⟩ : ∃ k, many - acc.length = k + 1 := ⟨many - acc.length - 1, by omega⟩
  rw [hk]
  unfold someP
  rw [hv]
end Go.Proofs.Ytngnplghjaojhaa
