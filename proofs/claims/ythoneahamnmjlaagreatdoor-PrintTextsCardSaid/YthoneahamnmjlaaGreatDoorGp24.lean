/- The document: may a pattern be? -/
import Derived.Test.YthoneahamnmjlaaGreatDoorGp23
namespace Go.Proofs.YthoneahamnmjlaaGreatDoor
set_option maxRecDepth 100000
set_option maxHeartbeats 2000000
set_option linter.unusedSimpArgs false
open Go.RowKit Go.Shelf Go.Sort
attribute [local go_sem] Oper.semAt_some wide_fn wide_depth
set_option linter.unusedVariables false

/-- The document's question, part by part. -/
def rightL (b z c1 c2 h0 hv ds cn pg lm bl a1 a2 a3 a4 : Bool) : Bool := b && (!z && (c1 && (c2 && (!(!h0 && !hv) && (!(ds && !cn) && (!(cn && pg) && ((lm || bl) && (a1 && (a2 && (a3 && a4))))))))))
theorem okB_right (P : Pat) : P.okB = rightL (beginsB P.atoms) (decide (P.atoms.length = 0)) (chosenB (varsS P.atoms) P.ret) (chosenB (varsS P.atoms) P.hint) (decide (P.hint.length = 0)) (decide (P.hint.length = (varsS P.atoms).length)) P.distinct P.count (P.limited || !decide (P.offset = 0)) P.limited (decide (P.limit = 0)) (decide (0 ≤ P.limit)) (decide (P.limit ≤ 2147483647)) (decide (0 ≤ P.offset)) (decide (P.offset ≤ 2147483647)) := by
  unfold Pat.okB rightL beginsB sizesP namedP countedP pagedP numB
  have hz : decide (0 < P.atoms.length) = !decide (P.atoms.length = 0) := by
    by_cases h : P.atoms.length = 0
    · rw [h]; rfl
    · rw [decide_eq_false h, decide_eq_true (by omega)]; rfl
  rw [hz]
  generalize decide (P.atoms.length = 0) = z
  generalize decide (P.atoms.length ≤ 40) = l40
  generalize decide (edgesOf P.atoms ≤ 6) = e6
  generalize decide ((varsS P.atoms).length ≤ 32) = v32
  generalize chosenB (varsS P.atoms) P.ret = c1
  generalize chosenB (varsS P.atoms) P.hint = c2
  generalize decide (P.hint.length = 0) = h0
  generalize decide (P.hint.length = (varsS P.atoms).length) = hv
  generalize P.atoms.all atomB = al
  generalize P.distinct = ds
  generalize P.count = cn
  generalize P.limited = lm
  generalize decide (P.limit = 0) = bl
  generalize decide (P.offset = 0) = bo
  generalize decide (0 ≤ P.limit) = a1
  generalize decide (P.limit ≤ 2147483647) = a2
  generalize decide (0 ≤ P.offset) = a3
  generalize decide (P.offset ≤ 2147483647) = a4
  cases z
  case true => simp
  cases c1
  case false => simp
  cases c2
  case false => simp
  cases l40
  case false => simp
  cases e6
  case false => simp
  cases v32
  case false => simp
  cases al
  case false => simp
  cases h0 <;> cases hv <;> cases cn <;> cases ds <;> cases lm <;> cases bo <;> simp <;> cases bl <;> cases a1 <;> cases a2 <;> cases a3 <;> cases a4 <;> rfl
set_option maxRecDepth 100000 in
set_option maxHeartbeats 4000000 in
theorem right16_any (v : Value) (P : Pat) (w : World) (h : PatAt w v P) (hf : P.Fits) :
    Calls Tryz.prog 15 #[v] w fun e w' => e = .returned (.bool P.okB) ∧ Ext w w' := by
  rw [okB_right]
  obtain ⟨av, rv, hv, rfl, ha, hr, hh⟩ := h
  obtain ⟨ava, avc, rfl, hac, _⟩ := ha.shape
  obtain ⟨rva, rvc, rfl, hrc, _⟩ := Sl.shape hr
  obtain ⟨hva, hvc, rfl, hhc, _⟩ := Sl.shape hh
  obtain ⟨hf1, hf2⟩ := hf
  obtain ⟨atoms, ret, cn, ds, lm, li, off, hint⟩ := P
  unfold patV patL
  dsimp only at *
  have HX := Lib.hid (Ext.alloc w (.cells #[.slice ava atoms.length avc, .slice rva ret.length rvc, .bool cn, .bool ds, .bool lm, .int .i64 li, .int .i64 off, .slice hva hint.length hvc] 25))
  have HB := Lib.hid (show RowAt (w.alloc (.cells #[.slice ava atoms.length avc, .slice rva ret.length rvc, .bool cn, .bool ds, .bool lm, .int .i64 li, .int .i64 off, .slice hva hint.length hvc] 25)) w.heap.size 25 [.slice ava atoms.length avc, .slice rva ret.length rvc, .bool cn, .bool ds, .bool lm, .int .i64 li, .int .i64 off, .slice hva hint.length hvc] from RowAt.new _ _ _)
  have HA := Lib.hid (fun w' (hx : Ext w w') => begins_any _ atoms w' (ha.ext hx) hf1 hf2)
  have HV := Lib.hid (fun w' (hx : Ext w w') => varsS_any _ atoms w' (ha.ext hx) (by omega))
  have HR := Lib.hid hr
  have HH := Lib.hid hh
  have hvl := varsS_take_len atoms atoms.length (Nat.le_refl _)
  rw [List.take_length] at hvl
  clear ha hr hh hf1
  generalize varsS atoms = V at *
  obtain ⟨bg, hbg⟩ : ∃ b, beginsB atoms = b := ⟨_, rfl⟩
  obtain ⟨z, hz⟩ : ∃ b, decide (atoms.length = 0) = b := ⟨_, rfl⟩
  obtain ⟨c1, hc1⟩ : ∃ b, chosenB V ret = b := ⟨_, rfl⟩
  obtain ⟨c2, hc2⟩ : ∃ b, chosenB V hint = b := ⟨_, rfl⟩
  obtain ⟨h0, hh0⟩ : ∃ b, decide (hint.length = 0) = b := ⟨_, rfl⟩
  obtain ⟨hq, hhq⟩ : ∃ b, decide (hint.length = V.length) = b := ⟨_, rfl⟩
  obtain ⟨pg, hpg⟩ : ∃ b, (lm || !decide (off = 0)) = b := ⟨_, rfl⟩
  obtain ⟨bl, hbl⟩ : ∃ b, decide (li = 0) = b := ⟨_, rfl⟩
  obtain ⟨a1, ha1⟩ : ∃ b, decide (0 ≤ li) = b := ⟨_, rfl⟩
  obtain ⟨a2, ha2⟩ : ∃ b, decide (li ≤ 2147483647) = b := ⟨_, rfl⟩
  obtain ⟨a3, ha3⟩ : ∃ b, decide (0 ≤ off) = b := ⟨_, rfl⟩
  obtain ⟨a4, ha4⟩ : ∃ b, decide (off ≤ 2147483647) = b := ⟨_, rfl⟩
  rw [hbg, hz, hc1, hc2, hh0, hhq, hpg, hbl, ha1, ha2, ha3, ha4]
  obtain ⟨RES, hRES⟩ : ∃ R, rightL bg z c1 c2 h0 hq ds cn pg lm bl a1 a2 a3 a4 = R := ⟨_, rfl⟩
  rw [hRES]
  rw [hbg] at HA
  have HRES := Lib.hid hRES
  have HC1 := Lib.hid (fun w' (hx : Ext w w') v (hv : Strs w' v V) => (hc1 ▸ some16_any _ v ret V w' (Strs.ext HR.out hx) hv))
  have HC2 := Lib.hid (fun w' (hx : Ext w w') v (hv : Strs w' v V) => (hc2 ▸ some16_any _ v hint V w' (Strs.ext HH.out hx) hv))
  have kz : ((atoms.length : Int) == 0) = z := by
    rw [← hz, Bool.eq_iff_iff, beq_iff_eq, decide_eq_true_eq]; omega
  have kbl : (li == 0) = bl := by rw [← hbl, Bool.eq_iff_iff, beq_iff_eq, decide_eq_true_eq]
  have KZ := Lib.hid kz
  have KBL := Lib.hid kbl
  have KH0 : Hid (decide (0 < hint.length) = !h0) := Lib.hid (by
    rw [← hh0]
    by_cases hx : hint.length = 0
    · rw [hx]; rfl
    · rw [decide_eq_false hx, decide_eq_true (by omega)]; rfl)
  have KHQ : Hid (((hint.length : Int) != (V.length : Int)) = !hq) := Lib.hid (by
    rw [← hhq]
    by_cases hx : hint.length = V.length
    · rw [hx]; simp
    · rw [decide_eq_false hx]; exact bne_iff_ne.2 (fun e => hx (by omega)))
  have KPG := Lib.hid hpg
  have KA1 := Lib.hid ha1
  have KA2 := Lib.hid ha2
  have KA3 := Lib.hid ha3
  have KA4 := Lib.hid ha4
  clear hbg hz hc1 hc2 hh0 hhq hpg hbl ha1 ha2 ha3 ha4 hRES kz kbl
  go_enter Tryz.func15, Tryz.ntmps15
  go_upto_region 1 with fail
  generalize w.alloc (.cells #[.slice ava atoms.length avc, .slice rva ret.length rvc, .bool cn, .bool ds, .bool lm, .int .i64 li, .int .i64 off, .slice hva hint.length hvc] 25) = w1 at *
  obtain ⟨x, hx⟩ : ∃ x, w.heap.size = x := ⟨_, rfl⟩
  rw [hx] at HB
  simp only [hx]
  clear hx
  obtain ⟨d0, d1, d2, d3, d4, d5, d6, d7⟩ := row8_facts HB.out
  have HV1 := Lib.hid (HV.out w1 HX.out)
  clear HV
  go_wp2_with fail
  refine HV1.out.mono ?_
  rintro e w2 ⟨u, rfl, hu, hx2⟩
  obtain ⟨ua, uc, rfl, _, _⟩ := Sl.shape hu
  have HVS := Lib.hid hu
  have HX2 := Lib.hid (HX.out.trans hx2)
  have HB2 := Lib.hid (HB.out.ext hx2)
  have HA2 := Lib.hid (HA.out w2 HX2.out)
  clear HV1 HA hu hx2 HB HX d0 d1 d2 d3 d4 d5 d6 d7
  obtain ⟨d0, d1, d2, d3, d4, d5, d6, d7⟩ := row8_facts HB2.out
  have kz := KZ.out
  cases bg with
  | false =>
    go_wp2_with fail
    refine HA2.out.mono ?_
    rintro e w3 ⟨rfl, hx3⟩
    go_wp2_with fail
    go_ret
    exact ⟨ret_bool HRES.out, HX2.out.trans hx3⟩
  | true =>
    cases z with
    | true =>
      go_wp2_with fail
      refine HA2.out.mono ?_
      rintro e w3 ⟨rfl, hx3⟩
      have HX3 := Lib.hid (HX2.out.trans hx3)
      have HB3 := Lib.hid (HB2.out.ext hx3)
      clear d0 d1 d2 d3 d4 d5 d6 d7 hx3
      obtain ⟨d0, d1, d2, d3, d4, d5, d6, d7⟩ := row8_facts HB3.out
      go_wp2_with fail
      go_ret
      exact ⟨ret_bool HRES.out, HX3.out⟩
    | false =>
      go_wp2_with fail
      refine HA2.out.mono ?_
      rintro e w3 ⟨rfl, hx3⟩
      have HX3 := Lib.hid (HX2.out.trans hx3)
      have HB3 := Lib.hid (HB2.out.ext hx3)
      have HC3 := Lib.hid (HC1.out w3 HX3.out _ (Strs.ext HVS.out hx3))
      have HV3 := Lib.hid (Strs.ext HVS.out hx3)
      clear d0 d1 d2 d3 d4 d5 d6 d7 hx3 HC1 HA2 HB2 HX2 HVS
      obtain ⟨d0, d1, d2, d3, d4, d5, d6, d7⟩ := row8_facts HB3.out
      cases c1 with
      | false =>
        go_wp2_with fail
        refine HC3.out.mono ?_
        rintro e w4 ⟨rfl, hx4⟩
        go_wp2_with fail
        go_ret
        exact ⟨ret_bool HRES.out, HX3.out.trans hx4⟩
      | true =>
        go_wp2_with fail
        refine HC3.out.mono ?_
        rintro e w4 ⟨rfl, hx4⟩
        have HX4 := Lib.hid (HX3.out.trans hx4)
        have HB4 := Lib.hid (HB3.out.ext hx4)
        have HC4 := Lib.hid (HC2.out w4 HX4.out _ (Strs.ext HV3.out hx4))
        clear d0 d1 d2 d3 d4 d5 d6 d7 hx4 HC2 HC3 HB3 HX3 HV3
        obtain ⟨d0, d1, d2, d3, d4, d5, d6, d7⟩ := row8_facts HB4.out
        cases c2 with
        | false =>
          go_wp2_with fail
          refine HC4.out.mono ?_
          rintro e w5 ⟨rfl, hx5⟩
          go_wp2_with fail
          go_ret
          exact ⟨ret_bool HRES.out, HX4.out.trans hx5⟩
        | true =>
          go_wp2_with fail
          refine HC4.out.mono ?_
          rintro e w5 ⟨rfl, hx5⟩
          have HX5 := Lib.hid (HX4.out.trans hx5)
          have HB5 := Lib.hid (HB4.out.ext hx5)
          clear d0 d1 d2 d3 d4 d5 d6 d7 hx5 HC4 HB4 HX4
          obtain ⟨d0, d1, d2, d3, d4, d5, d6, d7⟩ := row8_facts HB5.out
          have kh0 := KH0.out
          have khq := KHQ.out
          cases h0
          case false =>
            cases hq
            case false =>
              go_wp2_with fail
              go_ret
              exact ⟨ret_bool HRES.out, HX5.out⟩
            case true =>
              go_upto_region 4 with fail
              go_cut [4] (fun s4 wx => s4 = .bool pg ∧ wx = w5)
              case first =>
                obtain ⟨bo, hbo⟩ : ∃ b, decide (off = 0) = b := ⟨_, rfl⟩
                have kbo : (off != 0) = !bo := by rw [← hbo]; by_cases h : off = 0 <;> simp [h]
                have hp := KPG.out
                rw [hbo] at hp
                have HP := Lib.hid hp
                clear hp hbo
                cases lm
                all_goals
                  cases bo
                  all_goals
                    go_wp2_with fail
                    go_meet
                    exact ⟨by rw [← HP.out]; rfl, rfl⟩
              case rest =>
                obtain ⟨rfl, hwc⟩ := hcut
                rw [hwc]
                clear hwc
                have ka1 := KA1.out
                have ka2 := KA2.out
                have ka3 := KA3.out
                have ka4 := KA4.out
                have kbl := KBL.out
                clear KPG
                cases ds
                case false =>
                  cases cn
                  case false =>
                    cases lm
                    case false =>
                      cases bl
                      case false =>
                        go_wp2_with fail
                        go_ret
                        exact ⟨ret_bool HRES.out, HX5.out⟩
                      case true =>
                        cases a1
                        case false =>
                          go_wp2_with fail
                          go_ret
                          exact ⟨ret_bool HRES.out, HX5.out⟩
                        case true =>
                          cases a2
                          case false =>
                            go_wp2_with fail
                            go_ret
                            exact ⟨ret_bool HRES.out, HX5.out⟩
                          case true =>
                            cases a3
                            case false =>
                              go_wp2_with fail
                              go_ret
                              exact ⟨ret_bool HRES.out, HX5.out⟩
                            case true =>
                              cases a4
                              case false =>
                                go_wp2_with fail
                                go_ret
                                exact ⟨ret_bool HRES.out, HX5.out⟩
                              case true =>
                                go_wp2_with fail
                                go_ret
                                exact ⟨ret_bool HRES.out, HX5.out⟩
                    case true =>
                      cases a1
                      case false =>
                        go_wp2_with fail
                        go_ret
                        exact ⟨ret_bool HRES.out, HX5.out⟩
                      case true =>
                        cases a2
                        case false =>
                          go_wp2_with fail
                          go_ret
                          exact ⟨ret_bool HRES.out, HX5.out⟩
                        case true =>
                          cases a3
                          case false =>
                            go_wp2_with fail
                            go_ret
                            exact ⟨ret_bool HRES.out, HX5.out⟩
                          case true =>
                            cases a4
                            case false =>
                              go_wp2_with fail
                              go_ret
                              exact ⟨ret_bool HRES.out, HX5.out⟩
                            case true =>
                              go_wp2_with fail
                              go_ret
                              exact ⟨ret_bool HRES.out, HX5.out⟩
                  case true =>
                    cases pg
                    case false =>
                      cases lm
                      case false =>
                        cases bl
                        case false =>
                          go_wp2_with fail
                          go_ret
                          exact ⟨ret_bool HRES.out, HX5.out⟩
                        case true =>
                          cases a1
                          case false =>
                            go_wp2_with fail
                            go_ret
                            exact ⟨ret_bool HRES.out, HX5.out⟩
                          case true =>
                            cases a2
                            case false =>
                              go_wp2_with fail
                              go_ret
                              exact ⟨ret_bool HRES.out, HX5.out⟩
                            case true =>
                              cases a3
                              case false =>
                                go_wp2_with fail
                                go_ret
                                exact ⟨ret_bool HRES.out, HX5.out⟩
                              case true =>
                                cases a4
                                case false =>
                                  go_wp2_with fail
                                  go_ret
                                  exact ⟨ret_bool HRES.out, HX5.out⟩
                                case true =>
                                  go_wp2_with fail
                                  go_ret
                                  exact ⟨ret_bool HRES.out, HX5.out⟩
                      case true =>
                        cases a1
                        case false =>
                          go_wp2_with fail
                          go_ret
                          exact ⟨ret_bool HRES.out, HX5.out⟩
                        case true =>
                          cases a2
                          case false =>
                            go_wp2_with fail
                            go_ret
                            exact ⟨ret_bool HRES.out, HX5.out⟩
                          case true =>
                            cases a3
                            case false =>
                              go_wp2_with fail
                              go_ret
                              exact ⟨ret_bool HRES.out, HX5.out⟩
                            case true =>
                              cases a4
                              case false =>
                                go_wp2_with fail
                                go_ret
                                exact ⟨ret_bool HRES.out, HX5.out⟩
                              case true =>
                                go_wp2_with fail
                                go_ret
                                exact ⟨ret_bool HRES.out, HX5.out⟩
                    case true =>
                      go_wp2_with fail
                      go_ret
                      exact ⟨ret_bool HRES.out, HX5.out⟩
                case true =>
                  cases cn
                  case false =>
                    go_wp2_with fail
                    go_ret
                    exact ⟨ret_bool HRES.out, HX5.out⟩
                  case true =>
                    cases pg
                    case false =>
                      cases lm
                      case false =>
                        cases bl
                        case false =>
                          go_wp2_with fail
                          go_ret
                          exact ⟨ret_bool HRES.out, HX5.out⟩
                        case true =>
                          cases a1
                          case false =>
                            go_wp2_with fail
                            go_ret
                            exact ⟨ret_bool HRES.out, HX5.out⟩
                          case true =>
                            cases a2
                            case false =>
                              go_wp2_with fail
                              go_ret
                              exact ⟨ret_bool HRES.out, HX5.out⟩
                            case true =>
                              cases a3
                              case false =>
                                go_wp2_with fail
                                go_ret
                                exact ⟨ret_bool HRES.out, HX5.out⟩
                              case true =>
                                cases a4
                                case false =>
                                  go_wp2_with fail
                                  go_ret
                                  exact ⟨ret_bool HRES.out, HX5.out⟩
                                case true =>
                                  go_wp2_with fail
                                  go_ret
                                  exact ⟨ret_bool HRES.out, HX5.out⟩
                      case true =>
                        cases a1
                        case false =>
                          go_wp2_with fail
                          go_ret
                          exact ⟨ret_bool HRES.out, HX5.out⟩
                        case true =>
                          cases a2
                          case false =>
                            go_wp2_with fail
                            go_ret
                            exact ⟨ret_bool HRES.out, HX5.out⟩
                          case true =>
                            cases a3
                            case false =>
                              go_wp2_with fail
                              go_ret
                              exact ⟨ret_bool HRES.out, HX5.out⟩
                            case true =>
                              cases a4
                              case false =>
                                go_wp2_with fail
                                go_ret
                                exact ⟨ret_bool HRES.out, HX5.out⟩
                              case true =>
                                go_wp2_with fail
                                go_ret
                                exact ⟨ret_bool HRES.out, HX5.out⟩
                    case true =>
                      go_wp2_with fail
                      go_ret
                      exact ⟨ret_bool HRES.out, HX5.out⟩
          case true =>
            go_upto_region 4 with fail
            go_cut [4] (fun s4 wx => s4 = .bool pg ∧ wx = w5)
            case first =>
              obtain ⟨bo, hbo⟩ : ∃ b, decide (off = 0) = b := ⟨_, rfl⟩
              have kbo : (off != 0) = !bo := by rw [← hbo]; by_cases h : off = 0 <;> simp [h]
              have hp := KPG.out
              rw [hbo] at hp
              have HP := Lib.hid hp
              clear hp hbo
              cases lm
              all_goals
                cases bo
                all_goals
                  go_wp2_with fail
                  go_meet
                  exact ⟨by rw [← HP.out]; rfl, rfl⟩
            case rest =>
              obtain ⟨rfl, hwc⟩ := hcut
              rw [hwc]
              clear hwc
              have ka1 := KA1.out
              have ka2 := KA2.out
              have ka3 := KA3.out
              have ka4 := KA4.out
              have kbl := KBL.out
              clear KPG
              cases ds
              case false =>
                cases cn
                case false =>
                  cases lm
                  case false =>
                    cases bl
                    case false =>
                      go_wp2_with fail
                      go_ret
                      exact ⟨ret_bool HRES.out, HX5.out⟩
                    case true =>
                      cases a1
                      case false =>
                        go_wp2_with fail
                        go_ret
                        exact ⟨ret_bool HRES.out, HX5.out⟩
                      case true =>
                        cases a2
                        case false =>
                          go_wp2_with fail
                          go_ret
                          exact ⟨ret_bool HRES.out, HX5.out⟩
                        case true =>
                          cases a3
                          case false =>
                            go_wp2_with fail
                            go_ret
                            exact ⟨ret_bool HRES.out, HX5.out⟩
                          case true =>
                            cases a4
                            case false =>
                              go_wp2_with fail
                              go_ret
                              exact ⟨ret_bool HRES.out, HX5.out⟩
                            case true =>
                              go_wp2_with fail
                              go_ret
                              exact ⟨ret_bool HRES.out, HX5.out⟩
                  case true =>
                    cases a1
                    case false =>
                      go_wp2_with fail
                      go_ret
                      exact ⟨ret_bool HRES.out, HX5.out⟩
                    case true =>
                      cases a2
                      case false =>
                        go_wp2_with fail
                        go_ret
                        exact ⟨ret_bool HRES.out, HX5.out⟩
                      case true =>
                        cases a3
                        case false =>
                          go_wp2_with fail
                          go_ret
                          exact ⟨ret_bool HRES.out, HX5.out⟩
                        case true =>
                          cases a4
                          case false =>
                            go_wp2_with fail
                            go_ret
                            exact ⟨ret_bool HRES.out, HX5.out⟩
                          case true =>
                            go_wp2_with fail
                            go_ret
                            exact ⟨ret_bool HRES.out, HX5.out⟩
                case true =>
                  cases pg
                  case false =>
                    cases lm
                    case false =>
                      cases bl
                      case false =>
                        go_wp2_with fail
                        go_ret
                        exact ⟨ret_bool HRES.out, HX5.out⟩
                      case true =>
                        cases a1
                        case false =>
                          go_wp2_with fail
                          go_ret
                          exact ⟨ret_bool HRES.out, HX5.out⟩
                        case true =>
                          cases a2
                          case false =>
                            go_wp2_with fail
                            go_ret
                            exact ⟨ret_bool HRES.out, HX5.out⟩
                          case true =>
                            cases a3
                            case false =>
                              go_wp2_with fail
                              go_ret
                              exact ⟨ret_bool HRES.out, HX5.out⟩
                            case true =>
                              cases a4
                              case false =>
                                go_wp2_with fail
                                go_ret
                                exact ⟨ret_bool HRES.out, HX5.out⟩
                              case true =>
                                go_wp2_with fail
                                go_ret
                                exact ⟨ret_bool HRES.out, HX5.out⟩
                    case true =>
                      cases a1
                      case false =>
                        go_wp2_with fail
                        go_ret
                        exact ⟨ret_bool HRES.out, HX5.out⟩
                      case true =>
                        cases a2
                        case false =>
                          go_wp2_with fail
                          go_ret
                          exact ⟨ret_bool HRES.out, HX5.out⟩
                        case true =>
                          cases a3
                          case false =>
                            go_wp2_with fail
                            go_ret
                            exact ⟨ret_bool HRES.out, HX5.out⟩
                          case true =>
                            cases a4
                            case false =>
                              go_wp2_with fail
                              go_ret
                              exact ⟨ret_bool HRES.out, HX5.out⟩
                            case true =>
                              go_wp2_with fail
                              go_ret
                              exact ⟨ret_bool HRES.out, HX5.out⟩
                  case true =>
                    go_wp2_with fail
                    go_ret
                    exact ⟨ret_bool HRES.out, HX5.out⟩
              case true =>
                cases cn
                case false =>
                  go_wp2_with fail
                  go_ret
                  exact ⟨ret_bool HRES.out, HX5.out⟩
                case true =>
                  cases pg
                  case false =>
                    cases lm
                    case false =>
                      cases bl
                      case false =>
                        go_wp2_with fail
                        go_ret
                        exact ⟨ret_bool HRES.out, HX5.out⟩
                      case true =>
                        cases a1
                        case false =>
                          go_wp2_with fail
                          go_ret
                          exact ⟨ret_bool HRES.out, HX5.out⟩
                        case true =>
                          cases a2
                          case false =>
                            go_wp2_with fail
                            go_ret
                            exact ⟨ret_bool HRES.out, HX5.out⟩
                          case true =>
                            cases a3
                            case false =>
                              go_wp2_with fail
                              go_ret
                              exact ⟨ret_bool HRES.out, HX5.out⟩
                            case true =>
                              cases a4
                              case false =>
                                go_wp2_with fail
                                go_ret
                                exact ⟨ret_bool HRES.out, HX5.out⟩
                              case true =>
                                go_wp2_with fail
                                go_ret
                                exact ⟨ret_bool HRES.out, HX5.out⟩
                    case true =>
                      cases a1
                      case false =>
                        go_wp2_with fail
                        go_ret
                        exact ⟨ret_bool HRES.out, HX5.out⟩
                      case true =>
                        cases a2
                        case false =>
                          go_wp2_with fail
                          go_ret
                          exact ⟨ret_bool HRES.out, HX5.out⟩
                        case true =>
                          cases a3
                          case false =>
                            go_wp2_with fail
                            go_ret
                            exact ⟨ret_bool HRES.out, HX5.out⟩
                          case true =>
                            cases a4
                            case false =>
                              go_wp2_with fail
                              go_ret
                              exact ⟨ret_bool HRES.out, HX5.out⟩
                            case true =>
                              go_wp2_with fail
                              go_ret
                              exact ⟨ret_bool HRES.out, HX5.out⟩
                  case true =>
                    go_wp2_with fail
                    go_ret
                    exact ⟨ret_bool HRES.out, HX5.out⟩
end Go.Proofs.YthoneahamnmjlaaGreatDoor
