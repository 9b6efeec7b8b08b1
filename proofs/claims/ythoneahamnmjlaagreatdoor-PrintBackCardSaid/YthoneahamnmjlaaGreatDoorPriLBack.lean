/- PrintBack: the walk. -/
import Derived.Test.YthoneahamnmjlaaGreatDoorGp33
namespace Go.Proofs.YthoneahamnmjlaaGreatDoor
set_option maxRecDepth 100000
set_option maxHeartbeats 2000000
set_option linter.unusedSimpArgs false
open Go.RowKit Go.Shelf Go.Sort
attribute [local go_sem] Oper.semAt_some wide_fn wide_depth
set_option linter.unusedVariables false

theorem okB_fitsP {P : Pat} (hP : P.okB = true) : P.Fits := by
  obtain ⟨h1, h2, _⟩ := okB_facts hP
  have h10 := (okB_facts hP).2.2.2.2.2.2.2.2.2
  refine ⟨fun a ha => ?_, by omega⟩
  obtain ⟨z1, z2, z3, z4⟩ := Atm.size_of (List.all_eq_true.1 h10 a ha)
  exact ⟨by omega, by omega, by omega, by omega⟩
/-- A pattern's text is read as the pattern. -/
theorem read_text {P Q : Pat} (hP : P.okB = true) (h5 : ¬ 500 < (textX P).length) {r : Except Int Pat} {n c : Int} (hr : ParsR (txt (textX P)) r) (h : PResIs (txt (textX P)) r Q n c) : Q = P ∧ n = (txt (textX P)).size ∧ c = 0 := by
  have he := hr.same (text_back hP (by omega)).1
  rcases h with ⟨h1, h2, h3, _⟩ | ⟨h1, _, _⟩
  · rw [he] at h1; cases h1; exact ⟨rfl, h2, h3⟩
  · rw [he] at h1; cases h1
set_option maxRecDepth 100000 in
set_option maxHeartbeats 4000000 in
theorem back_walk (v : Value) (s : ByteArray) (P : Pat) (w : World) (h : ArgP w v P) (hs : s.size ≤ 9223372036854775807) (hW : Pows w) :
    Calls Tryz.prog 6 #[v, .string s] w fun e w' => e = .returned (.bool true) ∧ Ext w w' := by
  have HOW := Lib.hid (fun W hx => h.own W hx)
  have hBF := ownB_fits P
  obtain ⟨a1, a1', a2, a2', a3, a3', rfl⟩ := h.at_.shape
  have HW := Lib.hid hW
  have HBF := Lib.hid hBF
  obtain ⟨ks, S, hmin, hS6, hSk, hcut⟩ := cut_text s 600 600 rfl
  have HS6 := Lib.hid hS6
  clear h hW hBF hS6 hSk
  generalize ownB P = B at *
  go_enter Tryz.func6, Tryz.ntmps6
  go_upto_region 1 with fail
  -- a pattern laid in a box: w the world, w1 the world behind, y2 the box's name, [.slice a1 P.atoms.length a1', .slice a2 P.ret.length a2', .bool P.count, .bool P.distinct, .bool P.limited, .int .i64 P.limit, .int .i64 P.offset, .slice a3 P.hint.length a3'] its cells. Facts: HEy2 (Ext), HRy2 (the row)
  have hxa := Ext.alloc w (.cells #[.slice a1 P.atoms.length a1', .slice a2 P.ret.length a2', .bool P.count, .bool P.distinct, .bool P.limited, .int .i64 P.limit, .int .i64 P.offset, .slice a3 P.hint.length a3'] 25)
  have hra := RowAt.new w 25 [.slice a1 P.atoms.length a1', .slice a2 P.ret.length a2', .bool P.count, .bool P.distinct, .bool P.limited, .int .i64 P.limit, .int .i64 P.offset, .slice a3 P.hint.length a3']
  generalize w.alloc (.cells #[.slice a1 P.atoms.length a1', .slice a2 P.ret.length a2', .bool P.count, .bool P.distinct, .bool P.limited, .int .i64 P.limit, .int .i64 P.offset, .slice a3 P.hint.length a3'] 25) = w1 at *
  obtain ⟨y2, hyn⟩ : ∃ y, w.heap.size = y := ⟨_, rfl⟩
  rw [hyn] at hra
  try simp only [hyn]
  clear hyn
  have HEy2 := Lib.hid hxa
  have HRy2 := Lib.hid hra
  clear hxa hra
  have HX := HEy2
  go_wp2_with fail
  refine (wakesT_any w1 (HW.out.ext HX.out)).mono ?_
  rintro e w2 ⟨rfl, hx2⟩
  replace HX := Lib.hid (HX.out.trans hx2)
  replace HRy2 := Lib.hid (HRy2.out.ext hx2)
  clear hx2 HEy2
  obtain ⟨d0, d1, d2, d3, d4, d5, d6, d7⟩ := row8_facts HRy2.out
  go_wp2_with fail
  refine (HOW.out w2 HX.out).mono ?_
  rintro e w3 ⟨u3, rfl, hp3, hx3⟩
  have HB := Lib.hid hp3.at_
  obtain ⟨b1, b1', b2, b2', b3, b3', rfl⟩ := hp3.at_.shape
  replace HX := Lib.hid (HX.out.trans hx3)
  clear d0 d1 d2 d3 d4 d5 d6 d7 hx3 hp3 HRy2 HOW
  go_upto_region 4 with fail
  -- a pattern laid in a box: w3 the world, w4 the world behind, y5 the box's name, [.slice b1 B.atoms.length b1', .slice b2 B.ret.length b2', .bool B.count, .bool B.distinct, .bool B.limited, .int .i64 B.limit, .int .i64 B.offset, .slice b3 B.hint.length b3'] its cells. Facts: HEy5 (Ext), HRy5 (the row)
  have hxa := Ext.alloc w3 (.cells #[.slice b1 B.atoms.length b1', .slice b2 B.ret.length b2', .bool B.count, .bool B.distinct, .bool B.limited, .int .i64 B.limit, .int .i64 B.offset, .slice b3 B.hint.length b3'] 25)
  have hra := RowAt.new w3 25 [.slice b1 B.atoms.length b1', .slice b2 B.ret.length b2', .bool B.count, .bool B.distinct, .bool B.limited, .int .i64 B.limit, .int .i64 B.offset, .slice b3 B.hint.length b3']
  generalize w3.alloc (.cells #[.slice b1 B.atoms.length b1', .slice b2 B.ret.length b2', .bool B.count, .bool B.distinct, .bool B.limited, .int .i64 B.limit, .int .i64 B.offset, .slice b3 B.hint.length b3'] 25) = w4 at *
  obtain ⟨y5, hyn⟩ : ∃ y, w3.heap.size = y := ⟨_, rfl⟩
  rw [hyn] at hra
  try simp only [hyn]
  clear hyn
  have HEy5 := Lib.hid hxa
  have HRy5 := Lib.hid hra
  clear hxa hra
  replace HX := Lib.hid (HX.out.trans HEy5.out)
  replace HB := Lib.hid (HB.out.ext HEy5.out)
  clear HEy5
  have HTX := Lib.hid (Text_any _ B w4 HB.out HBF.out (HW.out.ext HX.out))
  obtain ⟨d0, d1, d2, d3, d4, d5, d6, d7⟩ := row8_facts HRy5.out
  go_wp2_with fail
  refine HTX.out.mono ?_
  rintro e w5 ⟨rfl, hx5⟩
  replace HX := Lib.hid (HX.out.trans hx5)
  replace HB := Lib.hid (HB.out.ext hx5)
  replace HRy5 := Lib.hid (HRy5.out.ext hx5)
  clear d0 d1 d2 d3 d4 d5 d6 d7 hx5 HTX
  cases hok : B.okB with
  | false =>
    have htf : textF B = (nilB, 261) := by unfold textF; rw [if_neg (by rw [hok]; decide)]
    have hce : checkE B = 261 := by unfold checkE; rw [if_neg (by rw [hok]; decide)]
    have HCK := Lib.hid (checkP_any _ B w5 HB.out HBF.out)
    rw [hce] at HCK
    rw [htf]
    clear hok htf hce
    obtain ⟨d0, d1, d2, d3, d4, d5, d6, d7⟩ := row8_facts HRy5.out
    unfold nilB
    go_wp2_with fail
    refine HCK.out.mono ?_
    rintro e wj ⟨rfl, hxj⟩
    replace HX := Lib.hid (HX.out.trans hxj)
    clear d0 d1 d2 d3 d4 d5 d6 d7 hxj HCK HB HRy5 HBF
    have HR := Lib.hid (parse_E S wj (by have := HS6.out; omega))
    go_wp2_with fail
    refine HR.out.mono ?_
    rintro e w12 ⟨r, Q, n, c, k1, k1', k2, k2', k3, k3', hr, hpr, rfl, hpa, hx12⟩
    replace HX := Lib.hid (HX.out.trans hx12)
    have HQ := Lib.hid hpa
    clear hr hx12 hpa HR
    have hcc : c = 260 ∨ (c = 0 ∧ Q.okB = true) := by
      rcases hpr with ⟨_, _, h3, h4⟩ | ⟨_, _, h3⟩
      · exact .inr ⟨h3, h4⟩
      · exact .inl h3
    clear hpr
    go_upto_region 13 with fail
    -- a pattern laid in a box: w12 the world, w13 the world behind, y11 the box's name, [.slice k1 Q.atoms.length k1', .slice k2 Q.ret.length k2', .bool Q.count, .bool Q.distinct, .bool Q.limited, .int .i64 Q.limit, .int .i64 Q.offset, .slice k3 Q.hint.length k3'] its cells. Facts: HEy11 (Ext), HRy11 (the row)
    have hxa := Ext.alloc w12 (.cells #[.slice k1 Q.atoms.length k1', .slice k2 Q.ret.length k2', .bool Q.count, .bool Q.distinct, .bool Q.limited, .int .i64 Q.limit, .int .i64 Q.offset, .slice k3 Q.hint.length k3'] 25)
    have hra := RowAt.new w12 25 [.slice k1 Q.atoms.length k1', .slice k2 Q.ret.length k2', .bool Q.count, .bool Q.distinct, .bool Q.limited, .int .i64 Q.limit, .int .i64 Q.offset, .slice k3 Q.hint.length k3']
    generalize w12.alloc (.cells #[.slice k1 Q.atoms.length k1', .slice k2 Q.ret.length k2', .bool Q.count, .bool Q.distinct, .bool Q.limited, .int .i64 Q.limit, .int .i64 Q.offset, .slice k3 Q.hint.length k3'] 25) = w13 at *
    obtain ⟨y11, hyn⟩ : ∃ y, w12.heap.size = y := ⟨_, rfl⟩
    rw [hyn] at hra
    try simp only [hyn]
    clear hyn
    have HEy11 := Lib.hid hxa
    have HRy11 := Lib.hid hra
    clear hxa hra
    replace HX := Lib.hid (HX.out.trans HEy11.out)
    replace HQ := Lib.hid (HQ.out.ext HEy11.out)
    clear HEy11
    rcases hcc with rfl | ⟨rfl, hqok⟩
    case inl =>
      go_wp2_with fail
      go_ret
      exact ⟨rfl, HX.out⟩
    case inr =>
      have HQF := Lib.hid (okB_fitsP hqok)
      have HTQ := Lib.hid (Text_any _ Q w13 HQ.out HQF.out (HW.out.ext HX.out))
      obtain ⟨d0, d1, d2, d3, d4, d5, d6, d7⟩ := row8_facts HRy11.out
      by_cases h5 : 500 < (textX Q).length
      case pos =>
        have htf : textF Q = (nilB, 3) := by unfold textF; rw [if_pos hqok, if_pos h5]
        rw [htf] at HTQ
        dsimp only at HTQ
        clear htf hqok h5
        go_wp2_with fail
        refine HTQ.out.mono ?_
        rintro e w14 ⟨rfl, hx14⟩
        go_wp2_with fail
        go_ret
        exact ⟨rfl, HX.out.trans hx14⟩
      case neg =>
        have htf : textF Q = (txt (textX Q), 0) := by unfold textF; rw [if_pos hqok, if_neg h5]
        rw [htf] at HTQ
        dsimp only at HTQ
        have HRT := Lib.hid (fun (R : Pat) (r : Except Int Pat) (n c : Int) (hr : ParsR (txt (textX Q)) r) (h : PResIs (txt (textX Q)) r R n c) => read_text hqok h5 hr h)
        have hsz : (txt (textX Q)).size ≤ 500 := by rw [txt_size]; omega
        have HTF := Lib.hid htf
        clear hqok h5
        obtain ⟨T, hT⟩ : ∃ t, txt (textX Q) = t := ⟨_, rfl⟩
        rw [hT] at HTQ HRT hsz htf HTF
        clear hT htf
        go_wp2_with fail
        refine HTQ.out.mono ?_
        rintro e w14 ⟨rfl, hx14⟩
        replace HX := Lib.hid (HX.out.trans hx14)
        replace HQ := Lib.hid (HQ.out.ext hx14)
        replace HRy11 := Lib.hid (HRy11.out.ext hx14)
        clear d0 d1 d2 d3 d4 d5 d6 d7 hx14 HTQ
        have HR := Lib.hid (parse_E T w14 (by omega))
        go_wp2_with fail
        refine HR.out.mono ?_
        rintro e w15 ⟨r, R, n, c, f1, f1', f2, f2', f3, f3', hr, hpr, rfl, hpa, hx15⟩
        obtain ⟨rfl, rfl, rfl⟩ := HRT.out R r n c hr hpr
        replace HX := Lib.hid (HX.out.trans hx15)
        replace HQ := Lib.hid (HQ.out.ext hx15)
        replace HRy11 := Lib.hid (HRy11.out.ext hx15)
        have HR2 := Lib.hid hpa
        clear hr hpr hpa hx15 HR HRT
        go_upto_region 19 with fail
        -- a pattern laid in a box: w15 the world, w16 the world behind, y13 the box's name, [.slice f1 R.atoms.length f1', .slice f2 R.ret.length f2', .bool R.count, .bool R.distinct, .bool R.limited, .int .i64 R.limit, .int .i64 R.offset, .slice f3 R.hint.length f3'] its cells. Facts: HEy13 (Ext), HRy13 (the row)
        have hxa := Ext.alloc w15 (.cells #[.slice f1 R.atoms.length f1', .slice f2 R.ret.length f2', .bool R.count, .bool R.distinct, .bool R.limited, .int .i64 R.limit, .int .i64 R.offset, .slice f3 R.hint.length f3'] 25)
        have hra := RowAt.new w15 25 [.slice f1 R.atoms.length f1', .slice f2 R.ret.length f2', .bool R.count, .bool R.distinct, .bool R.limited, .int .i64 R.limit, .int .i64 R.offset, .slice f3 R.hint.length f3']
        generalize w15.alloc (.cells #[.slice f1 R.atoms.length f1', .slice f2 R.ret.length f2', .bool R.count, .bool R.distinct, .bool R.limited, .int .i64 R.limit, .int .i64 R.offset, .slice f3 R.hint.length f3'] 25) = w16 at *
        obtain ⟨y13, hyn⟩ : ∃ y, w15.heap.size = y := ⟨_, rfl⟩
        rw [hyn] at hra
        try simp only [hyn]
        clear hyn
        have HEy13 := Lib.hid hxa
        have HRy13 := Lib.hid hra
        clear hxa hra
        replace HX := Lib.hid (HX.out.trans HEy13.out)
        replace HQ := Lib.hid (HQ.out.ext HEy13.out)
        replace HR2 := Lib.hid (HR2.out.ext HEy13.out)
        replace HRy11 := Lib.hid (HRy11.out.ext HEy13.out)
        clear HEy13
        have HT2 := Lib.hid (Text_any _ R w16 HR2.out HQF.out (HW.out.ext HX.out))
        rw [HTF.out] at HT2
        dsimp only at HT2
        obtain ⟨d0, d1, d2, d3, d4, d5, d6, d7⟩ := row8_facts HRy13.out
        go_wp2_with fail
        refine HT2.out.mono ?_
        rintro e w17 ⟨rfl, hx17⟩
        replace HX := Lib.hid (HX.out.trans hx17)
        replace HQ := Lib.hid (HQ.out.ext hx17)
        replace HR2 := Lib.hid (HR2.out.ext hx17)
        replace HRy11 := Lib.hid (HRy11.out.ext hx17)
        replace HRy13 := Lib.hid (HRy13.out.ext hx17)
        clear d0 d1 d2 d3 d4 d5 d6 d7 hx17 HT2 HTF
        have HSM := Lib.hid (sameP_any _ _ R R w17 HR2.out HQ.out (by have := HQF.out.few; omega) (by have := HQF.out.few; omega))
        rw [same_self] at HSM
        obtain ⟨d0, d1, d2, d3, d4, d5, d6, d7⟩ := row8_facts HRy13.out
        obtain ⟨q0, q1, q2, q3, q4, q5, q6, q7⟩ := row8_facts HRy11.out
        go_wp2_with fail
        refine HSM.out.mono ?_
        rintro e w18 ⟨rfl, hx18⟩
        go_wp2
        go_ret
        exact ⟨by simp, HX.out.trans hx18⟩
  | true =>
    by_cases h5b : 500 < (textX B).length
    case pos =>
      have htf : textF B = (nilB, 3) := by unfold textF; rw [if_pos hok, if_pos h5b]
      have hce : checkE B = 0 := by unfold checkE; rw [if_pos hok]
      have HCK := Lib.hid (checkP_any _ B w5 HB.out HBF.out)
      rw [hce] at HCK
      rw [htf]
      clear hok htf hce h5b
      obtain ⟨d0, d1, d2, d3, d4, d5, d6, d7⟩ := row8_facts HRy5.out
      unfold nilB
      go_wp2_with fail
      refine HCK.out.mono ?_
      rintro e wj ⟨rfl, hxj⟩
      replace HX := Lib.hid (HX.out.trans hxj)
      clear d0 d1 d2 d3 d4 d5 d6 d7 hxj HCK HB HRy5 HBF
      have HR := Lib.hid (parse_E S wj (by have := HS6.out; omega))
      go_wp2_with fail
      refine HR.out.mono ?_
      rintro e w12 ⟨r, Q, n, c, k1, k1', k2, k2', k3, k3', hr, hpr, rfl, hpa, hx12⟩
      replace HX := Lib.hid (HX.out.trans hx12)
      have HQ := Lib.hid hpa
      clear hr hx12 hpa HR
      have hcc : c = 260 ∨ (c = 0 ∧ Q.okB = true) := by
        rcases hpr with ⟨_, _, h3, h4⟩ | ⟨_, _, h3⟩
        · exact .inr ⟨h3, h4⟩
        · exact .inl h3
      clear hpr
      go_upto_region 13 with fail
      -- a pattern laid in a box: w12 the world, w13 the world behind, y11 the box's name, [.slice k1 Q.atoms.length k1', .slice k2 Q.ret.length k2', .bool Q.count, .bool Q.distinct, .bool Q.limited, .int .i64 Q.limit, .int .i64 Q.offset, .slice k3 Q.hint.length k3'] its cells. Facts: HEy11 (Ext), HRy11 (the row)
      have hxa := Ext.alloc w12 (.cells #[.slice k1 Q.atoms.length k1', .slice k2 Q.ret.length k2', .bool Q.count, .bool Q.distinct, .bool Q.limited, .int .i64 Q.limit, .int .i64 Q.offset, .slice k3 Q.hint.length k3'] 25)
      have hra := RowAt.new w12 25 [.slice k1 Q.atoms.length k1', .slice k2 Q.ret.length k2', .bool Q.count, .bool Q.distinct, .bool Q.limited, .int .i64 Q.limit, .int .i64 Q.offset, .slice k3 Q.hint.length k3']
      generalize w12.alloc (.cells #[.slice k1 Q.atoms.length k1', .slice k2 Q.ret.length k2', .bool Q.count, .bool Q.distinct, .bool Q.limited, .int .i64 Q.limit, .int .i64 Q.offset, .slice k3 Q.hint.length k3'] 25) = w13 at *
      obtain ⟨y11, hyn⟩ : ∃ y, w12.heap.size = y := ⟨_, rfl⟩
      rw [hyn] at hra
      try simp only [hyn]
      clear hyn
      have HEy11 := Lib.hid hxa
      have HRy11 := Lib.hid hra
      clear hxa hra
      replace HX := Lib.hid (HX.out.trans HEy11.out)
      replace HQ := Lib.hid (HQ.out.ext HEy11.out)
      clear HEy11
      rcases hcc with rfl | ⟨rfl, hqok⟩
      case inl =>
        go_wp2_with fail
        go_ret
        exact ⟨rfl, HX.out⟩
      case inr =>
        have HQF := Lib.hid (okB_fitsP hqok)
        have HTQ := Lib.hid (Text_any _ Q w13 HQ.out HQF.out (HW.out.ext HX.out))
        obtain ⟨d0, d1, d2, d3, d4, d5, d6, d7⟩ := row8_facts HRy11.out
        by_cases h5 : 500 < (textX Q).length
        case pos =>
          have htf : textF Q = (nilB, 3) := by unfold textF; rw [if_pos hqok, if_pos h5]
          rw [htf] at HTQ
          dsimp only at HTQ
          clear htf hqok h5
          go_wp2_with fail
          refine HTQ.out.mono ?_
          rintro e w14 ⟨rfl, hx14⟩
          go_wp2_with fail
          go_ret
          exact ⟨rfl, HX.out.trans hx14⟩
        case neg =>
          have htf : textF Q = (txt (textX Q), 0) := by unfold textF; rw [if_pos hqok, if_neg h5]
          rw [htf] at HTQ
          dsimp only at HTQ
          have HRT := Lib.hid (fun (R : Pat) (r : Except Int Pat) (n c : Int) (hr : ParsR (txt (textX Q)) r) (h : PResIs (txt (textX Q)) r R n c) => read_text hqok h5 hr h)
          have hsz : (txt (textX Q)).size ≤ 500 := by rw [txt_size]; omega
          have HTF := Lib.hid htf
          clear hqok h5
          obtain ⟨T, hT⟩ : ∃ t, txt (textX Q) = t := ⟨_, rfl⟩
          rw [hT] at HTQ HRT hsz htf HTF
          clear hT htf
          go_wp2_with fail
          refine HTQ.out.mono ?_
          rintro e w14 ⟨rfl, hx14⟩
          replace HX := Lib.hid (HX.out.trans hx14)
          replace HQ := Lib.hid (HQ.out.ext hx14)
          replace HRy11 := Lib.hid (HRy11.out.ext hx14)
          clear d0 d1 d2 d3 d4 d5 d6 d7 hx14 HTQ
          have HR := Lib.hid (parse_E T w14 (by omega))
          go_wp2_with fail
          refine HR.out.mono ?_
          rintro e w15 ⟨r, R, n, c, f1, f1', f2, f2', f3, f3', hr, hpr, rfl, hpa, hx15⟩
          obtain ⟨rfl, rfl, rfl⟩ := HRT.out R r n c hr hpr
          replace HX := Lib.hid (HX.out.trans hx15)
          replace HQ := Lib.hid (HQ.out.ext hx15)
          replace HRy11 := Lib.hid (HRy11.out.ext hx15)
          have HR2 := Lib.hid hpa
          clear hr hpr hpa hx15 HR HRT
          go_upto_region 19 with fail
          -- a pattern laid in a box: w15 the world, w16 the world behind, y13 the box's name, [.slice f1 R.atoms.length f1', .slice f2 R.ret.length f2', .bool R.count, .bool R.distinct, .bool R.limited, .int .i64 R.limit, .int .i64 R.offset, .slice f3 R.hint.length f3'] its cells. Facts: HEy13 (Ext), HRy13 (the row)
          have hxa := Ext.alloc w15 (.cells #[.slice f1 R.atoms.length f1', .slice f2 R.ret.length f2', .bool R.count, .bool R.distinct, .bool R.limited, .int .i64 R.limit, .int .i64 R.offset, .slice f3 R.hint.length f3'] 25)
          have hra := RowAt.new w15 25 [.slice f1 R.atoms.length f1', .slice f2 R.ret.length f2', .bool R.count, .bool R.distinct, .bool R.limited, .int .i64 R.limit, .int .i64 R.offset, .slice f3 R.hint.length f3']
          generalize w15.alloc (.cells #[.slice f1 R.atoms.length f1', .slice f2 R.ret.length f2', .bool R.count, .bool R.distinct, .bool R.limited, .int .i64 R.limit, .int .i64 R.offset, .slice f3 R.hint.length f3'] 25) = w16 at *
          obtain ⟨y13, hyn⟩ : ∃ y, w15.heap.size = y := ⟨_, rfl⟩
          rw [hyn] at hra
          try simp only [hyn]
          clear hyn
          have HEy13 := Lib.hid hxa
          have HRy13 := Lib.hid hra
          clear hxa hra
          replace HX := Lib.hid (HX.out.trans HEy13.out)
          replace HQ := Lib.hid (HQ.out.ext HEy13.out)
          replace HR2 := Lib.hid (HR2.out.ext HEy13.out)
          replace HRy11 := Lib.hid (HRy11.out.ext HEy13.out)
          clear HEy13
          have HT2 := Lib.hid (Text_any _ R w16 HR2.out HQF.out (HW.out.ext HX.out))
          rw [HTF.out] at HT2
          dsimp only at HT2
          obtain ⟨d0, d1, d2, d3, d4, d5, d6, d7⟩ := row8_facts HRy13.out
          go_wp2_with fail
          refine HT2.out.mono ?_
          rintro e w17 ⟨rfl, hx17⟩
          replace HX := Lib.hid (HX.out.trans hx17)
          replace HQ := Lib.hid (HQ.out.ext hx17)
          replace HR2 := Lib.hid (HR2.out.ext hx17)
          replace HRy11 := Lib.hid (HRy11.out.ext hx17)
          replace HRy13 := Lib.hid (HRy13.out.ext hx17)
          clear d0 d1 d2 d3 d4 d5 d6 d7 hx17 HT2 HTF
          have HSM := Lib.hid (sameP_any _ _ R R w17 HR2.out HQ.out (by have := HQF.out.few; omega) (by have := HQF.out.few; omega))
          rw [same_self] at HSM
          obtain ⟨d0, d1, d2, d3, d4, d5, d6, d7⟩ := row8_facts HRy13.out
          obtain ⟨q0, q1, q2, q3, q4, q5, q6, q7⟩ := row8_facts HRy11.out
          go_wp2_with fail
          refine HSM.out.mono ?_
          rintro e w18 ⟨rfl, hx18⟩
          go_wp2
          go_ret
          exact ⟨by simp, HX.out.trans hx18⟩
    case neg =>
      have htf : textF B = (txt (textX B), 0) := by unfold textF; rw [if_pos hok, if_neg h5b]
      have HRT := Lib.hid (fun (R : Pat) (r : Except Int Pat) (n c : Int) (hr : ParsR (txt (textX B)) r) (h : PResIs (txt (textX B)) r R n c) => read_text hok h5b hr h)
      have hsz : (txt (textX B)).size ≤ 500 := by rw [txt_size]; omega
      rw [htf]
      obtain ⟨T, hT⟩ : ∃ t, txt (textX B) = t := ⟨_, rfl⟩
      rw [hT] at HRT hsz ⊢
      clear hok h5b htf hT
      have HR := Lib.hid (parse_E T w5 (by omega))
      go_wp2_with fail
      refine HR.out.mono ?_
      rintro e w6 ⟨r, R, n, c, f1, f1', f2, f2', f3, f3', hr, hpr, rfl, hpa, hx6⟩
      obtain ⟨rfl, rfl, rfl⟩ := HRT.out R r n c hr hpr
      replace HX := Lib.hid (HX.out.trans hx6)
      replace HB := Lib.hid (HB.out.ext hx6)
      replace HRy5 := Lib.hid (HRy5.out.ext hx6)
      have HR2 := Lib.hid hpa
      clear hr hpr hpa hx6 HR HRT
      go_upto_region 7 with fail
      -- a pattern laid in a box: w6 the world, w7 the world behind, y8 the box's name, [.slice f1 R.atoms.length f1', .slice f2 R.ret.length f2', .bool R.count, .bool R.distinct, .bool R.limited, .int .i64 R.limit, .int .i64 R.offset, .slice f3 R.hint.length f3'] its cells. Facts: HEy8 (Ext), HRy8 (the row)
      have hxa := Ext.alloc w6 (.cells #[.slice f1 R.atoms.length f1', .slice f2 R.ret.length f2', .bool R.count, .bool R.distinct, .bool R.limited, .int .i64 R.limit, .int .i64 R.offset, .slice f3 R.hint.length f3'] 25)
      have hra := RowAt.new w6 25 [.slice f1 R.atoms.length f1', .slice f2 R.ret.length f2', .bool R.count, .bool R.distinct, .bool R.limited, .int .i64 R.limit, .int .i64 R.offset, .slice f3 R.hint.length f3']
      generalize w6.alloc (.cells #[.slice f1 R.atoms.length f1', .slice f2 R.ret.length f2', .bool R.count, .bool R.distinct, .bool R.limited, .int .i64 R.limit, .int .i64 R.offset, .slice f3 R.hint.length f3'] 25) = w7 at *
      obtain ⟨y8, hyn⟩ : ∃ y, w6.heap.size = y := ⟨_, rfl⟩
      rw [hyn] at hra
      try simp only [hyn]
      clear hyn
      have HEy8 := Lib.hid hxa
      have HRy8 := Lib.hid hra
      clear hxa hra
      replace HX := Lib.hid (HX.out.trans HEy8.out)
      replace HB := Lib.hid (HB.out.ext HEy8.out)
      replace HR2 := Lib.hid (HR2.out.ext HEy8.out)
      replace HRy5 := Lib.hid (HRy5.out.ext HEy8.out)
      clear HEy8
      have HSM := Lib.hid (sameP_any _ _ R R w7 HR2.out HB.out (by have := HBF.out.few; omega) (by have := HBF.out.few; omega))
      rw [same_self] at HSM
      obtain ⟨d0, d1, d2, d3, d4, d5, d6, d7⟩ := row8_facts HRy8.out
      obtain ⟨q0, q1, q2, q3, q4, q5, q6, q7⟩ := row8_facts HRy5.out
      go_wp2_with fail
      refine HSM.out.mono ?_
      rintro e wj ⟨rfl, hxj⟩
      replace HX := Lib.hid (HX.out.trans hxj)
      clear d0 d1 d2 d3 d4 d5 d6 d7 q0 q1 q2 q3 q4 q5 q6 q7 hxj HSM HB HR2 HRy5 HRy8 HBF
      have HR := Lib.hid (parse_E S wj (by have := HS6.out; omega))
      go_wp2_with fail
      refine HR.out.mono ?_
      rintro e w12 ⟨r, Q, n, c, k1, k1', k2, k2', k3, k3', hr, hpr, rfl, hpa, hx12⟩
      replace HX := Lib.hid (HX.out.trans hx12)
      have HQ := Lib.hid hpa
      clear hr hx12 hpa HR
      have hcc : c = 260 ∨ (c = 0 ∧ Q.okB = true) := by
        rcases hpr with ⟨_, _, h3, h4⟩ | ⟨_, _, h3⟩
        · exact .inr ⟨h3, h4⟩
        · exact .inl h3
      clear hpr
      go_upto_region 13 with fail
      -- a pattern laid in a box: w12 the world, w13 the world behind, y11 the box's name, [.slice k1 Q.atoms.length k1', .slice k2 Q.ret.length k2', .bool Q.count, .bool Q.distinct, .bool Q.limited, .int .i64 Q.limit, .int .i64 Q.offset, .slice k3 Q.hint.length k3'] its cells. Facts: HEy11 (Ext), HRy11 (the row)
      have hxa := Ext.alloc w12 (.cells #[.slice k1 Q.atoms.length k1', .slice k2 Q.ret.length k2', .bool Q.count, .bool Q.distinct, .bool Q.limited, .int .i64 Q.limit, .int .i64 Q.offset, .slice k3 Q.hint.length k3'] 25)
      have hra := RowAt.new w12 25 [.slice k1 Q.atoms.length k1', .slice k2 Q.ret.length k2', .bool Q.count, .bool Q.distinct, .bool Q.limited, .int .i64 Q.limit, .int .i64 Q.offset, .slice k3 Q.hint.length k3']
      generalize w12.alloc (.cells #[.slice k1 Q.atoms.length k1', .slice k2 Q.ret.length k2', .bool Q.count, .bool Q.distinct, .bool Q.limited, .int .i64 Q.limit, .int .i64 Q.offset, .slice k3 Q.hint.length k3'] 25) = w13 at *
      obtain ⟨y11, hyn⟩ : ∃ y, w12.heap.size = y := ⟨_, rfl⟩
      rw [hyn] at hra
      try simp only [hyn]
      clear hyn
      have HEy11 := Lib.hid hxa
      have HRy11 := Lib.hid hra
      clear hxa hra
      replace HX := Lib.hid (HX.out.trans HEy11.out)
      replace HQ := Lib.hid (HQ.out.ext HEy11.out)
      clear HEy11
      rcases hcc with rfl | ⟨rfl, hqok⟩
      case inl =>
        go_wp2_with fail
        go_ret
        exact ⟨rfl, HX.out⟩
      case inr =>
        have HQF := Lib.hid (okB_fitsP hqok)
        have HTQ := Lib.hid (Text_any _ Q w13 HQ.out HQF.out (HW.out.ext HX.out))
        obtain ⟨d0, d1, d2, d3, d4, d5, d6, d7⟩ := row8_facts HRy11.out
        by_cases h5 : 500 < (textX Q).length
        case pos =>
          have htf : textF Q = (nilB, 3) := by unfold textF; rw [if_pos hqok, if_pos h5]
          rw [htf] at HTQ
          dsimp only at HTQ
          clear htf hqok h5
          go_wp2_with fail
          refine HTQ.out.mono ?_
          rintro e w14 ⟨rfl, hx14⟩
          go_wp2_with fail
          go_ret
          exact ⟨rfl, HX.out.trans hx14⟩
        case neg =>
          have htf : textF Q = (txt (textX Q), 0) := by unfold textF; rw [if_pos hqok, if_neg h5]
          rw [htf] at HTQ
          dsimp only at HTQ
          have HRT := Lib.hid (fun (R : Pat) (r : Except Int Pat) (n c : Int) (hr : ParsR (txt (textX Q)) r) (h : PResIs (txt (textX Q)) r R n c) => read_text hqok h5 hr h)
          have hsz : (txt (textX Q)).size ≤ 500 := by rw [txt_size]; omega
          have HTF := Lib.hid htf
          clear hqok h5
          obtain ⟨T, hT⟩ : ∃ t, txt (textX Q) = t := ⟨_, rfl⟩
          rw [hT] at HTQ HRT hsz htf HTF
          clear hT htf
          go_wp2_with fail
          refine HTQ.out.mono ?_
          rintro e w14 ⟨rfl, hx14⟩
          replace HX := Lib.hid (HX.out.trans hx14)
          replace HQ := Lib.hid (HQ.out.ext hx14)
          replace HRy11 := Lib.hid (HRy11.out.ext hx14)
          clear d0 d1 d2 d3 d4 d5 d6 d7 hx14 HTQ
          have HR := Lib.hid (parse_E T w14 (by omega))
          go_wp2_with fail
          refine HR.out.mono ?_
          rintro e w15 ⟨r, R, n, c, f1, f1', f2, f2', f3, f3', hr, hpr, rfl, hpa, hx15⟩
          obtain ⟨rfl, rfl, rfl⟩ := HRT.out R r n c hr hpr
          replace HX := Lib.hid (HX.out.trans hx15)
          replace HQ := Lib.hid (HQ.out.ext hx15)
          replace HRy11 := Lib.hid (HRy11.out.ext hx15)
          have HR2 := Lib.hid hpa
          clear hr hpr hpa hx15 HR HRT
          go_upto_region 19 with fail
          -- a pattern laid in a box: w15 the world, w16 the world behind, y13 the box's name, [.slice f1 R.atoms.length f1', .slice f2 R.ret.length f2', .bool R.count, .bool R.distinct, .bool R.limited, .int .i64 R.limit, .int .i64 R.offset, .slice f3 R.hint.length f3'] its cells. Facts: HEy13 (Ext), HRy13 (the row)
          have hxa := Ext.alloc w15 (.cells #[.slice f1 R.atoms.length f1', .slice f2 R.ret.length f2', .bool R.count, .bool R.distinct, .bool R.limited, .int .i64 R.limit, .int .i64 R.offset, .slice f3 R.hint.length f3'] 25)
          have hra := RowAt.new w15 25 [.slice f1 R.atoms.length f1', .slice f2 R.ret.length f2', .bool R.count, .bool R.distinct, .bool R.limited, .int .i64 R.limit, .int .i64 R.offset, .slice f3 R.hint.length f3']
          generalize w15.alloc (.cells #[.slice f1 R.atoms.length f1', .slice f2 R.ret.length f2', .bool R.count, .bool R.distinct, .bool R.limited, .int .i64 R.limit, .int .i64 R.offset, .slice f3 R.hint.length f3'] 25) = w16 at *
          obtain ⟨y13, hyn⟩ : ∃ y, w15.heap.size = y := ⟨_, rfl⟩
          rw [hyn] at hra
          try simp only [hyn]
          clear hyn
          have HEy13 := Lib.hid hxa
          have HRy13 := Lib.hid hra
          clear hxa hra
          replace HX := Lib.hid (HX.out.trans HEy13.out)
          replace HQ := Lib.hid (HQ.out.ext HEy13.out)
          replace HR2 := Lib.hid (HR2.out.ext HEy13.out)
          replace HRy11 := Lib.hid (HRy11.out.ext HEy13.out)
          clear HEy13
          have HT2 := Lib.hid (Text_any _ R w16 HR2.out HQF.out (HW.out.ext HX.out))
          rw [HTF.out] at HT2
          dsimp only at HT2
          obtain ⟨d0, d1, d2, d3, d4, d5, d6, d7⟩ := row8_facts HRy13.out
          go_wp2_with fail
          refine HT2.out.mono ?_
          rintro e w17 ⟨rfl, hx17⟩
          replace HX := Lib.hid (HX.out.trans hx17)
          replace HQ := Lib.hid (HQ.out.ext hx17)
          replace HR2 := Lib.hid (HR2.out.ext hx17)
          replace HRy11 := Lib.hid (HRy11.out.ext hx17)
          replace HRy13 := Lib.hid (HRy13.out.ext hx17)
          clear d0 d1 d2 d3 d4 d5 d6 d7 hx17 HT2 HTF
          have HSM := Lib.hid (sameP_any _ _ R R w17 HR2.out HQ.out (by have := HQF.out.few; omega) (by have := HQF.out.few; omega))
          rw [same_self] at HSM
          obtain ⟨d0, d1, d2, d3, d4, d5, d6, d7⟩ := row8_facts HRy13.out
          obtain ⟨q0, q1, q2, q3, q4, q5, q6, q7⟩ := row8_facts HRy11.out
          go_wp2_with fail
          refine HSM.out.mono ?_
          rintro e w18 ⟨rfl, hx18⟩
          go_wp2
          go_ret
          exact ⟨by simp, HX.out.trans hx18⟩
end Go.Proofs.YthoneahamnmjlaaGreatDoor
