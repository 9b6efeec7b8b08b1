/- ParseEnds: the walk. -/
import Derived.Test.YtngnplghjaojhaaParL1
namespace Go.Proofs.Ytngnplghjaojhaa
set_option maxRecDepth 100000
set_option maxHeartbeats 2000000
set_option linter.unusedSimpArgs false
open Go.RowKit Go.Shelf Go.Sort
attribute [local go_sem] Oper.semAt_some wide_fn wide_depth
set_option linter.unusedVariables false
set_option maxRecDepth 100000 in
set_option maxHeartbeats 4000000 in
theorem pends_walk (s : ByteArray) (m : ByteArray) (w : World) (h0 : s.size ≤ 9223372036854775807) (h1 : m.size ≤ 9223372036854775807) :
    Calls Try.prog 7 #[.string s, .string m] w fun e w' => e = .returned (.bool true) ∧ Ext w w' := by
  have hmo : Try.prog.follows .mixedOrders = true := by kernel_rfl
  obtain ⟨k, S, hk, hS, hSk, hcut⟩ := cut_text s 400 400 rfl
  obtain ⟨j, M, hj, hM, hMj, hcut2⟩ := cut_text m 100 100 rfl
  have HRD := Lib.hid (fun w => read_E S w (by omega))
  have HRM := Lib.hid (fun w => read_E M w (by omega))
  clear hS hM hSk hMj h0 h1
  go_enter Try.func7, Try.ntmps7
  go_wp2_with fail
  refine (wakesP_any _).mono ?_
  rintro e w1 ⟨rfl, hx1⟩
  have HX1 := Lib.hid hx1
  clear hx1
  go_wp2_with fail
  refine (HRD.out w1).mono ?_
  rintro e w2 ⟨a1, c1, l, la, lc, hl, rfl, ht, hx2⟩
  have HL := Lib.hid hl
  have HT := Lib.hid ht
  have HX2 := Lib.hid (HX1.out.trans hx2)
  clear hl ht hx2 HX1 HRD hcut hk
  go_wp2_with fail
  refine (HRM.out w2).mono ?_
  rintro e w3 ⟨a2, c2, l2, la2, lc2, hl, rfl, ht, hx2⟩
  have HL2 := Lib.hid hl
  have HT2 := Lib.hid ht
  replace HT := Lib.hid (HT.out.ext hx2)
  have HX3 := Lib.hid (HX2.out.trans hx2)
  clear hl ht hx2 HX2 HRM hcut2 hj
  obtain ⟨e1, he1⟩ : ∃ b, (lc != 0) = b := ⟨_, rfl⟩
  obtain ⟨e2, he2⟩ : ∃ b, (lc2 != 0) = b := ⟨_, rfl⟩
  cases e1
  case true =>
    go_wp2_with fail
    go_ret
    exact ⟨rfl, HX3.out⟩
  cases e2
  case true =>
    go_wp2_with fail
    go_ret
    exact ⟨rfl, HX3.out⟩
  have HTK := Lib.hid (tokens_E HT.out (by have := HL.out.2.1; omega) (fun t ht => by have := (HL.out.2.2.1 t ht).1; omega))
  go_upto_region 7 with fail
  apply wp_region_lit
  refine wpList_plain rfl fun K1 hK1 => ?_
  go_simp
  refine hK1 _ _ ?_
  clear hK1 K1
  -- a call of parse.Tokens, its results into a box and slots: HTK the contract (hidden), w5 world behind, A suffix of the names, HX4 fact Ext's name
  refine wpList_plain rfl fun K1 hK1 => ?_
  go_simp
  refine HTK.out.mono ?_
  rintro e wAt ⟨rA, QA, nA, cA, pA, pA', qA, qA', sA, sA', hrA, hiA, rfl, hpA, hxA⟩
  have HRA := Lib.hid hrA
  have HIA := Lib.hid hiA
  have HPA := Lib.hid hpA
  clear hrA hiA hpA
  -- behind a call of Read: its results, the box of the pattern: wAt the world before, w5 the world behind, bA the box's name, [.slice pA QA.atoms.length pA', .slice qA QA.ret.length qA', .bool QA.count, .bool QA.distinct, .bool QA.limited, .int .i64 QA.limit, .int .i64 QA.offset, .slice sA QA.hint.length sA'] its cells
  go_simp
  refine hK1 _ _ ?_
  clear hK1 K1
  refine wpList_plain rfl fun K1 hK1 => ?_
  go_simp
  refine hK1 _ _ ?_
  clear hK1 K1
  refine wpList_plain rfl fun K1 hK1 => ?_
  go_simp
  refine hK1 _ _ ?_
  clear hK1 K1
  refine wpList_plain rfl fun K1 hK1 => ?_
  go_simp
  refine hK1 _ _ ?_
  clear hK1 K1
  refine wpList_plain rfl fun K1 hK1 => ?_
  go_simp
  refine hK1 _ _ ?_
  clear hK1 K1
  refine wpList_plain rfl fun K1 hK1 => ?_
  go_simp
  refine hK1 _ _ ?_
  clear hK1 K1
  have hxb := Ext.alloc wAt (.cells #[.slice none 0 0, .slice none 0 0, .bool false, .bool false, .bool false, .int .i64 0, .int .i64 0, .slice none 0 0] 26)
  have hnb : RowAt (wAt.alloc (.cells #[.slice none 0 0, .slice none 0 0, .bool false, .bool false, .bool false, .int .i64 0, .int .i64 0, .slice none 0 0] 26)) wAt.heap.size 26 [.slice none 0 0, .slice none 0 0, .bool false, .bool false, .bool false, .int .i64 0, .int .i64 0, .slice none 0 0] := RowAt.new _ _ _
  refine plain_store rfl _ _ _ rfl wAt.heap.size [.slice pA QA.atoms.length pA', .slice qA QA.ret.length qA', .bool QA.count, .bool QA.distinct, .bool QA.limited, .int .i64 QA.limit, .int .i64 QA.offset, .slice sA QA.hint.length sA'] rfl rfl hnb (by kernel_rfl) rfl (by simp [Value.oneCell']) ?_
  have hxs : Ext wAt ((wAt.alloc (.cells #[.slice none 0 0, .slice none 0 0, .bool false, .bool false, .bool false, .int .i64 0, .int .i64 0, .slice none 0 0] 26)).setRow wAt.heap.size ([.slice pA QA.atoms.length pA', .slice qA QA.ret.length qA', .bool QA.count, .bool QA.distinct, .bool QA.limited, .int .i64 QA.limit, .int .i64 QA.offset, .slice sA QA.hint.length sA']).toArray) := below_setRow hxb (Nat.le_refl _) _
  have HNbA := Lib.hid (hnb.setRow [.slice pA QA.atoms.length pA', .slice qA QA.ret.length qA', .bool QA.count, .bool QA.distinct, .bool QA.limited, .int .i64 QA.limit, .int .i64 QA.offset, .slice sA QA.hint.length sA'])
  have HEbA := Lib.hid hxs
  clear hxb hnb hxs
  generalize (wAt.alloc (.cells #[.slice none 0 0, .slice none 0 0, .bool false, .bool false, .bool false, .int .i64 0, .int .i64 0, .slice none 0 0] 26)).setRow wAt.heap.size ([.slice pA QA.atoms.length pA', .slice qA QA.ret.length qA', .bool QA.count, .bool QA.distinct, .bool QA.limited, .int .i64 QA.limit, .int .i64 QA.offset, .slice sA QA.hint.length sA']).toArray = w5 at *
  obtain ⟨bA, hbA⟩ : ∃ z, wAt.heap.size = z := ⟨_, rfl⟩
  rw [hbA] at HNbA
  simp only [hbA]
  clear hbA
  go_simp
  refine wpList_plain rfl fun K1 hK1 => ?_
  go_simp
  refine hK1 _ _ ?_
  clear hK1 K1
  refine wpList_plain rfl fun K1 hK1 => ?_
  go_simp
  refine hK1 _ _ ?_
  clear hK1 K1
  apply wpList_nil
  have HX4 := Lib.hid (hxA.trans HEbA.out)
  replace HPA := Lib.hid (HPA.out.ext HEbA.out)
  clear hxA HEbA
  obtain ⟨d0, d1, d2, d3, d4, d5, d6, d7⟩ := row8_facts HNbA.out
  have HX5 := Lib.hid (HX3.out.trans HX4.out)
  replace HT := Lib.hid (HT.out.ext HX4.out)
  replace HT2 := Lib.hid (HT2.out.ext HX4.out)
  clear HX3 HX4 HTK
  rcases HIA.out with ⟨rfl, rfl, rfl, hok⟩ | ⟨q, rfl, hq, rfl, rfl, rfl⟩
  · have HCK := Lib.hid (checkP_any _ QA w5 HPA.out (okB_fits hok))
    rw [show checkE QA = 0 from by unfold checkE; rw [if_pos hok]] at HCK
    clear hok HIA
    go_wp2_with fail
    refine HCK.out.mono ?_
    rintro e w6 ⟨rfl, hx6⟩
    have HX6 := Lib.hid (HX5.out.trans hx6)
    clear hx6
    go_wp2_with fail
    go_ret
    exact ⟨rfl, HX6.out⟩
  · rw [show zPat.atoms.length = 0 from rfl] at d0
    have HQ := Lib.hid hq
    have hd0 : decide ((q : Int) < 0) = false := decide_eq_false (by omega)
    have hd1 : decide ((l.length : Int) < (q : Int)) = false := decide_eq_false (by omega)
    clear hq HIA
    by_cases hql : q = l.length
    · have hb : ((q : Int) == (l.length : Int)) = true := by simp [hql]
      clear hql
      go_wp2_with fail
      go_ret
      exact ⟨rfl, HX5.out⟩
    · have hb : ((q : Int) == (l.length : Int)) = false := by simp; omega
      have HQL := Lib.hid (show q < l.length by have := HQ.out; omega)
      obtain ⟨q1, hq1⟩ : ∃ n : Nat, (q : Int) + 1 = (n : Int) := ⟨q + 1, by omega⟩
      have HQ1 := Lib.hid (show q1 = q + 1 by omega)
      have hcap := HT.out.shape
      obtain ⟨_, _, hce, hc1, _⟩ := hcap
      cases hce
      have hqc : q1 ≤ c1 := by have := HQL.out; omega
      have hqc0 : q ≤ c1 := by omega
      have hw1 : IntKind.i64.wrap (q1 : Int) = q1 := by rw [IntKind.wrap_i64]; have := HQL.out; have := HL.out.2.1; omega
      have hw0 : IntKind.i64.wrap (q : Int) = q := by rw [IntKind.wrap_i64]; have := HQL.out; have := HL.out.2.1; omega
      clear hql hc1
      have HX := Lib.hid (Ext.alloc w5 (.cells #[.slice a1 q1 c1, .slice a2 l2.length c2] 36))
      have hcc := concatTk_any (.slice (some ⟨w5.heap.size, 0, none⟩) 2 2) [(.slice a1 q1 c1, l.take q1), (.slice a2 l2.length c2, l2)] (w5.alloc (.cells #[.slice a1 q1 c1, .slice a2 l2.length c2] 36))
        (Sl.new w5 #[.slice a1 q1 c1, .slice a2 l2.length c2] 36 2 2 (Nat.le_refl _) (by unfold maxLen; omega))
        (BlocksTk.cons (toks_take (HT.out.ext HX.out) q1 (by have := HQL.out; have := HQ1.out; omega)) (BlocksTk.cons (HT2.out.ext HX.out) BlocksTk.nil))
        (by rw [totalTk_cons, totalTk_cons, totalTk_nil]; have := HL.out.2.1; have := HL2.out.2.1; rw [List.length_take]; omega)
      rw [show [((Value.slice a1 q1 c1), l.take q1), (Value.slice a2 l2.length c2, l2)].flatMap Prod.snd = l.take q1 ++ l2 from by simp] at hcc
      obtain ⟨T, hT⟩ : ∃ T, l.take q1 ++ l2 = T := ⟨_, rfl⟩
      rw [hT] at hcc
      have HTT := Lib.hid hT
      have HCC := Lib.hid hcc
      clear hcc hT
      go_upto_region 14 with fail
      apply wp_region_lit
      refine wpList_plain rfl fun K1 hK1 => ?_
      go_simp
      refine hK1 _ _ ?_
      clear hK1 K1
      refine wpList_plain rfl fun K1 hK1 => ?_
      go_simp
      refine hK1 _ _ ?_
      clear hK1 K1
      refine wpList_plain rfl fun K1 hK1 => ?_
      go_simp
      refine hK1 _ _ ?_
      clear hK1 K1
      refine wpList_plain rfl fun K1 hK1 => ?_
      go_simp
      refine hK1 _ _ ?_
      clear hK1 K1
      refine wpList_plain rfl fun K1 hK1 => ?_
      go_simp
      refine hK1 _ _ ?_
      clear hK1 K1
      refine wpList_plain rfl fun K1 hK1 => ?_
      go_simp
      refine hK1 _ _ ?_
      clear hK1 K1
      refine wpList_plain rfl fun K1 hK1 => ?_
      go_simp
      refine HCC.out.mono ?_
      rintro e w6 ⟨u, rfl, ho, hx6⟩
      obtain ⟨a3, c3, rfl⟩ := own_vw ho
      have hx7 := HX.out.trans hx6
      have HX6 := Lib.hid (HX5.out.trans hx7)
      have HTK := Lib.hid (tokens_E (show Toks w6 (.slice a3 T.length c3) T from Sl.of_own ho)
        (by rw [← HTT.out, List.length_append, List.length_take]; have := HL.out.2.1; have := HL2.out.2.1; omega)
        (fun t ht => by
          rw [← HTT.out] at ht
          rcases List.mem_append.1 ht with h | h
          · have := (HL.out.2.2.1 t (List.mem_of_mem_take h)).1; omega
          · have := (HL2.out.2.2.1 t h).1; omega))
      replace HT := Lib.hid (HT.out.ext hx7)
      clear ho hx6 hx7 HX HX5 HCC d0 d1 d2 d3 d4 d5 d6 d7
      go_simp
      refine hK1 _ _ ?_
      clear hK1 K1
      -- a call of parse.Tokens, its results into a box and slots: HTK the contract (hidden), w7 world behind, B suffix of the names, HX7 fact Ext's name
      refine wpList_plain rfl fun K1 hK1 => ?_
      go_simp
      refine HTK.out.mono ?_
      rintro e wBt ⟨rB, QB, nB, cB, pB, pB', qB, qB', sB, sB', hrB, hiB, rfl, hpB, hxB⟩
      have HRB := Lib.hid hrB
      have HIB := Lib.hid hiB
      have HPB := Lib.hid hpB
      clear hrB hiB hpB
      -- behind a call of Read: its results, the box of the pattern: wBt the world before, w7 the world behind, bB the box's name, [.slice pB QB.atoms.length pB', .slice qB QB.ret.length qB', .bool QB.count, .bool QB.distinct, .bool QB.limited, .int .i64 QB.limit, .int .i64 QB.offset, .slice sB QB.hint.length sB'] its cells
      go_simp
      refine hK1 _ _ ?_
      clear hK1 K1
      refine wpList_plain rfl fun K1 hK1 => ?_
      go_simp
      refine hK1 _ _ ?_
      clear hK1 K1
      refine wpList_plain rfl fun K1 hK1 => ?_
      go_simp
      refine hK1 _ _ ?_
      clear hK1 K1
      refine wpList_plain rfl fun K1 hK1 => ?_
      go_simp
      refine hK1 _ _ ?_
      clear hK1 K1
      refine wpList_plain rfl fun K1 hK1 => ?_
      go_simp
      refine hK1 _ _ ?_
      clear hK1 K1
      refine wpList_plain rfl fun K1 hK1 => ?_
      go_simp
      refine hK1 _ _ ?_
      clear hK1 K1
      have hxb := Ext.alloc wBt (.cells #[.slice none 0 0, .slice none 0 0, .bool false, .bool false, .bool false, .int .i64 0, .int .i64 0, .slice none 0 0] 26)
      have hnb : RowAt (wBt.alloc (.cells #[.slice none 0 0, .slice none 0 0, .bool false, .bool false, .bool false, .int .i64 0, .int .i64 0, .slice none 0 0] 26)) wBt.heap.size 26 [.slice none 0 0, .slice none 0 0, .bool false, .bool false, .bool false, .int .i64 0, .int .i64 0, .slice none 0 0] := RowAt.new _ _ _
      refine plain_store rfl _ _ _ rfl wBt.heap.size [.slice pB QB.atoms.length pB', .slice qB QB.ret.length qB', .bool QB.count, .bool QB.distinct, .bool QB.limited, .int .i64 QB.limit, .int .i64 QB.offset, .slice sB QB.hint.length sB'] rfl rfl hnb (by kernel_rfl) rfl (by simp [Value.oneCell']) ?_
      have hxs : Ext wBt ((wBt.alloc (.cells #[.slice none 0 0, .slice none 0 0, .bool false, .bool false, .bool false, .int .i64 0, .int .i64 0, .slice none 0 0] 26)).setRow wBt.heap.size ([.slice pB QB.atoms.length pB', .slice qB QB.ret.length qB', .bool QB.count, .bool QB.distinct, .bool QB.limited, .int .i64 QB.limit, .int .i64 QB.offset, .slice sB QB.hint.length sB']).toArray) := below_setRow hxb (Nat.le_refl _) _
      have HNbB := Lib.hid (hnb.setRow [.slice pB QB.atoms.length pB', .slice qB QB.ret.length qB', .bool QB.count, .bool QB.distinct, .bool QB.limited, .int .i64 QB.limit, .int .i64 QB.offset, .slice sB QB.hint.length sB'])
      have HEbB := Lib.hid hxs
      clear hxb hnb hxs
      generalize (wBt.alloc (.cells #[.slice none 0 0, .slice none 0 0, .bool false, .bool false, .bool false, .int .i64 0, .int .i64 0, .slice none 0 0] 26)).setRow wBt.heap.size ([.slice pB QB.atoms.length pB', .slice qB QB.ret.length qB', .bool QB.count, .bool QB.distinct, .bool QB.limited, .int .i64 QB.limit, .int .i64 QB.offset, .slice sB QB.hint.length sB']).toArray = w7 at *
      obtain ⟨bB, hbB⟩ : ∃ z, wBt.heap.size = z := ⟨_, rfl⟩
      rw [hbB] at HNbB
      simp only [hbB]
      clear hbB
      go_simp
      refine wpList_plain rfl fun K1 hK1 => ?_
      go_simp
      refine hK1 _ _ ?_
      clear hK1 K1
      refine wpList_plain rfl fun K1 hK1 => ?_
      go_simp
      refine hK1 _ _ ?_
      clear hK1 K1
      apply wpList_nil
      have HX7 := Lib.hid (hxB.trans HEbB.out)
      replace HPB := Lib.hid (HPB.out.ext HEbB.out)
      clear hxB HEbB
      replace HT := Lib.hid (HT.out.ext HX7.out)
      have HX8 := Lib.hid (HX6.out.trans HX7.out)
      clear HX6 HX7 HTK
      have HTK := Lib.hid (tokens_E (toks_take HT.out q (by have := HQL.out; omega))
        (by rw [List.length_take]; have := HL.out.2.1; omega)
        (fun t ht => by have := (HL.out.2.2.1 t (List.mem_of_mem_take ht)).1; omega))
      go_upto_region 15 with fail
      apply wp_region_lit
      refine wpList_plain rfl fun K1 hK1 => ?_
      go_simp
      refine hK1 _ _ ?_
      clear hK1 K1
      refine wpList_plain rfl fun K1 hK1 => ?_
      go_simp
      refine hK1 _ _ ?_
      clear hK1 K1
      refine wpList_plain rfl fun K1 hK1 => ?_
      go_simp
      refine hK1 _ _ ?_
      clear hK1 K1
      -- a call of parse.Tokens, its results into a box and slots: HTK the contract (hidden), w8 world behind, C suffix of the names, HX9 fact Ext's name
      refine wpList_plain rfl fun K1 hK1 => ?_
      go_simp
      refine HTK.out.mono ?_
      rintro e wCt ⟨rC, QC, nC, cC, pC, pC', qC, qC', sC, sC', hrC, hiC, rfl, hpC, hxC⟩
      have HRC := Lib.hid hrC
      have HIC := Lib.hid hiC
      have HPC := Lib.hid hpC
      clear hrC hiC hpC
      -- behind a call of Read: its results, the box of the pattern: wCt the world before, w8 the world behind, bC the box's name, [.slice pC QC.atoms.length pC', .slice qC QC.ret.length qC', .bool QC.count, .bool QC.distinct, .bool QC.limited, .int .i64 QC.limit, .int .i64 QC.offset, .slice sC QC.hint.length sC'] its cells
      go_simp
      refine hK1 _ _ ?_
      clear hK1 K1
      refine wpList_plain rfl fun K1 hK1 => ?_
      go_simp
      refine hK1 _ _ ?_
      clear hK1 K1
      refine wpList_plain rfl fun K1 hK1 => ?_
      go_simp
      refine hK1 _ _ ?_
      clear hK1 K1
      refine wpList_plain rfl fun K1 hK1 => ?_
      go_simp
      refine hK1 _ _ ?_
      clear hK1 K1
      refine wpList_plain rfl fun K1 hK1 => ?_
      go_simp
      refine hK1 _ _ ?_
      clear hK1 K1
      refine wpList_plain rfl fun K1 hK1 => ?_
      go_simp
      refine hK1 _ _ ?_
      clear hK1 K1
      have hxb := Ext.alloc wCt (.cells #[.slice none 0 0, .slice none 0 0, .bool false, .bool false, .bool false, .int .i64 0, .int .i64 0, .slice none 0 0] 26)
      have hnb : RowAt (wCt.alloc (.cells #[.slice none 0 0, .slice none 0 0, .bool false, .bool false, .bool false, .int .i64 0, .int .i64 0, .slice none 0 0] 26)) wCt.heap.size 26 [.slice none 0 0, .slice none 0 0, .bool false, .bool false, .bool false, .int .i64 0, .int .i64 0, .slice none 0 0] := RowAt.new _ _ _
      refine plain_store rfl _ _ _ rfl wCt.heap.size [.slice pC QC.atoms.length pC', .slice qC QC.ret.length qC', .bool QC.count, .bool QC.distinct, .bool QC.limited, .int .i64 QC.limit, .int .i64 QC.offset, .slice sC QC.hint.length sC'] rfl rfl hnb (by kernel_rfl) rfl (by simp [Value.oneCell']) ?_
      have hxs : Ext wCt ((wCt.alloc (.cells #[.slice none 0 0, .slice none 0 0, .bool false, .bool false, .bool false, .int .i64 0, .int .i64 0, .slice none 0 0] 26)).setRow wCt.heap.size ([.slice pC QC.atoms.length pC', .slice qC QC.ret.length qC', .bool QC.count, .bool QC.distinct, .bool QC.limited, .int .i64 QC.limit, .int .i64 QC.offset, .slice sC QC.hint.length sC']).toArray) := below_setRow hxb (Nat.le_refl _) _
      have HNbC := Lib.hid (hnb.setRow [.slice pC QC.atoms.length pC', .slice qC QC.ret.length qC', .bool QC.count, .bool QC.distinct, .bool QC.limited, .int .i64 QC.limit, .int .i64 QC.offset, .slice sC QC.hint.length sC'])
      have HEbC := Lib.hid hxs
      clear hxb hnb hxs
      generalize (wCt.alloc (.cells #[.slice none 0 0, .slice none 0 0, .bool false, .bool false, .bool false, .int .i64 0, .int .i64 0, .slice none 0 0] 26)).setRow wCt.heap.size ([.slice pC QC.atoms.length pC', .slice qC QC.ret.length qC', .bool QC.count, .bool QC.distinct, .bool QC.limited, .int .i64 QC.limit, .int .i64 QC.offset, .slice sC QC.hint.length sC']).toArray = w8 at *
      obtain ⟨bC, hbC⟩ : ∃ z, wCt.heap.size = z := ⟨_, rfl⟩
      rw [hbC] at HNbC
      simp only [hbC]
      clear hbC
      go_simp
      refine wpList_plain rfl fun K1 hK1 => ?_
      go_simp
      refine hK1 _ _ ?_
      clear hK1 K1
      refine wpList_plain rfl fun K1 hK1 => ?_
      go_simp
      refine hK1 _ _ ?_
      clear hK1 K1
      apply wpList_nil
      have HX9 := Lib.hid (hxC.trans HEbC.out)
      replace HPC := Lib.hid (HPC.out.ext HEbC.out)
      clear hxC HEbC
      have HX10 := Lib.hid (HX8.out.trans HX9.out)
      clear HX8 HX9 HTK
      have h1 : nB = (q : Int) ∧ cB = 260 := by
        have hb := (HRA.out.behind (more := l2) HQL.out)
        rw [← HQ1.out, HTT.out] at hb
        have := hb.same HRB.out
        subst this
        rcases HIB.out with ⟨h, _⟩ | ⟨q', h, _, _, h1, h2⟩
        · cases h
        · cases h
          exact ⟨h1, h2⟩
      obtain ⟨rfl, rfl⟩ := h1
      have h2 : cC = 0 ∨ (nC = (q : Int) ∧ cC = 260) := by
        rcases HIC.out with ⟨_, _, h, _⟩ | ⟨q', h, _, _, h1, h2⟩
        · exact .inl h
        · subst h
          have := HRA.out.ahead HRC.out
          subst this
          exact .inr ⟨h1, h2⟩
      clear HIB HIC HRB HRC
      rcases h2 with rfl | ⟨rfl, rfl⟩
      · go_wp2_with fail
        go_ret
        exact ⟨rfl, HX10.out⟩
      · go_wp2_with fail
        go_ret
        exact ⟨rfl, HX10.out⟩
end Go.Proofs.Ytngnplghjaojhaa
