/- ParseBlanks: the walk. -/
import Derived.Test.YtngnplghjaojhaaParL2
namespace Go.Proofs.Ytngnplghjaojhaa
set_option maxRecDepth 100000
set_option maxHeartbeats 2000000
set_option linter.unusedSimpArgs false
open Go.RowKit Go.Shelf Go.Sort
attribute [local go_sem] Oper.semAt_some wide_fn wide_depth
set_option linter.unusedVariables false
/-- Shall a line feed stand there? -/
def sdB (seed : Int) (k : Nat) : Bool := (bits BinOp.and IntKind.i64 (seed / 2 ^ (k % 20)) 1 == 1)
theorem blT_drop (sd : Nat → Bool) (l : List Tk) (k : Nat) (hk : k < l.length) : blT sd (l.drop k) k = (if sd k = true then [10] else []) ++ (l[k].stands ++ ((if wordNext (l.drop (k + 1)) = true then [32] else []) ++ blT sd (l.drop (k + 1)) (k + 1))) := by
  rw [List.drop_eq_getElem_cons hk, blT]
theorem wordNext_yes {l : List Tk} {k : Nat} (hk : k < l.length) : wordNext (l.drop k) = (l[k].kind == 1) := by
  rw [List.drop_eq_getElem_cons hk]; rfl
theorem wordNext_no {l : List Tk} {k : Nat} (hk : ¬ k < l.length) : wordNext (l.drop k) = false := by
  rw [List.drop_eq_nil_of_le (by omega)]; rfl
set_option maxRecDepth 100000 in
set_option maxHeartbeats 4000000 in
theorem pblanks_walk (s : ByteArray) (seed : Int) (w : World) (h0 : s.size ≤ 9223372036854775807) (h1 : -9223372036854775808 ≤ seed ∧ seed ≤ 9223372036854775807) :
    Calls Try.prog 5 #[.string s, .int .i64 seed] w fun e w' => e = .returned (.bool true) ∧ Ext w w' := by
  have hmo : Try.prog.follows .mixedOrders = true := by kernel_rfl
  obtain ⟨k, S, hk, hS, hSk, hcut⟩ := cut_text s 150 150 rfl
  have HRP := Lib.hid (fun w => parse_E S w (by omega))
  have HRD := Lib.hid (fun w => read_E S w (by omega))
  have HSZ := Lib.hid hS
  have HSE := Lib.hid h1
  clear hS hSk h0 h1
  go_enter Try.func5, Try.ntmps5
  go_wp2_with fail
  refine (wakesP_any _).mono ?_
  rintro e w1 ⟨rfl, hx1⟩
  have HX1 := Lib.hid hx1
  clear hx1
  go_upto_region 4 with fail
  clear hcut hk
  have HTK := Lib.hid (HRP.out w1)
  apply wp_region_lit
  refine wpList_plain rfl fun K1 hK1 => ?_
  go_simp
  refine hK1 _ _ ?_
  clear hK1 K1
  -- a call of parse.Tokens, its results into a box and slots: HTK the contract (hidden), w5 world behind, A suffix of the names, HX4 fact Ext's name
  refine wpList_plain rfl fun K1 hK1 => ?_
  go_simp
  refine HTK.out.mono ?_
  rintro e wAt ⟨rA, QA, nA, cA, pA, pA', qA, qA', sA, sA', hrA, hiA, rfl, hpA, hxA⟩
  have HRA := Lib.hid hrA
  have HIA := Lib.hid hiA
  have HPA := Lib.hid hpA
  clear hrA hiA hpA
  -- behind a call of Read: its results, the box of the pattern: wAt the world before, w5 the world behind, bA the box's name, [.slice pA QA.atoms.length pA', .slice qA QA.ret.length qA', .bool QA.count, .bool QA.distinct, .bool QA.limited, .int .i64 QA.limit, .int .i64 QA.offset, .slice sA QA.hint.length sA'] its cells
  go_simp
  refine hK1 _ _ ?_
  clear hK1 K1
  refine wpList_plain rfl fun K1 hK1 => ?_
  go_simp
  refine hK1 _ _ ?_
  clear hK1 K1
  refine wpList_plain rfl fun K1 hK1 => ?_
  go_simp
  refine hK1 _ _ ?_
  clear hK1 K1
  refine wpList_plain rfl fun K1 hK1 => ?_
  go_simp
  refine hK1 _ _ ?_
  clear hK1 K1
  refine wpList_plain rfl fun K1 hK1 => ?_
  go_simp
  refine hK1 _ _ ?_
  clear hK1 K1
  refine wpList_plain rfl fun K1 hK1 => ?_
  go_simp
  refine hK1 _ _ ?_
  clear hK1 K1
  have hxb := Ext.alloc wAt (.cells #[.slice none 0 0, .slice none 0 0, .bool false, .bool false, .bool false, .int .i64 0, .int .i64 0, .slice none 0 0] 26)
  have hnb : RowAt (wAt.alloc (.cells #[.slice none 0 0, .slice none 0 0, .bool false, .bool false, .bool false, .int .i64 0, .int .i64 0, .slice none 0 0] 26)) wAt.heap.size 26 [.slice none 0 0, .slice none 0 0, .bool false, .bool false, .bool false, .int .i64 0, .int .i64 0, .slice none 0 0] := RowAt.new _ _ _
  refine plain_store rfl _ _ _ rfl wAt.heap.size [.slice pA QA.atoms.length pA', .slice qA QA.ret.length qA', .bool QA.count, .bool QA.distinct, .bool QA.limited, .int .i64 QA.limit, .int .i64 QA.offset, .slice sA QA.hint.length sA'] rfl rfl hnb (by kernel_rfl) rfl (by simp [Value.oneCell']) ?_
  have hxs : Ext wAt ((wAt.alloc (.cells #[.slice none 0 0, .slice none 0 0, .bool false, .bool false, .bool false, .int .i64 0, .int .i64 0, .slice none 0 0] 26)).setRow wAt.heap.size ([.slice pA QA.atoms.length pA', .slice qA QA.ret.length qA', .bool QA.count, .bool QA.distinct, .bool QA.limited, .int .i64 QA.limit, .int .i64 QA.offset, .slice sA QA.hint.length sA']).toArray) := below_setRow hxb (Nat.le_refl _) _
  have HNbA := Lib.hid (hnb.setRow [.slice pA QA.atoms.length pA', .slice qA QA.ret.length qA', .bool QA.count, .bool QA.distinct, .bool QA.limited, .int .i64 QA.limit, .int .i64 QA.offset, .slice sA QA.hint.length sA'])
  have HEbA := Lib.hid hxs
  clear hxb hnb hxs
  generalize (wAt.alloc (.cells #[.slice none 0 0, .slice none 0 0, .bool false, .bool false, .bool false, .int .i64 0, .int .i64 0, .slice none 0 0] 26)).setRow wAt.heap.size ([.slice pA QA.atoms.length pA', .slice qA QA.ret.length qA', .bool QA.count, .bool QA.distinct, .bool QA.limited, .int .i64 QA.limit, .int .i64 QA.offset, .slice sA QA.hint.length sA']).toArray = w5 at *
  obtain ⟨bA, hbA⟩ : ∃ z, wAt.heap.size = z := ⟨_, rfl⟩
  rw [hbA] at HNbA
  simp only [hbA]
  clear hbA
  go_simp
  refine wpList_plain rfl fun K1 hK1 => ?_
  go_simp
  refine hK1 _ _ ?_
  clear hK1 K1
  refine wpList_plain rfl fun K1 hK1 => ?_
  go_simp
  refine hK1 _ _ ?_
  clear hK1 K1
  apply wpList_nil
  have HX4 := Lib.hid (hxA.trans HEbA.out)
  replace HPA := Lib.hid (HPA.out.ext HEbA.out)
  clear hxA HEbA
  have HX5 := Lib.hid (HX1.out.trans HX4.out)
  clear HX1 HX4 HTK HRP
  obtain ⟨cb, hcb⟩ : ∃ b, (cA != 0) = b := ⟨_, rfl⟩
  cases cb
  case true =>
    obtain ⟨rfl, rfl, hn0, hn5⟩ := HIA.out.place HRA.out (by simpa using hcb) (by have := HSZ.out; omega)
    obtain ⟨d0, d1, d2, d3, d4, d5, d6, d7⟩ := row8_facts HNbA.out
    rw [show zPat.atoms.length = 0 from rfl] at d0
    have b0 : decide ((0 : Int) ≤ nA) = true := decide_eq_true hn0
    have b1 : decide (nA ≤ (500 : Int)) = true := decide_eq_true hn5
    clear hn0 hn5 HIA HPA hcb
    go_wp2_with fail
    go_ret
    exact ⟨rfl, HX5.out⟩
  case false =>
    have hc0 : cA = 0 := by simpa using hcb
    subst hc0
    clear hcb
    have hok : rA = .ok QA ∧ nA = S.size ∧ QA.okB = true := by
      rcases HIA.out with ⟨h1, h2, _, h3⟩ | ⟨_, _, h⟩
      · exact ⟨h1, h2, h3⟩
      · cases h
    obtain ⟨rfl, rfl, hok⟩ := hok
    have HOK := Lib.hid hok
    clear hok HIA
    have HRD5 := Lib.hid (HRD.out w5)
    clear HRD
    go_wp2_with fail
    refine HRD5.out.mono ?_
    rintro e w6 ⟨a1, c1, l, la, lc, hl, rfl, ht, hx6⟩
    have HT := Lib.hid ht
    have HL := Lib.hid hl
    have HX6 := Lib.hid (HX5.out.trans hx6)
    have HNB := Lib.hid (HNbA.out.ext hx6)
    have HPZ := Lib.hid (HPA.out.ext hx6)
    have hlc : lc = 0 := (ParsR.blanks hl HRA.out HSZ.out (fun _ => false)).1
    subst hlc
    have HLN := Lib.hid hl.2.1
    clear hl ht hx6 HX5 HRD5 HNbA HPA
    go_wp2_with fail
    have HXL := Lib.hid (Ext.refl w6)
    have HCK := Lib.hid (fun t ht => (HL.out.2.2.1 t ht).2)
    have HTS := Lib.hid (fun t ht => (HL.out.2.2.1 t ht).1)
    have HMO := Lib.hid HL.out.more.1
    go_loopg [11, 54] l.length (fun g s i wr => ∃ (k : Nat) (o : List UInt8), k ≤ l.length ∧ g = l.length - k ∧ i = .int .i64 k ∧ s = .string (txt o) ∧ o ++ blT (sdB seed) (l.drop k) k = blT (sdB seed) l 0 ∧ Ext w6 wr)
    case atStart => exact ⟨0, [], Nat.zero_le _, rfl, rfl, rfl, rfl, Ext.refl _⟩
    case round =>
      obtain ⟨k, o, hk, hg, rfl, rfl, hobk, hx⟩ := hrel
      have Hg := Lib.hid hg
      have HO := Lib.hid hobk
      have HXR := Lib.hid hx
      clear hg hobk
      by_cases hlt : k < l.length
      · obtain ⟨b, oo, rfl, c0, c1, c2⟩ := (HT.out.ext hx).at_ hlt
        have hbl := cell_lt c0
        have hts := HTS.out _ (List.getElem_mem hlt)
        have hck := HCK.out _ (List.getElem_mem hlt)
        have HK := Lib.hid (show k ≤ 500 by have := HLN.out; omega)
        generalize hTK : l[k] = t at *
        have HTK := Lib.hid hTK
        have hs := fun w => Stands_yes (t := t) w (by omega) hck
        unfold tkV at hs
        have HS := Lib.hid hs
        clear hs hck hx hTK
        go_wp2_with fail
        refine (HS.out _).mono ?_
        rintro e w8 ⟨rfl, hx8⟩
        replace HXR := Lib.hid (HXR.out.trans ((Ext.alloc _ _).trans hx8))
        have HBD := Lib.hid (blT_drop (sdB seed) l k hlt)
        rw [HTK.out] at HBD
        obtain ⟨k1, hk1⟩ : ∃ n, k + 1 = n := ⟨_, rfl⟩
        rw [hk1] at HBD
        have hw1 : wrap64 ((k : Int) + 1) = (k1 : Int) := by have := HK.out; unfold wrap64; omega
        have hol : o.length ≤ (blT (sdB seed) l 0).length := by rw [← HO.out, List.length_append]; omega
        have hbl0 := blT_len (sdB seed) l 0
        have hos : (txt o).size = o.length := txt_size o
        have hos1 : (txt o).size ≤ 1000 := by have := HMO.out; have := HSZ.out; omega
        have hss : (txt t.stands).size = t.stands.length := txt_size _
        have hsz := stands_size (t := t) (by omega)
        have hss2 : (txt t.stands).size ≤ 1003 := by omega
        obtain ⟨sb, hsb⟩ : ∃ b, (bits BinOp.and IntKind.i64 (seed / 2 ^ (k % 20)) 1 == 1) = b := ⟨_, rfl⟩
        have HSB := Lib.hid (show sdB seed k = sb from hsb)
        have HK1 := Lib.hid hk1
        clear hol hbl0 hos hss hsz hx8 c0 c1 c2 hts hk1
        by_cases hn : k1 < l.length
        · obtain ⟨b', oo', e, c0, _, _⟩ := (HT.out.ext HXR.out).at_ hn
          cases e
          obtain ⟨wb, hwb⟩ : ∃ b, (l[k1].kind == 1) = b := ⟨_, rfl⟩
          have HW := Lib.hid (wordNext_yes hn)
          rw [hwb] at HW
          generalize l[k1] = t2 at *
          have HF : Hid ((o ++ ((if sb = true then [10] else []) ++ (t.stands ++ (if wb = true then [32] else [])))) ++ blT (sdB seed) (l.drop k1) k1 = blT (sdB seed) l 0) := Lib.hid (by
            rw [← HO.out, HBD.out, HSB.out, HW.out]; simp only [List.append_assoc])
          cases sb <;> cases wb
          all_goals
            go_wp2_with fail
            go_roundg (l.length - k1)
            case measure => have := Hg.out; have := HK1.out; omega
            case rel => exact ⟨k1, _, by have := HK1.out; omega, rfl, by first | rfl | go_num, by rw [Value.string.injEq]; apply bts_inj; simp only [bts_append, bts_txt, List.append_assoc, if_true, if_false, Bool.false_eq_true, List.nil_append, List.append_nil] <;> rfl, HF.out, HXR.out⟩
        · have HW := Lib.hid (wordNext_no hn)
          have HF : Hid ((o ++ ((if sb = true then [10] else []) ++ t.stands)) ++ blT (sdB seed) (l.drop k1) k1 = blT (sdB seed) l 0) := Lib.hid (by
            rw [← HO.out, HBD.out, HSB.out, HW.out]; simp only [List.append_assoc, Bool.false_eq_true, if_false, List.nil_append])
          cases sb
          all_goals
            go_wp2_with fail
            go_roundg (l.length - k1)
            case measure => have := Hg.out; have := HK1.out; omega
            case rel => exact ⟨k1, _, by have := HK1.out; omega, rfl, by first | rfl | go_num, by rw [Value.string.injEq]; apply bts_inj; simp only [bts_append, bts_txt, List.append_assoc, if_true, if_false, Bool.false_eq_true, List.nil_append, List.append_nil] <;> rfl, HF.out, HXR.out⟩
      · have hob := HO.out
        rw [List.drop_eq_nil_of_le (by omega), blT, List.append_nil] at hob
        subst hob
        obtain ⟨_, _, h5, hpr⟩ := ParsR.blanks HL.out HRA.out HSZ.out (sdB seed)
        obtain ⟨T, hT⟩ : ∃ T, txt (blT (sdB seed) l 0) = T := ⟨_, rfl⟩
        have hTs : T.size ≤ 500 := by rw [← hT, txt_size]; exact h5
        rw [hT] at hpr ⊢
        have HPR := Lib.hid hpr
        have HTK := Lib.hid (parse_E T wr (by omega))
        have HX7 := Lib.hid (HX6.out.trans hx)
        have HN7 := Lib.hid (HNB.out.ext hx)
        have HP7 := Lib.hid (HPZ.out.ext hx)
        clear hpr hT h5 hTs HO HXR hx Hg hk
        go_upto_region 21 with fail
        apply wp_region_lit
        refine wpList_plain rfl fun K1 hK1 => ?_
        go_simp
        refine hK1 _ _ ?_
        clear hK1 K1
        -- a call of parse.Tokens, its results into a box and slots: HTK the contract (hidden), w9 world behind, B suffix of the names, HX9 fact Ext's name
        refine wpList_plain rfl fun K1 hK1 => ?_
        go_simp
        refine HTK.out.mono ?_
        rintro e wBt ⟨rB, QB, nB, cB, pB, pB', qB, qB', sB, sB', hrB, hiB, rfl, hpB, hxB⟩
        have HRB := Lib.hid hrB
        have HIB := Lib.hid hiB
        have HPB := Lib.hid hpB
        clear hrB hiB hpB
        -- behind a call of Read: its results, the box of the pattern: wBt the world before, w9 the world behind, bB the box's name, [.slice pB QB.atoms.length pB', .slice qB QB.ret.length qB', .bool QB.count, .bool QB.distinct, .bool QB.limited, .int .i64 QB.limit, .int .i64 QB.offset, .slice sB QB.hint.length sB'] its cells
        go_simp
        refine hK1 _ _ ?_
        clear hK1 K1
        refine wpList_plain rfl fun K1 hK1 => ?_
        go_simp
        refine hK1 _ _ ?_
        clear hK1 K1
        refine wpList_plain rfl fun K1 hK1 => ?_
        go_simp
        refine hK1 _ _ ?_
        clear hK1 K1
        refine wpList_plain rfl fun K1 hK1 => ?_
        go_simp
        refine hK1 _ _ ?_
        clear hK1 K1
        refine wpList_plain rfl fun K1 hK1 => ?_
        go_simp
        refine hK1 _ _ ?_
        clear hK1 K1
        refine wpList_plain rfl fun K1 hK1 => ?_
        go_simp
        refine hK1 _ _ ?_
        clear hK1 K1
        have hxb := Ext.alloc wBt (.cells #[.slice none 0 0, .slice none 0 0, .bool false, .bool false, .bool false, .int .i64 0, .int .i64 0, .slice none 0 0] 26)
        have hnb : RowAt (wBt.alloc (.cells #[.slice none 0 0, .slice none 0 0, .bool false, .bool false, .bool false, .int .i64 0, .int .i64 0, .slice none 0 0] 26)) wBt.heap.size 26 [.slice none 0 0, .slice none 0 0, .bool false, .bool false, .bool false, .int .i64 0, .int .i64 0, .slice none 0 0] := RowAt.new _ _ _
        refine plain_store rfl _ _ _ rfl wBt.heap.size [.slice pB QB.atoms.length pB', .slice qB QB.ret.length qB', .bool QB.count, .bool QB.distinct, .bool QB.limited, .int .i64 QB.limit, .int .i64 QB.offset, .slice sB QB.hint.length sB'] rfl rfl hnb (by kernel_rfl) rfl (by simp [Value.oneCell']) ?_
        have hxs : Ext wBt ((wBt.alloc (.cells #[.slice none 0 0, .slice none 0 0, .bool false, .bool false, .bool false, .int .i64 0, .int .i64 0, .slice none 0 0] 26)).setRow wBt.heap.size ([.slice pB QB.atoms.length pB', .slice qB QB.ret.length qB', .bool QB.count, .bool QB.distinct, .bool QB.limited, .int .i64 QB.limit, .int .i64 QB.offset, .slice sB QB.hint.length sB']).toArray) := below_setRow hxb (Nat.le_refl _) _
        have HNbB := Lib.hid (hnb.setRow [.slice pB QB.atoms.length pB', .slice qB QB.ret.length qB', .bool QB.count, .bool QB.distinct, .bool QB.limited, .int .i64 QB.limit, .int .i64 QB.offset, .slice sB QB.hint.length sB'])
        have HEbB := Lib.hid hxs
        clear hxb hnb hxs
        generalize (wBt.alloc (.cells #[.slice none 0 0, .slice none 0 0, .bool false, .bool false, .bool false, .int .i64 0, .int .i64 0, .slice none 0 0] 26)).setRow wBt.heap.size ([.slice pB QB.atoms.length pB', .slice qB QB.ret.length qB', .bool QB.count, .bool QB.distinct, .bool QB.limited, .int .i64 QB.limit, .int .i64 QB.offset, .slice sB QB.hint.length sB']).toArray = w9 at *
        obtain ⟨bB, hbB⟩ : ∃ z, wBt.heap.size = z := ⟨_, rfl⟩
        rw [hbB] at HNbB
        simp only [hbB]
        clear hbB
        go_simp
        refine wpList_plain rfl fun K1 hK1 => ?_
        go_simp
        refine hK1 _ _ ?_
        clear hK1 K1
        refine wpList_plain rfl fun K1 hK1 => ?_
        go_simp
        refine hK1 _ _ ?_
        clear hK1 K1
        apply wpList_nil
        have HX9 := Lib.hid (hxB.trans HEbB.out)
        replace HPB := Lib.hid (HPB.out.ext HEbB.out)
        clear hxB HEbB
        have HX10 := Lib.hid (HX7.out.trans HX9.out)
        have HN8 := Lib.hid (HN7.out.ext HX9.out)
        have HP8 := Lib.hid (HP7.out.ext HX9.out)
        have he : QB = QA ∧ nB = T.size ∧ cB = 0 := by
          have := HRB.out.same HPR.out
          subst this
          rcases HIB.out with ⟨h1, h2, h3, _⟩ | ⟨h, _⟩
          · cases h1; exact ⟨rfl, h2, h3⟩
          · cases h
        obtain ⟨rfl, rfl, rfl⟩ := he
        have HSM := Lib.hid (sameP_any _ _ QB QB w9 HP8.out HPB.out (by have := okB_few HOK.out; omega) (by have := okB_few HOK.out; omega))
        rw [(sameB_iff QB QB).2 rfl] at HSM
        have HCH := Lib.hid (fun w' (hx : Ext w9 w') => checkP_any _ QB w' (HP8.out.ext hx) (okB_fits HOK.out))
        rw [show checkE QB = 0 from by unfold checkE; rw [if_pos HOK.out]] at HCH
        obtain ⟨d0, d1, d2, d3, d4, d5, d6, d7⟩ := row8_facts HN8.out
        obtain ⟨e0, e1, e2, e3, e4, e5, e6, e7⟩ := row8_facts HNbB.out
        clear HX7 HX9 HIB HRB HTK HPR
        go_wp2_with fail
        refine HSM.out.mono ?_
        rintro e w10 ⟨rfl, hx10⟩
        have HC2 := Lib.hid (HCH.out w10 hx10)
        have HX11 := Lib.hid (HX10.out.trans hx10)
        clear d0 d1 d2 d3 d4 d5 d6 d7
        obtain ⟨d0, d1, d2, d3, d4, d5, d6, d7⟩ := row8_facts (HN8.out.ext hx10)
        clear hx10 e0 e1 e2 e3 e4 e5 e6 e7
        go_wp2_with fail
        refine HC2.out.mono ?_
        rintro e w11 ⟨rfl, hx11⟩
        have HX12 := Lib.hid (HX11.out.trans hx11)
        clear hx11 d0 d1 d2 d3 d4 d5 d6 d7
        go_wp2_with fail
        go_ret
        exact ⟨rfl, HX12.out⟩
end Go.Proofs.Ytngnplghjaojhaa
