/- ParseGroups: the walk. -/
import Derived.Test.YtngnplghjaojhaaParLj
import Derived.Test.YtngnplghjaojhaaFork
namespace Go.Proofs.Ytngnplghjaojhaa
set_option maxRecDepth 100000
set_option maxHeartbeats 2000000
set_option linter.unusedSimpArgs false
open Go.RowKit Go.Shelf Go.Sort
attribute [local go_sem] Oper.semAt_some wide_fn wide_depth
set_option linter.unusedVariables false
theorem elPr : ElT Try.prog 58 57 (.agg #[.int .i64 0, .int .i64 0]) 2 16 := ⟨Try.underlying58, ⟨_, rfl, by kernel_rfl, by kernel_rfl, by kernel_rfl⟩, rfl, by decide⟩
theorem nil_err : ToksR [] (.error 0) := ⟨.error 0, ItemsR.bad (ItemR.no (st := ⟨0, [], []⟩) (by decide)), rfl⟩
theorem isA_eq {l : List Tk} (hc : ∀ t ∈ l, t.check = true) {k : Nat} (h : k < l.length) : isA l k = (l[k].kind == 4 && (decide (k + 1 < l.length) && (l.getD (k + 1) tkNil).kind == 4)) := by
  unfold isA
  rw [kind_is hc h]
  by_cases h1 : k + 1 < l.length
  · rw [kind_is hc h1, decide_eq_true h1]; simp [List.getD, h1]
  · rw [kind_end h1, decide_eq_false h1]; simp
def groG26 : Nat → Gro
  | 2 => .read
  | 4 => .read
  | 5 => .grow
  | 8 => .read
  | 10 => .read
  | 12 => .read
  | 13 => .grow
  | 16 => .read
  | 18 => .grow
  | 19 => .grow
  | _ => .pure
def treeG26 : GroT := .pre [0, 1, 2, 3, 4, 6, 7, 8, 9, 10, 11, 12, 14, 15, 16, 17] (.fork 5 (.pre [13, 18, 19, 20] .nil) 13 (.pre [5, 18, 19, 20] .nil))
theorem toks_one {W : World} {z : Nat} {t : Tk} (h : RowAt W z 39 (tkCells t)) : Toks W (.slice (some ⟨z, 0, none⟩) 1 1) [t] :=
  ⟨_, 1, rfl, Nat.le_refl _, by first | decide | (unfold maxLen; omega), fun _ => ⟨z, 0, rfl, fun i u hu => by rw [Nat.zero_add]; exact h.cell (by simpa using hu)⟩⟩
/-- The five parts joined. -/
theorem concat5 {l : List Tk} {a b : Nat} {w : World} {p1 p2 p3 : Option Addr} {n1 k1 n2 k2 n3 k3 : Nat}
    (h : ∀ W, Ext w W → Toks W (.slice p1 n1 k1) (l.take a) ∧ Toks W (.slice p2 n2 k2) ((l.drop a).take (b - a)) ∧ Toks W (.slice p3 n3 k3) (l.drop b)) (hl : l.length ≤ 500) :
    ∀ (W : World) (z5 z13 g : Nat), Ext w W → RowAt W z5 39 [.int .i64 4, .string ⟨#[]⟩, .int .i64 0] → RowAt W z13 39 [.int .i64 5, .string ⟨#[]⟩, .int .i64 0] → W.heap.size = g →
      Calls Try.prog 27 #[.slice (some ⟨g, 0, none⟩) 5 5] (W.alloc (.cells #[.slice p1 n1 k1, .slice (some ⟨z5, 0, none⟩) 1 1, .slice p2 n2 k2, .slice (some ⟨z13, 0, none⟩) 1 1, .slice p3 n3 k3] 36))
        fun e w' => ∃ a1 c1, e = .returned (.slice a1 (ins l a b).length c1) ∧ Toks w' (.slice a1 (ins l a b).length c1) (ins l a b) ∧ Ext (W.alloc (.cells #[.slice p1 n1 k1, .slice (some ⟨z5, 0, none⟩) 1 1, .slice p2 n2 k2, .slice (some ⟨z13, 0, none⟩) 1 1, .slice p3 n3 k3] 36)) w' := by
  rintro W z5 z13 _ hx h5 h13 rfl
  have hxa := Ext.alloc W (.cells #[.slice p1 n1 k1, .slice (some ⟨z5, 0, none⟩) 1 1, .slice p2 n2 k2, .slice (some ⟨z13, 0, none⟩) 1 1, .slice p3 n3 k3] 36)
  obtain ⟨t1, t2, t3⟩ := h _ (hx.trans hxa)
  have o5 : Toks _ (.slice (some ⟨z5, 0, none⟩) 1 1) [opn] := toks_one (h5.ext hxa)
  have o13 : Toks _ (.slice (some ⟨z13, 0, none⟩) 1 1) [cls] := toks_one (h13.ext hxa)
  refine (concatTk_any _ [(.slice p1 n1 k1, l.take a), (.slice (some ⟨z5, 0, none⟩) 1 1, [opn]), (.slice p2 n2 k2, (l.drop a).take (b - a)), (.slice (some ⟨z13, 0, none⟩) 1 1, [cls]), (.slice p3 n3 k3, l.drop b)] _
    (Sl.new W #[.slice p1 n1 k1, .slice (some ⟨z5, 0, none⟩) 1 1, .slice p2 n2 k2, .slice (some ⟨z13, 0, none⟩) 1 1, .slice p3 n3 k3] 36 5 5 (Nat.le_refl _) (by unfold maxLen; omega))
    (.cons t1 (.cons o5 (.cons t2 (.cons o13 (.cons t3 .nil)))))
    (by simp only [totalTk_cons, totalTk_nil, List.length_take, List.length_drop, List.length_cons, List.length_nil]; omega)).mono ?_
  rintro e w' ⟨u, rfl, ho, hx'⟩
  have he : [((Value.slice p1 n1 k1), l.take a), (.slice (some ⟨z5, 0, none⟩) 1 1, [opn]), (.slice p2 n2 k2, (l.drop a).take (b - a)), (.slice (some ⟨z13, 0, none⟩) 1 1, [cls]), (.slice p3 n3 k3, l.drop b)].flatMap Prod.snd = ins l a b := by
    unfold ins; simp
  rw [he] at ho
  obtain ⟨a1, c1, rfl⟩ := own_vw ho
  exact ⟨a1, c1, rfl, Sl.of_own ho, hx'⟩
set_option maxRecDepth 100000 in
set_option maxHeartbeats 4000000 in
theorem pgroups_walk (s : ByteArray) (e0 e1 : Int) (w : World) (h0 : s.size ≤ 9223372036854775807) (h1 : -9223372036854775808 ≤ e0 ∧ e0 ≤ 9223372036854775807) :
    Calls Try.prog 8 #[.string s, .agg #[.int .i64 e0, .int .i64 e1]] w fun e w' => e = .returned (.bool true) ∧ Ext w w' := by
  have hmo : Try.prog.follows .mixedOrders = true := by kernel_rfl
  obtain ⟨k, S, hk, hS, hSk, hcut⟩ := cut_text s 400 400 rfl
  have HRD := Lib.hid (fun w => read_E S w (by omega))
  have HSZ := Lib.hid hS
  have HE0 := Lib.hid h1
  have hx0 := Ext.alloc w (.cells #[.int .i64 e0, .int .i64 e1] 57)
  have hb0 : RowAt (w.alloc (.cells #[.int .i64 e0, .int .i64 e1] 57)) w.heap.size 57 [.int .i64 e0, .int .i64 e1] := RowAt.new _ _ _
  have HX0 := Lib.hid hx0
  have HB0 := Lib.hid hb0
  clear hS hSk h0 h1 hx0 hb0
  go_enter Try.func8, Try.ntmps8
  go_upto_region 1 with fail
  generalize w.alloc (.cells #[.int .i64 e0, .int .i64 e1] 57) = wa at *
  obtain ⟨x0, hx0⟩ : ∃ x, w.heap.size = x := ⟨_, rfl⟩
  rw [hx0] at HB0
  simp only [hx0]
  clear hx0
  go_wp2_with fail
  refine (wakesP_any _).mono ?_
  rintro e w1 ⟨rfl, hx1⟩
  have HX1 := Lib.hid (HX0.out.trans hx1)
  have HB1 := Lib.hid (HB0.out.ext hx1)
  clear hx1 HX0 HB0
  have HRD1 := Lib.hid (HRD.out w1)
  clear HRD
  go_wp2_with fail
  refine HRD1.out.mono ?_
  rintro e w2 ⟨a1, c1, l, la, lc, hl, rfl, ht, hx2⟩
  have HL := Lib.hid hl
  have HT := Lib.hid ht
  have HX2 := Lib.hid (HX1.out.trans hx2)
  have HB2 := Lib.hid (HB1.out.ext hx2)
  clear hl ht hx2 HX1 HB1 HRD1 hcut hk
  have HTK := Lib.hid (tokens_E HT.out (by have := HL.out.2.1; omega) (fun t ht => by have := (HL.out.2.2.1 t ht).1; omega))
  go_upto_region 5 with fail
  apply wp_region_lit
  refine wpList_plain rfl fun K1 hK1 => ?_
  go_simp
  refine hK1 _ _ ?_
  clear hK1 K1
  -- a call of parse.Tokens, its results into a box and slots: HTK the contract (hidden), w5 world behind, A suffix of the names, HX4 fact Ext's name
  refine wpList_plain rfl fun K1 hK1 => ?_
  go_simp
  refine HTK.out.mono ?_
  rintro e wAt ⟨rA, QA, nA, cA, pA, pA', qA, qA', sA, sA', hrA, hiA, rfl, hpA, hxA⟩
  have HRA := Lib.hid hrA
  have HIA := Lib.hid hiA
  have HPA := Lib.hid hpA
  clear hrA hiA hpA
  -- behind a call of Read: its results, the box of the pattern: wAt the world before, w5 the world behind, bA the box's name, [.slice pA QA.atoms.length pA', .slice qA QA.ret.length qA', .bool QA.count, .bool QA.distinct, .bool QA.limited, .int .i64 QA.limit, .int .i64 QA.offset, .slice sA QA.hint.length sA'] its cells
  go_simp
  refine hK1 _ _ ?_
  clear hK1 K1
  refine wpList_plain rfl fun K1 hK1 => ?_
  go_simp
  refine hK1 _ _ ?_
  clear hK1 K1
  refine wpList_plain rfl fun K1 hK1 => ?_
  go_simp
  refine hK1 _ _ ?_
  clear hK1 K1
  refine wpList_plain rfl fun K1 hK1 => ?_
  go_simp
  refine hK1 _ _ ?_
  clear hK1 K1
  refine wpList_plain rfl fun K1 hK1 => ?_
  go_simp
  refine hK1 _ _ ?_
  clear hK1 K1
  refine wpList_plain rfl fun K1 hK1 => ?_
  go_simp
  refine hK1 _ _ ?_
  clear hK1 K1
  have hxb := Ext.alloc wAt (.cells #[.slice none 0 0, .slice none 0 0, .bool false, .bool false, .bool false, .int .i64 0, .int .i64 0, .slice none 0 0] 26)
  have hnb : RowAt (wAt.alloc (.cells #[.slice none 0 0, .slice none 0 0, .bool false, .bool false, .bool false, .int .i64 0, .int .i64 0, .slice none 0 0] 26)) wAt.heap.size 26 [.slice none 0 0, .slice none 0 0, .bool false, .bool false, .bool false, .int .i64 0, .int .i64 0, .slice none 0 0] := RowAt.new _ _ _
  refine plain_store rfl _ _ _ rfl wAt.heap.size [.slice pA QA.atoms.length pA', .slice qA QA.ret.length qA', .bool QA.count, .bool QA.distinct, .bool QA.limited, .int .i64 QA.limit, .int .i64 QA.offset, .slice sA QA.hint.length sA'] rfl rfl hnb (by kernel_rfl) rfl (by simp [Value.oneCell']) ?_
  have hxs : Ext wAt ((wAt.alloc (.cells #[.slice none 0 0, .slice none 0 0, .bool false, .bool false, .bool false, .int .i64 0, .int .i64 0, .slice none 0 0] 26)).setRow wAt.heap.size ([.slice pA QA.atoms.length pA', .slice qA QA.ret.length qA', .bool QA.count, .bool QA.distinct, .bool QA.limited, .int .i64 QA.limit, .int .i64 QA.offset, .slice sA QA.hint.length sA']).toArray) := below_setRow hxb (Nat.le_refl _) _
  have HNbA := Lib.hid (hnb.setRow [.slice pA QA.atoms.length pA', .slice qA QA.ret.length qA', .bool QA.count, .bool QA.distinct, .bool QA.limited, .int .i64 QA.limit, .int .i64 QA.offset, .slice sA QA.hint.length sA'])
  have HEbA := Lib.hid hxs
  clear hxb hnb hxs
  generalize (wAt.alloc (.cells #[.slice none 0 0, .slice none 0 0, .bool false, .bool false, .bool false, .int .i64 0, .int .i64 0, .slice none 0 0] 26)).setRow wAt.heap.size ([.slice pA QA.atoms.length pA', .slice qA QA.ret.length qA', .bool QA.count, .bool QA.distinct, .bool QA.limited, .int .i64 QA.limit, .int .i64 QA.offset, .slice sA QA.hint.length sA']).toArray = w5 at *
  obtain ⟨bA, hbA⟩ : ∃ z, wAt.heap.size = z := ⟨_, rfl⟩
  rw [hbA] at HNbA
  simp only [hbA]
  clear hbA
  go_simp
  refine wpList_plain rfl fun K1 hK1 => ?_
  go_simp
  refine hK1 _ _ ?_
  clear hK1 K1
  refine wpList_plain rfl fun K1 hK1 => ?_
  go_simp
  refine hK1 _ _ ?_
  clear hK1 K1
  apply wpList_nil
  have HX4 := Lib.hid (hxA.trans HEbA.out)
  replace HPA := Lib.hid (HPA.out.ext HEbA.out)
  clear hxA HEbA
  have HX5 := Lib.hid (HX2.out.trans HX4.out)
  have HT5 := Lib.hid (HT.out.ext HX4.out)
  have HB5 := Lib.hid (HB2.out.ext HX4.out)
  clear HX2 HX4 HTK HT HB2
  have hcase : ((lc != 0) = true ∧ QA = zPat) ∨ ((lc != 0) = false ∧ (cA != 0) = true ∧ QA = zPat) ∨ (lc = 0 ∧ cA = 0 ∧ rA = .ok QA ∧ QA.okB = true) := by
    rcases HL.out.2.2.2 with ⟨hc, rfl⟩ | ⟨hc, _, _⟩
    · refine .inl ⟨by simp [hc], ?_⟩
      have := HRA.out.same nil_err
      subst this
      rcases HIA.out with ⟨h, _⟩ | ⟨_, _, _, h, _⟩
      · cases h
      · exact h
    · rcases HIA.out with ⟨h, _, hc', hk⟩ | ⟨_, _, _, h, _, hc'⟩
      · exact .inr (.inr ⟨hc, hc', h, hk⟩)
      · exact .inr (.inl ⟨by simp [hc], by rw [hc']; decide, h⟩)
  have HC := Lib.hid hcase
  clear hcase
  rcases HC.out with ⟨hb, rfl⟩ | ⟨hb, hb2, rfl⟩ | ⟨rfl, rfl, rfl, hok⟩
  · obtain ⟨d0, d1, d2, d3, d4, d5, d6, d7⟩ := row8_facts HNbA.out
    rw [show zPat.atoms.length = 0 from rfl] at d0
    clear HC HIA HPA
    go_wp2_with fail
    go_ret
    exact ⟨rfl, HX5.out⟩
  · obtain ⟨d0, d1, d2, d3, d4, d5, d6, d7⟩ := row8_facts HNbA.out
    rw [show zPat.atoms.length = 0 from rfl] at d0
    clear HC HIA HPA
    go_wp2_with fail
    go_ret
    exact ⟨rfl, HX5.out⟩
  · have HOK := Lib.hid hok
    have HCK := Lib.hid (fun t ht => (HL.out.2.2.1 t ht).2)
    have HLN := Lib.hid HL.out.2.1
    have HCN := Lib.hid (ToksR.groups HCK.out HRA.out).1
    obtain ⟨E, hE⟩ := ends_of HCK.out HRA.out
    have HE := Lib.hid hE
    clear hok hE HC HIA
    go_wp2_with fail
    go_loopg [11, 12, 13, 55] l.length (fun g v dp gr i wr => ∃ k : Nat, k ≤ l.length ∧ g = l.length - k ∧ i = .int .i64 k ∧ dp = .int .i64 (cnt (isA l) 0 k) ∧ gr = .int .i64 (cnt (isA l) 0 k) ∧ wr.ownsRow w5.heap.size 57 2 v (prL l E k).length ((prL l E k).flatMap prCells) ∧ Ext w5 wr)
    case atStart => exact ⟨0, Nat.zero_le _, rfl, rfl, rfl, rfl, World.ownsRow_nil _ _ _ _, Ext.refl _⟩
    case round =>
      obtain ⟨k, hk, hg, rfl, rfl, rfl, hown, hx⟩ := hrel
      have Hg := Lib.hid hg
      have HO := Lib.hid hown
      have HXR := Lib.hid hx
      clear hg hown hx
      by_cases hlt : k < l.length
      · obtain ⟨b, oo, rfl, c0, c1', c2⟩ := (HT5.out.ext HXR.out).at_ hlt
        have hbl := cell_lt c0
        have HHT := Lib.hid (fun w' (hx : Ext wr w') (j : Nat) (hj : j < l.length) => show w'.cell? ⟨b, oo + j * 3, none⟩ = some (.int .i64 l[j].kind) from by
          obtain ⟨b', oo', e, c, _, _⟩ := (HT5.out.ext (HXR.out.trans hx)).at_ hj
          cases e
          exact c)
        have hxa := Ext.alloc wr (.cells #[.int .i64 l[k].kind, .string l[k].text, .int .i64 l[k].at_] 39)
        have hba : RowAt (wr.alloc (.cells #[.int .i64 l[k].kind, .string l[k].text, .int .i64 l[k].at_] 39)) wr.heap.size 39 [.int .i64 l[k].kind, .string l[k].text, .int .i64 l[k].at_] := RowAt.new _ _ _
        have HXA := Lib.hid hxa
        have HBA := Lib.hid hba
        have HIA := Lib.hid (isA_eq HCK.out hlt)
        have HLT := Lib.hid hlt
        have hk500 : k ≤ 500 := by have := HLN.out; omega
        have HKD := Lib.hid (kind_is HCK.out hlt)
        generalize hTK : l[k] = t at *
        have HTKK := Lib.hid hTK
        clear hxa hba hTK
        go_upto_region 13 with fail
        generalize wr.alloc (.cells #[.int .i64 t.kind, .string t.text, .int .i64 t.at_] 39) = wq at *
        obtain ⟨y, hy⟩ : ∃ y, wr.heap.size = y := ⟨_, rfl⟩
        rw [hy] at HBA
        simp only [hy]
        clear hy c0 c1' c2 hlt hbl
        have HHQ := Lib.hid (fun (j : Nat) (hj : j < l.length) => HHT.out wq HXA.out j hj)
        have d0 := HBA.out.cell (i := 0) rfl
        obtain ⟨k1, hk1⟩ : ∃ n, k + 1 = n := ⟨_, rfl⟩
        have hw1 : wrap64 ((k : Int) + 1) = (k1 : Int) := by unfold wrap64; omega
        have HK1 := Lib.hid hk1
        have HK5 := Lib.hid hk500
        rw [hk1] at HIA
        clear hk1 hk500
        go_cut [60] (fun s60 wx => s60 = .bool (isA l k) ∧ wx = wq)
        case first =>
          obtain ⟨b4, hb4⟩ : ∃ x, (t.kind == 4) = x := ⟨_, rfl⟩
          rw [hb4] at HIA
          cases b4
          case false =>
            go_wp2_with fail
            go_meet
            exact ⟨by rw [HIA.out]; rfl, rfl⟩
          case true =>
            by_cases hn : k1 < l.length
            · have c0 := HHQ.out k1 hn
              have hg : l.getD k1 tkNil = l[k1] := by simp [List.getD, hn]
              rw [hg, decide_eq_true hn] at HIA
              obtain ⟨bn, hbn⟩ : ∃ x, (l[k1].kind == 4) = x := ⟨_, rfl⟩
              rw [hbn] at HIA
              generalize l[k1] = t1 at *
              clear hg
              cases bn
              all_goals
                go_wp2_with fail
                go_meet
                exact ⟨by rw [HIA.out]; rfl, rfl⟩
            · rw [decide_eq_false hn] at HIA
              go_wp2_with fail
              go_meet
              exact ⟨by rw [HIA.out]; rfl, rfl⟩
        case rest =>
          obtain ⟨rfl, rfl⟩ := hcut
          have HDA := Lib.hid (show cnt (isA l) 0 k1 = cnt (isA l) 0 k + (if isA l k = true then 1 else 0) by rw [← HK1.out, cnt_add _ (Nat.zero_le k) (show k ≤ k + 1 by omega), cnt_one])
          have hD5 : cnt (isA l) 0 k ≤ 500 := by
            have : cnt (isA l) 0 k ≤ k := by unfold cnt; have := List.countP_le_length (p := isA l) (l := List.range' 0 (k - 0)); rw [List.length_range'] at this; omega
            have := HK5.out; omega
          obtain ⟨D, hD⟩ : ∃ D, cnt (isA l) 0 k = D := ⟨_, rfl⟩
          rw [hD] at HDA hD5 ⊢
          clear hD
          have HXW := Lib.hid (HXR.out.trans HXA.out)
          cases hA : isA l k
          case true =>
            obtain ⟨D1, hD1⟩ : ∃ n, D + 1 = n := ⟨_, rfl⟩
            have hw2 : wrap64 ((D : Int) + 1) = (D1 : Int) := by unfold wrap64; omega
            have hmx : max (D : Int) (D1 : Int) = (D1 : Int) := by omega
            have HD1 : Hid (cnt (isA l) 0 k1 = D1) := Lib.hid (by rw [HDA.out, hA, if_pos rfl, hD1])
            have hBk : isB l k = false := by unfold isB; rw [hA]; rfl
            have HOW := Lib.hid (own_ext HO.out HXA.out)
            have HPR : Hid (prL l E k1 = prL l E k) := Lib.hid (by rw [← HK1.out, prL_no hBk])
            clear hD1 hD5 hA hBk
            go_wp2_with fail
            go_roundg (l.length - k1)
            case measure => have := Hg.out; have := HK1.out; have := HLT.out; omega
            case rel => exact ⟨k1, by have := HK1.out; have := HLT.out; omega, rfl, by first | rfl | go_num, by first | rw [HD1.out, hw2] | rw [HD1.out], by rw [HD1.out], by rw [HPR.out]; exact HOW.out, HXW.out⟩
          case false =>
            have HD1 : Hid (cnt (isA l) 0 k1 = D) := Lib.hid (by rw [HDA.out, hA]; rfl)
            have HBK := Lib.hid (show isB l k = (t.kind == 4 && (k == 0 || kindAt l (k - 1) != 11)) by unfold isB; rw [hA, HKD.out]; rfl)
            have HOW := Lib.hid (own_ext HO.out HXA.out)
            clear hA hD5
            go_upto_region 16 with fail
            go_cut [85] (fun s85 wx => s85 = .bool (isB l k) ∧ wx = wc)
            case first =>
              obtain ⟨b4, hb4⟩ : ∃ x, (t.kind == 4) = x := ⟨_, rfl⟩
              rw [hb4] at HBK
              cases b4
              case false =>
                go_wp2_with fail
                go_meet
                exact ⟨by rw [HBK.out]; rfl, rfl⟩
              case true =>
                by_cases hz : k = 0
                · subst hz
                  go_wp2_with fail
                  go_meet
                  exact ⟨by rw [HBK.out]; rfl, rfl⟩
                · have hkz : ((k : Int) == 0) = false := by simp; omega
                  obtain ⟨k0, hk0⟩ : ∃ n, k - 1 = n := ⟨_, rfl⟩
                  have hw0 : wrap64 ((k : Int) - 1) = (k0 : Int) := by have := HK5.out; unfold wrap64; omega
                  have hk0l : k0 < l.length := by have := HLT.out; omega
                  have c0 := HHQ.out k0 hk0l
                  rw [hk0, kind_is HCK.out hk0l, show (k == 0) = false by simpa using hz] at HBK
                  obtain ⟨bn, hbn⟩ : ∃ x, (l[k0].kind != 11) = x := ⟨_, rfl⟩
                  rw [hbn] at HBK
                  generalize l[k0] = t1 at *
                  clear hz hk0
                  cases bn
                  all_goals
                    go_wp2_with fail
                    go_meet
                    exact ⟨by rw [HBK.out]; rfl, rfl⟩
            case rest =>
              obtain ⟨rfl, rfl⟩ := hcut
              clear HBK
              cases hB : isB l k
              case false =>
                have HPR : Hid (prL l E k1 = prL l E k) := Lib.hid (by rw [← HK1.out, prL_no hB])
                clear hB
                go_wp2_with fail
                go_roundg (l.length - k1)
                case measure => have := Hg.out; have := HK1.out; have := HLT.out; omega
                case rel => exact ⟨k1, by have := HK1.out; have := HLT.out; omega, rfl, by first | rfl | go_num, by rw [HD1.out], by rw [HD1.out], by rw [HPR.out]; exact HOW.out, HXW.out⟩
              case true =>
                have HEK := Lib.hid (HE.out k HLT.out hB).1
                have HPR : Hid (prL l E k1 = prL l E k ++ [(k, E k)]) := Lib.hid (by rw [← HK1.out, prL_yes hB])
                have hEl := HEK.out.lt
                have hEn := HEK.out.le
                obtain ⟨z, hz⟩ : ∃ z, E k = z := ⟨_, rfl⟩
                rw [hz] at HEK HPR hEl hEn
                obtain ⟨z0, hz0⟩ : ∃ n, z - 1 = n := ⟨_, rfl⟩
                have HZ := Lib.hid (show z0 + 1 = z by omega)
                have HKZ := Lib.hid (show k ≤ z0 by omega)
                have HZN := Lib.hid (show z ≤ l.length from hEn)
                clear hB hz hEl hEn hz0
                go_wp2_with fail
                go_loopg [16] (z0 - k) (fun g e wi => ∃ j : Nat, k ≤ j ∧ j ≤ z0 ∧ g = z0 - j ∧ e = .int .i64 j ∧ wi = wc)
                case atStart => exact ⟨k, Nat.le_refl _, HKZ.out, rfl, rfl, rfl⟩
                case round =>
                  obtain ⟨j, hj1, hj2, hgj, rfl, hwi⟩ := hrel
                  subst hwi
                  have hjl : j < l.length := by have := HZ.out; have := HZN.out; omega
                  have c0 := HHQ.out j hjl
                  obtain ⟨j1, hj1e⟩ : ∃ n, j + 1 = n := ⟨_, rfl⟩
                  have hw3 : wrap64 ((j : Int) + 1) = (j1 : Int) := by have := HLN.out; unfold wrap64; omega
                  have HGJ := Lib.hid hgj
                  have HJ1 := Lib.hid hj1e
                  have HPL := Lib.hid (show (prL l E k).length ≤ 500 by rw [prL_len]; unfold cnt; have := List.countP_le_length (p := isB l) (l := List.range' 0 (k - 0)); rw [List.length_range'] at this; have := HK5.out; omega)
                  by_cases hjz : j < z0
                  · have hmid := HEK.out.mid j hj1 (by have := HZ.out; omega)
                    rw [kind_is HCK.out hjl, hj1e] at hmid
                    have HMD := Lib.hid hmid
                    have HJZ := Lib.hid hjz
                    have HJN : Hid (k ≤ j1 ∧ j1 ≤ z0) := Lib.hid ⟨by omega, by omega⟩
                    obtain ⟨b5, hb5⟩ : ∃ x, (l[j].kind != 5) = x := ⟨_, rfl⟩
                    have HB5 := Lib.hid hb5
                    clear hmid hjz hj1 hj2 hgj hj1e
                    cases b5
                    case true =>
                      generalize l[j] = t5 at *
                      go_wp2_with fail
                      go_roundg (z0 - j1)
                      case measure => have := HGJ.out; have := HJ1.out; have := HJZ.out; omega
                      case rel => exact ⟨j1, HJN.out.1, HJN.out.2, rfl, by first | rfl | go_num, rfl⟩
                    case false =>
                      have h10 := HMD.out (by simpa using HB5.out)
                      have hj1l : j1 < l.length := kindAt_lt (by rw [h10]; decide)
                      have c1 := HHQ.out j1 hj1l
                      rw [kind_is HCK.out hj1l] at h10
                      have hb10 : (l[j1].kind == 10) = true := by rw [h10]; rfl
                      clear h10 HMD HB5
                      generalize l[j1] = t6 at *
                      generalize l[j] = t5 at *
                      go_wp2_with fail
                      go_roundg (z0 - j1)
                      case measure => have := HGJ.out; have := HJ1.out; have := HJZ.out; omega
                      case rel => exact ⟨j1, HJN.out.1, HJN.out.2, rfl, by first | rfl | go_num, rfl⟩
                  · have hjz0 : j = z0 := by omega
                    have hj1z : j1 = z := by have := HZ.out; omega
                    subst hj1z
                    have h5 := HEK.out.close
                    rw [show j1 - 1 = j by omega, kind_is HCK.out hjl] at h5
                    have hb5 : (l[j].kind != 5) = false := by rw [h5]; rfl
                    have hn10 := HEK.out.after
                    have HN10 := Lib.hid hn10
                    clear h5 hn10 hjz hj1 hj2 hgj hj1e hjz0
                    by_cases hjn : j1 < l.length
                    · have c1 := HHQ.out j1 hjn
                      have hb10 : (l[j1].kind == 10) = false := by
                        have := HN10.out
                        rw [kind_is HCK.out hjn] at this
                        simpa using this
                      generalize l[j1] = t6 at *
                      generalize l[j] = t5 at *
                      go_wp2_with (at_builtin; refine wpList_append_sl _ rfl _ _ 58 rfl elPr rfl (own_ext HOW.out (Ext.alloc _ _)) rfl (Sl.new _ _ _ 1 1 (Nat.le_refl _) ?_) rfl ?_ ?_ ?_ ?_ ?_)
                      · unfold maxLen; omega
                      · exact ⟨rfl, rfl⟩
                      · have := HPL.out; omega
                      · have := HPL.out; unfold maxLen; omega
                      · have := HXW.out.size; first | omega | (simp; omega)
                      intro v4 w4 hown4 hB4 _ _
                      have HO4 : Hid (w4.ownsRow w5.heap.size 57 2 v4 (prL l E k1).length ((prL l E k1).flatMap prCells)) := Lib.hid (by
                        rw [HPR.out, List.length_append, List.flatMap_append]
                        exact hown4)
                      have HX4 : Hid (Ext w5 w4) := Lib.hid ((below_step HXW.out (Ext.alloc _ _)).trans hB4)
                      clear hown4 hB4
                      go_wp2_with fail
                      go_roundg (l.length - k1)
                      case measure => have := Hg.out; have := HK1.out; have := HLT.out; omega
                      case rel => exact ⟨k1, by have := HK1.out; have := HLT.out; omega, rfl, by first | rfl | go_num, by rw [HD1.out], by rw [HD1.out], HO4.out, HX4.out⟩
                    · generalize l[j] = t5 at *
                      go_wp2_with (at_builtin; refine wpList_append_sl _ rfl _ _ 58 rfl elPr rfl (own_ext HOW.out (Ext.alloc _ _)) rfl (Sl.new _ _ _ 1 1 (Nat.le_refl _) ?_) rfl ?_ ?_ ?_ ?_ ?_)
                      · unfold maxLen; omega
                      · exact ⟨rfl, rfl⟩
                      · have := HPL.out; omega
                      · have := HPL.out; unfold maxLen; omega
                      · have := HXW.out.size; first | omega | (simp; omega)
                      intro v4 w4 hown4 hB4 _ _
                      have HO4 : Hid (w4.ownsRow w5.heap.size 57 2 v4 (prL l E k1).length ((prL l E k1).flatMap prCells)) := Lib.hid (by
                        rw [HPR.out, List.length_append, List.flatMap_append]
                        exact hown4)
                      have HX4 : Hid (Ext w5 w4) := Lib.hid ((below_step HXW.out (Ext.alloc _ _)).trans hB4)
                      clear hown4 hB4
                      go_wp2_with fail
                      go_roundg (l.length - k1)
                      case measure => have := Hg.out; have := HK1.out; have := HLT.out; omega
                      case rel => exact ⟨k1, by have := HK1.out; have := HLT.out; omega, rfl, by first | rfl | go_num, by rw [HD1.out], by rw [HD1.out], HO4.out, HX4.out⟩
      · have hkn : k = l.length := by omega
        subst hkn
        have hplen := prL_len l E l.length
        rw [HCN.out] at hplen
        obtain ⟨a3, c3, rfl⟩ := own_vw HO.out
        obtain ⟨M, hM⟩ : ∃ M, (prL l E l.length).length = M := ⟨_, rfl⟩
        have hSL : Sl wr (.slice a3 (prL l E l.length).length c3) (prL l E l.length).length ((prL l E l.length).flatMap prCells) := Sl.of_own HO.out
        have hML := Sl.shape hSL
        rw [hM] at hplen HO hSL ⊢
        have hM0 : 0 < M := by have := okB_few HOK.out; omega
        have hM40 : M ≤ 40 := by have := okB_few HOK.out; omega
        have HM := Lib.hid hM
        have HMP := Lib.hid hplen
        have HSL := Lib.hid hSL
        obtain ⟨G, hG⟩ : ∃ G, cnt (isA l) 0 l.length = G := ⟨_, rfl⟩
        have HG := Lib.hid hG
        rw [hG]
        have hmz : ((M : Int) == 0) = false := by simp; omega
        have HX7 := Lib.hid (HX5.out.trans HXR.out)
        have HT7 := Lib.hid (HT5.out.ext HXR.out)
        have HB7 := Lib.hid (HB5.out.ext HXR.out)
        have HN7 := Lib.hid (HNbA.out.ext HXR.out)
        have HP7 := Lib.hid (HPA.out.ext HXR.out)
        clear hG hM hSL hML hk Hg HXR
        obtain ⟨d0, d1, d2, d3, d4, d5, d6, d7⟩ := row8_facts HN7.out
        rw [← HMP.out] at d0
        by_cases hg3 : 3 ≤ G
        · have hb3 : decide ((3 : Int) ≤ (G : Int)) = true := decide_eq_true (by omega)
          clear hplen
          go_wp2_with fail
          go_ret
          exact ⟨rfl, HX7.out⟩
        · have hb3 : decide ((3 : Int) ≤ (G : Int)) = false := decide_eq_false (by omega)
          have HG3 := Lib.hid hg3
          clear hplen hg3
          obtain ⟨f0, f1⟩ : wr.cell? ⟨x0, 0, none⟩ = some (.int .i64 e0) ∧ wr.cell? ⟨x0, 1, none⟩ = some (.int .i64 e1) := ⟨HB7.out.cell (i := 0) rfl, HB7.out.cell (i := 1) rfl⟩
          obtain ⟨j, hj, hjw⟩ := u64_mod e0 M hM0 (by omega)
          have hpl : j < (prL l E l.length).length := by rw [HM.out]; exact hj
          obtain ⟨pa, hpa, hpB, hpe⟩ := prL_at hpl
          have hEn := HE.out pa hpa hpB
          obtain ⟨pb, hpb⟩ : ∃ z, E pa = z := ⟨_, rfl⟩
          rw [hpb] at hpe hEn
          obtain ⟨_, _, hce, _, _, hcc⟩ := HSL.out
          cases hce
          obtain ⟨b3, o3, rfl, hcell⟩ := hcc (by rw [flatMap_len prCells 2 (fun _ => rfl), HM.out]; omega)
          have p0 := hcell _ _ (flatMap_at prCells 2 (fun _ => rfl) (prL l E l.length) j 0 hpl (by omega))
          have p1 := hcell _ _ (flatMap_at prCells 2 (fun _ => rfl) (prL l E l.length) j 1 hpl (by omega))
          rw [hpe] at p0 p1
          have q0 : wr.cell? ⟨b3, o3 + j * 2, none⟩ = some (.int .i64 pa) := p0
          have q1 : wr.cell? ⟨b3, o3 + j * 2 + 1, none⟩ = some (.int .i64 pb) := by rw [Nat.add_assoc]; exact p1
          have hbl := cell_lt q0
          have HEN := Lib.hid hEn
          clear hcell hcc p0 p1 hpe hEn hpB hpa hpl
          go_upto_region 25 with fail
          have HXB := Lib.hid (Ext.alloc wr (.cells #[.int .i64 (pa : Int), .int .i64 (pb : Int)] 57))
          have HBP := Lib.hid (RowAt.new wr 57 [.int .i64 (pa : Int), .int .i64 (pb : Int)])
          replace HBP : Hid (RowAt (wr.alloc (.cells #[.int .i64 (pa : Int), .int .i64 (pb : Int)] 57)) wr.heap.size 57 [.int .i64 (pa : Int), .int .i64 (pb : Int)]) := HBP
          have HHX := Lib.hid (HX7.out.trans HXB.out)
          have HN8 := Lib.hid (HN7.out.ext HXB.out)
          have HT8 := Lib.hid (HT7.out.ext HXB.out)
          have HP8 := Lib.hid (HP7.out.ext HXB.out)
          clear d0 d1 d2 d3 d4 d5 d6 d7 f0 f1 q0 q1 hbl HXB HX7 HN7 HT7 HP7 HB7
          generalize wr.alloc (.cells #[.int .i64 (pa : Int), .int .i64 (pb : Int)] 57) = w8 at *
          obtain ⟨y, hy⟩ : ∃ y, wr.heap.size = y := ⟨_, rfl⟩
          rw [hy] at HBP
          simp only [hy]
          clear hy
          go_upto_region 26 with fail
          have hx9 := (Ext.alloc w8 (.cells #[.int .i64 4, .string ⟨#[]⟩, .int .i64 0] 39)).trans (Ext.alloc (w8.alloc (.cells #[.int .i64 4, .string ⟨#[]⟩, .int .i64 0] 39)) (.cells #[.int .i64 5, .string ⟨#[]⟩, .int .i64 0] 39))
          have hro : RowAt ((w8.alloc (.cells #[.int .i64 4, .string ⟨#[]⟩, .int .i64 0] 39)).alloc (.cells #[.int .i64 5, .string ⟨#[]⟩, .int .i64 0] 39)) w8.heap.size 39 [.int .i64 4, .string ⟨#[]⟩, .int .i64 0] := (RowAt.new w8 39 [.int .i64 4, .string ⟨#[]⟩, .int .i64 0]).ext (Ext.alloc _ _)
          have hrc : RowAt ((w8.alloc (.cells #[.int .i64 4, .string ⟨#[]⟩, .int .i64 0] 39)).alloc (.cells #[.int .i64 5, .string ⟨#[]⟩, .int .i64 0] 39)) (w8.heap.size + 1) 39 [.int .i64 5, .string ⟨#[]⟩, .int .i64 0] := row_at (by simp)
          have HX9 := Lib.hid hx9
          have HRO := Lib.hid hro
          have HRC := Lib.hid hrc
          clear hx9 hro hrc
          generalize (w8.alloc (.cells #[.int .i64 4, .string ⟨#[]⟩, .int .i64 0] 39)).alloc (.cells #[.int .i64 5, .string ⟨#[]⟩, .int .i64 0] 39) = w9 at *
          obtain ⟨y8, hy8⟩ : ∃ y, w8.heap.size = y := ⟨_, rfl⟩
          obtain ⟨y9, hy9⟩ : ∃ y, y8 + 1 = y := ⟨_, rfl⟩
          rw [hy8] at HRO HRC
          rw [hy9] at HRC
          simp only [hy8, hy9]
          clear hy8 hy9
          have HT9 := Lib.hid (HT8.out.ext HX9.out)
          have HN9 := Lib.hid (HN8.out.ext HX9.out)
          have HP9 := Lib.hid (HP8.out.ext HX9.out)
          replace HBP := Lib.hid (HBP.out.ext HX9.out)
          have HHY := Lib.hid (HHX.out.trans HX9.out)
          clear HT8 HN8 HP8 HX9 HHX
          obtain ⟨p1, n1, k1, p2, n2, k2, p3, n3, k3, hr1, hr2, hr3, hcs⟩ := three_cuts HT9.out pa pb HEN.out.1.lt HEN.out.1.le
          have HCC := Lib.hid (concat5 hcs HLN.out)
          have HTQ := Lib.hid (HEN.out.2 (by rw [HG.out]; have := HG3.out; omega))
          obtain ⟨L, hL⟩ : ∃ L, ins l pa pb = L := ⟨_, rfl⟩
          have HLL := Lib.hid (show L.length ≤ 1000000 ∧ ∀ t ∈ L, t.text.size ≤ 9223372036854775800 by
            rw [← hL]
            refine ⟨by rw [ins_len (by have := HEN.out.1.lt; omega) HEN.out.1.le]; have := HLN.out; omega, fun t ht => ?_⟩
            have hsz : ∀ x ∈ l, x.text.size ≤ 9223372036854775800 := fun x hx => by have := (HL.out.2.2.1 x hx).1; omega
            unfold ins at ht
            rcases List.mem_append.1 ht with ht | ht
            · exact hsz t (List.mem_of_mem_take ht)
            · rcases List.mem_cons.1 ht with rfl | ht
              · decide
              · rcases List.mem_append.1 ht with ht | ht
                · exact hsz t (List.mem_of_mem_drop (List.mem_of_mem_take ht))
                · rcases List.mem_cons.1 ht with rfl | ht
                  · decide
                  · exact hsz t (List.mem_of_mem_drop ht))
          rw [hL] at HCC HTQ
          clear hcs hL
          go_cut [20] (fun s20 wx => Hid (∃ a c, s20 = .slice a L.length c ∧ Toks wx (.slice a L.length c) L ∧ Ext w9 wx))
          case first =>
            refine wp_region_fork groG26 treeG26 hmo (by kernel_rfl) rfl (by kernel_rfl) (fun _ _ _ _ _ h => h) ?_
            have hdr : Ext w9 w9.drew := Ext.drewN w9 1
            have HXD := Lib.hid hdr
            have HBZ := Lib.hid (HBP.out.ext hdr)
            have HOZ := Lib.hid (HRO.out.ext hdr)
            have HCZ := Lib.hid (HRC.out.ext hdr)
            clear hdr
            generalize w9.drew = wz at *
            have b0 := HBZ.out.cell (i := 0) rfl
            have b1 := HBZ.out.cell (i := 1) rfl
            have o0 := HOZ.out.cell (i := 0) rfl
            have o1 := HOZ.out.cell (i := 1) rfl
            have o2 := HOZ.out.cell (i := 2) rfl
            have z0 := HCZ.out.cell (i := 0) rfl
            have z1 := HCZ.out.cell (i := 1) rfl
            have z2 := HCZ.out.cell (i := 2) rfl
            unfold treeG26
            repeat (first
              | (refine groF_pure rfl rfl ?_; intro K hK; go_simp; refine hK _ ?_; clear hK K)
              | (refine groF_read rfl rfl ?_; intro K S hS hK; go_simp; refine hK _ ?_; clear hK K hS S)
              | (refine groF_read rfl rfl ?_; intro K S hS hK; go_simp; refine ⟨hS _ ?_, hK _ ?_⟩; (clear hK K hS S; intro w' hx'; have hce := ext_some hx'; go_simp); clear hK K hS S)
              | (refine groF_write rfl rfl ?_; intro K hK; go_simp; refine hK _ _ ?_; clear hK K))
            clear b0 b1 o0 o1 o2 z0 z1 z2
            refine groF_fork rfl rfl ?_ ?_
            · intro K hK
              go_simp
              refine hK _ _ ⟨Ext.alloc _ _, ?_⟩
              clear hK K
              have HO1 := Lib.hid (RowAt.new wz 39 [.int .i64 4, .string ⟨#[]⟩, .int .i64 0])
              -- wz.alloc (.cells #[.int .i64 4, .string ⟨#[]⟩, .int .i64 0] 39) the world behind the first, 5 the second token's kind, 4 the first's, hr1 and hr2: the facts of the opening and the closing token, g5 and g6 their blocks
              refine groF_grow rfl rfl ?_
              intro K hK
              go_simp
              refine hK _ _ ⟨Ext.alloc _ _, ?_⟩
              clear hK K
              have hxw : Ext wz ((wz.alloc (.cells #[.int .i64 4, .string ⟨#[]⟩, .int .i64 0] 39)).alloc (.cells #[.int .i64 5, .string ⟨#[]⟩, .int .i64 0] 39)) := (Ext.alloc _ _).trans (Ext.alloc _ _)
              obtain ⟨wv, hwv⟩ : ∃ x, (wz.alloc (.cells #[.int .i64 4, .string ⟨#[]⟩, .int .i64 0] 39)).alloc (.cells #[.int .i64 5, .string ⟨#[]⟩, .int .i64 0] 39) = x := ⟨_, rfl⟩
              have hr1 : RowAt wv wz.heap.size 39 [.int .i64 4, .string ⟨#[]⟩, .int .i64 0] := by rw [← hwv]; exact HO1.out.ext (Ext.alloc _ _)
              have hr2 : RowAt wv (wz.heap.size + 1) 39 [.int .i64 5, .string ⟨#[]⟩, .int .i64 0] := by rw [← hwv]; exact row_at (by simp)
              rw [hwv] at hxw ⊢
              clear hwv
              obtain ⟨g5, hg5⟩ : ∃ x, wz.heap.size = x := ⟨_, rfl⟩
              obtain ⟨g6, hg6⟩ : ∃ x, g5 + 1 = x := ⟨_, rfl⟩
              rw [hg5] at hr1 hr2
              rw [hg6] at hr2
              simp only [hg5, hg6]
              clear hg5 hg6
              have hcc := HCC.out wv g5 g6 wv.heap.size (HXD.out.trans hxw) hr1 hr2 rfl
              have HCD := Lib.hid hcc
              have HXW := Lib.hid (HXD.out.trans hxw)
              clear hcc hxw hr1 hr2
              refine groF_grow rfl rfl ?_
              intro K hK
              go_simp
              refine hK _ _ ⟨Ext.alloc _ _, ?_⟩
              clear hK K
              refine groF_grow rfl rfl ?_
              intro K hK
              go_simp
              (refine HCD.out.mono ?_; rintro e w6 ⟨a6, c6, rfl, ht6, hx6⟩)
              go_simp
              refine hK _ _ ⟨hx6, ?_⟩
              clear hK K
              have HR := Lib.hid (show ∃ a c, (Value.slice a6 L.length c6) = .slice a L.length c ∧ Toks w6 (.slice a L.length c) L ∧ Ext w9 w6 from ⟨a6, c6, rfl, ht6, HXW.out.trans ((Ext.alloc _ _).trans hx6)⟩)
              repeat (first
                | (refine groF_pure rfl rfl ?_; intro K hK; go_simp; refine hK _ ?_; clear hK K)
                | (refine groF_read rfl rfl ?_; intro K S hS hK; go_simp; refine hK _ ?_; clear hK K hS S)
                | (refine groF_read rfl rfl ?_; intro K S hS hK; go_simp; refine ⟨hS _ ?_, hK _ ?_⟩; (clear hK K hS S; intro w' hx'; have hce := ext_some hx'; go_simp); clear hK K hS S)
                | (refine groF_write rfl rfl ?_; intro K hK; go_simp; refine hK _ _ ?_; clear hK K))
              refine groF_nil ?_
              try go_wp2_with fail
              go_meet
              exact HR
            · intro K hK
              go_simp
              refine hK _ _ ⟨Ext.alloc _ _, ?_⟩
              clear hK K
              have HO1 := Lib.hid (RowAt.new wz 39 [.int .i64 5, .string ⟨#[]⟩, .int .i64 0])
              -- wz.alloc (.cells #[.int .i64 5, .string ⟨#[]⟩, .int .i64 0] 39) the world behind the first, 4 the second token's kind, 5 the first's, hr2 and hr1: the facts of the opening and the closing token, g6 and g5 their blocks
              refine groF_grow rfl rfl ?_
              intro K hK
              go_simp
              refine hK _ _ ⟨Ext.alloc _ _, ?_⟩
              clear hK K
              have hxw : Ext wz ((wz.alloc (.cells #[.int .i64 5, .string ⟨#[]⟩, .int .i64 0] 39)).alloc (.cells #[.int .i64 4, .string ⟨#[]⟩, .int .i64 0] 39)) := (Ext.alloc _ _).trans (Ext.alloc _ _)
              obtain ⟨wv, hwv⟩ : ∃ x, (wz.alloc (.cells #[.int .i64 5, .string ⟨#[]⟩, .int .i64 0] 39)).alloc (.cells #[.int .i64 4, .string ⟨#[]⟩, .int .i64 0] 39) = x := ⟨_, rfl⟩
              have hr1 : RowAt wv wz.heap.size 39 [.int .i64 5, .string ⟨#[]⟩, .int .i64 0] := by rw [← hwv]; exact HO1.out.ext (Ext.alloc _ _)
              have hr2 : RowAt wv (wz.heap.size + 1) 39 [.int .i64 4, .string ⟨#[]⟩, .int .i64 0] := by rw [← hwv]; exact row_at (by simp)
              rw [hwv] at hxw ⊢
              clear hwv
              obtain ⟨g5, hg5⟩ : ∃ x, wz.heap.size = x := ⟨_, rfl⟩
              obtain ⟨g6, hg6⟩ : ∃ x, g5 + 1 = x := ⟨_, rfl⟩
              rw [hg5] at hr1 hr2
              rw [hg6] at hr2
              simp only [hg5, hg6]
              clear hg5 hg6
              have hcc := HCC.out wv g6 g5 wv.heap.size (HXD.out.trans hxw) hr2 hr1 rfl
              have HCD := Lib.hid hcc
              have HXW := Lib.hid (HXD.out.trans hxw)
              clear hcc hxw hr1 hr2
              refine groF_grow rfl rfl ?_
              intro K hK
              go_simp
              refine hK _ _ ⟨Ext.alloc _ _, ?_⟩
              clear hK K
              refine groF_grow rfl rfl ?_
              intro K hK
              go_simp
              (refine HCD.out.mono ?_; rintro e w6 ⟨a6, c6, rfl, ht6, hx6⟩)
              go_simp
              refine hK _ _ ⟨hx6, ?_⟩
              clear hK K
              have HR := Lib.hid (show ∃ a c, (Value.slice a6 L.length c6) = .slice a L.length c ∧ Toks w6 (.slice a L.length c) L ∧ Ext w9 w6 from ⟨a6, c6, rfl, ht6, HXW.out.trans ((Ext.alloc _ _).trans hx6)⟩)
              repeat (first
                | (refine groF_pure rfl rfl ?_; intro K hK; go_simp; refine hK _ ?_; clear hK K)
                | (refine groF_read rfl rfl ?_; intro K S hS hK; go_simp; refine hK _ ?_; clear hK K hS S)
                | (refine groF_read rfl rfl ?_; intro K S hS hK; go_simp; refine ⟨hS _ ?_, hK _ ?_⟩; (clear hK K hS S; intro w' hx'; have hce := ext_some hx'; go_simp); clear hK K hS S)
                | (refine groF_write rfl rfl ?_; intro K hK; go_simp; refine hK _ _ ?_; clear hK K))
              refine groF_nil ?_
              try go_wp2_with fail
              go_meet
              exact HR
          case rest =>
            obtain ⟨a9, c9, rfl, hta, hxa⟩ := hcut.out
            have HTA := Lib.hid hta
            have HXA := Lib.hid hxa
            clear hta hxa hcut HBP HRO HRC HCC
            have HTK2 := Lib.hid (tokens_E HTA.out HLL.out.1 HLL.out.2)
            go_upto_region 27 with fail
            apply wp_region_lit
            refine wpList_plain rfl fun K1 hK1 => ?_
            go_simp
            refine hK1 _ _ ?_
            clear hK1 K1
            -- a call of parse.Tokens, its results into a box and slots: HTK2 the contract (hidden), w14 world behind, B suffix of the names, HX14 fact Ext's name
            refine wpList_plain rfl fun K1 hK1 => ?_
            go_simp
            refine HTK2.out.mono ?_
            rintro e wBt ⟨rB, QB, nB, cB, pB, pB', qB, qB', sB, sB', hrB, hiB, rfl, hpB, hxB⟩
            have HRB := Lib.hid hrB
            have HIB := Lib.hid hiB
            have HPB := Lib.hid hpB
            clear hrB hiB hpB
            -- behind a call of Read: its results, the box of the pattern: wBt the world before, w14 the world behind, bB the box's name, [.slice pB QB.atoms.length pB', .slice qB QB.ret.length qB', .bool QB.count, .bool QB.distinct, .bool QB.limited, .int .i64 QB.limit, .int .i64 QB.offset, .slice sB QB.hint.length sB'] its cells
            go_simp
            refine hK1 _ _ ?_
            clear hK1 K1
            refine wpList_plain rfl fun K1 hK1 => ?_
            go_simp
            refine hK1 _ _ ?_
            clear hK1 K1
            refine wpList_plain rfl fun K1 hK1 => ?_
            go_simp
            refine hK1 _ _ ?_
            clear hK1 K1
            refine wpList_plain rfl fun K1 hK1 => ?_
            go_simp
            refine hK1 _ _ ?_
            clear hK1 K1
            refine wpList_plain rfl fun K1 hK1 => ?_
            go_simp
            refine hK1 _ _ ?_
            clear hK1 K1
            refine wpList_plain rfl fun K1 hK1 => ?_
            go_simp
            refine hK1 _ _ ?_
            clear hK1 K1
            have hxb := Ext.alloc wBt (.cells #[.slice none 0 0, .slice none 0 0, .bool false, .bool false, .bool false, .int .i64 0, .int .i64 0, .slice none 0 0] 26)
            have hnb : RowAt (wBt.alloc (.cells #[.slice none 0 0, .slice none 0 0, .bool false, .bool false, .bool false, .int .i64 0, .int .i64 0, .slice none 0 0] 26)) wBt.heap.size 26 [.slice none 0 0, .slice none 0 0, .bool false, .bool false, .bool false, .int .i64 0, .int .i64 0, .slice none 0 0] := RowAt.new _ _ _
            refine plain_store rfl _ _ _ rfl wBt.heap.size [.slice pB QB.atoms.length pB', .slice qB QB.ret.length qB', .bool QB.count, .bool QB.distinct, .bool QB.limited, .int .i64 QB.limit, .int .i64 QB.offset, .slice sB QB.hint.length sB'] rfl rfl hnb (by kernel_rfl) rfl (by simp [Value.oneCell']) ?_
            have hxs : Ext wBt ((wBt.alloc (.cells #[.slice none 0 0, .slice none 0 0, .bool false, .bool false, .bool false, .int .i64 0, .int .i64 0, .slice none 0 0] 26)).setRow wBt.heap.size ([.slice pB QB.atoms.length pB', .slice qB QB.ret.length qB', .bool QB.count, .bool QB.distinct, .bool QB.limited, .int .i64 QB.limit, .int .i64 QB.offset, .slice sB QB.hint.length sB']).toArray) := below_setRow hxb (Nat.le_refl _) _
            have HNbB := Lib.hid (hnb.setRow [.slice pB QB.atoms.length pB', .slice qB QB.ret.length qB', .bool QB.count, .bool QB.distinct, .bool QB.limited, .int .i64 QB.limit, .int .i64 QB.offset, .slice sB QB.hint.length sB'])
            have HEbB := Lib.hid hxs
            clear hxb hnb hxs
            generalize (wBt.alloc (.cells #[.slice none 0 0, .slice none 0 0, .bool false, .bool false, .bool false, .int .i64 0, .int .i64 0, .slice none 0 0] 26)).setRow wBt.heap.size ([.slice pB QB.atoms.length pB', .slice qB QB.ret.length qB', .bool QB.count, .bool QB.distinct, .bool QB.limited, .int .i64 QB.limit, .int .i64 QB.offset, .slice sB QB.hint.length sB']).toArray = w14 at *
            obtain ⟨bB, hbB⟩ : ∃ z, wBt.heap.size = z := ⟨_, rfl⟩
            rw [hbB] at HNbB
            simp only [hbB]
            clear hbB
            go_simp
            refine wpList_plain rfl fun K1 hK1 => ?_
            go_simp
            refine hK1 _ _ ?_
            clear hK1 K1
            refine wpList_plain rfl fun K1 hK1 => ?_
            go_simp
            refine hK1 _ _ ?_
            clear hK1 K1
            apply wpList_nil
            have HX14 := Lib.hid (hxB.trans HEbB.out)
            replace HPB := Lib.hid (HPB.out.ext HEbB.out)
            clear hxB HEbB
            have HXC := Lib.hid (HXA.out.trans HX14.out)
            have HX15 := Lib.hid (HHY.out.trans HXC.out)
            have HN15 := Lib.hid (HN9.out.ext HXC.out)
            have HP15 := Lib.hid (HP9.out.ext HXC.out)
            have he : QB = QA ∧ nB = L.length ∧ cB = 0 := by
              have := HRB.out.same HTQ.out
              subst this
              rcases HIB.out with ⟨h1, h2, h3, _⟩ | ⟨_, h, _⟩
              · cases h1; exact ⟨rfl, h2, h3⟩
              · cases h
            obtain ⟨rfl, rfl, rfl⟩ := he
            have HSM := Lib.hid (sameP_any _ _ QB QB w14 HP15.out HPB.out (by have := okB_few HOK.out; omega) (by have := okB_few HOK.out; omega))
            rw [(sameB_iff QB QB).2 rfl] at HSM
            obtain ⟨d0, d1, d2, d3, d4, d5, d6, d7⟩ := row8_facts HN15.out
            obtain ⟨e0, e1, e2, e3, e4, e5, e6, e7⟩ := row8_facts HNbB.out
            clear HTA HXA HXC HX14 HIB HRB HTK2 HTQ HN9 HP9 HT9 HHY HSL
            go_wp2_with fail
            refine HSM.out.mono ?_
            rintro e w16 ⟨rfl, hx16⟩
            have HX17 := Lib.hid (HX15.out.trans hx16)
            clear d0 d1 d2 d3 d4 d5 d6 d7
            obtain ⟨d0, d1, d2, d3, d4, d5, d6, d7⟩ := row8_facts (HN15.out.ext hx16)
            rw [← HMP.out] at d0
            clear hx16 e0 e1 e2 e3 e4 e5 e6 e7
            go_wp2_with fail
            go_ret
            exact ⟨rfl, HX17.out⟩
end Go.Proofs.Ytngnplghjaojhaa
