/- PrintTexts: the walk. -/
import Derived.Test.YthoneahamnmjlaaGreatDoorGp36
import Derived.Test.YthoneahamnmjlaaGreatDoorGp37
import Derived.Test.YthoneahamnmjlaaGreatDoorPriLNames
import Derived.Test.YthoneahamnmjlaaGreatDoorGp38
import Derived.Test.YthoneahamnmjlaaGreatDoorGp39
import Derived.Test.YthoneahamnmjlaaGreatDoorGp24
import Derived.Test.YthoneahamnmjlaaGreatDoorGp25
namespace Go.Proofs.YthoneahamnmjlaaGreatDoor
set_option maxRecDepth 100000
set_option maxHeartbeats 2000000
set_option linter.unusedSimpArgs false
open Go.RowKit Go.Shelf Go.Sort
attribute [local go_sem] Oper.semAt_some wide_fn wide_depth
set_option linter.unusedVariables false

/-- What a pattern that may be is for the document's text. -/
theorem text_ok {P : Pat} (h : P.okB = true) : (∀ a ∈ P.atoms, a.fn.size ≤ 1000 ∧ a.name.size ≤ 1000 ∧ a.value.size ≤ 1000 ∧ a.tn.size ≤ 1000) ∧ (∀ s ∈ P.ret, s.size ≤ 1000) ∧ (∀ s ∈ P.hint, s.size ≤ 1000) ∧ P.atoms.length ≤ 1000 ∧ P.ret.length ≤ 1000 ∧ P.hint.length ≤ 1000 ∧
    (P.limited = true → 0 ≤ P.limit ∧ P.limit ≤ 2147483647) ∧ P.offset ≤ 2147483647 := by
  obtain ⟨h1, h2, h3, h4, h5, h6, h7, h8, h9, h10⟩ := okB_facts h
  obtain ⟨hwr, hwh⟩ := okB_words h
  have hw : ∀ s : ByteArray, wordB s = true → s.size ≤ 1000 := fun s hs => by
    rw [← wordB_all] at hs
    have := (allB_iff.1 hs).2.2
    rw [bts_len] at this; omega
  have l1 := chosenB_len h5
  have l2 := chosenB_len h6
  unfold pagedP numB at h9
  simp only [Bool.and_eq_true, decide_eq_true_eq] at h9
  exact ⟨fun a ha => by have := Atm.size_of (List.all_eq_true.1 h10 a ha); omega, fun s hs => hw s (hwr s hs), fun s hs => hw s (hwh s hs), by omega, by omega, by omega, fun _ => ⟨by omega, by omega⟩, by omega⟩
theorem word_sz {s : ByteArray} (h : wordB s = true) : s.size ≤ 1000000 := by
  rw [← wordB_all] at h
  have := (allB_iff.1 h).2.2
  rw [bts_len] at this; omega
/-- The text that the document gives, if it gives one. -/
def txW (P : Pat) : ByteArray := if P.okB = true then txt (textX P) else nilB
theorem txW_big {P : Pat} (h : (500 : Int) < ((txW P).size : Int)) : textF P = (nilB, 3) := by
  unfold txW at h
  unfold textF
  split at h
  · rename_i hk
    rw [txt_size] at h
    rw [if_pos hk, if_pos (by omega)]
  · exact absurd h (by decide)
theorem txW_small {P : Pat} (h : ¬ (500 : Int) < ((txW P).size : Int)) : textF P = (txW P, (plainE P).2) := by
  unfold txW at h ⊢
  unfold textF plainE
  split at h
  · rename_i hk
    rw [txt_size] at h
    rw [if_pos hk, if_pos hk, if_neg (by omega), if_pos hk]
  · rename_i hk
    rw [if_neg hk, if_neg hk, if_neg hk]
theorem spl_pl {P : Pat} : Spl (plainE P).1 := by
  unfold plainE
  split
  · rename_i h; exact spl_ok (plain_okB h)
  · exact spl_no
theorem PatAt.atoms {w : World} {a1 : Option Addr} {n1 c1 : Nat} {x1 x2 x3 x4 x5 x6 x7 : Value} {P : Pat} (h : PatAt w (.agg #[.slice a1 n1 c1, x1, x2, x3, x4, x5, x6, x7]) P) : Ats w (.slice a1 n1 c1) P.atoms := by
  obtain ⟨av, rv, hv, e, ha, _⟩ := h
  unfold patV patL at e
  simp only [Value.agg.injEq, List.toArray_eq_iff, Array.mk.injEq, List.cons.injEq] at e
  rw [show Value.slice a1 n1 c1 = av by simp_all]
  exact ha
theorem oneP_right (a : Atm) (hf : a.Fits) (w : World) : Calls Tryz.prog 15 #[.agg #[.slice (some ⟨w.heap.size, 0, none⟩) 1 1, .slice none 0 0, .bool false, .bool false, .bool false, .int .i64 0, .int .i64 0, .slice none 0 0]] (w.alloc (.cells #[.int .i64 a.kind, .bool a.fk, .string a.fn, .string a.name, .string a.value, .bool a.tk, .string a.tn] 40)) fun e w' => e = .returned (.bool (oneP a).okB) ∧ Ext (w.alloc (.cells #[.int .i64 a.kind, .bool a.fk, .string a.fn, .string a.name, .string a.value, .bool a.tk, .string a.tn] 40)) w' := by
  have hs := Sl.new w #[.int .i64 a.kind, .bool a.fk, .string a.fn, .string a.name, .string a.value, .bool a.tk, .string a.tn] 40 1 1 (Nat.le_refl _) (by unfold maxLen; omega)
  exact right16_any _ (oneP a) _ ⟨_, _, _, rfl, (by simpa [Ats, oneP, atCells] using hs), Sl.nil _, Sl.nil _⟩ ⟨fun b hb => by simp [oneP] at hb; subst hb; exact hf, by simp [oneP]⟩
/-- What stands behind the plain one: the boxes of both. -/
def TxC (w0 : World) (y10 y13 : Nat) (u : Value) (L : List Value) (Q : Pat) (wx : World) : Prop :=
  Ext w0 wx ∧ RowAt wx y10 25 L ∧ PatIn w0.heap.size wx u Q ∧ ∃ g1 g1' g2 g2' g3 g3', RowAt wx y13 25 [.slice g1 Q.atoms.length g1', .slice g2 Q.ret.length g2', .bool Q.count, .bool Q.distinct, .bool Q.limited, .int .i64 Q.limit, .int .i64 Q.offset, .slice g3 Q.hint.length g3'] ∧ PatAt wx (.agg #[.slice g1 Q.atoms.length g1', .slice g2 Q.ret.length g2', .bool Q.count, .bool Q.distinct, .bool Q.limited, .int .i64 Q.limit, .int .i64 Q.offset, .slice g3 Q.hint.length g3']) Q
def txG9 : Nat → Gro
  | 0 => .read
  | 1 => .grow
  | 2 => .read
  | 3 => .grow
  | 5 => .grow
  | _ => .pure
def txG16 : Nat → Gro
  | 2 => .read
  | 3 => .grow
  | 6 => .read
  | 7 => .read
  | 8 => .grow
  | 9 => .grow
  | _ => .pure
def txG30 : Nat → Gro
  | 0 => .read
  | 1 => .read
  | 2 => .grow
  | 3 => .grow
  | _ => .pure
set_option maxRecDepth 100000 in
set_option maxHeartbeats 4000000 in
theorem texts_walk (v v2 : Value) (P P2 : Pat) (w : World) (h : ArgP w v P) (h2 : ArgP w v2 P2) (hW : Pows w) :
    Calls Tryz.prog 4 #[v, v2] w fun e w' => e = .returned (.bool true) ∧ Ext w w' := by
  have hmo : Tryz.prog.follows .mixedOrders = true := by kernel_rfl
  have hbf := ownB_fits P
  have hbf2 := ownB_fits P2
  obtain ⟨a1, a1', a2, a2', a3, a3', rfl⟩ := h.at_.shape
  obtain ⟨b1, b1', b2, b2', b3, b3', rfl⟩ := h2.at_.shape
  have HOW := Lib.hid (fun W hx => h.own W hx)
  have H1A := Lib.hid h
  have H2A := Lib.hid h2
  have HW := Lib.hid hW
  have HBF := Lib.hid hbf
  have HBF2 := Lib.hid hbf2
  clear h h2 hW hbf hbf2
  -- a function with two boxes at its head: colander/colanderlaw17.PrintTexts its name, [.slice a1 P.atoms.length a1', .slice a2 P.ret.length a2', .bool P.count, .bool P.distinct, .bool P.limited, .int .i64 P.limit, .int .i64 P.offset, .slice a3 P.hint.length a3'] [.slice b1 P2.atoms.length b1', .slice b2 P2.ret.length b2', .bool P2.count, .bool P2.distinct, .bool P2.limited, .int .i64 P2.limit, .int .i64 P2.offset, .slice b3 P2.hint.length b3'] their cells (lists), api.Pattern api.Pattern their types' names
  have hbx := boxes2 w ([.slice a1 P.atoms.length a1', .slice a2 P.ret.length a2', .bool P.count, .bool P.distinct, .bool P.limited, .int .i64 P.limit, .int .i64 P.offset, .slice a3 P.hint.length a3']) 25 ([.slice b1 P2.atoms.length b1', .slice b2 P2.ret.length b2', .bool P2.count, .bool P2.distinct, .bool P2.limited, .int .i64 P2.limit, .int .i64 P2.offset, .slice b3 P2.hint.length b3']) 25
  have HBX := Lib.hid hbx
  clear hbx
  go_enter Tryz.func4, Tryz.ntmps4
  go_upto_region 1 with fail
  generalize (w.alloc (.cells ([.slice a1 P.atoms.length a1', .slice a2 P.ret.length a2', .bool P.count, .bool P.distinct, .bool P.limited, .int .i64 P.limit, .int .i64 P.offset, .slice a3 P.hint.length a3']).toArray 25)).alloc (.cells ([.slice b1 P2.atoms.length b1', .slice b2 P2.ret.length b2', .bool P2.count, .bool P2.distinct, .bool P2.limited, .int .i64 P2.limit, .int .i64 P2.offset, .slice b3 P2.hint.length b3']).toArray 25) = w1 at *
  obtain ⟨y0, hy0⟩ : ∃ x, w.heap.size = x := ⟨_, rfl⟩
  obtain ⟨y1, hy1⟩ : ∃ x, y0 + 1 = x := ⟨_, rfl⟩
  rw [hy0, hy1] at HBX
  simp only [hy0, hy1]
  have HN := Lib.hid (show w.heap.size = y0 ∧ y0 + 1 = y1 from ⟨hy0, hy1⟩)
  have HX := Lib.hid HBX.out.1
  have H0 := Lib.hid HBX.out.2.1
  have H1 := Lib.hid HBX.out.2.2
  clear hy0 hy1 HBX
  clear HN
  go_wp2_with fail
  refine (wakesT_any w1 (HW.out.ext HX.out)).mono ?_
  rintro e w2 ⟨rfl, hx2⟩
  replace HX := Lib.hid (HX.out.trans hx2)
  replace H0 := Lib.hid (H0.out.ext hx2)
  replace H1 := Lib.hid (H1.out.ext hx2)
  clear hx2
  go_upto_region 3 with fail
  refine wp_region_inv [22, 23, 24, 25, 5, 6] _ depY (PairG w2 (.agg #[.slice a1 P.atoms.length a1', .slice a2 P.ret.length a2', .bool P.count, .bool P.distinct, .bool P.limited, .int .i64 P.limit, .int .i64 P.offset, .slice a3 P.hint.length a3']) (.agg #[.slice b1 P2.atoms.length b1', .slice b2 P2.ret.length b2', .bool P2.count, .bool P2.distinct, .bool P2.limited, .int .i64 P2.limit, .int .i64 P2.offset, .slice b3 P2.hint.length b3']) (OwnP w2.heap.size (ownB P)) (OwnP w2.heap.size (ownB P2)) 25 25 zcells zcells) hmo (by kernel_rfl) (by kernel_rfl) (puts_self _ _) (PairG.start _ rfl (Ext.drewN w2 1)) ?_ ?_
  · refine ⟨?_, ?_, ?_, ?_, ?_, ?_, ?_, ?_, trivial⟩
    all_goals
      rintro S us wq hd hn ⟨l0, c0, l1, c1, x0, x1, rfl, hF⟩ K hK
      have hK' := fun l0 c0 l1 c1 x0 x1 w' h => hK [l0, c0, l1, c1, x0, x1] w' h
      clear hK
      have hxq : Ext w2 wq := hF.ext
      have HXQ := Lib.hid hxq
      clear hxq
      simp only [puts, Act.put, List.setIfInBounds_toArray, List.set_cons_succ, List.set_cons_zero] at hK' ⊢
      have HK := Lib.hid hK'
      have HF := Lib.hid hF
      have HN := Lib.hid hn
      have HD := Lib.hid hd
      clear hK' hF hn hd
    · have hrr := H0.out.ext HXQ.out
      have hf := row8_facts hrr
      have d0 := hf.1
      have d1 := hf.2.1
      have d2 := hf.2.2.1
      have d3 := hf.2.2.2.1
      have d4 := hf.2.2.2.2.1
      have d5 := hf.2.2.2.2.2.1
      have d6 := hf.2.2.2.2.2.2.1
      have d7 := hf.2.2.2.2.2.2.2
      clear hf
      clear hrr
      go_simp
      exact HK.out _ c0 l1 c1 x0 x1 wq HF.out.load0
    · have hc := HD.out 0 (by decide)
      have hl := HF.out.a0 hc
      have hq := H1A.out.own_t w2 wq HX.out HXQ.out
      rw [← hl] at hq
      have HQ := Lib.hid (hq)
      clear hc hl hq
      go_simp
      refine HQ.out.mono ?_
      rintro e wy ⟨u, rfl, hou, hxu⟩
      exact HK.out l0 u l1 c1 x0 x1 wy (HF.out.call0 (OwnP.firm _ _) HN.out hxu hou)
    · have hrr := H1.out.ext HXQ.out
      have hf := row8_facts hrr
      have d0 := hf.1
      have d1 := hf.2.1
      have d2 := hf.2.2.1
      have d3 := hf.2.2.2.1
      have d4 := hf.2.2.2.2.1
      have d5 := hf.2.2.2.2.2.1
      have d6 := hf.2.2.2.2.2.2.1
      have d7 := hf.2.2.2.2.2.2.2
      clear hf
      clear hrr
      go_simp
      exact HK.out l0 c0 _ c1 x0 x1 wq HF.out.load1
    · have hc := HD.out 2 (by decide)
      have hl := HF.out.a2 hc
      have hq := H2A.out.own_t w2 wq HX.out HXQ.out
      rw [← hl] at hq
      have HQ := Lib.hid (hq)
      clear hc hl hq
      go_simp
      refine HQ.out.mono ?_
      rintro e wy ⟨u, rfl, hou, hxu⟩
      exact HK.out l0 c0 l1 u x0 x1 wy (HF.out.call1 (OwnP.firm _ _) HN.out hxu hou)
    · have hk := HK.out l0 c0 l1 c1 _ x1 _ (HF.out.new0 (OwnP.firm _ _) (OwnP.firm _ _) HN.out)
      go_simp
      exact hk
    · have hk := HK.out l0 c0 l1 c1 x0 _ _ (HF.out.new1 (OwnP.firm _ _) (OwnP.firm _ _) HN.out)
      go_simp
      exact hk
    · have h1 := HD.out 1 (by decide)
      have h4 := HD.out 4 (by decide)
      have hou := OwnP.shape (HF.out.a1 h1)
      have hbx := HF.out.a4 h4
      revert hou hbx
      refine fun ⟨k1, l1', k2, l2', k3, l3', hB⟩ ⟨g, hg, _, hrow⟩ => ?_
      rw [if_neg (by rw [HN.out]; simp)] at hrow
      have hk := HK.out l0 c0 l1 c1 x0 x1 _ (HF.out.store0 (OwnP.firm _ _) (OwnP.firm _ _) h1 HN.out hg h4 (by rw [hB]; rfl))
      subst hB hg
      unfold zcells at hrow
      have hf := row8_facts hrow
      have d0 := hf.1
      have d1 := hf.2.1
      have d2 := hf.2.2.1
      have d3 := hf.2.2.2.1
      have d4 := hf.2.2.2.2.1
      have d5 := hf.2.2.2.2.2.1
      have d6 := hf.2.2.2.2.2.2.1
      have d7 := hf.2.2.2.2.2.2.2
      clear hf
      have g0 := hrow.frozen 0
      have g1 := hrow.frozen 1
      have g2 := hrow.frozen 2
      have g3 := hrow.frozen 3
      have g4 := hrow.frozen 4
      have g5 := hrow.frozen 5
      have g6 := hrow.frozen 6
      have g7 := hrow.frozen 7
      clear hrow
      have HKK := Lib.hid hk
      clear hk h1 h4
      go_simp
      exact HKK.out
    · have h1 := HD.out 3 (by decide)
      have h4 := HD.out 5 (by decide)
      have hou := OwnP.shape (HF.out.a3 h1)
      have hbx := HF.out.a5 h4
      revert hou hbx
      refine fun ⟨k1, l1', k2, l2', k3, l3', hB⟩ ⟨g, hg, _, hrow⟩ => ?_
      rw [if_neg (by rw [HN.out]; simp)] at hrow
      have hk := HK.out l0 c0 l1 c1 x0 x1 _ (HF.out.store1 (OwnP.firm _ _) (OwnP.firm _ _) h1 HN.out hg h4 (by rw [hB]; rfl))
      subst hB hg
      unfold zcells at hrow
      have hf := row8_facts hrow
      have d0 := hf.1
      have d1 := hf.2.1
      have d2 := hf.2.2.1
      have d3 := hf.2.2.2.1
      have d4 := hf.2.2.2.2.1
      have d5 := hf.2.2.2.2.2.1
      have d6 := hf.2.2.2.2.2.2.1
      have d7 := hf.2.2.2.2.2.2.2
      clear hf
      have g0 := hrow.frozen 0
      have g1 := hrow.frozen 1
      have g2 := hrow.frozen 2
      have g3 := hrow.frozen 3
      have g4 := hrow.frozen 4
      have g5 := hrow.frozen 5
      have g6 := hrow.frozen 6
      have g7 := hrow.frozen 7
      clear hrow
      have HKK := Lib.hid hk
      clear hk h1 h4
      go_simp
      exact HKK.out
  · rintro S us wq hall ⟨l0, c0, l1, c1, x0, x1, rfl, hF⟩
    have hoB := hF.a1 (hall 1 (by decide))
    have hoB2 := hF.a3 (hall 3 (by decide))
    obtain ⟨y5, rfl, hg, hrow⟩ := hF.a4 (hall 4 (by decide))
    obtain ⟨y6, rfl, hg2, hrow2⟩ := hF.a5 (hall 5 (by decide))
    obtain rfl := hF.a0 (hall 0 (by decide))
    obtain rfl := hF.a2 (hall 2 (by decide))
    rw [if_pos (hall 6 (by decide))] at hrow
    rw [if_pos (hall 7 (by decide))] at hrow2
    have HA := Lib.hid (PatIn.at_ hoB)
    have HB := Lib.hid (PatIn.at_ hoB2)
    obtain ⟨c1, c1', c2, c2', c3, c3', rfl⟩ := hoB.shape
    obtain ⟨e1, e1', e2, e2', e3, e3', rfl⟩ := hoB2.shape
    replace HX := Lib.hid (HX.out.trans hF.ext)
    have HR5 := Lib.hid (show RowAt wq y5 25 [.slice c1 (ownB P).atoms.length c1', .slice c2 (ownB P).ret.length c2', .bool (ownB P).count, .bool (ownB P).distinct, .bool (ownB P).limited, .int .i64 (ownB P).limit, .int .i64 (ownB P).offset, .slice c3 (ownB P).hint.length c3'] from hrow)
    have HR6 := Lib.hid (show RowAt wq y6 25 [.slice e1 (ownB P2).atoms.length e1', .slice e2 (ownB P2).ret.length e2', .bool (ownB P2).count, .bool (ownB P2).distinct, .bool (ownB P2).limited, .int .i64 (ownB P2).limit, .int .i64 (ownB P2).offset, .slice e3 (ownB P2).hint.length e3'] from hrow2)
    have HS0 := Lib.hid (H0.out.ext hF.ext)
    clear hF hrow hrow2 hoB hoB2 hg hg2 hall H0 H1 H1A H2A
    simp only [puts, Act.put, List.setIfInBounds_toArray, List.set_cons_succ, List.set_cons_zero]
    clear S
    generalize ownB P = A at *
    generalize ownB P2 = B at *
    have HRT := Lib.hid (right16_any _ A wq HA.out HBF.out)
    obtain ⟨d0, d1, d2, d3, d4, d5, d6, d7⟩ := row8_facts HR5.out
    go_wp2_with fail
    refine HRT.out.mono ?_
    rintro e w4 ⟨rfl, hx4⟩
    replace HX := Lib.hid (HX.out.trans hx4)
    replace HA := Lib.hid (HA.out.ext hx4)
    replace HB := Lib.hid (HB.out.ext hx4)
    replace HR5 := Lib.hid (HR5.out.ext hx4)
    replace HR6 := Lib.hid (HR6.out.ext hx4)
    replace HS0 := Lib.hid (HS0.out.ext hx4)
    clear d0 d1 d2 d3 d4 d5 d6 d7 hx4 HRT
    have HTX := Lib.hid (Text_any _ A w4 HA.out HBF.out (HW.out.ext HX.out))
    obtain ⟨d0, d1, d2, d3, d4, d5, d6, d7⟩ := row8_facts HR5.out
    go_wp2_with fail
    refine HTX.out.mono ?_
    rintro e w5 ⟨rfl, hx5⟩
    replace HX := Lib.hid (HX.out.trans hx5)
    replace HA := Lib.hid (HA.out.ext hx5)
    replace HB := Lib.hid (HB.out.ext hx5)
    replace HR5 := Lib.hid (HR5.out.ext hx5)
    replace HR6 := Lib.hid (HR6.out.ext hx5)
    replace HS0 := Lib.hid (HS0.out.ext hx5)
    clear d0 d1 d2 d3 d4 d5 d6 d7 hx5 HTX
    have HPA := Lib.hid (Plain_any _ A w5 HA.out HBF.out (HW.out.ext HX.out))
    obtain ⟨wq5, hwr⟩ : ∃ x, w5 = x := ⟨_, rfl⟩
    rw [hwr] at HX HA HB HR5 HR6 HS0 HPA ⊢
    clear hwr
    obtain ⟨d0, d1, d2, d3, d4, d5, d6, d7⟩ := row8_facts HR5.out
    obtain ⟨S, cs, hqs⟩ : ∃ S cs, textF A = (S, cs) := ⟨_, _, rfl⟩
    rw [hqs]
    have HTF := Lib.hid hqs
    clear hqs
    go_wp2_with fail
    refine HPA.out.mono ?_
    rintro e w6 ⟨u6, rfl, hp6, hx6⟩
    obtain ⟨Q, cd, hq⟩ : ∃ Q cd, plainE A = (Q, cd) := ⟨_, _, rfl⟩
    have HSP := Lib.hid (show Spl Q by have := @spl_pl A; rw [hq] at this; exact this)
    rw [hq] at hp6 ⊢
    dsimp only at hp6 ⊢
    have HPE := Lib.hid hq
    have HI := Lib.hid hp6
    obtain ⟨f1, f1', f2, f2', f3, f3', rfl⟩ := hp6.at_.shape
    have HXZ := Lib.hid hx6
    clear hx6 hp6 d0 d1 d2 d3 d4 d5 d6 d7 HPA hq
    go_upto_region 7 with fail
    -- a pattern laid in a box: w6 the world, w7 the world behind, y10 the box's name, [.slice f1 Q.atoms.length f1', .slice f2 Q.ret.length f2', .bool Q.count, .bool Q.distinct, .bool Q.limited, .int .i64 Q.limit, .int .i64 Q.offset, .slice f3 Q.hint.length f3'] its cells. Facts: HEy10 (Ext), HRy10 (the row)
    have hxa := Ext.alloc w6 (.cells #[.slice f1 Q.atoms.length f1', .slice f2 Q.ret.length f2', .bool Q.count, .bool Q.distinct, .bool Q.limited, .int .i64 Q.limit, .int .i64 Q.offset, .slice f3 Q.hint.length f3'] 25)
    have hra := RowAt.new w6 25 [.slice f1 Q.atoms.length f1', .slice f2 Q.ret.length f2', .bool Q.count, .bool Q.distinct, .bool Q.limited, .int .i64 Q.limit, .int .i64 Q.offset, .slice f3 Q.hint.length f3']
    generalize w6.alloc (.cells #[.slice f1 Q.atoms.length f1', .slice f2 Q.ret.length f2', .bool Q.count, .bool Q.distinct, .bool Q.limited, .int .i64 Q.limit, .int .i64 Q.offset, .slice f3 Q.hint.length f3'] 25) = w7 at *
    obtain ⟨y10, hyn⟩ : ∃ y, w6.heap.size = y := ⟨_, rfl⟩
    rw [hyn] at hra
    try simp only [hyn]
    clear hyn
    have HEy10 := Lib.hid hxa
    have HRy10 := Lib.hid hra
    clear hxa hra
    replace HXZ := Lib.hid (HXZ.out.trans HEy10.out)
    replace HI := Lib.hid (HI.out.extN HEy10.out)
    clear HEy10
    go_upto_region 8 with fail
    have HLT := Lib.hid (show y10 < w7.heap.size ∧ wq5.heap.size ≤ w7.heap.size from ⟨HRy10.out.lt, HXZ.out.size⟩)
    have hxa := Ext.alloc w7 (.cells #[.slice none 0 0, .slice none 0 0, .bool false, .bool false, .bool false, .int .i64 0, .int .i64 0, .slice none 0 0] 25)
    have hra := RowAt.new w7 25 [.slice none 0 0, .slice none 0 0, .bool false, .bool false, .bool false, .int .i64 0, .int .i64 0, .slice none 0 0]
    generalize w7.alloc (.cells #[.slice none 0 0, .slice none 0 0, .bool false, .bool false, .bool false, .int .i64 0, .int .i64 0, .slice none 0 0] 25) = w8 at *
    obtain ⟨y13, hyn⟩ : ∃ y, w7.heap.size = y := ⟨_, rfl⟩
    rw [hyn] at hra HLT
    try simp only [hyn]
    clear hyn
    have HEy13 := Lib.hid hxa
    have HRy13 := Lib.hid hra
    clear hxa hra
    replace HXZ := Lib.hid (HXZ.out.trans HEy13.out)
    replace HI := Lib.hid (HI.out.extN HEy13.out)
    have HRq := Lib.hid (HRy10.out.ext HEy13.out)
    clear HEy13 HRy10
    go_upto_if 39 with fail
    go_cut [7, 12, 14] (fun s7 s12 s14 wx => s7 = .bool A.okB ∧ s12 = .string (txW A) ∧ s14 = .int .i64 cd ∧ TxC wq5 y10 y13 (.agg #[.slice f1 Q.atoms.length f1', .slice f2 Q.ret.length f2', .bool Q.count, .bool Q.distinct, .bool Q.limited, .int .i64 Q.limit, .int .i64 Q.offset, .slice f3 Q.hint.length f3']) [.slice f1 Q.atoms.length f1', .slice f2 Q.ret.length f2', .bool Q.count, .bool Q.distinct, .bool Q.limited, .int .i64 Q.limit, .int .i64 Q.offset, .slice f3 Q.hint.length f3'] Q wx)
    case first =>
      cases hok : A.okB with
      | false =>
        have hpe : plainE A = (noPat, 261) := by unfold plainE; rw [if_neg (by rw [hok]; decide)]
        obtain ⟨hq1, hq2⟩ := Prod.mk.inj (HPE.out.symm.trans hpe)
        have HTW := Lib.hid (show txW A = nilB by unfold txW; rw [if_neg (by rw [hok]; decide)])
        have HQ := Lib.hid hq1
        have HC2 := Lib.hid hq2
        have HOK7 := Lib.hid hok
        clear hpe HPE hok hq1 hq2
        go_wp2_with fail
        go_meet
        refine ⟨congrArg Value.bool HOK7.out.symm, congrArg Value.string HTW.out.symm, by rw [HC2.out], HXZ.out, HRq.out, HI.out, none, 0, none, 0, none, 0, ?_, ?_⟩
        · rw [HQ.out]; exact HRy13.out
        · rw [HQ.out]; exact (noPat_in 0 w8).at_
      | true =>
        have hpe : plainE A = (plainP A, 0) := by unfold plainE; rw [if_pos hok]
        obtain ⟨hq1, hq2⟩ := Prod.mk.inj (HPE.out.symm.trans hpe)
        have HTW := Lib.hid (show txW A = txt (textX A) by unfold txW; rw [if_pos hok])
        have HC2 := Lib.hid hq2
        have HOK7 := Lib.hid hok
        obtain ⟨t1, t2, t3, t4, t5, t6, t7, t8⟩ := text_ok hok
        have HRX := Lib.hid (fun w' (hx : Ext wq5 w') => textR17_any _ A w' (HA.out.ext hx) t1 t2 t3 t4 t5 t6 t7 t8)
        have HPX := Lib.hid (fun w' (hx : Ext wq5 w') => plain17_any _ A w' (HA.out.ext hx) (okB_few4 hok).1 (okB_few4 hok).2.1 (okB_few4 hok).2.2.1 (by have := (okB_few4 hok).2.2.2; omega))
        rw [← hq1] at HPX
        generalize txt (textX A) = TX at *
        clear hpe HPE hok hq1 hq2 t1 t2 t3 t4 t5 t6 t7 t8
        go_upto_region 9 with fail
        refine wp_region_grox [y13] txG9 [0, 2, 1, 3, 4, 5, 6] hmo (by kernel_rfl) rfl (by kernel_rfl) (fun _ _ _ _ _ h => h) ?_
        have hxd : Ext w8 w8.drew := Ext.drewN w8 1
        replace HXZ := Lib.hid (HXZ.out.trans hxd)
        replace HI := Lib.hid (HI.out.extN hxd)
        replace HRq := Lib.hid (HRq.out.ext hxd)
        replace HRy13 := Lib.hid (HRy13.out.ext hxd)
        clear hxd
        generalize w8.drew = w9 at *
        have hY : y5 ∉ [y13] := by
          have h5 := HR5.out.lt
          have h6 := HLT.out
          simp; omega
        refine groX_load rfl rfl rfl _ _ rfl y5 0 rfl _ _ (HR5.out.ext HXZ.out).whole hY Tryz.underlying25 rfl (by kernel_rfl) ?_
        refine groX_load rfl rfl rfl _ _ rfl y5 0 rfl _ _ (HR5.out.ext HXZ.out).whole hY Tryz.underlying25 rfl (by kernel_rfl) ?_
        -- in a drawn region (GroX): a call: refine (HRX.out w9 HXZ.out).mono ?_; rintro e wa ⟨rfl, hxa⟩ the contract taken and its results named, hxa Ext over it
        refine groX_grow rfl rfl ?_
        intro K hK
        go_simp
        refine (HRX.out w9 HXZ.out).mono ?_; rintro e wa ⟨rfl, hxa⟩
        go_simp
        refine hK _ _ ⟨Grows.ext hxa, ?_⟩
        clear hK K
        -- in a drawn region (GroX): a call: refine (HPX.out wa (HXZ.out.trans hxa)).mono ?_; rintro e wb ⟨ub, rfl, hpb, hxb⟩; obtain ⟨g1, g1', g2, g2', g3, g3', rfl⟩ := hpb.at_.shape the contract taken and its results named, hxb Ext over it
        refine groX_grow rfl rfl ?_
        intro K hK
        go_simp
        refine (HPX.out wa (HXZ.out.trans hxa)).mono ?_; rintro e wb ⟨ub, rfl, hpb, hxb⟩; obtain ⟨g1, g1', g2, g2', g3, g3', rfl⟩ := hpb.at_.shape
        go_simp
        refine hK _ _ ⟨Grows.ext hxb, ?_⟩
        clear hK K
        have hxab := hxa.trans hxb
        repeat (first
          | (refine groX_pure rfl rfl ?_; intro K hK; go_simp; refine hK _ ?_; clear hK K)
          | (refine groX_read rfl rfl ?_; intro K S hS hK; go_simp; refine hK _ ?_; clear hK K hS S)
          | (refine groX_read rfl rfl ?_; intro K S hS hK; go_simp; refine ⟨hS _ ?_, hK _ ?_⟩; (clear hK K hS S; intro w' hx'; have hce := grows_some hx'; go_simp); clear hK K hS S))
        refine groX_store rfl rfl rfl _ _ _ rfl y13 [.slice g1 Q.atoms.length g1', .slice g2 Q.ret.length g2', .bool Q.count, .bool Q.distinct, .bool Q.limited, .int .i64 Q.limit, .int .i64 Q.offset, .slice g3 Q.hint.length g3'] rfl rfl (HRy13.out.ext hxab) (by simp) (by kernel_rfl) rfl (by simp [Value.oneCell']) ?_
        have hgr := setRow_grown wb y13 ([.slice g1 Q.atoms.length g1', .slice g2 Q.ret.length g2', .bool Q.count, .bool Q.distinct, .bool Q.limited, .int .i64 Q.limit, .int .i64 Q.offset, .slice g3 Q.hint.length g3'] : List Value).toArray
        have HR13 := Lib.hid ((HRy13.out.ext hxab).setRow [.slice g1 Q.atoms.length g1', .slice g2 Q.ret.length g2', .bool Q.count, .bool Q.distinct, .bool Q.limited, .int .i64 Q.limit, .int .i64 Q.offset, .slice g3 Q.hint.length g3'])
        have HR10 := Lib.hid ((HRq.out.ext hxab).kept hgr (fun e => by have := HLT.out.1; have := Option.some.inj e; omega))
        have HI9 := Lib.hid (patin_row (HI.out.extN hxab) (HRy13.out.ext hxab) hgr)
        have HA13 := Lib.hid (patin_row hpb (HRy13.out.ext hxab) hgr).at_
        have hxz := below_setRow (HXZ.out.trans hxab) HLT.out.2 ([.slice g1 Q.atoms.length g1', .slice g2 Q.ret.length g2', .bool Q.count, .bool Q.distinct, .bool Q.limited, .int .i64 Q.limit, .int .i64 Q.offset, .slice g3 Q.hint.length g3'] : List Value).toArray
        clear HXZ
        have HXZ := Lib.hid (show Ext wq5 (wb.setRow y13 ([.slice g1 Q.atoms.length g1', .slice g2 Q.ret.length g2', .bool Q.count, .bool Q.distinct, .bool Q.limited, .int .i64 Q.limit, .int .i64 Q.offset, .slice g3 Q.hint.length g3'] : List Value).toArray) from hxz)
        clear hgr hxz hpb hxb hxa hxab HRy13 HRq HI HPX HRX hY
        generalize wb.setRow y13 ([.slice g1 Q.atoms.length g1', .slice g2 Q.ret.length g2', .bool Q.count, .bool Q.distinct, .bool Q.limited, .int .i64 Q.limit, .int .i64 Q.offset, .slice g3 Q.hint.length g3'] : List Value).toArray = wz at *
        repeat (first
          | (refine groX_pure rfl rfl ?_; intro K hK; go_simp; refine hK _ ?_; clear hK K)
          | (refine groX_read rfl rfl ?_; intro K S hS hK; go_simp; refine hK _ ?_; clear hK K hS S)
          | (refine groX_read rfl rfl ?_; intro K S hS hK; go_simp; refine ⟨hS _ ?_, hK _ ?_⟩; (clear hK K hS S; intro w' hx'; have hce := grows_some hx'; go_simp); clear hK K hS S))
        refine groX_nil ?_
        go_wp2_with fail
        go_meet
        exact ⟨congrArg Value.bool HOK7.out.symm, congrArg Value.string HTW.out.symm, by rw [HC2.out], HXZ.out, HR10.out, HI9.out, g1, g1', g2, g2', g3, g3', HR13.out, HA13.out⟩
    case rest =>
      obtain ⟨rfl, rfl, rfl, hxc, hr10, hic, g1, g1', g2, g2', g3, g3', hr13, ha13⟩ := hcut
      obtain ⟨w9, rfl⟩ : ∃ z, z = wc := ⟨_, rfl⟩
      clear HXZ HI HRq HRy13
      have HXZ := Lib.hid hxc
      have HR10 := Lib.hid hr10
      have HI9 := Lib.hid hic
      have HR13 := Lib.hid hr13
      have HA13 := Lib.hid ha13
      clear hxc hr10 hic hr13 ha13
      have HSM := Lib.hid (same16_any _ _ Q Q w9 HI9.out.at_ HA13.out (by have := HSP.out.la; omega) (by have := HSP.out.la; omega))
      rw [same_self] at HSM
      obtain ⟨d0, d1, d2, d3, d4, d5, d6, d7⟩ := row8_facts HR10.out
      obtain ⟨r0, r1, r2, r3, r4, r5, r6, r7⟩ := row8_facts HR13.out
      go_wp2_with fail
      refine HSM.out.mono ?_
      rintro e wa ⟨rfl, hxa⟩
      replace HXZ := Lib.hid (HXZ.out.trans hxa)
      replace HI9 := Lib.hid (HI9.out.extN hxa)
      replace HR10 := Lib.hid (HR10.out.ext hxa)
      replace HR13 := Lib.hid (HR13.out.ext hxa)
      replace HA13 := Lib.hid (HA13.out.ext hxa)
      clear d0 d1 d2 d3 d4 d5 d6 d7 r0 r1 r2 r3 r4 r5 r6 r7 HSM hxa
      go_upto_if 55 with fail
      go_cut [12, 14] (fun s12 s14 wx => s12 = .string S ∧ s14 = .int .i64 cs ∧ wx = wa)
      case first =>
        by_cases hbg : (500 : Int) < ((txW A).size : Int)
        · obtain ⟨hs1, hs2⟩ := Prod.mk.inj (HTF.out.symm.trans (txW_big hbg))
          have HS1 := Lib.hid hs1
          have HS2 := Lib.hid hs2
          clear HTF hs1 hs2
          go_wp2_with fail
          go_meet
          exact ⟨by rw [HS1.out]; rfl, by rw [HS2.out], rfl⟩
        · obtain ⟨hs1, hs2⟩ := Prod.mk.inj (HTF.out.symm.trans (txW_small hbg))
          have hcd : cs = cd := by rw [hs2, HPE.out]
          have HS1 := Lib.hid hs1
          have HS2 := Lib.hid hcd
          clear HTF hs1 hs2 hcd
          go_wp2_with fail
          go_meet
          exact ⟨by rw [HS1.out], by rw [HS2.out], rfl⟩
      case rest =>
        obtain ⟨rfl, rfl, hwc⟩ := hcut
        rw [hwc]
        clear hwc HTF
        go_upto_region 16 with fail
        go_cut [7, 15] (fun s7 s15 wx => s15 = .bool (alikeB A B) ∧ Ext wa wx)
        case first =>
          cases hok : A.okB with
          | false =>
            have HAL := Lib.hid (show alikeB A B = false by unfold alikeB; rw [hok]; rfl)
            clear hok
            refine wp_region_gro txG16 [0, 1, 2, 3, 4, 5, 6, 7, 8, 9, 10, 11] hmo (by kernel_rfl) rfl (by kernel_rfl) (fun _ _ _ _ _ h => h) ?_
            have HXD := Lib.hid (show Ext wa wa.drew from Ext.drewN wa 1)
            generalize wa.drew = wd at *
            -- as GROWALK; calls that are not wanted are passed over
            repeat (first
              | (refine groL_pure rfl rfl ?_; intro K hK; go_simp; refine hK _ ?_; clear hK K)
              | (refine groL_read rfl rfl ?_; intro K S hS hK; go_simp; refine hK _ ?_; clear hK K hS S)
              | (refine groL_read rfl rfl ?_; intro K S hS hK; go_simp; refine ⟨hS _ ?_, hK _ ?_⟩; (clear hK K hS S; intro w' hx'; have hce := ext_some hx'; go_simp); clear hK K hS S)
              | (refine groL_write rfl rfl ?_; intro K hK; go_simp; refine hK _ _ ?_; clear hK K)
              | (refine groL_grow rfl rfl ?_; intro K hK; go_simp; refine hK _ _ ⟨Ext.refl _, ?_⟩; clear hK K))
            refine groL_nil ?_
            try go_wp2_with fail
            go_meet
            exact ⟨congrArg Value.bool HAL.out.symm, HXD.out⟩
          | true =>
            have hpe : plainE A = (plainP A, 0) := by unfold plainE; rw [if_pos hok]
            have HQP := Lib.hid (Prod.mk.inj (HPE.out.symm.trans hpe)).1
            clear hpe
            refine wp_region_gro txG16 [0, 1, 2, 3, 4, 5, 6, 7, 8, 9, 10, 11] hmo (by kernel_rfl) rfl (by kernel_rfl) (fun _ _ _ _ _ h => h) ?_
            have HXD := Lib.hid (show Ext wa wa.drew from Ext.drewN wa 1)
            generalize wa.drew = wd at *
            have HRB := Lib.hid (right16_any _ B wd (HB.out.ext (HXZ.out.trans HXD.out)) HBF2.out)
            have HS6 := Lib.hid (HR6.out.ext (HXZ.out.trans HXD.out))
            obtain ⟨d0, d1, d2, d3, d4, d5, d6, d7⟩ := row8_facts HS6.out
            have HOK := Lib.hid hok
            clear hok
            cases hob : B.okB with
            | false =>
              rw [hob] at HRB
              have HAL := Lib.hid (show alikeB A B = false by unfold alikeB; rw [HOK.out, hob]; rfl)
              clear hob
              repeat (first
                | (refine groL_pure rfl rfl ?_; intro K hK; go_simp; refine hK _ ?_; clear hK K)
                | (refine groL_read rfl rfl ?_; intro K S hS hK; go_simp; refine hK _ ?_; clear hK K hS S)
                | (refine groL_read rfl rfl ?_; intro K S hS hK; go_simp; refine ⟨hS _ ?_, hK _ ?_⟩; (clear hK K hS S; intro w' hx'; have hce := ext_some hx'; go_simp); clear hK K hS S)
                | (refine groL_write rfl rfl ?_; intro K hK; go_simp; refine hK _ _ ?_; clear hK K))
              clear d0 d1 d2 d3 d4 d5 d6 d7 HS6
              refine groL_grow rfl rfl ?_
              intro K hK
              go_simp
              (refine HRB.out.mono ?_; rintro e we ⟨rfl, hxe⟩)
              go_simp
              refine hK _ _ ⟨hxe, ?_⟩
              clear hK K
              have HXE := Lib.hid (HXD.out.trans hxe)
              clear hxe
              -- as GROWALK; calls that are not wanted are passed over
              repeat (first
                | (refine groL_pure rfl rfl ?_; intro K hK; go_simp; refine hK _ ?_; clear hK K)
                | (refine groL_read rfl rfl ?_; intro K S hS hK; go_simp; refine hK _ ?_; clear hK K hS S)
                | (refine groL_read rfl rfl ?_; intro K S hS hK; go_simp; refine ⟨hS _ ?_, hK _ ?_⟩; (clear hK K hS S; intro w' hx'; have hce := ext_some hx'; go_simp); clear hK K hS S)
                | (refine groL_write rfl rfl ?_; intro K hK; go_simp; refine hK _ _ ?_; clear hK K)
                | (refine groL_grow rfl rfl ?_; intro K hK; go_simp; refine hK _ _ ⟨Ext.refl _, ?_⟩; clear hK K))
              refine groL_nil ?_
              try go_wp2_with fail
              go_meet
              exact ⟨congrArg Value.bool HAL.out.symm, HXE.out⟩
            | true =>
              rw [hob] at HRB
              have HAL := Lib.hid (show alikeB A B = sameB Q (plainP B) by unfold alikeB; rw [HOK.out, hob, HQP.out]; rfl)
              have HOB := Lib.hid hob
              clear hob
              repeat (first
                | (refine groL_pure rfl rfl ?_; intro K hK; go_simp; refine hK _ ?_; clear hK K)
                | (refine groL_read rfl rfl ?_; intro K S hS hK; go_simp; refine hK _ ?_; clear hK K hS S)
                | (refine groL_read rfl rfl ?_; intro K S hS hK; go_simp; refine ⟨hS _ ?_, hK _ ?_⟩; (clear hK K hS S; intro w' hx'; have hce := ext_some hx'; go_simp); clear hK K hS S)
                | (refine groL_write rfl rfl ?_; intro K hK; go_simp; refine hK _ _ ?_; clear hK K))
              clear d0 d1 d2 d3 d4 d5 d6 d7 HS6
              refine groL_grow rfl rfl ?_
              intro K hK
              go_simp
              (refine HRB.out.mono ?_; rintro e we ⟨rfl, hxe⟩)
              go_simp
              refine hK _ _ ⟨hxe, ?_⟩
              clear hK K
              have HXE := Lib.hid (HXD.out.trans hxe)
              clear hxe
              have HPX := Lib.hid (plain17_any _ B we (HB.out.ext (HXZ.out.trans HXE.out)) (okB_few4 HOB.out).1 (okB_few4 HOB.out).2.1 (okB_few4 HOB.out).2.2.1 (by have := (okB_few4 HOB.out).2.2.2; omega))
              have HS6 := Lib.hid (HR6.out.ext (HXZ.out.trans HXE.out))
              have HS13 := Lib.hid (HR13.out.ext HXE.out)
              obtain ⟨d0, d1, d2, d3, d4, d5, d6, d7⟩ := row8_facts HS6.out
              obtain ⟨r0, r1, r2, r3, r4, r5, r6, r7⟩ := row8_facts HS13.out
              repeat (first
                | (refine groL_pure rfl rfl ?_; intro K hK; go_simp; refine hK _ ?_; clear hK K)
                | (refine groL_read rfl rfl ?_; intro K S hS hK; go_simp; refine hK _ ?_; clear hK K hS S)
                | (refine groL_read rfl rfl ?_; intro K S hS hK; go_simp; refine ⟨hS _ ?_, hK _ ?_⟩; (clear hK K hS S; intro w' hx'; have hce := ext_some hx'; go_simp); clear hK K hS S)
                | (refine groL_write rfl rfl ?_; intro K hK; go_simp; refine hK _ _ ?_; clear hK K))
              clear d0 d1 d2 d3 d4 d5 d6 d7 r0 r1 r2 r3 r4 r5 r6 r7 HS6 HS13
              refine groL_grow rfl rfl ?_
              intro K hK
              go_simp
              (refine HPX.out.mono ?_; rintro e wf ⟨uf, rfl, hpf, hxf⟩)
              go_simp
              refine hK _ _ ⟨hxf, ?_⟩
              clear hK K
              obtain ⟨j1, j1', j2, j2', j3, j3', rfl⟩ := hpf.at_.shape
              have HXF := Lib.hid (HXE.out.trans hxf)
              have HSM := Lib.hid (same16_any _ _ Q (plainP B) wf (HA13.out.ext HXF.out) hpf.at_ (by have := HSP.out.la; omega) (by have := (plain_fits HOB.out).few; omega))
              clear hxf hpf
              generalize sameB Q (plainP B) = sb at *
              refine groL_grow rfl rfl ?_
              intro K hK
              go_simp
              (refine HSM.out.mono ?_; rintro e wg ⟨rfl, hxg⟩)
              go_simp
              refine hK _ _ ⟨hxg, ?_⟩
              clear hK K
              have HXG := Lib.hid (HXF.out.trans hxg)
              clear hxg
              repeat (first
                | (refine groL_pure rfl rfl ?_; intro K hK; go_simp; refine hK _ ?_; clear hK K)
                | (refine groL_read rfl rfl ?_; intro K S hS hK; go_simp; refine hK _ ?_; clear hK K hS S)
                | (refine groL_read rfl rfl ?_; intro K S hS hK; go_simp; refine ⟨hS _ ?_, hK _ ?_⟩; (clear hK K hS S; intro w' hx'; have hce := ext_some hx'; go_simp); clear hK K hS S)
                | (refine groL_write rfl rfl ?_; intro K hK; go_simp; refine hK _ _ ?_; clear hK K))
              refine groL_nil ?_
              try go_wp2_with fail
              go_meet
              exact ⟨congrArg Value.bool HAL.out.symm, HXG.out⟩
        case rest =>
          obtain ⟨rfl, hxc⟩ := hcut
          obtain ⟨w9, rfl⟩ : ∃ z, z = wc := ⟨_, rfl⟩
          replace HXZ := Lib.hid (HXZ.out.trans hxc)
          replace HI9 := Lib.hid (HI9.out.extN hxc)
          replace HR10 := Lib.hid (HR10.out.ext hxc)
          clear hxc HR13 HA13
          have HAL := Lib.hid (Alike_any _ _ A B w9 (HA.out.ext HXZ.out) (HB.out.ext HXZ.out) HBF.out HBF2.out (HW.out.ext (HX.out.trans HXZ.out)))
          obtain ⟨al, hal⟩ : ∃ b, alikeB A B = b := ⟨_, rfl⟩
          rw [hal] at HAL ⊢
          clear hal
          have hall : (al != al) = false := by cases al <;> rfl
          have HS5 := Lib.hid (HR5.out.ext HXZ.out)
          have HS6 := Lib.hid (HR6.out.ext HXZ.out)
          obtain ⟨d0, d1, d2, d3, d4, d5, d6, d7⟩ := row8_facts HS5.out
          obtain ⟨r0, r1, r2, r3, r4, r5, r6, r7⟩ := row8_facts HS6.out
          go_wp2_with fail
          refine HAL.out.mono ?_
          rintro e wb ⟨rfl, hxb⟩
          obtain ⟨wz0, hwz0⟩ : ∃ x, wb = x := ⟨_, rfl⟩
          rw [hwz0] at hxb ⊢
          clear hwz0
          replace HXZ := Lib.hid (HXZ.out.trans hxb)
          replace HI9 := Lib.hid (HI9.out.extN hxb)
          replace HR10 := Lib.hid (HR10.out.ext hxb)
          clear d0 d1 d2 d3 d4 d5 d6 d7 r0 r1 r2 r3 r4 r5 r6 r7 hxb HS5 HS6 HAL
          have HS5 := Lib.hid (HR5.out.ext HXZ.out)
          have d0 := HS5.out.cell (i := 0) rfl
          go_upto_region 20 with fail
          clear d0 HS5 hall
          have HAT := Lib.hid (PatAt.atoms HA.out)
          go_loopg [83] A.atoms.length (fun g i wr => ∃ k : Nat, k ≤ A.atoms.length ∧ g = A.atoms.length - k ∧ i = .int .i64 k ∧ Ext wz0 wr)
          case atStart => exact ⟨0, Nat.zero_le _, rfl, rfl, Ext.refl _⟩
          case round =>
            obtain ⟨k, hk, hg, rfl, hxr⟩ := hrel
            have Hg := Lib.hid hg
            have HXR := Lib.hid hxr
            clear hg hxr
            by_cases hlt : k < A.atoms.length
            · obtain ⟨b, o, rfl, t0, t1, t2, t3, t4, t5, t6⟩ := (HAT.out.ext (HXZ.out.trans HXR.out)).at_ hlt
              have HFT := Lib.hid (HBF.out.atoms _ (List.getElem_mem hlt))
              obtain ⟨x, hxe⟩ : ∃ x, A.atoms[k] = x := ⟨_, rfl⟩
              rw [hxe] at t0 t1 t2 t3 t4 t5 t6 HFT
              clear hxe
              obtain ⟨kd, fk, fn, nm, vl, tk, tn⟩ := x
              dsimp only at t0 t1 t2 t3 t4 t5 t6
              have HB17 := Lib.hid (RowAt.new wr 40 [.int .i64 kd, .bool fk, .string fn, .string nm, .string vl, .bool tk, .string tn])
              have HX5 := Lib.hid (HXR.out.trans (Ext.alloc wr (.cells #[.int .i64 kd, .bool fk, .string fn, .string nm, .string vl, .bool tk, .string tn] 40)))
              go_upto_region 22 with fail
              clear t0 t1 t2 t3 t4 t5 t6
              generalize wr.alloc (.cells #[.int .i64 kd, .bool fk, .string fn, .string nm, .string vl, .bool tk, .string tn] 40) = w5 at *
              generalize wr.heap.size = y17 at *
              obtain ⟨ok1, hok1⟩ : ∃ z, (oneP ⟨kd, fk, fn, nm, vl, tk, tn⟩).okB = z := ⟨_, rfl⟩
              have ham := AtomP_any ⟨kd, fk, fn, nm, vl, tk, tn⟩ w5 HFT.out
              dsimp only at ham
              rw [hok1] at ham
              obtain ⟨x1, hx1⟩ : ∃ z, (if ok1 = true then txt (atomX ⟨kd, fk, fn, nm, vl, tk, tn⟩) else nilB) = z := ⟨_, rfl⟩
              obtain ⟨n1, hn1⟩ : ∃ z, (if ok1 = true then (0 : Int) else 261) = z := ⟨_, rfl⟩
              rw [hx1, hn1] at ham
              have HAM := Lib.hid ham
              have HX1 := Lib.hid hx1
              have HN1 := Lib.hid hn1
              have HO1 := Lib.hid hok1
              clear ham hx1 hn1 hok1
              obtain ⟨d0, d1, d2, d3, d4, d5, d6⟩ := row7_facts HB17.out
              go_wp2_with fail
              refine HAM.out.mono ?_
              rintro e w6 ⟨rfl, hx6⟩
              have HX6 := Lib.hid (HX5.out.trans hx6)
              replace HB17 := Lib.hid (HB17.out.ext hx6)
              clear d0 d1 d2 d3 d4 d5 d6 hx6 HX5 HAM
              go_upto_region 23 with fail
              go_cut [18, 19, 120] (fun s18 s19 s wx => s = .bool false ∧ Ext w6 wx)
              case first =>
                have hro := oneP_right ⟨kd, fk, fn, nm, vl, tk, tn⟩ HFT.out w6
                rw [HO1.out] at hro
                dsimp only at hro
                have HRO := Lib.hid hro
                have HXW := Lib.hid (Ext.alloc w6 (.cells #[.int .i64 kd, .bool fk, .string fn, .string nm, .string vl, .bool tk, .string tn] 40))
                clear hro
                obtain ⟨d0, d1, d2, d3, d4, d5, d6⟩ := row7_facts HB17.out
                cases ok1 with
                | true =>
                  have hx1 := HX1.out
                  have hn1 := HN1.out
                  rw [if_pos rfl] at hx1 hn1
                  subst hn1
                  have hsz := Atm.size_of (one_atomB HO1.out)
                  dsimp only at hsz
                  have HRA := Lib.hid (fun w' => atomR17_any kd fk fn nm vl tk tn w' ⟨by omega, by omega, by omega, by omega⟩)
                  rw [hx1] at HRA
                  clear hsz hx1 HX1 HN1 HO1
                  go_wp2_with fail
                  refine HRO.out.mono ?_
                  rintro e w7 ⟨rfl, hx7⟩
                  have HX7 := Lib.hid (HXW.out.trans hx7)
                  clear d0 d1 d2 d3 d4 d5 d6 hx7 HXW HRO
                  have HB7 := Lib.hid (HB17.out.ext HX7.out)
                  obtain ⟨d0, d1, d2, d3, d4, d5, d6⟩ := row7_facts HB7.out
                  go_wp2_with fail
                  refine (HRA.out w7).mono ?_
                  rintro e w8 ⟨rfl, hx8⟩
                  have HX8 := Lib.hid (HX7.out.trans hx8)
                  clear d0 d1 d2 d3 d4 d5 d6 hx8 HX7 HRA HB7
                  go_wp2_with fail
                  go_meet
                  exact ⟨rfl, HX8.out⟩
                | false =>
                  have hx1 := HX1.out
                  have hn1 := HN1.out
                  rw [if_neg (by decide)] at hx1 hn1
                  subst hx1 hn1
                  clear HX1 HN1 HO1
                  go_wp2_with fail
                  refine HRO.out.mono ?_
                  rintro e w7 ⟨rfl, hx7⟩
                  have HX7 := Lib.hid (HXW.out.trans hx7)
                  clear d0 d1 d2 d3 d4 d5 d6 hx7 HXW HRO
                  unfold nilB
                  go_wp2_with fail
                  go_meet
                  exact ⟨rfl, HX7.out⟩
              case rest =>
                obtain ⟨rfl, hxc⟩ := hcut
                obtain ⟨w7, rfl⟩ : ∃ z, z = wc := ⟨_, rfl⟩
                have HX7 := Lib.hid (HX6.out.trans hxc)
                replace HB17 := Lib.hid (HB17.out.ext hxc)
                clear hxc HX6 HX1 HN1 HO1
                have htm := prTT_any fk fn w7 HFT.out.fn
                obtain ⟨wd1, hwd⟩ : ∃ z, wordB fn = z := ⟨_, rfl⟩
                rw [hwd] at htm
                obtain ⟨x1, hx1⟩ : ∃ z, (if wd1 = true then txt (termX fk fn) else nilB) = z := ⟨_, rfl⟩
                obtain ⟨n1, hn1⟩ : ∃ z, (if wd1 = true then (0 : Int) else 261) = z := ⟨_, rfl⟩
                rw [hx1, hn1] at htm
                have HTM := Lib.hid htm
                have HX1 := Lib.hid hx1
                have HN1 := Lib.hid hn1
                have HWD := Lib.hid hwd
                clear htm hx1 hn1 hwd
                obtain ⟨d0, d1, d2, d3, d4, d5, d6⟩ := row7_facts HB17.out
                go_wp2_with fail
                refine HTM.out.mono ?_
                rintro e w8 ⟨rfl, hx8⟩
                have HX8 := Lib.hid (HX7.out.trans hx8)
                replace HB17 := Lib.hid (HB17.out.ext hx8)
                clear d0 d1 d2 d3 d4 d5 d6 hx8 HX7 HTM
                go_upto_region 26 with fail
                go_cut [18, 19, 156] (fun s18 s19 s wx => s = .bool false ∧ Ext w8 wx)
                case first =>
                  have hwr := wordR' fn w8 HFT.out.fn
                  rw [HWD.out] at hwr
                  have HWR := Lib.hid hwr
                  clear hwr
                  obtain ⟨d0, d1, d2, d3, d4, d5, d6⟩ := row7_facts HB17.out
                  cases wd1 with
                  | true =>
                    have hx1 := HX1.out
                    have hn1 := HN1.out
                    rw [if_pos rfl] at hx1 hn1
                    subst hn1
                    have HRA := Lib.hid (termR17_any fk fn w8 (word_sz HWD.out))
                    rw [hx1] at HRA
                    clear hx1 HX1 HN1 HWD
                    go_wp2_with fail
                    refine HWR.out.mono ?_
                    rintro e w9' ⟨rfl, rfl⟩
                    go_wp2_with fail
                    refine HRA.out.mono ?_
                    rintro e w9 ⟨rfl, hx9⟩
                    have HX9 := Lib.hid hx9
                    clear d0 d1 d2 d3 d4 d5 d6 hx9 HRA
                    go_wp2_with fail
                    go_meet
                    exact ⟨rfl, HX9.out⟩
                  | false =>
                    have hx1 := HX1.out
                    have hn1 := HN1.out
                    rw [if_neg (by decide)] at hx1 hn1
                    subst hx1 hn1
                    clear HX1 HN1 HWD
                    go_wp2_with fail
                    refine HWR.out.mono ?_
                    rintro e w9' ⟨rfl, rfl⟩
                    clear d0 d1 d2 d3 d4 d5 d6
                    unfold nilB
                    go_wp2_with fail
                    go_meet
                    exact ⟨rfl, Ext.refl _⟩
                case rest =>
                  obtain ⟨rfl, hxc⟩ := hcut
                  have HX9 := Lib.hid (HX8.out.trans hxc)
                  clear hxc HX8 HX1 HN1 HWD HB17
                  have hfw := HBF.out.few
                  go_wp2_with fail
                  go_roundg (A.atoms.length - (k + 1))
                  case measure => have := Hg.out; omega
                  case rel => exact ⟨k + 1, by omega, rfl, by go_num, HX9.out⟩
            · obtain rfl : k = A.atoms.length := by omega
              replace HXZ := Lib.hid (HXZ.out.trans HXR.out)
              replace HI9 := Lib.hid (HI9.out.extN HXR.out)
              replace HR10 := Lib.hid (HR10.out.ext HXR.out)
              clear hlt hk Hg HXR HAT
              have HSPO := Lib.hid (spoil_any _ Q wq5.heap.size wr HI9.out HXZ.out.size HSP.out.ka HSP.out.sr HSP.out.sh HSP.out.la HSP.out.lr HSP.out.lh)
              obtain ⟨d0, d1, d2, d3, d4, d5, d6, d7⟩ := row8_facts HR10.out
              go_wp2_with fail
              refine HSPO.out.mono ?_
              rintro e wb ⟨rfl, hxb⟩
              have HXB := Lib.hid (show Ext wq5 wb from Below.trans HXZ.out hxb)
              clear d0 d1 d2 d3 d4 d5 d6 d7 hxb HXZ HI9 HR10 HSPO HSP
              go_upto_region 30 with fail
              refine wp_region_gro txG30 [0, 1, 2, 3, 4] hmo (by kernel_rfl) rfl (by kernel_rfl) (fun _ _ _ _ _ h => h) ?_
              replace HXB := Lib.hid (show Ext wq5 wb.drew from HXB.out.trans (Ext.drewN wb 1))
              generalize wb.drew = wd at *
              have HS5 := Lib.hid (HR5.out.ext HXB.out)
              have HS2 := Lib.hid (HS0.out.ext HXB.out)
              obtain ⟨d0, d1, d2, d3, d4, d5, d6, d7⟩ := row8_facts HS5.out
              obtain ⟨r0, r1, r2, r3, r4, r5, r6, r7⟩ := row8_facts HS2.out
              repeat (first
                | (refine groL_pure rfl rfl ?_; intro K hK; go_simp; refine hK _ ?_; clear hK K)
                | (refine groL_read rfl rfl ?_; intro K S hS hK; go_simp; refine hK _ ?_; clear hK K hS S)
                | (refine groL_read rfl rfl ?_; intro K S hS hK; go_simp; refine ⟨hS _ ?_, hK _ ?_⟩; (clear hK K hS S; intro w' hx'; have hce := ext_some hx'; go_simp); clear hK K hS S)
                | (refine groL_write rfl rfl ?_; intro K hK; go_simp; refine hK _ _ ?_; clear hK K))
              clear d0 d1 d2 d3 d4 d5 d6 d7 r0 r1 r2 r3 r4 r5 r6 r7 HS5 HS2
              refine groL_grow rfl rfl ?_
              intro K hK
              go_simp
              (refine (HOW.out wd (HX.out.trans HXB.out)).mono ?_; rintro e we ⟨ue, rfl, hpe, hxe⟩)
              go_simp
              refine hK _ _ ⟨hxe, ?_⟩
              clear hK K
              have HFE := Lib.hid hpe.at_
              obtain ⟨j1, j1', j2, j2', j3, j3', rfl⟩ := hpe.at_.shape
              have HXE := Lib.hid (HXB.out.trans hxe)
              have HSM := Lib.hid (same16_any _ _ A A we (HA.out.ext HXE.out) HFE.out (by have := HBF.out.few; omega) (by have := HBF.out.few; omega))
              rw [same_self] at HSM
              clear hxe hpe HXB
              refine groL_grow rfl rfl ?_
              intro K hK
              go_simp
              (refine HSM.out.mono ?_; rintro e wf ⟨rfl, hxf⟩)
              go_simp
              refine hK _ _ ⟨hxf, ?_⟩
              clear hK K
              have HXF := Lib.hid (HX.out.trans (HXE.out.trans hxf))
              clear HXE hxf HSM HFE
              repeat (first
                | (refine groL_pure rfl rfl ?_; intro K hK; go_simp; refine hK _ ?_; clear hK K)
                | (refine groL_read rfl rfl ?_; intro K S hS hK; go_simp; refine hK _ ?_; clear hK K hS S)
                | (refine groL_read rfl rfl ?_; intro K S hS hK; go_simp; refine ⟨hS _ ?_, hK _ ?_⟩; (clear hK K hS S; intro w' hx'; have hce := ext_some hx'; go_simp); clear hK K hS S)
                | (refine groL_write rfl rfl ?_; intro K hK; go_simp; refine hK _ _ ?_; clear hK K))
              refine groL_nil ?_
              go_wp2_with fail
              go_ret
              exact ⟨rfl, HXF.out⟩
end Go.Proofs.YthoneahamnmjlaaGreatDoor
