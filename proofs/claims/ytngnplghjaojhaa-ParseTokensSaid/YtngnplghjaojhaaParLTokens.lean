/- ParseTokens: the walk. -/
import Derived.Test.YtngnplghjaojhaaGp25
import Derived.Test.YtngnplghjaojhaaGp36
import Derived.Test.YtngnplghjaojhaaGp08
namespace Go.Proofs.Ytngnplghjaojhaa
set_option maxRecDepth 100000
set_option maxHeartbeats 2000000
set_option linter.unusedSimpArgs false
open Go.RowKit Go.Shelf Go.Sort
attribute [local go_sem] Oper.semAt_some wide_fn wide_depth
set_option linter.unusedVariables false

theorem eqNil_cloneT0 (a : Option Addr) (n c n' c' : Nat) (w : World) : (binOp .eql 36 (.slice a n c) (.slice none n' c')).run Try.prog w = .ok (.bool a.isNone) w :=
  Lib.run_eql_slice_nil w _ _ a n c n' c' Try.underlying36
set_option maxHeartbeats 400000 in
theorem cloneT0 (v : Value) (n : Nat) (xs : List Value) (w : World) (hv : Sl w v n xs) (hl : xs.length = n * 3) (h1 : ∀ x ∈ xs, x.oneCell' = true) (hn : n ≤ 1048576) :
    Calls Try.prog 14 #[v] w fun e w' => ∃ u, e = .returned u ∧ w'.ownsRow w.heap.size 39 3 u n xs ∧ Ext w w' := by
  have hv' := hv
  obtain ⟨a, cap, rfl, hcap, hmax, hc⟩ := hv'.open_
  have hq := eqNil_cloneT0
  have H1 := Lib.hid h1
  have HL := Lib.hid hl
  cases a with
  | none =>
    have hl' : xs = [] := List.eq_nil_of_length_eq_zero (by rcases Nat.eq_zero_or_pos xs.length with h | h; exact h; obtain ⟨_, _, h, _⟩ := hc 0 h; cases h)
    clear hv' hc
    subst hl'
    obtain rfl : n = 0 := by simp at hl; omega
    clear h1 hl
    go_enter Try.func14, Try.ntmps14
    go_wp2
    go_ret
    exact ⟨_, rfl, World.ownsRow_nil _ _ _ _, Ext.refl _⟩
  | some ad =>
    have HV := Lib.hid hv
    clear hv' hc h1 hl hv
    go_enter Try.func14, Try.ntmps14
    go_wp2_with (at_builtin; refine wpList_append_sl _ rfl _ _ _ rfl elTok rfl (own_new w w.heap.size #[] 39 3 0 (Nat.le_refl _) rfl (Nat.zero_le _)) rfl (HV.out.ext (Ext.alloc _ _)) ?_ H1.out ?_ ?_ ?_ ?_)
    · rw [HL.out]
    · omega
    · unfold maxLen; omega
    · simp
    intro v1 w1 hown hb _ _
    go_wp2
    go_ret
    exact ⟨_, rfl, by simpa using hown, Below.trans (Ext.alloc w _) hb⟩
theorem cloneTks_any (v : Value) (l : List Tk) (w : World) (hv : Toks w v l) (hn : l.length ≤ 1048576) :
    Calls Try.prog 14 #[v] w fun e w' => ∃ u, e = .returned u ∧ w'.ownsRow w.heap.size 39 3 u l.length (l.flatMap tkCells) ∧ Ext w w' :=
  cloneT0 v l.length _ w hv (flatMap_len tkCells 3 (fun _ => rfl) l) (tk_one l) hn
/-- What the document's Tokens hands back, with its shape. -/
theorem tokensR_E {w : World} {ts : List Tk} {a : Option Addr} {k : Nat} (h : TkQ w ts a k) :
    Calls Try.prog 16 #[.slice a ts.length k] w fun e w' => ∃ r Q n b a1 c1 a2 c2 a3 c3, ToksR ts r ∧ ((r = .ok Q ∧ n = (ts.length : Int) ∧ b = true) ∨ (∃ q : Nat, r = .error q ∧ Q = zPat ∧ n = q ∧ b = false)) ∧
      e = .returned (.tuple #[.agg #[.slice a1 Q.atoms.length c1, .slice a2 Q.ret.length c2, .bool Q.count, .bool Q.distinct, .bool Q.limited, .int .i64 Q.limit, .int .i64 Q.offset, .slice a3 Q.hint.length c3], .int .i64 n, .bool b]) ∧
      PatIn w.heap.size w' (.agg #[.slice a1 Q.atoms.length c1, .slice a2 Q.ret.length c2, .bool Q.count, .bool Q.distinct, .bool Q.limited, .int .i64 Q.limit, .int .i64 Q.offset, .slice a3 Q.hint.length c3]) Q ∧ Ext w w' := by
  refine (tokensR ts a k w h).mono ?_
  rintro e w' ⟨u, P, q, ok, rfl, hp, ⟨r, hr, hm⟩, hx⟩
  obtain ⟨av, rv, hv, rfl, h1, h2, h3⟩ := hp
  have hp : PatIn w.heap.size w' (patV av rv hv P) P := ⟨av, rv, hv, rfl, h1, h2, h3⟩
  obtain ⟨a1, c1, rfl⟩ := own_vw h1
  obtain ⟨a2, c2, rfl⟩ := own_vw h2
  obtain ⟨a3, c3, rfl⟩ := own_vw h3
  refine ⟨r, P, q, ok, a1, c1, a2, c2, a3, c3, hr, ?_, rfl, hp, hx⟩
  cases r with
  | ok P' => obtain ⟨e1, e2, e3⟩ := hm; exact .inl ⟨by rw [e1], by rw [e2], e3⟩
  | error q' => obtain ⟨e1, e2, e3⟩ := hm; exact .inr ⟨q', rfl, e1, by rw [e2], e3⟩
set_option maxRecDepth 100000 in
set_option maxHeartbeats 4000000 in
theorem ptoks_walk (v0 : Value) (w : World) (h0 : ∃ xs : List (Value × List Tk), TkRows w v0 xs ∧ ∀ x ∈ xs, ∀ t ∈ x.2, t.text.size ≤ reachBytes) :
    Calls Try.prog 4 #[v0] w fun e w' => e = .returned (.bool true) ∧ Ext w w' := by
  obtain ⟨xs, hX, hXn⟩ := h0
  obtain ⟨xa, xc, rfl, hxc, hxm⟩ := Sl.shape hX.1
  have HXS := Lib.hid hX
  have HXN := Lib.hid hXn
  clear hX hXn
  go_enter Try.func4, Try.ntmps4
  go_wp2_with fail
  refine (wakesP_any _).mono ?_
  rintro e w1 ⟨rfl, hx1⟩
  have HX1 := Lib.hid hx1
  clear hx1
  go_wp2_with fail
  go_loopg [3, 4, 16] xs.length (fun g s3 s4 i wr => ∃ k : Nat, k ≤ xs.length ∧ g = xs.length - k ∧ i = .int .i64 k ∧ Hid (Ext w1 wr))
  case atStart => exact ⟨0, Nat.zero_le _, rfl, rfl, Lib.hid (Ext.refl _)⟩
  case round =>
    obtain ⟨k, hk, hg, rfl, HXR⟩ := hrel
    have Hg := Lib.hid hg
    clear hg
    by_cases hlt : k < xs.length
    · obtain ⟨⟨b, o, rfl, c0⟩, ht⟩ := (HXS.out.ext (HX1.out.trans HXR.out)).at_ hlt
      have hbn := HXN.out _ (List.getElem_mem hlt)
      generalize xs[k] = x at *
      obtain ⟨xv, l⟩ := x
      dsimp only at c0 ht hbn
      obtain ⟨la, lc, rfl, hlc, _⟩ := ht.shape
      by_cases h6 : k = 6
      · have hb6 : ((k : Int) == 6) = true := by rw [h6]; rfl
        clear h6
        go_wp2_with fail
        go_ret
        exact ⟨rfl, HX1.out.trans HXR.out⟩
      · have hb6 : ((k : Int) == 6) = false := by simp; omega
        clear h6
        obtain ⟨L, hL⟩ : ∃ L, l.take (min l.length 200) = L := ⟨_, rfl⟩
        have hLn : L.length = min l.length 200 := by rw [← hL, List.length_take]; omega
        have hlw : Toks wr (.slice la L.length lc) L := by
          have h := toks_take ht (min l.length 200) (by omega)
          rw [hL, ← hLn] at h
          exact h
        have hmin : min (l.length : Int) 200 = (L.length : Int) := by omega
        have hLc : L.length ≤ lc := by omega
        have HL2 := Lib.hid (show L.length ≤ 200 by omega)
        have HLZ := Lib.hid (show ∀ t ∈ L, t.text.size ≤ 9223372036854775800 from fun t ht => by
          have h := hbn t (by rw [← hL] at ht; exact List.mem_of_mem_take ht)
          unfold reachBytes at h
          omega)
        have HLW := Lib.hid hlw
        clear hLn hlw hL hbn ht hlc
        go_wp2_with fail
        refine (cloneTks_any _ L wr HLW.out (by have := HL2.out; omega)).mono ?_
        rintro e w2 ⟨u, rfl, ho, hx2⟩
        obtain ⟨ua, uc, rfl⟩ := own_vw ho
        have HLU := Lib.hid (show Toks w2 (.slice ua L.length uc) L from Sl.of_own ho)
        have HX2 := Lib.hid (HXR.out.trans hx2)
        replace HLW := Lib.hid (HLW.out.ext hx2)
        clear ho hx2 HXR hmin
        clear c0
        have HTK := Lib.hid (tokens_E HLU.out (by have := HL2.out; omega) HLZ.out)
        have HCL := Lib.hid (fun w' (hx : Ext w2 w') => cloneTks_any _ L w' (HLU.out.ext hx) (by have := HL2.out; omega))
        have HTR := Lib.hid (fun w' a c (h : Toks w' (.slice a L.length c) L) => tokensR_E (w := w') (ts := L) (a := a) (k := c) ⟨h, HLZ.out, by have := HL2.out; omega⟩)
        have HEQ := Lib.hid (fun w' (hx : Ext w2 w') => eqToks_yes _ _ L w' (HLU.out.ext hx) (HLW.out.ext hx))
        clear HLU HLW HXS HXN HLZ HL2
        go_upto_region 8 with fail
        apply wp_region_lit
        refine wpList_plain rfl fun K1 hK1 => ?_
        go_simp
        refine hK1 _ _ ?_
        clear hK1 K1
        -- a call of parse.Tokens, its results into a box and slots: HTK the contract (hidden), w4 world behind, A suffix of the names, HX4 fact Ext's name
        refine wpList_plain rfl fun K1 hK1 => ?_
        go_simp
        refine HTK.out.mono ?_
        rintro e wAt ⟨rA, QA, nA, cA, pA, pA', qA, qA', sA, sA', hrA, hiA, rfl, hpA, hxA⟩
        have HRA := Lib.hid hrA
        have HIA := Lib.hid hiA
        have HPA := Lib.hid hpA
        clear hrA hiA hpA
        -- behind a call of Read: its results, the box of the pattern: wAt the world before, w4 the world behind, bA the box's name, [.slice pA QA.atoms.length pA', .slice qA QA.ret.length qA', .bool QA.count, .bool QA.distinct, .bool QA.limited, .int .i64 QA.limit, .int .i64 QA.offset, .slice sA QA.hint.length sA'] its cells
        go_simp
        refine hK1 _ _ ?_
        clear hK1 K1
        refine wpList_plain rfl fun K1 hK1 => ?_
        go_simp
        refine hK1 _ _ ?_
        clear hK1 K1
        refine wpList_plain rfl fun K1 hK1 => ?_
        go_simp
        refine hK1 _ _ ?_
        clear hK1 K1
        refine wpList_plain rfl fun K1 hK1 => ?_
        go_simp
        refine hK1 _ _ ?_
        clear hK1 K1
        refine wpList_plain rfl fun K1 hK1 => ?_
        go_simp
        refine hK1 _ _ ?_
        clear hK1 K1
        refine wpList_plain rfl fun K1 hK1 => ?_
        go_simp
        refine hK1 _ _ ?_
        clear hK1 K1
        have hxb := Ext.alloc wAt (.cells #[.slice none 0 0, .slice none 0 0, .bool false, .bool false, .bool false, .int .i64 0, .int .i64 0, .slice none 0 0] 26)
        have hnb : RowAt (wAt.alloc (.cells #[.slice none 0 0, .slice none 0 0, .bool false, .bool false, .bool false, .int .i64 0, .int .i64 0, .slice none 0 0] 26)) wAt.heap.size 26 [.slice none 0 0, .slice none 0 0, .bool false, .bool false, .bool false, .int .i64 0, .int .i64 0, .slice none 0 0] := RowAt.new _ _ _
        refine plain_store rfl _ _ _ rfl wAt.heap.size [.slice pA QA.atoms.length pA', .slice qA QA.ret.length qA', .bool QA.count, .bool QA.distinct, .bool QA.limited, .int .i64 QA.limit, .int .i64 QA.offset, .slice sA QA.hint.length sA'] rfl rfl hnb (by kernel_rfl) rfl (by simp [Value.oneCell']) ?_
        have hxs : Ext wAt ((wAt.alloc (.cells #[.slice none 0 0, .slice none 0 0, .bool false, .bool false, .bool false, .int .i64 0, .int .i64 0, .slice none 0 0] 26)).setRow wAt.heap.size ([.slice pA QA.atoms.length pA', .slice qA QA.ret.length qA', .bool QA.count, .bool QA.distinct, .bool QA.limited, .int .i64 QA.limit, .int .i64 QA.offset, .slice sA QA.hint.length sA']).toArray) := below_setRow hxb (Nat.le_refl _) _
        have HNbA := Lib.hid (hnb.setRow [.slice pA QA.atoms.length pA', .slice qA QA.ret.length qA', .bool QA.count, .bool QA.distinct, .bool QA.limited, .int .i64 QA.limit, .int .i64 QA.offset, .slice sA QA.hint.length sA'])
        have HEbA := Lib.hid hxs
        clear hxb hnb hxs
        generalize (wAt.alloc (.cells #[.slice none 0 0, .slice none 0 0, .bool false, .bool false, .bool false, .int .i64 0, .int .i64 0, .slice none 0 0] 26)).setRow wAt.heap.size ([.slice pA QA.atoms.length pA', .slice qA QA.ret.length qA', .bool QA.count, .bool QA.distinct, .bool QA.limited, .int .i64 QA.limit, .int .i64 QA.offset, .slice sA QA.hint.length sA']).toArray = w4 at *
        obtain ⟨bA, hbA⟩ : ∃ z, wAt.heap.size = z := ⟨_, rfl⟩
        rw [hbA] at HNbA
        simp only [hbA]
        clear hbA
        go_simp
        refine wpList_plain rfl fun K1 hK1 => ?_
        go_simp
        refine hK1 _ _ ?_
        clear hK1 K1
        refine wpList_plain rfl fun K1 hK1 => ?_
        go_simp
        refine hK1 _ _ ?_
        clear hK1 K1
        apply wpList_nil
        have HX4 := Lib.hid (hxA.trans HEbA.out)
        replace HPA := Lib.hid (HPA.out.ext HEbA.out)
        clear hxA HEbA
        clear HTK
        go_upto_region 9 with fail
        apply wp_region_lit
        refine wpList_plain rfl fun K1 hK1 => ?_
        go_simp
        refine hK1 _ _ ?_
        clear hK1 K1
        -- a call in a plain region: refine (HCL.out w4 HX4.out).mono ?_; rintro e w5 ⟨u, rfl, ho, hx5⟩ the contract taken, and its results named
        refine wpList_plain rfl fun K1 hK1 => ?_
        go_simp
        refine (HCL.out w4 HX4.out).mono ?_; rintro e w5 ⟨u, rfl, ho, hx5⟩
        go_simp
        refine hK1 _ _ ?_
        clear hK1 K1
        obtain ⟨va, vc, rfl⟩ := own_vw ho
        have HX5 := Lib.hid (HX4.out.trans hx5)
        have HB5 := Lib.hid (HNbA.out.ext hx5)
        have HP5 := Lib.hid (HPA.out.ext hx5)
        have HTR5 := Lib.hid (HTR.out w5 va vc (Sl.of_own ho))
        clear hx5 ho HCL HTR HX4 HNbA HPA
        refine wpList_plain rfl fun K1 hK1 => ?_
        go_simp
        refine HTR5.out.mono ?_
        rintro e w6 ⟨rB, QB, nB, okB, pB, pB', qB, qB', sB, sB', hrB, hiB, rfl, hpB, hxB⟩
        have HRB := Lib.hid hrB
        have HIB := Lib.hid hiB
        have HPB := Lib.hid hpB.at_
        clear hrB hiB hpB HTR5
        -- behind a call of Read: its results, the box of the pattern: w6 the world before, w7 the world behind, bB the box's name, [.slice pB QB.atoms.length pB', .slice qB QB.ret.length qB', .bool QB.count, .bool QB.distinct, .bool QB.limited, .int .i64 QB.limit, .int .i64 QB.offset, .slice sB QB.hint.length sB'] its cells
        go_simp
        refine hK1 _ _ ?_
        clear hK1 K1
        refine wpList_plain rfl fun K1 hK1 => ?_
        go_simp
        refine hK1 _ _ ?_
        clear hK1 K1
        refine wpList_plain rfl fun K1 hK1 => ?_
        go_simp
        refine hK1 _ _ ?_
        clear hK1 K1
        refine wpList_plain rfl fun K1 hK1 => ?_
        go_simp
        refine hK1 _ _ ?_
        clear hK1 K1
        refine wpList_plain rfl fun K1 hK1 => ?_
        go_simp
        refine hK1 _ _ ?_
        clear hK1 K1
        refine wpList_plain rfl fun K1 hK1 => ?_
        go_simp
        refine hK1 _ _ ?_
        clear hK1 K1
        have hxb := Ext.alloc w6 (.cells #[.slice none 0 0, .slice none 0 0, .bool false, .bool false, .bool false, .int .i64 0, .int .i64 0, .slice none 0 0] 26)
        have hnb : RowAt (w6.alloc (.cells #[.slice none 0 0, .slice none 0 0, .bool false, .bool false, .bool false, .int .i64 0, .int .i64 0, .slice none 0 0] 26)) w6.heap.size 26 [.slice none 0 0, .slice none 0 0, .bool false, .bool false, .bool false, .int .i64 0, .int .i64 0, .slice none 0 0] := RowAt.new _ _ _
        refine plain_store rfl _ _ _ rfl w6.heap.size [.slice pB QB.atoms.length pB', .slice qB QB.ret.length qB', .bool QB.count, .bool QB.distinct, .bool QB.limited, .int .i64 QB.limit, .int .i64 QB.offset, .slice sB QB.hint.length sB'] rfl rfl hnb (by kernel_rfl) rfl (by simp [Value.oneCell']) ?_
        have hxs : Ext w6 ((w6.alloc (.cells #[.slice none 0 0, .slice none 0 0, .bool false, .bool false, .bool false, .int .i64 0, .int .i64 0, .slice none 0 0] 26)).setRow w6.heap.size ([.slice pB QB.atoms.length pB', .slice qB QB.ret.length qB', .bool QB.count, .bool QB.distinct, .bool QB.limited, .int .i64 QB.limit, .int .i64 QB.offset, .slice sB QB.hint.length sB']).toArray) := below_setRow hxb (Nat.le_refl _) _
        have HNbB := Lib.hid (hnb.setRow [.slice pB QB.atoms.length pB', .slice qB QB.ret.length qB', .bool QB.count, .bool QB.distinct, .bool QB.limited, .int .i64 QB.limit, .int .i64 QB.offset, .slice sB QB.hint.length sB'])
        have HEbB := Lib.hid hxs
        clear hxb hnb hxs
        generalize (w6.alloc (.cells #[.slice none 0 0, .slice none 0 0, .bool false, .bool false, .bool false, .int .i64 0, .int .i64 0, .slice none 0 0] 26)).setRow w6.heap.size ([.slice pB QB.atoms.length pB', .slice qB QB.ret.length qB', .bool QB.count, .bool QB.distinct, .bool QB.limited, .int .i64 QB.limit, .int .i64 QB.offset, .slice sB QB.hint.length sB']).toArray = w7 at *
        obtain ⟨bB, hbB⟩ : ∃ z, w6.heap.size = z := ⟨_, rfl⟩
        rw [hbB] at HNbB
        simp only [hbB]
        clear hbB
        go_simp
        refine wpList_plain rfl fun K1 hK1 => ?_
        go_simp
        refine hK1 _ _ ?_
        clear hK1 K1
        refine wpList_plain rfl fun K1 hK1 => ?_
        go_simp
        refine hK1 _ _ ?_
        clear hK1 K1
        apply wpList_nil
        have hx7 := hxB.trans HEbB.out
        have HX7 := Lib.hid (HX5.out.trans hx7)
        have HB7 := Lib.hid (HB5.out.ext hx7)
        have HP7 := Lib.hid (HP5.out.ext hx7)
        replace HPB := Lib.hid (HPB.out.ext HEbB.out)
        have hall : QB = QA ∧ nB = nA ∧ ((cA = 0 ∧ okB = true) ∨ (cA = 260 ∧ okB = false)) ∧ QA.atoms.length ≤ 1000000000 := by
          have hs := HRA.out.same HRB.out
          subst hs
          have hf := HIA.out.fits
          have hf2 : QA.atoms.length ≤ 1000000000 := by have := hf.2; omega
          rcases HIA.out with ⟨e1, e2, e3, _⟩ | ⟨q, e1, _, e2, e3, e4⟩
          · rcases HIB.out with ⟨g1, g2, g3⟩ | ⟨q', g1, _⟩
            · rw [e1] at g1; cases g1
              exact ⟨rfl, by rw [g2, e2], .inl ⟨e3, g3⟩, hf2⟩
            · rw [e1] at g1; cases g1
          · rcases HIB.out with ⟨g1, _⟩ | ⟨q', g1, g2, g3, g4⟩
            · rw [e1] at g1; cases g1
            · rw [e1] at g1; cases g1
              exact ⟨by rw [g2, e2], by rw [g3, e3], .inr ⟨e4, g4⟩, hf2⟩
        obtain ⟨rfl, rfl, hcb, hfew⟩ := hall
        have hsm := same16_any _ _ QB QB w7 HP7.out HPB.out hfew hfew
        rw [(sameB_iff QB QB).2 rfl] at hsm
        have HSM := Lib.hid hsm
        have HEQ7 := Lib.hid (fun w' (hx : Ext w7 w') => HEQ.out w' (HX7.out.trans hx))
        have HX8 := Lib.hid (HX2.out.trans HX7.out)
        clear hx7 hxB HEbB HX5 HB5 HP5 HRA HIA HRB HIB hfew hsm HEQ HX7 HX2 HP7 HPB
        go_upto_region 10 with fail
        have n1 : (nB != nB) = false := by simp
        rcases hcb with ⟨rfl, rfl⟩ | ⟨rfl, rfl⟩
        · clear hb6
          apply wp_region_lit
          refine wpList_plain rfl fun K1 hK1 => ?_
          go_simp
          refine hK1 _ _ ?_
          clear hK1 K1
          refine wpList_plain rfl fun K1 hK1 => ?_
          go_simp
          refine hK1 _ _ ?_
          clear hK1 K1
          refine wpList_plain rfl fun K1 hK1 => ?_
          go_simp
          refine hK1 _ _ ?_
          clear hK1 K1
          refine wpList_plain rfl fun K1 hK1 => ?_
          go_simp
          refine hK1 _ _ ?_
          clear hK1 K1
          refine wpList_plain rfl fun K1 hK1 => ?_
          go_simp
          refine hK1 _ _ ?_
          clear hK1 K1
          -- a guarded operation whose guard holds
          refine wpList_yes (by first | rfl | decide | kernel_rfl) fun K1 hK1 => ?_
          go_simp
          refine hK1 _ _ ?_
          clear hK1 K1
          -- a guarded operation whose guard holds
          refine wpList_yes (by first | rfl | decide | kernel_rfl) fun K1 hK1 => ?_
          go_simp
          refine hK1 _ _ ?_
          clear hK1 K1
          -- a guarded operation whose guard holds
          refine wpList_yes (by first | rfl | decide | kernel_rfl) fun K1 hK1 => ?_
          go_simp
          refine hK1 _ _ ?_
          clear hK1 K1
          -- a guarded operation whose guard does not hold
          refine wpList_not (by first | rfl | decide | kernel_rfl) ?_
          go_simp
          -- a guarded operation whose guard does not hold
          refine wpList_not (by first | rfl | decide | kernel_rfl) ?_
          go_simp
          -- a guarded operation whose guard holds
          refine wpList_yes (by first | rfl | decide | kernel_rfl) fun K1 hK1 => ?_
          go_simp
          refine hK1 _ _ ?_
          clear hK1 K1
          refine wpList_plain rfl fun K1 hK1 => ?_
          go_simp
          refine hK1 _ _ ?_
          clear hK1 K1
          refine wpList_plain rfl fun K1 hK1 => ?_
          go_simp
          refine hK1 _ _ ?_
          clear hK1 K1
          -- a guarded operation whose guard holds
          refine wpList_yes (by first | rfl | decide | kernel_rfl) fun K1 hK1 => ?_
          go_simp
          refine hK1 _ _ ?_
          clear hK1 K1
          -- a guarded operation whose guard holds
          refine wpList_yes (by first | rfl | decide | kernel_rfl) fun K1 hK1 => ?_
          go_simp
          refine hK1 _ _ ?_
          clear hK1 K1
          -- a guarded operation whose guard holds
          refine wpList_yes (by first | rfl | decide | kernel_rfl) fun K1 hK1 => ?_
          go_simp
          refine hK1 _ _ ?_
          clear hK1 K1
          refine wpList_plain rfl fun K1 hK1 => ?_
          go_simp
          refine hK1 _ _ ?_
          clear hK1 K1
          refine wpList_plain rfl fun K1 hK1 => ?_
          go_simp
          refine hK1 _ _ ?_
          clear hK1 K1
          -- a guarded load of a whole row, whose guard holds: bA block, HB7.out fact RowAt, api.Pattern the type's name
          refine wpList_yes (by first | rfl | decide | kernel_rfl) fun K1 hK1 => ?_
          refine wp_load_mid _ _ rfl bA 0 rfl _ _ (HB7.out).whole Try.underlying26 rfl (by kernel_rfl) ?_
          refine hK1 _ _ ?_
          clear hK1 K1
          go_simp
          -- a guarded load of a whole row, whose guard holds: bB block, HNbB.out fact RowAt, api.Pattern the type's name
          refine wpList_yes (by first | rfl | decide | kernel_rfl) fun K1 hK1 => ?_
          refine wp_load_mid _ _ rfl bB 0 rfl _ _ (HNbB.out).whole Try.underlying26 rfl (by kernel_rfl) ?_
          refine hK1 _ _ ?_
          clear hK1 K1
          go_simp
          -- a guarded call whose guard holds: refine HSM.out.mono ?_; rintro e w8 ⟨rfl, hx8⟩ the contract taken, and its results named
          refine wpList_yes (by first | rfl | decide | kernel_rfl) fun K1 hK1 => ?_
          go_simp
          refine HSM.out.mono ?_; rintro e w8 ⟨rfl, hx8⟩
          go_simp
          refine hK1 _ _ ?_
          clear hK1 K1
          -- a guarded operation whose guard holds
          refine wpList_yes (by first | rfl | decide | kernel_rfl) fun K1 hK1 => ?_
          go_simp
          refine hK1 _ _ ?_
          clear hK1 K1
          refine wpList_plain rfl fun K1 hK1 => ?_
          go_simp
          refine hK1 _ _ ?_
          clear hK1 K1
          refine wpList_plain rfl fun K1 hK1 => ?_
          go_simp
          refine hK1 _ _ ?_
          clear hK1 K1
          -- a guarded operation whose guard holds
          refine wpList_yes (by first | rfl | decide | kernel_rfl) fun K1 hK1 => ?_
          go_simp
          refine hK1 _ _ ?_
          clear hK1 K1
          -- a guarded operation whose guard holds
          refine wpList_yes (by first | rfl | decide | kernel_rfl) fun K1 hK1 => ?_
          go_simp
          refine hK1 _ _ ?_
          clear hK1 K1
          -- a guarded operation whose guard holds
          refine wpList_yes (by first | rfl | decide | kernel_rfl) fun K1 hK1 => ?_
          go_simp
          refine hK1 _ _ ?_
          clear hK1 K1
          -- a guarded operation whose guard holds
          refine wpList_yes (by first | rfl | decide | kernel_rfl) fun K1 hK1 => ?_
          go_simp
          refine hK1 _ _ ?_
          clear hK1 K1
          -- a guarded operation whose guard holds
          refine wpList_yes (by first | rfl | decide | kernel_rfl) fun K1 hK1 => ?_
          go_simp
          refine hK1 _ _ ?_
          clear hK1 K1
          -- a guarded call whose guard holds: refine (HEQ7.out w8 hx8).mono ?_; rintro e w9 ⟨rfl, hx9⟩ the contract taken, and its results named
          refine wpList_yes (by first | rfl | decide | kernel_rfl) fun K1 hK1 => ?_
          go_simp
          refine (HEQ7.out w8 hx8).mono ?_; rintro e w9 ⟨rfl, hx9⟩
          go_simp
          refine hK1 _ _ ?_
          clear hK1 K1
          -- a guarded operation whose guard holds
          refine wpList_yes (by first | rfl | decide | kernel_rfl) fun K1 hK1 => ?_
          go_simp
          refine hK1 _ _ ?_
          clear hK1 K1
          refine wpList_plain rfl fun K1 hK1 => ?_
          go_simp
          refine hK1 _ _ ?_
          clear hK1 K1
          apply wpList_nil
          have HX9 := Lib.hid (HX8.out.trans (hx8.trans hx9))
          clear hx8 hx9 HX8 HEQ7 HSM HB7 HNbB
          go_wp2_with fail
          go_roundg (xs.length - (k + 1))
          case measure => have := Hg.out; omega
          case rel => exact ⟨k + 1, by omega, rfl, by first | rfl | go_num, HX9⟩
        · clear hb6
          apply wp_region_lit
          refine wpList_plain rfl fun K1 hK1 => ?_
          go_simp
          refine hK1 _ _ ?_
          clear hK1 K1
          refine wpList_plain rfl fun K1 hK1 => ?_
          go_simp
          refine hK1 _ _ ?_
          clear hK1 K1
          refine wpList_plain rfl fun K1 hK1 => ?_
          go_simp
          refine hK1 _ _ ?_
          clear hK1 K1
          refine wpList_plain rfl fun K1 hK1 => ?_
          go_simp
          refine hK1 _ _ ?_
          clear hK1 K1
          refine wpList_plain rfl fun K1 hK1 => ?_
          go_simp
          refine hK1 _ _ ?_
          clear hK1 K1
          -- a guarded operation whose guard holds
          refine wpList_yes (by first | rfl | decide | kernel_rfl) fun K1 hK1 => ?_
          go_simp
          refine hK1 _ _ ?_
          clear hK1 K1
          -- a guarded operation whose guard holds
          refine wpList_yes (by first | rfl | decide | kernel_rfl) fun K1 hK1 => ?_
          go_simp
          refine hK1 _ _ ?_
          clear hK1 K1
          -- a guarded operation whose guard holds
          refine wpList_yes (by first | rfl | decide | kernel_rfl) fun K1 hK1 => ?_
          go_simp
          refine hK1 _ _ ?_
          clear hK1 K1
          -- a guarded operation whose guard holds
          refine wpList_yes (by first | rfl | decide | kernel_rfl) fun K1 hK1 => ?_
          go_simp
          refine hK1 _ _ ?_
          clear hK1 K1
          -- a guarded operation whose guard holds
          refine wpList_yes (by first | rfl | decide | kernel_rfl) fun K1 hK1 => ?_
          go_simp
          refine hK1 _ _ ?_
          clear hK1 K1
          -- a guarded operation whose guard holds
          refine wpList_yes (by first | rfl | decide | kernel_rfl) fun K1 hK1 => ?_
          go_simp
          refine hK1 _ _ ?_
          clear hK1 K1
          refine wpList_plain rfl fun K1 hK1 => ?_
          go_simp
          refine hK1 _ _ ?_
          clear hK1 K1
          refine wpList_plain rfl fun K1 hK1 => ?_
          go_simp
          refine hK1 _ _ ?_
          clear hK1 K1
          -- a guarded operation whose guard holds
          refine wpList_yes (by first | rfl | decide | kernel_rfl) fun K1 hK1 => ?_
          go_simp
          refine hK1 _ _ ?_
          clear hK1 K1
          -- a guarded operation whose guard holds
          refine wpList_yes (by first | rfl | decide | kernel_rfl) fun K1 hK1 => ?_
          go_simp
          refine hK1 _ _ ?_
          clear hK1 K1
          -- a guarded operation whose guard holds
          refine wpList_yes (by first | rfl | decide | kernel_rfl) fun K1 hK1 => ?_
          go_simp
          refine hK1 _ _ ?_
          clear hK1 K1
          refine wpList_plain rfl fun K1 hK1 => ?_
          go_simp
          refine hK1 _ _ ?_
          clear hK1 K1
          refine wpList_plain rfl fun K1 hK1 => ?_
          go_simp
          refine hK1 _ _ ?_
          clear hK1 K1
          -- a guarded load of a whole row, whose guard holds: bA block, HB7.out fact RowAt, api.Pattern the type's name
          refine wpList_yes (by first | rfl | decide | kernel_rfl) fun K1 hK1 => ?_
          refine wp_load_mid _ _ rfl bA 0 rfl _ _ (HB7.out).whole Try.underlying26 rfl (by kernel_rfl) ?_
          refine hK1 _ _ ?_
          clear hK1 K1
          go_simp
          -- a guarded load of a whole row, whose guard holds: bB block, HNbB.out fact RowAt, api.Pattern the type's name
          refine wpList_yes (by first | rfl | decide | kernel_rfl) fun K1 hK1 => ?_
          refine wp_load_mid _ _ rfl bB 0 rfl _ _ (HNbB.out).whole Try.underlying26 rfl (by kernel_rfl) ?_
          refine hK1 _ _ ?_
          clear hK1 K1
          go_simp
          -- a guarded call whose guard holds: refine HSM.out.mono ?_; rintro e w8 ⟨rfl, hx8⟩ the contract taken, and its results named
          refine wpList_yes (by first | rfl | decide | kernel_rfl) fun K1 hK1 => ?_
          go_simp
          refine HSM.out.mono ?_; rintro e w8 ⟨rfl, hx8⟩
          go_simp
          refine hK1 _ _ ?_
          clear hK1 K1
          -- a guarded operation whose guard holds
          refine wpList_yes (by first | rfl | decide | kernel_rfl) fun K1 hK1 => ?_
          go_simp
          refine hK1 _ _ ?_
          clear hK1 K1
          refine wpList_plain rfl fun K1 hK1 => ?_
          go_simp
          refine hK1 _ _ ?_
          clear hK1 K1
          refine wpList_plain rfl fun K1 hK1 => ?_
          go_simp
          refine hK1 _ _ ?_
          clear hK1 K1
          -- a guarded operation whose guard holds
          refine wpList_yes (by first | rfl | decide | kernel_rfl) fun K1 hK1 => ?_
          go_simp
          refine hK1 _ _ ?_
          clear hK1 K1
          -- a guarded operation whose guard holds
          refine wpList_yes (by first | rfl | decide | kernel_rfl) fun K1 hK1 => ?_
          go_simp
          refine hK1 _ _ ?_
          clear hK1 K1
          -- a guarded operation whose guard holds
          refine wpList_yes (by first | rfl | decide | kernel_rfl) fun K1 hK1 => ?_
          go_simp
          refine hK1 _ _ ?_
          clear hK1 K1
          -- a guarded operation whose guard holds
          refine wpList_yes (by first | rfl | decide | kernel_rfl) fun K1 hK1 => ?_
          go_simp
          refine hK1 _ _ ?_
          clear hK1 K1
          -- a guarded operation whose guard holds
          refine wpList_yes (by first | rfl | decide | kernel_rfl) fun K1 hK1 => ?_
          go_simp
          refine hK1 _ _ ?_
          clear hK1 K1
          -- a guarded call whose guard holds: refine (HEQ7.out w8 hx8).mono ?_; rintro e w9 ⟨rfl, hx9⟩ the contract taken, and its results named
          refine wpList_yes (by first | rfl | decide | kernel_rfl) fun K1 hK1 => ?_
          go_simp
          refine (HEQ7.out w8 hx8).mono ?_; rintro e w9 ⟨rfl, hx9⟩
          go_simp
          refine hK1 _ _ ?_
          clear hK1 K1
          -- a guarded operation whose guard holds
          refine wpList_yes (by first | rfl | decide | kernel_rfl) fun K1 hK1 => ?_
          go_simp
          refine hK1 _ _ ?_
          clear hK1 K1
          refine wpList_plain rfl fun K1 hK1 => ?_
          go_simp
          refine hK1 _ _ ?_
          clear hK1 K1
          apply wpList_nil
          have HX9 := Lib.hid (HX8.out.trans (hx8.trans hx9))
          clear hx8 hx9 HX8 HEQ7 HSM HB7 HNbB
          go_wp2_with fail
          go_roundg (xs.length - (k + 1))
          case measure => have := Hg.out; omega
          case rel => exact ⟨k + 1, by omega, rfl, by first | rfl | go_num, HX9⟩
    · have he : k = xs.length := by omega
      subst he
      go_wp2_with fail
      go_ret
      exact ⟨rfl, HX1.out.trans HXR.out⟩
end Go.Proofs.Ytngnplghjaojhaa
