/- The document: the same texts, the same patterns. -/
import Derived.Test.YtngnplghjaojhaaParD1
import Derived.Test.YtngnplghjaojhaaParY3
import Derived.Test.YtngnplghjaojhaaParX2
import Derived.Test.YtngnplghjaojhaaParW1
namespace Go.Proofs.Ytngnplghjaojhaa
set_option maxRecDepth 100000
set_option maxHeartbeats 2000000
set_option linter.unusedSimpArgs false
open Go.RowKit Go.Shelf Go.Sort
attribute [local go_sem] Oper.semAt_some wide_fn wide_depth
set_option linter.unusedVariables false

theorem sameTexts_any (v u : Value) (l m : List ByteArray) (w : World) (hv : Strs w v l) (hu : Strs w u m) :
    Calls Try.prog 29 #[v, u] w fun e w' => e = .returned (.bool (decide (l = m))) ∧ Ext w w' := by
  obtain ⟨a, c, rfl, hc1, hc2⟩ := Sl.shape hv
  obtain ⟨a', c', rfl, hc1', hc2'⟩ := Sl.shape hu
  have HV := Lib.hid hv
  have HU := Lib.hid hu
  clear hv hu
  by_cases hlen : l.length = m.length
  · have hne : ((l.length : Int) != (m.length : Int)) = false := by simp [hlen]
    have Hlen := Lib.hid hlen
    clear hlen
    go_enter Try.func29, Try.ntmps29
    go_wp2_with fail
    go_loopg [14] l.length (fun g i wr => ∃ k : Nat, k ≤ l.length ∧ g = l.length - k ∧ i = .int .i64 k ∧ Ext w wr ∧ Hid (l.take k = m.take k))
    case atStart => exact ⟨0, Nat.zero_le _, rfl, rfl, Ext.refl _, Lib.hid rfl⟩
    case round =>
      obtain ⟨k, hk, hg, rfl, hx, heq⟩ := hrel
      have Hg := Lib.hid hg
      have HX := Lib.hid hx
      clear hg
      by_cases hlt : k < l.length
      · have hltm : k < m.length := by have := Hlen.out; omega
        obtain ⟨b, o, rfl, c0⟩ := Strs.at_ (Strs.ext HV.out hx) hlt
        obtain ⟨b', o', rfl, d0⟩ := Strs.at_ (Strs.ext HU.out hx) hltm
        have e1 : l.take (k + 1) = l.take k ++ [l[k]] := List.take_succ_eq_append_getElem hlt
        have e2 : m.take (k + 1) = m.take k ++ [m[k]] := List.take_succ_eq_append_getElem hltm
        generalize l[k] = x at e1 c0
        generalize m[k] = y at e2 d0
        have E1 := Lib.hid e1
        have E2 := Lib.hid e2
        clear e1 e2 hx
        by_cases hxy : x = y
        · have hb1 : (x.toList != y.toList) = false := by rw [hxy]; simp
          have hb2 : (x.toList == y.toList) = true := by rw [hxy]; simp
          have HXY := Lib.hid hxy
          clear hxy
          go_wp2_with fail
          go_roundg (l.length - (k + 1))
          case measure => have := Hg.out; omega
          case rel => exact ⟨k + 1, by omega, rfl, by go_num, HX.out, Lib.hid (by rw [E1.out, E2.out, heq.out, HXY.out])⟩
        · have hb2 : (x.toList == y.toList) = false := str_no hxy
          have hb1 : (x.toList != y.toList) = true := by unfold bne; rw [hb2]; rfl
          have HNE : Hid (l ≠ m) := Lib.hid (fun h => by
            have h1 := E1.out
            have h2 := E2.out
            rw [h, h2] at h1
            have := List.append_cancel_left h1
            simp only [List.cons.injEq, and_true] at this
            exact hxy this.symm)
          clear hxy
          go_wp2_with fail
          go_ret
          exact ⟨ret_bool (decide_eq_false HNE.out).symm, HX.out⟩
      · have he : k = l.length := by omega
        have HEQ : Hid (l = m) := Lib.hid (by
          have h := heq.out
          rw [he, List.take_length, Hlen.out, List.take_length] at h
          exact h)
        clear he
        go_wp2_with fail
        go_ret
        exact ⟨ret_bool (decide_eq_true HEQ.out).symm, HX.out⟩
  · have hne : ((l.length : Int) != (m.length : Int)) = true := bne_iff_ne.2 (fun e => hlen (by omega))
    have HNE : Hid (l ≠ m) := Lib.hid (fun h => hlen (by rw [h]))
    clear hlen
    go_enter Try.func29, Try.ntmps29
    go_wp2_with fail
    go_ret
    exact ⟨ret_bool (decide_eq_false HNE.out).symm, Ext.refl _⟩
set_option maxRecDepth 100000 in
set_option maxHeartbeats 2000000 in
theorem same16_any (v u : Value) (P Q : Pat) (w : World) (h : PatAt w v P) (k : PatAt w u Q) (hf : P.atoms.length ≤ 1000000000) (hf2 : Q.atoms.length ≤ 1000000000) :
    Calls Try.prog 12 #[v, u] w fun e w' => e = .returned (.bool (sameB P Q)) ∧ Ext w w' := by
  obtain ⟨av, rv, hv, rfl, ha, hr, hh⟩ := h
  obtain ⟨au, ru, hu, rfl, ka, kr, kh⟩ := k
  obtain ⟨ava, avc, rfl, hac, _⟩ := ha.shape
  obtain ⟨rva, rvc, rfl, _, _⟩ := Sl.shape hr
  obtain ⟨hva, hvc, rfl, _, _⟩ := Sl.shape hh
  obtain ⟨aua, auc, rfl, _, _⟩ := ka.shape
  obtain ⟨rua, ruc, rfl, _, _⟩ := Sl.shape kr
  obtain ⟨hua, huc, rfl, _, _⟩ := Sl.shape kh
  unfold sameB
  obtain ⟨atoms, ret, cn, ds, lm, li, off, hint⟩ := P
  obtain ⟨atoms2, ret2, cn2, ds2, lm2, li2, off2, hint2⟩ := Q
  unfold patV patL
  dsimp only at *
  have HA := Lib.hid (show Ats w (.slice ava atoms.length avc) atoms ∧ Ats w (.slice aua atoms2.length auc) atoms2 from ⟨ha, ka⟩)
  have HR := Lib.hid (show ∀ w', Ext w w' → Calls Try.prog 29 #[.slice rva ret.length rvc, .slice rua ret2.length ruc] w' (fun e w'' => e = .returned (.bool (decide (ret = ret2))) ∧ Ext w' w'') from fun w' (hx : Ext w w') => sameTexts_any _ _ ret ret2 w' (Strs.ext hr hx) (Strs.ext kr hx))
  have HH := Lib.hid (show ∀ w', Ext w w' → Calls Try.prog 29 #[.slice hva hint.length hvc, .slice hua hint2.length huc] w' (fun e w'' => e = .returned (.bool (decide (hint = hint2))) ∧ Ext w' w'') from fun w' (hx : Ext w w') => sameTexts_any _ _ hint hint2 w' (Strs.ext hh hx) (Strs.ext kh hx))
  obtain ⟨c1, p1⟩ : ∃ b, decide (atoms = atoms2) = b := ⟨_, rfl⟩
  obtain ⟨c2, p2⟩ : ∃ b, decide (ret = ret2) = b := ⟨_, rfl⟩
  obtain ⟨c3, p3⟩ : ∃ b, decide (hint = hint2) = b := ⟨_, rfl⟩
  rw [p1, p2, p3]
  obtain ⟨RS, hRS⟩ : ∃ R, ((cn == cn2 && (ds == ds2 && (lm == lm2 && (li == li2 && off == off2)))) && (c1 && (c2 && c3))) = R := ⟨_, rfl⟩
  rw [hRS]
  have HRS := Lib.hid hRS
  have HP1 := Lib.hid p1
  rw [p2] at HR
  rw [p3] at HH
  clear p1 p2 p3 hRS
  obtain ⟨lb, hlb⟩ : ∃ b, ((atoms.length : Int) != (atoms2.length : Int)) = b := ⟨_, rfl⟩
  have HLB := Lib.hid hlb
  have hx1 := Ext.alloc w (.cells #[.slice ava atoms.length avc, .slice rva ret.length rvc, .bool cn, .bool ds, .bool lm, .int .i64 li, .int .i64 off, .slice hva hint.length hvc] 26)
  have hx2 := Ext.alloc (w.alloc (.cells #[.slice ava atoms.length avc, .slice rva ret.length rvc, .bool cn, .bool ds, .bool lm, .int .i64 li, .int .i64 off, .slice hva hint.length hvc] 26)) (.cells #[.slice aua atoms2.length auc, .slice rua ret2.length ruc, .bool cn2, .bool ds2, .bool lm2, .int .i64 li2, .int .i64 off2, .slice hua hint2.length huc] 26)
  have hb1 := (RowAt.new w 26 [.slice ava atoms.length avc, .slice rva ret.length rvc, .bool cn, .bool ds, .bool lm, .int .i64 li, .int .i64 off, .slice hva hint.length hvc]).ext hx2
  have hb2 : RowAt ((w.alloc (.cells #[.slice ava atoms.length avc, .slice rva ret.length rvc, .bool cn, .bool ds, .bool lm, .int .i64 li, .int .i64 off, .slice hva hint.length hvc] 26)).alloc (.cells #[.slice aua atoms2.length auc, .slice rua ret2.length ruc, .bool cn2, .bool ds2, .bool lm2, .int .i64 li2, .int .i64 off2, .slice hua hint2.length huc] 26)) (w.heap.size + 1) 26 [.slice aua atoms2.length auc, .slice rua ret2.length ruc, .bool cn2, .bool ds2, .bool lm2, .int .i64 li2, .int .i64 off2, .slice hua hint2.length huc] := row_at (by simp)
  have HX := Lib.hid (hx1.trans hx2)
  have HB := Lib.hid hb1
  have HB2 := Lib.hid hb2
  clear hx1 hx2 hb1 hb2 ha hr hh ka kr kh
  go_enter Try.func12, Try.ntmps12
  go_upto_region 1 with fail
  generalize ((w.alloc (.cells #[.slice ava atoms.length avc, .slice rva ret.length rvc, .bool cn, .bool ds, .bool lm, .int .i64 li, .int .i64 off, .slice hva hint.length hvc] 26)).alloc (.cells #[.slice aua atoms2.length auc, .slice rua ret2.length ruc, .bool cn2, .bool ds2, .bool lm2, .int .i64 li2, .int .i64 off2, .slice hua hint2.length huc] 26)) = w1 at *
  obtain ⟨x, hx⟩ : ∃ x, w.heap.size = x := ⟨_, rfl⟩
  obtain ⟨y, hy⟩ : ∃ y, x + 1 = y := ⟨_, rfl⟩
  rw [hx] at HB HB2
  rw [hy] at HB2
  simp only [hx, hy]
  clear hx hy
  obtain ⟨d0, d1, d2, d3, d4, d5, d6, d7⟩ := row8_facts HB.out
  obtain ⟨e0, e1, e2, e3, e4, e5, e6, e7⟩ := row8_facts HB2.out
  cases lb
  case true =>
    have HN : Hid (RS = false) := Lib.hid (by
      have h1 := HP1.out
      rw [decide_eq_false (fun e => by rw [e] at hlb; simp at hlb)] at h1
      rw [← HRS.out, ← h1]; simp)
    go_wp2_with fail
    go_ret
    exact ⟨ret_bool HN.out.symm, HX.out⟩
  case false =>
    have HLE : Hid (atoms.length = atoms2.length) := Lib.hid (by
      have h1 : ¬ ((atoms.length : Int) ≠ (atoms2.length : Int)) := fun e => by rw [bne_iff_ne.2 e] at hlb; cases hlb
      omega)
    by_cases h1 : cn = cn2
    case neg =>
      have hb : (cn == cn2) = false := beq_eq_false_iff_ne.2 h1
      have HN : Hid (RS = false) := Lib.hid (by rw [← HRS.out, hb]; simp)
      go_wp2_with fail
      go_ret
      exact ⟨ret_bool HN.out.symm, HX.out⟩
    subst h1
    by_cases h2 : ds = ds2
    case neg =>
      have hb : (ds == ds2) = false := beq_eq_false_iff_ne.2 h2
      have HN : Hid (RS = false) := Lib.hid (by rw [← HRS.out, hb]; simp)
      go_wp2_with fail
      go_ret
      exact ⟨ret_bool HN.out.symm, HX.out⟩
    subst h2
    by_cases h3 : lm = lm2
    case neg =>
      have hb : (lm == lm2) = false := beq_eq_false_iff_ne.2 h3
      have HN : Hid (RS = false) := Lib.hid (by rw [← HRS.out, hb]; simp)
      go_wp2_with fail
      go_ret
      exact ⟨ret_bool HN.out.symm, HX.out⟩
    subst h3
    by_cases h4 : li = li2
    case neg =>
      have hb : (li == li2) = false := beq_eq_false_iff_ne.2 h4
      have HN : Hid (RS = false) := Lib.hid (by rw [← HRS.out, hb]; simp)
      go_wp2_with fail
      go_ret
      exact ⟨ret_bool HN.out.symm, HX.out⟩
    subst h4
    by_cases h5 : off = off2
    case neg =>
      have hb : (off == off2) = false := beq_eq_false_iff_ne.2 h5
      have HN : Hid (RS = false) := Lib.hid (by rw [← HRS.out, hb]; simp)
      go_wp2_with fail
      go_ret
      exact ⟨ret_bool HN.out.symm, HX.out⟩
    subst h5
    have HRS2 : Hid ((c1 && (c2 && c3)) = RS) := Lib.hid (by have h := HRS.out; simpa using h)
    clear HRS
    go_wp2_with fail
    clear hlb d0 d1 d2 d3 d4 d5 d6 d7 e0 e1 e2 e3 e4 e5 e6 e7
    go_loopg [52] atoms.length (fun g i wr => ∃ k : Nat, k ≤ atoms.length ∧ g = atoms.length - k ∧ i = .int .i64 k ∧ Hid (Ext w1 wr) ∧ Hid (atoms.take k = atoms2.take k))
    case atStart => exact ⟨0, Nat.zero_le _, rfl, rfl, Lib.hid (Ext.refl _), Lib.hid rfl⟩
    case round =>
      obtain ⟨k, hk, hg, rfl, hx, heq⟩ := hrel
      have Hg := Lib.hid hg
      have HXr := Lib.hid (HX.out.trans hx.out)
      have HBr := Lib.hid (HB.out.ext hx.out)
      have HBr2 := Lib.hid (HB2.out.ext hx.out)
      clear hg
      obtain ⟨d0, d1, d2, d3, d4, d5, d6, d7⟩ := row8_facts HBr.out
      obtain ⟨e0, e1, e2, e3, e4, e5, e6, e7⟩ := row8_facts HBr2.out
      by_cases hlt : k < atoms.length
      · have hltm : k < atoms2.length := by have := HLE.out; omega
        obtain ⟨b, o, rfl, f0, f1, f2, f3, f4, f5, f6⟩ := (HA.out.1.ext HXr.out).at_ hlt
        obtain ⟨b', o', rfl, g0, g1, g2, g3, g4, g5, g6⟩ := (HA.out.2.ext HXr.out).at_ hltm
        have l1 : atoms.take (k + 1) = atoms.take k ++ [atoms[k]] := List.take_succ_eq_append_getElem hlt
        have l2 : atoms2.take (k + 1) = atoms2.take k ++ [atoms2[k]] := List.take_succ_eq_append_getElem hltm
        generalize atoms[k] = xa at l1 f0 f1 f2 f3 f4 f5 f6
        generalize atoms2[k] = ya at l2 g0 g1 g2 g3 g4 g5 g6
        have L1 := Lib.hid l1
        have L2 := Lib.hid l2
        have hq := fun w => at_neqB xa ya w
        obtain ⟨Bq, hB⟩ : ∃ B, decide (xa = ya) = B := ⟨_, rfl⟩
        rw [hB] at hq
        have HBq := Lib.hid hB
        unfold atV at hq
        clear l1 l2 hB
        obtain ⟨xk, xfk, xfn, xnm, xva, xtk, xtn⟩ := xa
        dsimp only at hq f0 f1 f2 f3 f4 f5 f6
        have hxa := Ext.alloc wr (.cells #[.int .i64 xk, .bool xfk, .string xfn, .string xnm, .string xva, .bool xtk, .string xtn] 64)
        have hrow := RowAt.new wr 64 [.int .i64 xk, .bool xfk, .string xfn, .string xnm, .string xva, .bool xtk, .string xtn]
        have HX2 := Lib.hid (hx.out.trans hxa)
        have HB3 := Lib.hid (HBr2.out.ext hxa)
        have HXX := Lib.hid (HXr.out.trans hxa)
        have HRW := Lib.hid hrow
        have v0 := ext_cell hxa g0
        have v1 := ext_cell hxa g1
        have v2 := ext_cell hxa g2
        have v3 := ext_cell hxa g3
        have v4 := ext_cell hxa g4
        have v5 := ext_cell hxa g5
        have v6 := ext_cell hxa g6
        go_upto_region 6 with fail
        clear f0 f1 f2 f3 f4 f5 f6 g0 g1 g2 g3 g4 g5 g6 d0 d1 d2 d3 d4 d5 d6 d7 e0 e1 e2 e3 e4 e5 e6 e7 hxa hrow
        generalize wr.alloc (.cells #[.int .i64 xk, .bool xfk, .string xfn, .string xnm, .string xva, .bool xtk, .string xtn] 64) = w2 at *
        obtain ⟨d0, d1, d2, d3, d4, d5, d6⟩ := row7_facts HRW.out
        have e0 := HB3.out.cell (i := 0) rfl
        cases Bq with
        | true =>
          go_quiet (fail)
          clear d0 d1 d2 d3 d4 d5 d6 e0 v0 v1 v2 v3 v4 v5 v6 hq
          go_wp2_with fail
          go_roundg (atoms.length - (k + 1))
          case measure => have := Hg.out; omega
          case rel => exact ⟨k + 1, by omega, rfl, by go_num, Lib.hid (HX2.out.trans (Ext.drewN _ _)), Lib.hid (by rw [L1.out, L2.out, heq.out, of_decide_eq_true HBq.out])⟩
        | false =>
          have HNE : Hid (RS = false) := Lib.hid (by
            have hne : atoms ≠ atoms2 := fun h => by
              have h1 := L1.out
              have h2 := L2.out
              rw [h, h2] at h1
              have := List.append_cancel_left h1
              simp only [List.cons.injEq, and_true] at this
              exact of_decide_eq_false HBq.out this.symm
            have h1 := HP1.out
            rw [decide_eq_false hne] at h1
            rw [← HRS2.out, ← h1]; rfl)
          go_quiet (fail)
          clear d0 d1 d2 d3 d4 d5 d6 e0 v0 v1 v2 v3 v4 v5 v6 hq
          go_wp2_with fail
          go_ret
          exact ⟨ret_bool HNE.out.symm, HXX.out.trans (Ext.drewN _ _)⟩
      · have he : k = atoms.length := by omega
        have HEQ : Hid ((c2 && c3) = RS) := Lib.hid (by
          have h := heq.out
          rw [he, List.take_length, HLE.out, List.take_length] at h
          have h1 := HP1.out
          rw [decide_eq_true h] at h1
          rw [← HRS2.out, ← h1]; rfl)
        have HR1 := Lib.hid (HR.out wr HXr.out)
        clear he HR
        cases c2 with
        | false =>
          go_wp2_with fail
          refine HR1.out.mono ?_
          rintro e w2 ⟨rfl, hx2⟩
          go_wp2_with fail
          go_ret
          exact ⟨ret_bool HEQ.out, HXr.out.trans hx2⟩
        | true =>
          go_wp2_with fail
          refine HR1.out.mono ?_
          rintro e w2 ⟨rfl, hx2⟩
          have HX2 := Lib.hid (HXr.out.trans hx2)
          have HB3 := Lib.hid (HBr.out.ext hx2)
          have HB4 := Lib.hid (HBr2.out.ext hx2)
          have HH2 := Lib.hid (HH.out w2 HX2.out)
          clear d0 d1 d2 d3 d4 d5 d6 d7 e0 e1 e2 e3 e4 e5 e6 e7 HR1 HH hx2
          obtain ⟨d0, d1, d2, d3, d4, d5, d6, d7⟩ := row8_facts HB3.out
          obtain ⟨e0, e1, e2, e3, e4, e5, e6, e7⟩ := row8_facts HB4.out
          go_wp2_with fail
          refine HH2.out.mono ?_
          rintro e w3 ⟨rfl, hx3⟩
          have HX3 := Lib.hid (HX2.out.trans hx3)
          clear hx3
          go_wp2_with fail
          go_ret
          exact ⟨ret_bool HEQ.out, HX3.out⟩
end Go.Proofs.Ytngnplghjaojhaa

/- A pattern of one's own. -/
namespace Go.Proofs.Ytngnplghjaojhaa
set_option maxRecDepth 100000
set_option maxHeartbeats 2000000
set_option linter.unusedSimpArgs false
open Go.RowKit Go.Shelf Go.Sort
attribute [local go_sem] Oper.semAt_some wide_fn wide_depth
set_option linter.unusedVariables false

theorem eqNil_cloneA0 (a : Option Addr) (n c n' c' : Nat) (w : World) : (binOp .eql 24 (.slice a n c) (.slice none n' c')).run Try.prog w = .ok (.bool a.isNone) w :=
  Lib.run_eql_slice_nil w _ _ a n c n' c' Try.underlying24
set_option maxHeartbeats 400000 in
theorem cloneA0 (v : Value) (n : Nat) (xs : List Value) (w : World) (hv : Sl w v n xs) (hl : xs.length = n * 7) (h1 : ∀ x ∈ xs, x.oneCell' = true) (hn : n ≤ 1048576) :
    Calls Try.prog 43 #[v] w fun e w' => ∃ u, e = .returned u ∧ w'.ownsRow w.heap.size 64 7 u n xs ∧ Ext w w' := by
  have hv' := hv
  obtain ⟨a, cap, rfl, hcap, hmax, hc⟩ := hv'.open_
  have hq := eqNil_cloneA0
  have H1 := Lib.hid h1
  have HL := Lib.hid hl
  cases a with
  | none =>
    have hl' : xs = [] := List.eq_nil_of_length_eq_zero (by rcases Nat.eq_zero_or_pos xs.length with h | h; exact h; obtain ⟨_, _, h, _⟩ := hc 0 h; cases h)
    clear hv' hc
    subst hl'
    obtain rfl : n = 0 := by simp at hl; omega
    clear h1 hl
    go_enter Try.func43, Try.ntmps43
    go_wp2
    go_ret
    exact ⟨_, rfl, World.ownsRow_nil _ _ _ _, Ext.refl _⟩
  | some ad =>
    have HV := Lib.hid hv
    clear hv' hc h1 hl hv
    go_enter Try.func43, Try.ntmps43
    go_wp2_with (at_builtin; refine wpList_append_sl _ rfl _ _ _ rfl elAt rfl (own_new w w.heap.size #[] 64 7 0 (Nat.le_refl _) rfl (Nat.zero_le _)) rfl (HV.out.ext (Ext.alloc _ _)) ?_ H1.out ?_ ?_ ?_ ?_)
    · rw [HL.out]
    · omega
    · unfold maxLen; omega
    · simp
    intro v1 w1 hown hb _ _
    go_wp2
    go_ret
    exact ⟨_, rfl, by simpa using hown, Below.trans (Ext.alloc w _) hb⟩
theorem atCells_one (l : List Atm) : ∀ x ∈ l.flatMap atCells, x.oneCell' = true := by
  intro x hx
  obtain ⟨a, _, hx⟩ := List.mem_flatMap.1 hx
  unfold atCells at hx
  simp only [List.mem_cons, List.not_mem_nil, or_false] at hx
  rcases hx with rfl | rfl | rfl | rfl | rfl | rfl | rfl <;> rfl
theorem cloneAts_any (v : Value) (l : List Atm) (w : World) (hv : Ats w v l) (hn : l.length ≤ 1048576) :
    Calls Try.prog 43 #[v] w fun e w' => ∃ u, e = .returned u ∧ w'.ownsRow w.heap.size 64 7 u l.length (l.flatMap atCells) ∧ Ext w w' :=
  cloneA0 v l.length _ w hv (flatMap_len atCells 7 (fun _ => rfl) l) (atCells_one l) hn
theorem ats_take {w : World} {a : Option Addr} {n cap : Nat} {l : List Atm} (h : Ats w (.slice a n cap) l) (m : Nat) (hm : m ≤ l.length) : Ats w (.slice a m cap) (l.take m) := by
  obtain ⟨a', c', e, h1, h2, h3⟩ := h
  cases e
  unfold Ats
  rw [List.length_take, Nat.min_eq_left hm]
  refine ⟨a, cap, rfl, by omega, h2, fun hp => ?_⟩
  have hlen := flatMap_len atCells 7 (fun _ => rfl) l
  have hlen2 := flatMap_len atCells 7 (fun _ => rfl) (l.take m)
  have hlm : ((l.take m).flatMap atCells).length = m * 7 := by rw [hlen2, List.length_take, Nat.min_eq_left hm]
  have hpre : (l.take m).flatMap atCells = (l.flatMap atCells).take (m * 7) := by
    have e : l.flatMap atCells = (l.take m).flatMap atCells ++ (l.drop m).flatMap atCells := by rw [← List.flatMap_append, List.take_append_drop]
    rw [e, List.take_append_of_le_length (by omega)]
    exact (List.take_of_length_le (by omega)).symm
  obtain ⟨b, o, rfl, hc⟩ := h3 (by rw [hlen2, List.length_take] at hp; omega)
  refine ⟨b, o, rfl, fun i u hu => hc i u ?_⟩
  rw [hpre, List.getElem?_take] at hu
  split at hu
  · exact hu
  · cases hu
/-- Cut so that it can be gone through. -/
def cutP (P : Pat) : Pat := ⟨P.atoms.take 42, P.ret.take 34, P.count, P.distinct, P.limited, P.limit, P.offset, P.hint.take 34⟩
def groO1 : Nat → Gro
  | 1 => .read
  | 3 => .read
  | 7 => .grow
  | 9 => .read
  | 11 => .read
  | 15 => .grow
  | 17 => .read
  | 19 => .read
  | 23 => .grow
  | 25 => .write
  | 27 => .write
  | 29 => .write
  | _ => .pure
set_option maxRecDepth 100000 in
set_option maxHeartbeats 2000000 in
theorem ownP_any (v : Value) (P : Pat) (w : World) (h : PatAt w v P) :
    Calls Try.prog 22 #[v] w fun e w' => ∃ u, e = .returned u ∧ PatIn w.heap.size w' u (cutP P) ∧ Ext w w' := by
  have hmo : Try.prog.follows .mixedOrders = true := by kernel_rfl
  obtain ⟨av, rv, hv, rfl, ha, hr, hh⟩ := h
  obtain ⟨ava, avc, rfl, hac, _⟩ := ha.shape
  obtain ⟨rva, rvc, rfl, hrc, _⟩ := Sl.shape hr
  obtain ⟨hva, hvc, rfl, hhc, _⟩ := Sl.shape hh
  obtain ⟨atoms, ret, cn, ds, lm, li, off, hint⟩ := P
  unfold patV patL cutP
  dsimp only at *
  obtain ⟨na, hna⟩ : ∃ n, min atoms.length 42 = n := ⟨_, rfl⟩
  obtain ⟨nr, hnr⟩ : ∃ n, min ret.length 34 = n := ⟨_, rfl⟩
  obtain ⟨nh, hnh⟩ : ∃ n, min hint.length 34 = n := ⟨_, rfl⟩
  have ia : min (atoms.length : Int) 42 = na := by omega
  have ir : min (ret.length : Int) 34 = nr := by omega
  have ih : min (hint.length : Int) 34 = nh := by omega
  have la : na ≤ atoms.length := by omega
  have lr : nr ≤ ret.length := by omega
  have lh : nh ≤ hint.length := by omega
  have ka : na ≤ avc := by omega
  have kr : nr ≤ rvc := by omega
  have kh : nh ≤ hvc := by omega
  have ta : atoms.take 42 = atoms.take na := by rw [← hna, List.take_eq_take_min, Nat.min_comm]
  have tr : ret.take 34 = ret.take nr := by rw [← hnr, List.take_eq_take_min, Nat.min_comm]
  have th : hint.take 34 = hint.take nh := by rw [← hnh, List.take_eq_take_min, Nat.min_comm]
  rw [ta, tr, th]
  obtain ⟨A, eA⟩ : ∃ l, atoms.take na = l := ⟨_, rfl⟩
  obtain ⟨R, eR⟩ : ∃ l, ret.take nr = l := ⟨_, rfl⟩
  obtain ⟨H, eH⟩ : ∃ l, hint.take nh = l := ⟨_, rfl⟩
  have lA : A.length ≤ 1048576 := by rw [← eA, List.length_take]; omega
  have lR : R.length ≤ 1048576 := by rw [← eR, List.length_take]; omega
  have lH : H.length ≤ 1048576 := by rw [← eH, List.length_take]; omega
  rw [eA, eR, eH]
  have HA := Lib.hid (fun w' (hx : Ext w w') => cloneAts_any (.slice ava na avc) A w' (eA ▸ ats_take (ha.ext hx) na la) lA)
  have HR := Lib.hid (fun w' (hx : Ext w w') => cloneStrs_any (.slice rva nr rvc) R w' (eR ▸ strs_take (Strs.ext hr hx) nr lr) lR)
  have HH := Lib.hid (fun w' (hx : Ext w w') => cloneStrs_any (.slice hva nh hvc) H w' (eH ▸ strs_take (Strs.ext hh hx) nh lh) lH)
  clear eA eR eH
  have hx1 := Ext.alloc w (.cells #[.slice ava atoms.length avc, .slice rva ret.length rvc, .bool cn, .bool ds, .bool lm, .int .i64 li, .int .i64 off, .slice hva hint.length hvc] 26)
  have hx2 := Ext.alloc (w.alloc (.cells #[.slice ava atoms.length avc, .slice rva ret.length rvc, .bool cn, .bool ds, .bool lm, .int .i64 li, .int .i64 off, .slice hva hint.length hvc] 26)) (.cells #[.slice none 0 0, .slice none 0 0, .bool false, .bool false, .bool false, .int .i64 0, .int .i64 0, .slice none 0 0] 26)
  have HX := Lib.hid (hx1.trans hx2)
  have HB := Lib.hid ((RowAt.new w 26 [.slice ava atoms.length avc, .slice rva ret.length rvc, .bool cn, .bool ds, .bool lm, .int .i64 li, .int .i64 off, .slice hva hint.length hvc]).ext hx2)
  have HN := Lib.hid (show RowAt ((w.alloc (.cells #[.slice ava atoms.length avc, .slice rva ret.length rvc, .bool cn, .bool ds, .bool lm, .int .i64 li, .int .i64 off, .slice hva hint.length hvc] 26)).alloc (.cells #[.slice none 0 0, .slice none 0 0, .bool false, .bool false, .bool false, .int .i64 0, .int .i64 0, .slice none 0 0] 26)) (w.heap.size + 1) 26 [.slice none 0 0, .slice none 0 0, .bool false, .bool false, .bool false, .int .i64 0, .int .i64 0, .slice none 0 0] from row_at (by simp))
  clear hx1 hx2 ha hr hh hna hnr hnh ta tr th
  go_enter Try.func22, Try.ntmps22
  go_upto_region 1 with fail
  generalize ((w.alloc (.cells #[.slice ava atoms.length avc, .slice rva ret.length rvc, .bool cn, .bool ds, .bool lm, .int .i64 li, .int .i64 off, .slice hva hint.length hvc] 26)).alloc (.cells #[.slice none 0 0, .slice none 0 0, .bool false, .bool false, .bool false, .int .i64 0, .int .i64 0, .slice none 0 0] 26)) = w1 at *
  obtain ⟨x, hx⟩ : ∃ x, w.heap.size = x := ⟨_, rfl⟩
  obtain ⟨y, hy⟩ : ∃ y, x + 1 = y := ⟨_, rfl⟩
  rw [hx] at HB HN
  rw [hy] at HN
  simp only [hx, hy]
  have HWX := Lib.hid hx
  have HWY := Lib.hid (show w.heap.size ≤ y by omega)
  have hxy : x ≠ y := by omega
  clear hx hy
  refine wp_region_gro groO1 [0, 1, 2, 3, 4, 5, 6, 8, 9, 10, 11, 12, 13, 14, 16, 17, 18, 19, 20, 21, 22, 7, 24, 15, 23, 25, 26, 27, 28, 29] hmo (by kernel_rfl) rfl (by kernel_rfl) (fun _ _ _ _ _ h => h) ?_
  have hxd : Ext w1 w1.drew := Ext.drewN w1 1
  replace HX := Lib.hid (HX.out.trans hxd)
  replace HB := Lib.hid (HB.out.ext hxd)
  replace HN := Lib.hid (HN.out.ext hxd)
  clear hxd
  generalize w1.drew = w2 at *
  obtain ⟨d0, d1, d2, d3, d4, d5, d6, d7⟩ := row8_facts HB.out
  repeat (first
    | (refine groL_pure rfl rfl ?_; intro K hK; go_simp; refine hK _ ?_; clear hK K)
    | (refine groL_read rfl rfl ?_; intro K S hS hK; go_simp; refine hK _ ?_; clear hK K hS S)
    | (refine groL_read rfl rfl ?_; intro K S hS hK; go_simp; refine ⟨hS _ ?_, hK _ ?_⟩; (clear hK K hS S; intro w' hx'; have hce := ext_some hx'; go_simp); clear hK K hS S)
    | (refine groL_write rfl rfl ?_; intro K hK; go_simp; refine hK _ _ ?_; clear hK K))
  clear d0 d1 d2 d3 d4 d5 d6 d7
  have HA2 := Lib.hid (HA.out w2 HX.out)
  refine groL_grow rfl rfl ?_
  intro K hK
  go_simp
  (refine HA2.out.mono ?_; rintro e w3 ⟨u1, rfl, ho1, hx3⟩)
  go_simp
  refine hK _ _ ⟨hx3, ?_⟩
  clear hK K
  have HO1 := Lib.hid (own_base ho1 (show w.heap.size ≤ w2.heap.size from HX.out.size))
  have HX3 := Lib.hid (HX.out.trans hx3)
  have HB3 := Lib.hid (HB.out.ext hx3)
  have HN3 := Lib.hid (HN.out.ext hx3)
  have HR3 := Lib.hid (HR.out w3 HX3.out)
  clear ho1 hx3 HA2 HA HR HX HB HN
  repeat (first
    | (refine groL_pure rfl rfl ?_; intro K hK; go_simp; refine hK _ ?_; clear hK K)
    | (refine groL_read rfl rfl ?_; intro K S hS hK; go_simp; refine hK _ ?_; clear hK K hS S)
    | (refine groL_read rfl rfl ?_; intro K S hS hK; go_simp; refine ⟨hS _ ?_, hK _ ?_⟩; (clear hK K hS S; intro w' hx'; have hce := ext_some hx'; go_simp); clear hK K hS S)
    | (refine groL_write rfl rfl ?_; intro K hK; go_simp; refine hK _ _ ?_; clear hK K))
  refine groL_grow rfl rfl ?_
  intro K hK
  go_simp
  (refine HR3.out.mono ?_; rintro e w4 ⟨u2, rfl, ho2, hx4⟩)
  go_simp
  refine hK _ _ ⟨hx4, ?_⟩
  clear hK K
  have HO2 := Lib.hid (own_base ho2 (show w.heap.size ≤ w3.heap.size from HX3.out.size))
  have HX4 := Lib.hid (HX3.out.trans hx4)
  have HB4 := Lib.hid (HB3.out.ext hx4)
  have HN4 := Lib.hid (HN3.out.ext hx4)
  have HO14 := Lib.hid (own_ext HO1.out hx4)
  have HH4 := Lib.hid (HH.out w4 HX4.out)
  clear ho2 hx4 HR3 HH HX3 HB3 HN3 HO1
  repeat (first
    | (refine groL_pure rfl rfl ?_; intro K hK; go_simp; refine hK _ ?_; clear hK K)
    | (refine groL_read rfl rfl ?_; intro K S hS hK; go_simp; refine hK _ ?_; clear hK K hS S)
    | (refine groL_read rfl rfl ?_; intro K S hS hK; go_simp; refine ⟨hS _ ?_, hK _ ?_⟩; (clear hK K hS S; intro w' hx'; have hce := ext_some hx'; go_simp); clear hK K hS S)
    | (refine groL_write rfl rfl ?_; intro K hK; go_simp; refine hK _ _ ?_; clear hK K))
  refine groL_grow rfl rfl ?_
  intro K hK
  go_simp
  (refine HH4.out.mono ?_; rintro e w5 ⟨u3, rfl, ho3, hx5⟩)
  go_simp
  refine hK _ _ ⟨hx5, ?_⟩
  clear hK K
  have HO3 := Lib.hid (own_base ho3 (show w.heap.size ≤ w4.heap.size from HX4.out.size))
  have HX5 := Lib.hid (HX4.out.trans hx5)
  have HB5 := Lib.hid (HB4.out.ext hx5)
  have HN5 := Lib.hid (HN4.out.ext hx5)
  have HO15 := Lib.hid (own_ext HO14.out hx5)
  have HO25 := Lib.hid (own_ext HO2.out hx5)
  clear ho3 hx5 HH4 HX4 HB4 HN4 HO14 HO2
  obtain ⟨z1a, z1c, rfl⟩ := own_vw HO15.out
  obtain ⟨z2a, z2c, rfl⟩ := own_vw HO25.out
  obtain ⟨z3a, z3c, rfl⟩ := own_vw HO3.out
  have hgt : ∀ W i v, World.grownBy W (W.setCell ⟨x, i, none⟩ v) (some x) := fun W i v => grown_set W x i v
  have HW : Hid (RowAt (((w5.setCell ⟨x, 0, none⟩ (.slice z1a A.length z1c)).setCell ⟨x, 1, none⟩ (.slice z2a R.length z2c)).setCell ⟨x, 7, none⟩ (.slice z3a H.length z3c)) x 26 [.slice z1a A.length z1c, .slice z2a R.length z2c, .bool cn, .bool ds, .bool lm, .int .i64 li, .int .i64 off, .slice z3a H.length z3c]) := Lib.hid (((HB5.out.set 0 _).set 1 _).set 7 _)
  have HG1 := Lib.hid (HB5.out.set 0 (.slice z1a A.length z1c))
  have HG2 := Lib.hid (HG1.out.set 1 (.slice z2a R.length z2c))
  have HXF := Lib.hid (Ext.set_of (Ext.set_of (Ext.set_of HX5.out (Nat.le_of_eq HWX.out) (o := 0) (.slice z1a A.length z1c)) (Nat.le_of_eq HWX.out) (o := 1) (.slice z2a R.length z2c)) (Nat.le_of_eq HWX.out) (o := 7) (.slice z3a H.length z3c))
  have HNF := Lib.hid (((HN5.out.kept (hgt w5 0 (.slice z1a A.length z1c)) (fun e => hxy (Option.some.inj e))).kept (hgt _ 1 (.slice z2a R.length z2c)) (fun e => hxy (Option.some.inj e))).kept (hgt _ 7 (.slice z3a H.length z3c)) (fun e => hxy (Option.some.inj e)))
  have HP1 := Lib.hid (own_turn (own_turn (own_turn HO15.out HB5.out (by decide) (hgt w5 0 (.slice z1a A.length z1c))) HG1.out (by decide) (hgt _ 1 (.slice z2a R.length z2c))) HG2.out (by decide) (hgt _ 7 (.slice z3a H.length z3c)))
  have HP2 := Lib.hid (own_turn (own_turn (own_turn HO25.out HB5.out (by decide) (hgt w5 0 (.slice z1a A.length z1c))) HG1.out (by decide) (hgt _ 1 (.slice z2a R.length z2c))) HG2.out (by decide) (hgt _ 7 (.slice z3a H.length z3c)))
  have HP3 := Lib.hid (own_turn (own_turn (own_turn HO3.out HB5.out (by decide) (hgt w5 0 (.slice z1a A.length z1c))) HG1.out (by decide) (hgt _ 1 (.slice z2a R.length z2c))) HG2.out (by decide) (hgt _ 7 (.slice z3a H.length z3c)))
  have f0 := HB5.out.cell (i := 0) rfl
  have f1 := HB5.out.cell (i := 1) rfl
  have f7 := HB5.out.cell (i := 7) rfl
  have g0 := HB5.out.frozen 0
  have g1 := HB5.out.frozen 1
  have g7 := HB5.out.frozen 7
  clear hgt
  repeat (first
    | (refine groL_pure rfl rfl ?_; intro K hK; go_simp; refine hK _ ?_; clear hK K)
    | (refine groL_read rfl rfl ?_; intro K S hS hK; go_simp; refine hK _ ?_; clear hK K hS S)
    | (refine groL_read rfl rfl ?_; intro K S hS hK; go_simp; refine ⟨hS _ ?_, hK _ ?_⟩; (clear hK K hS S; intro w' hx'; have hce := ext_some hx'; go_simp); clear hK K hS S)
    | (refine groL_write rfl rfl ?_; intro K hK; go_simp; refine hK _ _ ?_; clear hK K))
  refine groL_nil ?_
  clear f0 f1 f7 g0 g1 g7 HB5 HG1 HG2 HX5 HN5 HO15 HO25 HO3
  generalize (((w5.setCell ⟨x, 0, none⟩ (.slice z1a A.length z1c)).setCell ⟨x, 1, none⟩ (.slice z2a R.length z2c)).setCell ⟨x, 7, none⟩ (.slice z3a H.length z3c)) = w6 at *
  go_upto_region 2 with fail
  apply wp_region_lit
  refine plain_load rfl _ _ rfl x rfl [.slice z1a A.length z1c, .slice z2a R.length z2c, .bool cn, .bool ds, .bool lm, .int .i64 li, .int .i64 off, .slice z3a H.length z3c] _ HW.out Try.underlying26 rfl (by kernel_rfl) ?_
  go_simp
  refine plain_store rfl _ _ _ rfl y [.slice z1a A.length z1c, .slice z2a R.length z2c, .bool cn, .bool ds, .bool lm, .int .i64 li, .int .i64 off, .slice z3a H.length z3c] rfl rfl HNF.out (by kernel_rfl) rfl (by simp [Value.oneCell']) ?_
  have HY := Lib.hid (HNF.out.setRow [.slice z1a A.length z1c, .slice z2a R.length z2c, .bool cn, .bool ds, .bool lm, .int .i64 li, .int .i64 off, .slice z3a H.length z3c])
  have HXY := Lib.hid (show Ext w (w6.setRow y #[.slice z1a A.length z1c, .slice z2a R.length z2c, .bool cn, .bool ds, .bool lm, .int .i64 li, .int .i64 off, .slice z3a H.length z3c]) from below_setRow HXF.out HWY.out _)
  have HQ1 := Lib.hid (own_turn HP1.out HNF.out (by decide) (setRow_grown w6 y #[.slice z1a A.length z1c, .slice z2a R.length z2c, .bool cn, .bool ds, .bool lm, .int .i64 li, .int .i64 off, .slice z3a H.length z3c]))
  have HQ2 := Lib.hid (own_turn HP2.out HNF.out (by decide) (setRow_grown w6 y #[.slice z1a A.length z1c, .slice z2a R.length z2c, .bool cn, .bool ds, .bool lm, .int .i64 li, .int .i64 off, .slice z3a H.length z3c]))
  have HQ3 := Lib.hid (own_turn HP3.out HNF.out (by decide) (setRow_grown w6 y #[.slice z1a A.length z1c, .slice z2a R.length z2c, .bool cn, .bool ds, .bool lm, .int .i64 li, .int .i64 off, .slice z3a H.length z3c]))
  clear HW HXF HNF HP1 HP2 HP3
  generalize w6.setRow y #[.slice z1a A.length z1c, .slice z2a R.length z2c, .bool cn, .bool ds, .bool lm, .int .i64 li, .int .i64 off, .slice z3a H.length z3c] = w7 at *
  go_simp
  apply wpList_nil
  go_wp2_with fail
  exact bodyPost_ret (results_row0 rfl rfl HY.out Try.underlying26 rfl (by kernel_rfl)) rfl ⟨_, rfl, ⟨_, _, _, rfl, HQ1.out, HQ2.out, HQ3.out⟩, HXY.out⟩
end Go.Proofs.Ytngnplghjaojhaa
