/- The document: the same texts, the same patterns. -/
import Derived.Test.YtngnplghjaojhaaGp24
import Derived.Test.YtngnplghjaojhaaGp19
import Derived.Test.YtngnplghjaojhaaGp11
import Derived.Test.YtngnplghjaojhaaGp09
import Derived.Test.YtngnplghjaojhaaGp23
namespace Go.Proofs.Ytngnplghjaojhaa
set_option maxRecDepth 100000
set_option maxHeartbeats 2000000
set_option linter.unusedSimpArgs false
open Go.RowKit Go.Shelf Go.Sort
attribute [local go_sem] Oper.semAt_some wide_fn wide_depth
set_option linter.unusedVariables false

theorem sameTexts_any (v u : Value) (l m : List ByteArray) (w : World) (hv : Strs w v l) (hu : Strs w u m) :
    Calls Try.prog 29 #[v, u] w fun e w' => e = .returned (.bool (decide (l = m))) ∧ Ext w w' := by
  obtain ⟨a, c, rfl, hc1, hc2⟩ := Sl.shape hv
  obtain ⟨a', c', rfl, hc1', hc2'⟩ := Sl.shape hu
  have HV := Lib.hid hv
  have HU := Lib.hid hu
  clear hv hu
  by_cases hlen : l.length = m.length
  · have hne : ((l.length : Int) != (m.length : Int)) = false := by simp [hlen]
    have Hlen := Lib.hid hlen
    clear hlen
    go_enter Try.func29, Try.ntmps29
    go_wp2_with fail
    go_loopg [14] l.length (fun g i wr => ∃ k : Nat, k ≤ l.length ∧ g = l.length - k ∧ i = .int .i64 k ∧ Ext w wr ∧ Hid (l.take k = m.take k))
    case atStart => exact ⟨0, Nat.zero_le _, rfl, rfl, Ext.refl _, Lib.hid rfl⟩
    case round =>
      obtain ⟨k, hk, hg, rfl, hx, heq⟩ := hrel
      have Hg := Lib.hid hg
      have HX := Lib.hid hx
      clear hg
      by_cases hlt : k < l.length
      · have hltm : k < m.length := by have := Hlen.out; omega
        obtain ⟨b, o, rfl, c0⟩ := Strs.at_ (Strs.ext HV.out hx) hlt
        obtain ⟨b', o', rfl, d0⟩ := Strs.at_ (Strs.ext HU.out hx) hltm
        have e1 : l.take (k + 1) = l.take k ++ [l[k]] := List.take_succ_eq_append_getElem hlt
        have e2 : m.take (k + 1) = m.take k ++ [m[k]] := List.take_succ_eq_append_getElem hltm
        generalize l[k] = x at e1 c0
        generalize m[k] = y at e2 d0
        have E1 := Lib.hid e1
        have E2 := Lib.hid e2
        clear e1 e2 hx
        by_cases hxy : x = y
        · have hb1 : (x.toList != y.toList) = false := by rw [hxy]; simp
          have hb2 : (x.toList == y.toList) = true := by rw [hxy]; simp
          have HXY := Lib.hid hxy
          clear hxy
          go_wp2_with fail
          go_roundg (l.length - (k + 1))
          case measure => have := Hg.out; omega
          case rel => exact ⟨k + 1, by omega, rfl, by go_num, HX.out, Lib.hid (by rw [E1.out, E2.out, heq.out, HXY.out])⟩
        · have hb2 : (x.toList == y.toList) = false := str_no hxy
          have hb1 : (x.toList != y.toList) = true := by unfold bne; rw [hb2]; rfl
          have HNE : Hid (l ≠ m) := Lib.hid (fun h => by
            have h1 := E1.out
            have h2 := E2.out
            rw [h, h2] at h1
            have := List.append_cancel_left h1
            simp only [List.cons.injEq, and_true] at this
            exact hxy this.symm)
          clear hxy
          go_wp2_with fail
          go_ret
          exact ⟨ret_bool (decide_eq_false HNE.out).symm, HX.out⟩
      · have he : k = l.length := by omega
        have HEQ : Hid (l = m) := Lib.hid (by
          have h := heq.out
          rw [he, List.take_length, Hlen.out, List.take_length] at h
          exact h)
        clear he
        go_wp2_with fail
        go_ret
        exact ⟨ret_bool (decide_eq_true HEQ.out).symm, HX.out⟩
  · have hne : ((l.length : Int) != (m.length : Int)) = true := bne_iff_ne.2 (fun e => hlen (by omega))
    have HNE : Hid (l ≠ m) := Lib.hid (fun h => hlen (by rw [h]))
    clear hlen
    go_enter Try.func29, Try.ntmps29
    go_wp2_with fail
    go_ret
    exact ⟨ret_bool (decide_eq_false HNE.out).symm, Ext.refl _⟩
set_option maxRecDepth 100000 in
set_option maxHeartbeats 2000000 in
theorem same16_any (v u : Value) (P Q : Pat) (w : World) (h : PatAt w v P) (k : PatAt w u Q) (hf : P.atoms.length ≤ 1000000000) (hf2 : Q.atoms.length ≤ 1000000000) :
    Calls Try.prog 12 #[v, u] w fun e w' => e = .returned (.bool (sameB P Q)) ∧ Ext w w' := by
  obtain ⟨av, rv, hv, rfl, ha, hr, hh⟩ := h
  obtain ⟨au, ru, hu, rfl, ka, kr, kh⟩ := k
  obtain ⟨ava, avc, rfl, hac, _⟩ := ha.shape
  obtain ⟨rva, rvc, rfl, _, _⟩ := Sl.shape hr
  obtain ⟨hva, hvc, rfl, _, _⟩ := Sl.shape hh
  obtain ⟨aua, auc, rfl, _, _⟩ := ka.shape
  obtain ⟨rua, ruc, rfl, _, _⟩ := Sl.shape kr
  obtain ⟨hua, huc, rfl, _, _⟩ := Sl.shape kh
  unfold sameB
  obtain ⟨atoms, ret, cn, ds, lm, li, off, hint⟩ := P
  obtain ⟨atoms2, ret2, cn2, ds2, lm2, li2, off2, hint2⟩ := Q
  unfold patV patL
  dsimp only at *
  have HA := Lib.hid (show Ats w (.slice ava atoms.length avc) atoms ∧ Ats w (.slice aua atoms2.length auc) atoms2 from ⟨ha, ka⟩)
  have HR := Lib.hid (show ∀ w', Ext w w' → Calls Try.prog 29 #[.slice rva ret.length rvc, .slice rua ret2.length ruc] w' (fun e w'' => e = .returned (.bool (decide (ret = ret2))) ∧ Ext w' w'') from fun w' (hx : Ext w w') => sameTexts_any _ _ ret ret2 w' (Strs.ext hr hx) (Strs.ext kr hx))
  have HH := Lib.hid (show ∀ w', Ext w w' → Calls Try.prog 29 #[.slice hva hint.length hvc, .slice hua hint2.length huc] w' (fun e w'' => e = .returned (.bool (decide (hint = hint2))) ∧ Ext w' w'') from fun w' (hx : Ext w w') => sameTexts_any _ _ hint hint2 w' (Strs.ext hh hx) (Strs.ext kh hx))
  obtain ⟨c1, p1⟩ : ∃ b, decide (atoms = atoms2) = b := ⟨_, rfl⟩
  obtain ⟨c2, p2⟩ : ∃ b, decide (ret = ret2) = b := ⟨_, rfl⟩
  obtain ⟨c3, p3⟩ : ∃ b, decide (hint = hint2) = b := ⟨_, rfl⟩
  rw [p1, p2, p3]
  obtain ⟨RS, hRS⟩ : ∃ R, ((cn == cn2 && (ds == ds2 && (lm == lm2 && (li == li2 && off == off2)))) && (c1 && (c2 && c3))) = R := ⟨_, rfl⟩
  rw [hRS]
  have HRS := Lib.hid hRS
  have HP1 := Lib.hid p1
  rw [p2] at HR
  rw [p3] at HH
  clear p1 p2 p3 hRS
  obtain ⟨lb, hlb⟩ : ∃ b, ((atoms.length : Int) != (atoms2.length : Int)) = b := ⟨_, rfl⟩
  have HLB := Lib.hid hlb
  have hx1 := Ext.alloc w (.cells #[.slice ava atoms.length avc, .slice rva ret.length rvc, .bool cn, .bool ds, .bool lm, .int .i64 li, .int .i64 off, .slice hva hint.length hvc] 26)
  have hx2 := Ext.alloc (w.alloc (.cells #[.slice ava atoms.length avc, .slice rva ret.length rvc, .bool cn, .bool ds, .bool lm, .int .i64 li, .int .i64 off, .slice hva hint.length hvc] 26)) (.cells #[.slice aua atoms2.length auc, .slice rua ret2.length ruc, .bool cn2, .bool ds2, .bool lm2, .int .i64 li2, .int .i64 off2, .slice hua hint2.length huc] 26)
  have hb1 := (RowAt.new w 26 [.slice ava atoms.length avc, .slice rva ret.length rvc, .bool cn, .bool ds, .bool lm, .int .i64 li, .int .i64 off, .slice hva hint.length hvc]).ext hx2
  have hb2 : RowAt ((w.alloc (.cells #[.slice ava atoms.length avc, .slice rva ret.length rvc, .bool cn, .bool ds, .bool lm, .int .i64 li, .int .i64 off, .slice hva hint.length hvc] 26)).alloc (.cells #[.slice aua atoms2.length auc, .slice rua ret2.length ruc, .bool cn2, .bool ds2, .bool lm2, .int .i64 li2, .int .i64 off2, .slice hua hint2.length huc] 26)) (w.heap.size + 1) 26 [.slice aua atoms2.length auc, .slice rua ret2.length ruc, .bool cn2, .bool ds2, .bool lm2, .int .i64 li2, .int .i64 off2, .slice hua hint2.length huc] := row_at (by simp)
  have HX := Lib.hid (hx1.trans hx2)
  have HB := Lib.hid hb1
  have HB2 := Lib.hid hb2
  clear hx1 hx2 hb1 hb2 ha hr hh ka kr kh
  go_enter Try.func12, Try.ntmps12
  go_upto_region 1 with fail
  generalize ((w.alloc (.cells #[.slice ava atoms.length avc, .slice rva ret.length rvc, .bool cn, .bool ds, .bool lm, .int .i64 li, .int .i64 off, .slice hva hint.length hvc] 26)).alloc (.cells #[.slice aua atoms2.length auc, .slice rua ret2.length ruc, .bool cn2, .bool ds2, .bool lm2, .int .i64 li2, .int .i64 off2, .slice hua hint2.length huc] 26)) = w1 at *
  obtain ⟨x, hx⟩ : ∃ x, w.heap.size = x := ⟨_, rfl⟩
  obtain ⟨y, hy⟩ : ∃ y, x + 1 = y := ⟨_, rfl⟩
  rw [hx] at HB HB2
  rw [hy] at HB2
  simp only [hx, hy]
  clear hx hy
  obtain ⟨d0, d1, d2, d3, d4, d5, d6, d7⟩ := row8_facts HB.out
  obtain ⟨e0, e1, e2, e3, e4, e5, e6, e7⟩ := row8_facts HB2.out
  cases lb
  case true =>
    have HN : Hid (RS = false) := Lib.hid (by
      have h1 := HP1.out
      rw [decide_eq_false (fun e => by rw [e] at hlb; simp at hlb)] at h1
      rw [← HRS.out, ← h1]; simp)
    go_wp2_with fail
    go_ret
    exact ⟨ret_bool HN.out.symm, HX.out⟩
  case false =>
    have HLE : Hid (atoms.length = atoms2.length) := Lib.hid (by
      have h1 : ¬ ((atoms.length : Int) ≠ (atoms2.length : Int)) := fun e => by rw [bne_iff_ne.2 e] at hlb; cases hlb
      omega)
    by_cases h1 : cn = cn2
    case neg =>
      have hb : (cn == cn2) = false := beq_eq_false_iff_ne.2 h1
      have HN : Hid (RS = false) := Lib.hid (by rw [← HRS.out, hb]; simp)
      go_wp2_with fail
      go_ret
      exact ⟨ret_bool HN.out.symm, HX.out⟩
    subst h1
    by_cases h2 : ds = ds2
    case neg =>
      have hb : (ds == ds2) = false := beq_eq_false_iff_ne.2 h2
      have HN : Hid (RS = false) := Lib.hid (by rw [← HRS.out, hb]; simp)
      go_wp2_with fail
      go_ret
      exact ⟨ret_bool HN.out.symm, HX.out⟩
    subst h2
    by_cases h3 : lm = lm2
    case neg =>
      have hb : (lm == lm2) = false := beq_eq_false_iff_ne.2 h3
      have HN : Hid (RS = false) := Lib.hid (by rw [← HRS.out, hb]; simp)
      go_wp2_with fail
      go_ret
      exact ⟨ret_bool HN.out.symm, HX.out⟩
    subst h3
    by_cases h4 : li = li2
    case neg =>
      have hb : (li == li2) = false := beq_eq_false_iff_ne.2 h4
      have HN : Hid (RS = false) := Lib.hid (by rw [← HRS.out, hb]; simp)
      go_wp2_with fail
      go_ret
      exact ⟨ret_bool HN.out.symm, HX.out⟩
    subst h4
    by_cases h5 : off = off2
    case neg =>
      have hb : (off == off2) = false := beq_eq_false_iff_ne.2 h5
      have HN : Hid (RS = false) := Lib.hid (by rw [← HRS.out, hb]; simp)
      go_wp2_with fail
      go_ret
      exact ⟨ret_bool HN.out.symm, HX.out⟩
    subst h5
    have HRS2 : Hid ((c1 && (c2 && c3)) = RS) := Lib.hid (by have h := HRS.out; simpa using h)
    clear HRS
    go_wp2_with fail
    clear hlb d0 d1 d2 d3 d4 d5 d6 d7 e0 e1 e2 e3 e4 e5 e6 e7
    go_loopg [52] atoms.length (fun g i wr => ∃ k : Nat, k ≤ atoms.length ∧ g = atoms.length - k ∧ i = .int .i64 k ∧ Hid (Ext w1 wr) ∧ Hid (atoms.take k = atoms2.take k))
    case atStart => exact ⟨0, Nat.zero_le _, rfl, rfl, Lib.hid (Ext.refl _), Lib.hid rfl⟩
    case round =>
      obtain ⟨k, hk, hg, rfl, hx, heq⟩ := hrel
      have Hg := Lib.hid hg
      have HXr := Lib.hid (HX.out.trans hx.out)
      have HBr := Lib.hid (HB.out.ext hx.out)
      have HBr2 := Lib.hid (HB2.out.ext hx.out)
      clear hg
      obtain ⟨d0, d1, d2, d3, d4, d5, d6, d7⟩ := row8_facts HBr.out
      obtain ⟨e0, e1, e2, e3, e4, e5, e6, e7⟩ := row8_facts HBr2.out
      by_cases hlt : k < atoms.length
      · have hltm : k < atoms2.length := by have := HLE.out; omega
        obtain ⟨b, o, rfl, f0, f1, f2, f3, f4, f5, f6⟩ := (HA.out.1.ext HXr.out).at_ hlt
        obtain ⟨b', o', rfl, g0, g1, g2, g3, g4, g5, g6⟩ := (HA.out.2.ext HXr.out).at_ hltm
        have l1 : atoms.take (k + 1) = atoms.take k ++ [atoms[k]] := List.take_succ_eq_append_getElem hlt
        have l2 : atoms2.take (k + 1) = atoms2.take k ++ [atoms2[k]] := List.take_succ_eq_append_getElem hltm
        generalize atoms[k] = xa at l1 f0 f1 f2 f3 f4 f5 f6
        generalize atoms2[k] = ya at l2 g0 g1 g2 g3 g4 g5 g6
        have L1 := Lib.hid l1
        have L2 := Lib.hid l2
        have hq := fun w => at_neqB xa ya w
        obtain ⟨Bq, hB⟩ : ∃ B, decide (xa = ya) = B := ⟨_, rfl⟩
        rw [hB] at hq
        have HBq := Lib.hid hB
        unfold atV at hq
        clear l1 l2 hB
        obtain ⟨xk, xfk, xfn, xnm, xva, xtk, xtn⟩ := xa
        dsimp only at hq f0 f1 f2 f3 f4 f5 f6
        have hxa := Ext.alloc wr (.cells #[.int .i64 xk, .bool xfk, .string xfn, .string xnm, .string xva, .bool xtk, .string xtn] 64)
        have hrow := RowAt.new wr 64 [.int .i64 xk, .bool xfk, .string xfn, .string xnm, .string xva, .bool xtk, .string xtn]
        have HX2 := Lib.hid (hx.out.trans hxa)
        have HB3 := Lib.hid (HBr2.out.ext hxa)
        have HXX := Lib.hid (HXr.out.trans hxa)
        have HRW := Lib.hid hrow
        have v0 := ext_cell hxa g0
        have v1 := ext_cell hxa g1
        have v2 := ext_cell hxa g2
        have v3 := ext_cell hxa g3
        have v4 := ext_cell hxa g4
        have v5 := ext_cell hxa g5
        have v6 := ext_cell hxa g6
        go_upto_region 6 with fail
        clear f0 f1 f2 f3 f4 f5 f6 g0 g1 g2 g3 g4 g5 g6 d0 d1 d2 d3 d4 d5 d6 d7 e0 e1 e2 e3 e4 e5 e6 e7 hxa hrow
        generalize wr.alloc (.cells #[.int .i64 xk, .bool xfk, .string xfn, .string xnm, .string xva, .bool xtk, .string xtn] 64) = w2 at *
        obtain ⟨d0, d1, d2, d3, d4, d5, d6⟩ := row7_facts HRW.out
        have e0 := HB3.out.cell (i := 0) rfl
        cases Bq with
        | true =>
          go_quiet (fail)
          clear d0 d1 d2 d3 d4 d5 d6 e0 v0 v1 v2 v3 v4 v5 v6 hq
          go_wp2_with fail
          go_roundg (atoms.length - (k + 1))
          case measure => have := Hg.out; omega
          case rel => exact ⟨k + 1, by omega, rfl, by go_num, Lib.hid (HX2.out.trans (Ext.drewN _ _)), Lib.hid (by rw [L1.out, L2.out, heq.out, of_decide_eq_true HBq.out])⟩
        | false =>
          have HNE : Hid (RS = false) := Lib.hid (by
            have hne : atoms ≠ atoms2 := fun h => by
              have h1 := L1.out
              have h2 := L2.out
              rw [h, h2] at h1
              have := List.append_cancel_left h1
              simp only [List.cons.injEq, and_true] at this
              exact of_decide_eq_false HBq.out this.symm
            have h1 := HP1.out
            rw [decide_eq_false hne] at h1
            rw [← HRS2.out, ← h1]; rfl)
          go_quiet (fail)
          clear d0 d1 d2 d3 d4 d5 d6 e0 v0 v1 v2 v3 v4 v5 v6 hq
          go_wp2_with fail
          go_ret
          exact ⟨ret_bool HNE.out.symm, HXX.out.trans (Ext.drewN _ _)⟩
      · have he : k = atoms.length := by omega
        have HEQ : Hid ((c2 && c3) = RS) := Lib.hid (by
          have h := heq.out
          rw [he, List.take_length, HLE.out, List.take_length] at h
          have h1 := HP1.out
          rw [decide_eq_true h] at h1
          rw [← HRS2.out, ← h1]; rfl)
        have HR1 := Lib.hid (HR.out wr HXr.out)
        clear he HR
        cases c2 with
        | false =>
          go_wp2_with fail
          refine HR1.out.mono ?_
          rintro e w2 ⟨rfl, hx2⟩
          go_wp2_with fail
          go_ret
          exact ⟨ret_bool HEQ.out, HXr.out.trans hx2⟩
        | true =>
          go_wp2_with fail
          refine HR1.out.mono ?_
          rintro e w2 ⟨rfl, hx2⟩
          have HX2 := Lib.hid (HXr.out.trans hx2)
          have HB3 := Lib.hid (HBr.out.ext hx2)
          have HB4 := Lib.hid (HBr2.out.ext hx2)
          have HH2 := Lib.hid (HH.out w2 HX2.out)
          clear d0 d1 d2 d3 d4 d5 d6 d7 e0 e1 e2 e3 e4 e5 e6 e7 HR1 HH hx2
          obtain ⟨d0, d1, d2, d3, d4, d5, d6, d7⟩ := row8_facts HB3.out
          obtain ⟨e0, e1, e2, e3, e4, e5, e6, e7⟩ := row8_facts HB4.out
          go_wp2_with fail
          refine HH2.out.mono ?_
          rintro e w3 ⟨rfl, hx3⟩
          have HX3 := Lib.hid (HX2.out.trans hx3)
          clear hx3
          go_wp2_with fail
          go_ret
          exact ⟨ret_bool HEQ.out, HX3.out⟩
end Go.Proofs.Ytngnplghjaojhaa

/- A pattern of one's own. -/
namespace Go.Proofs.Ytngnplghjaojhaa
set_option maxRecDepth 100000
set_option maxHeartbeats 2000000
set_option linter.unusedSimpArgs false
open Go.RowKit Go.Shelf Go.Sort
attribute [local go_sem] Oper.semAt_some wide_fn wide_depth
set_option linter.unusedVariables false

end Go.Proofs.Ytngnplghjaojhaa

/- What is read may be. Plain. -/
namespace Go.Proofs.Ytngnplghjaojhaa
set_option maxRecDepth 100000
set_option maxHeartbeats 2000000
set_option linter.unusedSimpArgs false
set_option linter.unusedVariables false

theorem kindAt_ne {ts : List Tk} {p : Nat} {k : Int} (h : kindAt ts p = k) (hk : k ≠ 0) : ∃ t, ts[p]? = some t ∧ t.check = true ∧ t.kind = k ∧ textAt ts p = t.text := by
  unfold kindAt at h
  split at h
  · exact absurd h.symm hk
  · rename_i t ht
    split at h
    · rename_i hc
      refine ⟨t, ht, hc, h, ?_⟩
      unfold textAt
      simp [List.getD, ht]
    · exact absurd h.symm hk
theorem check_text {k : Int} {l : List UInt8} {a : Int} (h : checkB k l a = true) : rightB k l 0 = true := by
  rw [← right_check] at h
  unfold rightB at h ⊢
  by_cases ha : a < 0
  · rw [if_pos ha] at h; cases h
  · rw [if_neg ha] at h
    rw [if_neg (by omega)]
    exact h
theorem word_at {ts : List Tk} {p : Nat} (h : kindAt ts p = 1 ∨ kindAt ts p = 2) : wordB (textAt ts p) = true := by
  rw [← wordB_all]
  rcases h with h | h
  · obtain ⟨t, _, hc, hk, e⟩ := kindAt_ne h (by decide)
    have := check_text (show checkB t.kind (bts t.text) t.at_ = true from hc)
    rw [hk] at this
    rw [e]
    unfold rightB at this
    simpa using this
  · obtain ⟨t, _, hc, hk, e⟩ := kindAt_ne h (by decide)
    have := check_text (show checkB t.kind (bts t.text) t.at_ = true from hc)
    rw [hk] at this
    rw [e]
    unfold rightB at this
    simpa using this
theorem worth_at {ts : List Tk} {p : Nat} (h : kindAt ts p = 3) : worthB (textAt ts p) = true := by
  rw [← worthB_all]
  obtain ⟨t, _, hc, hk, e⟩ := kindAt_ne h (by decide)
  have := check_text (show checkB t.kind (bts t.text) t.at_ = true from hc)
  rw [hk] at this
  rw [e]
  unfold rightB at this
  simpa using this
theorem word_nil {s : ByteArray} (h : wordB s = true) : s ≠ nilB := by
  rintro rfl
  revert h
  decide +kernel
theorem takeP_text {ts : List Tk} {k : Int} {p q : Nat} {s : ByteArray} (h : takeP ts k p = .ok (s, q)) : kindAt ts p = k ∧ s = textAt ts p := by
  unfold takeP at h
  split at h
  · cases h; exact ⟨by assumption, rfl⟩
  · cases h
theorem termP_vars {ts : List Tk} {vars vars' : List ByteArray} {p q : Nat} {t : Bool × ByteArray} (h : termP ts vars p = .ok (t, vars', q)) : vars' = termS vars t ∧ wordB t.2 = true := by
  unfold termP at h
  split at h
  · rename_i h2
    cases h
    exact ⟨by unfold termS; simp, word_at (.inr h2)⟩
  · split at h
    · rename_i h1
      split at h
      · rename_i hb
        cases h
        exact ⟨by unfold termS; rw [if_pos (.inr (.inr hb))], word_at (.inl h1)⟩
      · split at h
        · cases h
        · rename_i hb _
          cases h
          have hw := word_at (.inl h1)
          refine ⟨?_, hw⟩
          unfold termS
          rw [if_neg]
          rintro (h | h | h)
          · cases h
          · exact word_nil hw h
          · exact hb h
    · cases h
theorem midP_text {ts : List Tk} {p q : Nat} {k : Int} {s v : ByteArray} (h : midP ts p = .ok (k, s, v, q)) : (k = 1 ∧ s = nilB ∧ v = nilB) ∨ (k = 2 ∧ wordB s = true ∧ v = nilB) ∨ (k = 3 ∧ wordB s = true ∧ worthB v = true) := by
  unfold midP at h
  split at h
  · obtain ⟨⟨_, q1⟩, h1, h2⟩ := bind_ok h
    have := takeP_text h1
    cases h2
    exact .inr (.inl ⟨rfl, by rw [this.2]; exact word_at (.inl this.1), rfl⟩)
  · split at h
    · obtain ⟨⟨_, q1⟩, h1, h2⟩ := bind_ok h
      obtain ⟨⟨_, q2⟩, h3, h4⟩ := bind_ok h2
      obtain ⟨⟨_, q3⟩, h5, h6⟩ := bind_ok h4
      have a := takeP_text h1
      have b := takeP_text h5
      cases h6
      exact .inr (.inr ⟨rfl, by rw [a.2]; exact word_at (.inl a.1), by rw [b.2]; exact worth_at b.1⟩)
    · cases h
      exact .inl ⟨rfl, rfl, rfl⟩
/-- What has been read may be so far. -/
def InvA (a : List Atm) (v : List ByteArray) : Prop := varsS a = v ∧ a.all atomB = true
theorem varsS_snoc (l : List Atm) (a : Atm) : varsS (l ++ [a]) = termS (termS (varsS l) (a.fk, a.fn)) (a.tk, a.tn) := by
  unfold varsS
  rw [List.foldl_append]
  rfl
theorem termS_nil (T : List ByteArray) (b : Bool) : termS T (b, nilB) = T := by unfold termS; simp
theorem InvA.snoc {l : List Atm} {v : List ByteArray} {a : Atm} (h : InvA l v) (ha : atomB a = true) : InvA (l ++ [a]) (termS (termS v (a.fk, a.fn)) (a.tk, a.tn)) := by
  refine ⟨by rw [varsS_snoc, h.1], ?_⟩
  rw [List.all_append, h.2]
  simp [ha]
theorem atomP_inv {ts : List Tk} {st s : PS} (h : atomP ts st = .ok s) : st.atoms.length < s.atoms.length ∧ (InvA st.atoms st.vars → InvA s.atoms s.vars) := by
  unfold atomP at h
  obtain ⟨⟨f, v1, p1⟩, h1, h2⟩ := bind_ok h
  obtain ⟨⟨k, n, v, p2⟩, h3, h4⟩ := bind_ok h2
  obtain ⟨⟨_, p3⟩, h5, h6⟩ := bind_ok h4
  obtain ⟨e1, l1⟩ := termP_vars h1
  have e3 := midP_text h3
  dsimp only at h6
  split at h6
  · split at h6
    · cases h6
    · obtain ⟨⟨n4, p4⟩, a1, h7⟩ := bind_ok h6
      obtain ⟨⟨_, p5⟩, a2, h8⟩ := bind_ok h7
      obtain ⟨⟨_, p6⟩, a3, h9⟩ := bind_ok h8
      obtain ⟨⟨t, v2, p7⟩, a4, h10⟩ := bind_ok h9
      obtain ⟨⟨_, p8⟩, a5, h11⟩ := bind_ok h10
      have b1 := takeP_text a1
      obtain ⟨b4, l4⟩ := termP_vars a4
      cases h11
      refine ⟨by simp, fun hi => ?_⟩
      have := hi.snoc (a := ⟨4, f.1, f.2, n4, nilB, t.1, t.2⟩) (by unfold atomB; simp [l1, l4, b1.2, word_at (.inl b1.1)])
      dsimp only at this ⊢
      rw [b4, e1]
      exact this
  · cases h6
    refine ⟨by simp, fun hi => ?_⟩
    have := hi.snoc (a := ⟨k, f.1, f.2, n, v, false, nilB⟩) (by
      rcases e3 with ⟨rfl, rfl, rfl⟩ | ⟨rfl, hw, rfl⟩ | ⟨rfl, hw, hw'⟩
      · unfold atomB; simp [l1]
      · unfold atomB; simp [l1, hw]
      · unfold atomB; simp [l1, hw, hw'])
    dsimp only at this ⊢
    rw [termS_nil] at this
    rw [e1]
    exact this
/-- What each atom keeps, all items keep. -/
theorem itemsF_keep {ts : List Tk} {R : List Atm × List ByteArray → List Atm × List ByteArray → Prop} (ht : ∀ a b c, R a b → R b c → R a c)
    (ha : ∀ st s, atomP ts st = .ok s → R (st.atoms, st.vars) (s.atoms, s.vars)) : ∀ (f d : Nat) (st s : PS), itemsF ts f d st = some (.ok s) → R (st.atoms, st.vars) (s.atoms, s.vars)
  | 0, _, _, _, h => by simp [itemsF] at h
  | f + 1, d, st, s, h => by
    have ih := itemsF_keep ht ha f
    have fin : ∀ s1 : PS, R (st.atoms, st.vars) (s1.atoms, s1.vars) → (if s1.atoms.length = 40 ∨ kindAt ts s1.p ≠ 6 then some (.ok s1) else itemsF ts f d ⟨s1.p + 1, s1.atoms, s1.vars⟩) = some (.ok s) → R (st.atoms, st.vars) (s.atoms, s.vars) := by
      intro s1 h1 h4
      split at h4
      · cases h4; exact h1
      · exact ht _ _ _ h1 (ih d ⟨s1.p + 1, s1.atoms, s1.vars⟩ s h4)
    unfold itemsF at h
    by_cases h4 : kindAt ts st.p = 4
    · by_cases h44 : kindAt ts (st.p + 1) = 4
      · by_cases hd : d = 4
        · simp [h4, h44, hd] at h
        · simp only [h4, h44, hd, if_true, if_false] at h
          cases hi : itemsF ts f (d + 1) ⟨st.p + 1, st.atoms, st.vars⟩ with
          | none => rw [hi] at h; simp at h
          | some x =>
            rw [hi] at h
            cases x with
            | error q => simp at h
            | ok s1 =>
              have g := ih (d + 1) ⟨st.p + 1, st.atoms, st.vars⟩ s1 hi
              cases hb2 : ((takeP ts 5 s1.p).bind fun (_, p) => (.ok ⟨p, s1.atoms, s1.vars⟩ : Except Nat PS)) with
              | error q => simp only [hb2] at h; cases h
              | ok s' =>
                simp only [hb2] at h
                obtain ⟨⟨_, q1⟩, c1, c2⟩ := bind_ok hb2
                cases c2
                exact fin ⟨q1, s1.atoms, s1.vars⟩ g h
      · simp only [h4, h44, if_true, if_false] at h
        cases hat : atomP ts ⟨st.p + 1, st.atoms, st.vars⟩ with
        | error q => simp only [hat] at h; cases h
        | ok s' =>
          simp only [hat] at h
          exact fin _ (ha ⟨st.p + 1, st.atoms, st.vars⟩ s' hat) h
    · simp [h4] at h
theorem ItemsR.inv {ts : List Tk} {d : Nat} {st s : PS} (h : ItemsR ts d st (.ok s)) : st.atoms.length < s.atoms.length ∧ (InvA st.atoms st.vars → InvA s.atoms s.vars) := by
  obtain ⟨f, hf⟩ := h
  exact itemsF_keep (R := fun a b => a.1.length < b.1.length ∧ (InvA a.1 a.2 → InvA b.1 b.2)) (fun a b c h h' => ⟨by omega, fun x => h'.2 (h.2 x)⟩) (fun st s h => atomP_inv h) f d st s hf
theorem chosenG_snoc (vars : List ByteArray) (s : ByteArray) : ∀ (l seen : List ByteArray), chosenG vars seen (l ++ [s]) = (chosenG vars seen l && (hasB s vars && !hasB s (seen ++ l)))
  | [], seen => by simp [chosenG]
  | x :: l, seen => by
    rw [List.cons_append]
    unfold chosenG
    rw [chosenG_snoc vars s l (seen ++ [x]), List.append_assoc]
    simp [Bool.and_assoc]
theorem varP_chosen {ts : List Tk} {vars acc acc' : List ByteArray} {p q : Nat} (h : varP ts vars acc p = .ok (acc', q)) (hc : chosenB vars acc = true) : chosenB vars acc' = true ∧ acc'.length = acc.length + 1 := by
  rcases varP_cases ts vars acc p with ⟨_, e⟩ | ⟨_, _, e⟩ | ⟨_, h1, h2, e⟩
  · rw [e] at h; cases h
  · rw [e] at h; cases h
  · rw [e] at h
    cases h
    refine ⟨?_, by simp⟩
    unfold chosenB at hc ⊢
    rw [chosenG_snoc, hc, hasB_iff.2 h1]
    simp [hasB_no.2 h2]
theorem retP_chosen {ts : List Tk} {vars : List ByteArray} : ∀ (k : Nat) (acc acc' : List ByteArray) (p q : Nat), retP ts vars k acc p = .ok (acc', q) → chosenB vars acc = true → chosenB vars acc' = true
  | 0, acc, acc', p, q, h, hc => by unfold retP at h; cases h; exact hc
  | k + 1, acc, acc', p, q, h, hc => by
    unfold retP at h
    obtain ⟨⟨a1, p1⟩, h1, h2⟩ := bind_ok h
    have := (varP_chosen h1 hc).1
    dsimp only at h2
    split at h2
    · exact retP_chosen k _ _ _ _ h2 this
    · cases h2; exact this
theorem hintP_chosen {ts : List Tk} {vars : List ByteArray} : ∀ (k : Nat) (acc acc' : List ByteArray) (p q : Nat), hintP ts vars k acc p = .ok (acc', q) → chosenB vars acc = true → chosenB vars acc' = true ∧ acc'.length = acc.length + k
  | 0, acc, acc', p, q, h, hc => by unfold hintP at h; cases h; exact ⟨hc, rfl⟩
  | k + 1, acc, acc', p, q, h, hc => by
    unfold hintP at h
    obtain ⟨⟨a1, p1⟩, h1, h2⟩ := bind_ok h
    have := varP_chosen h1 hc
    have h3 := hintP_chosen k _ _ _ _ h2 this.1
    exact ⟨h3.1, by omega⟩
theorem numL_bd : ∀ (l : List UInt8) (n m : Int), 0 ≤ n → n ≤ 2147483647 → numL n l = some m → 0 ≤ m ∧ m ≤ 2147483647
  | [], n, m, h0, h1, h => by unfold numL at h; cases h; exact ⟨h0, h1⟩
  | c :: l, n, m, h0, h1, h => by
    unfold numL at h
    split at h
    · exact numL_bd l _ m (by omega) (by omega) h
    · cases h
theorem numP_bd {ts : List Tk} {p q : Nat} {n : Int} (h : numP ts p = .ok (n, q)) : numB n = true := by
  unfold numP at h
  obtain ⟨⟨_, p1⟩, h1, h2⟩ := bind_ok h
  dsimp only at h2
  split at h2
  · cases h2
  · rename_i m hm
    cases h2
    have : 0 ≤ n ∧ n ≤ 2147483647 := by
      unfold Tk.number numberF at hm
      split at hm
      · cases hm
      · exact numL_bd _ 0 n (by omega) (by omega) hm
    unfold numB
    simp [this.1, this.2]
theorem toldPage_ok {ts : List Tk} {p q : Nat} {c d l : Bool} {n m : Int} (h : toldPage ts p = .ok ((c, d, l, n, m), q)) : countedP c d l m = true ∧ pagedP l n m = true := by
  unfold toldPage at h
  split at h
  · split at h
    · cases h; exact ⟨rfl, rfl⟩
    · cases h; exact ⟨rfl, rfl⟩
  · obtain ⟨⟨l1, n1, p1⟩, h1, h2⟩ := bind_ok h
    obtain ⟨⟨m1, p2⟩, h3, h4⟩ := bind_ok h2
    cases h4
    have hn : numB n = true ∧ (l || decide (n = 0)) = true := by
      split at h1
      · obtain ⟨⟨n2, p3⟩, g1, g2⟩ := bind_ok h1
        cases g2
        exact ⟨numP_bd g1, rfl⟩
      · cases h1
        exact ⟨rfl, rfl⟩
    have hm : numB m = true := by
      split at h3
      · obtain ⟨⟨n2, p3⟩, g1, g2⟩ := bind_ok h3
        cases g2
        exact numP_bd g1
      · cases h3
        rfl
    exact ⟨by unfold countedP; simp, by unfold pagedP; rw [hn.1, hn.2, hm]; rfl⟩
/-- What is read may be. -/
theorem ToksR.okB {ts : List Tk} {P : Pat} (h : ToksR ts (.ok P)) : P.okB = true := by
  obtain ⟨x, hi, he⟩ := h
  obtain ⟨st, rfl, h1⟩ := bind_ok he.symm
  obtain ⟨⟨P1, p1⟩, h2, h3⟩ := bind_ok h1
  have hP : P1 = P := by
    dsimp only at h3
    split at h3
    · cases h3
    · cases h3; rfl
  subst hP
  obtain ⟨_, ⟨b1, b2⟩, b3⟩ := hi.good ⟨by simp, by simp [edgesOf]⟩ (by simp)
  obtain ⟨c1, c2⟩ := hi.inv
  obtain ⟨d1, d2⟩ := c2 ⟨rfl, rfl⟩
  unfold toldP at h2
  obtain ⟨⟨r, p2⟩, g1, h4⟩ := bind_ok h2
  obtain ⟨⟨g, p3⟩, g2, h5⟩ := bind_ok h4
  obtain ⟨⟨k, p4⟩, g3, h6⟩ := bind_ok h5
  cases h6
  obtain ⟨c, d, l, n, m⟩ := g
  obtain ⟨e1, e2⟩ := toldPage_ok g2
  have hr : chosenB st.vars r = true := by
    unfold toldRet at g1
    split at g1
    · exact retP_chosen _ _ _ _ _ g1 rfl
    · cases g1; rfl
  have hk : chosenB st.vars k = true ∧ (k.length = 0 ∨ k.length = st.vars.length) := by
    unfold toldHint at g3
    split at g3
    · have := hintP_chosen _ _ _ _ _ g3 rfl
      exact ⟨this.1, .inr (by simpa using this.2)⟩
    · cases g3; exact ⟨rfl, .inl rfl⟩
  unfold Pat.okB
  dsimp only
  rw [d1, d2, e1, e2]
  have s1 : sizesP st.atoms.length (edgesOf st.atoms) st.vars.length = true := by
    unfold sizesP
    simp at c1
    simp
    omega
  have s2 : namedP st.vars r k = true := by
    unfold namedP
    rw [hr, hk.1]
    simpa using hk.2
  rw [s1, s2]
  rfl
end Go.Proofs.Ytngnplghjaojhaa

/- What stands behind the first wrong token changes nothing. Plain. -/
namespace Go.Proofs.Ytngnplghjaojhaa
set_option maxRecDepth 100000
set_option maxHeartbeats 2000000
set_option linter.unusedSimpArgs false
set_option linter.unusedVariables false

/-- How far a reading has come. -/
def reach {α : Type} (f : α → Nat) : Except Nat α → Nat
  | .error q => q
  | .ok a => f a
end Go.Proofs.Ytngnplghjaojhaa

/- slices.Concat of rows of tokens. -/
namespace Go.Proofs.Ytngnplghjaojhaa
set_option maxRecDepth 100000
set_option maxHeartbeats 2000000
set_option linter.unusedSimpArgs false
open Go.RowKit Go.Shelf Go.Sort
attribute [local go_sem] Oper.semAt_some wide_fn wide_depth
set_option linter.unusedVariables false

theorem tk_one (l : List Tk) : ∀ x ∈ l.flatMap tkCells, x.oneCell' = true := by
  intro x hx
  obtain ⟨t, _, ht⟩ := List.mem_flatMap.1 hx
  simp only [tkCells, List.mem_cons, List.not_mem_nil, or_false] at ht
  rcases ht with rfl | rfl | rfl <;> rfl
end Go.Proofs.Ytngnplghjaojhaa

/- The contracts that the laws want, in one form each. -/
namespace Go.Proofs.Ytngnplghjaojhaa
set_option maxRecDepth 100000
set_option maxHeartbeats 2000000
set_option linter.unusedSimpArgs false
open Go.RowKit Go.Shelf Go.Sort
attribute [local go_sem] Oper.semAt_some wide_fn wide_depth
set_option linter.unusedVariables false

/-- What a text's tokens come to: either all of them or none. -/
def LexIs (s : ByteArray) (l : List Tk) (a c : Int) : Prop := readF (bts s) = (l, a, c) ∧ l.length ≤ 500 ∧ (∀ t ∈ l, t.text.size ≤ 500 ∧ t.check = true) ∧ ((c ≠ 0 ∧ l = []) ∨ (c = 0 ∧ s.size ≤ 500 ∧ a = s.size))
theorem lexed (s : ByteArray) : ∃ l a c, LexIs s l a c := by
  have hcs := readF_cases (bts s)
  rw [bts_len] at hcs
  rcases hcs with ⟨_, h⟩ | ⟨_, p, _, _, h⟩ | ⟨h5, l, h, hy, _, ht⟩
  · exact ⟨_, _, _, h, by simp, fun t ht => by simp at ht, .inl ⟨by decide, rfl⟩⟩
  · exact ⟨_, _, _, h, by simp, fun t ht => by simp at ht, .inl ⟨by decide, rfl⟩⟩
  · refine ⟨_, _, _, h, ?_, fun t htl => ⟨by have := (ht t htl).2; omega, (ht t htl).1⟩, .inr ⟨rfl, h5, rfl⟩⟩
    have := yields_len (bts s)
    rw [bts_len] at this
    rw [hy]
    omega
def zPat : Pat := ⟨[], [], false, false, false, 0, 0, []⟩
/-- What the tokens' reading gives back. -/
def ResIs (ts : List Tk) (r : Except Nat Pat) (Q : Pat) (n c : Int) : Prop := (r = .ok Q ∧ n = ts.length ∧ c = 0 ∧ Q.okB = true) ∨ (∃ q : Nat, r = .error q ∧ q ≤ ts.length ∧ Q = zPat ∧ n = q ∧ c = 260)
theorem noV_at (w : World) : PatAt w (.agg #[.slice none 0 0, .slice none 0 0, .bool false, .bool false, .bool false, .int .i64 0, .int .i64 0, .slice none 0 0]) zPat :=
  ⟨_, _, _, rfl, Sl.nil w, Sl.nil w, Sl.nil w⟩
def pcells (a1 : Option Addr) (c1 : Nat) (a2 : Option Addr) (c2 : Nat) (a3 : Option Addr) (c3 : Nat) (Q : Pat) : List Value := [.slice a1 Q.atoms.length c1, .slice a2 Q.ret.length c2, .bool Q.count, .bool Q.distinct, .bool Q.limited, .int .i64 Q.limit, .int .i64 Q.offset, .slice a3 Q.hint.length c3]
theorem pat_cells {w : World} {v : Value} {Q : Pat} (h : PatAt w v Q) : ∃ a1 c1 a2 c2 a3 c3, v = .agg (pcells a1 c1 a2 c2 a3 c3 Q).toArray := by
  obtain ⟨av, rv, hv, rfl, h1, h2, h3⟩ := h
  obtain ⟨a1, c1, rfl, _, _⟩ := h1.shape
  obtain ⟨a2, c2, rfl, _, _⟩ := Sl.shape h2
  obtain ⟨a3, c3, rfl, _, _⟩ := Sl.shape h3
  exact ⟨_, _, _, _, _, _, rfl⟩
theorem tokens_E {w : World} {ts : List Tk} {tv : Value} (h : Toks w tv ts) (hl : ts.length ≤ 1000000) (hs : ∀ t ∈ ts, t.text.size ≤ 9223372036854775800) :
    Calls Try.prog 15 #[tv] w fun e w' => ∃ r Q n c a1 c1 a2 c2 a3 c3, ToksR ts r ∧ ResIs ts r Q n c ∧
      e = .returned (.tuple #[.agg #[.slice a1 Q.atoms.length c1, .slice a2 Q.ret.length c2, .bool Q.count, .bool Q.distinct, .bool Q.limited, .int .i64 Q.limit, .int .i64 Q.offset, .slice a3 Q.hint.length c3], .int .i64 n, .int .i64 c]) ∧
      PatAt w' (.agg #[.slice a1 Q.atoms.length c1, .slice a2 Q.ret.length c2, .bool Q.count, .bool Q.distinct, .bool Q.limited, .int .i64 Q.limit, .int .i64 Q.offset, .slice a3 Q.hint.length c3]) Q ∧ Ext w w' := by
  refine (tokens_go h hl hs).mono ?_
  rintro e w' ⟨r, hr, hx, hm⟩
  cases r with
  | ok P =>
    obtain ⟨v, rfl, hp⟩ := hm
    have hp' := hp.at_
    obtain ⟨a1, c1, a2, c2, a3, c3, rfl⟩ := pat_cells hp'
    exact ⟨_, P, _, _, a1, c1, a2, c2, a3, c3, hr, .inl ⟨rfl, rfl, rfl, hr.okB⟩, rfl, hp', hx⟩
  | error q =>
    obtain ⟨hq, rfl⟩ := hm
    exact ⟨_, zPat, _, _, none, 0, none, 0, none, 0, hr, .inr ⟨q, rfl, hq, rfl, rfl, rfl⟩, rfl, noV_at _, hx⟩
theorem word_size {s : ByteArray} (h : wordB s = true) : s.size ≤ 32 := by
  rw [← wordB_all] at h
  unfold allB at h
  simp only [Bool.and_eq_true, decide_eq_true_eq] at h
  have := h.2.2
  rw [bts_len] at this
  exact this
theorem worth_size {s : ByteArray} (h : worthB s = true) : s.size ≤ 40 := by
  rw [← worthB_all] at h
  unfold allB at h
  simp only [Bool.and_eq_true, decide_eq_true_eq] at h
  have := h.2.2
  rw [bts_len] at this
  exact this
theorem atomB_fits {a : Atm} (h : atomB a = true) : a.Fits := by
  have z : nilB.size = 0 := rfl
  unfold atomB at h
  split at h
  · simp only [Bool.and_eq_true, decide_eq_true_eq] at h
    obtain ⟨e1, e2, _, e3, e4⟩ := h
    have := word_size e4
    exact ⟨by omega, by rw [e1]; omega, by rw [e2]; omega, by rw [e3]; omega⟩
  · split at h
    · simp only [Bool.and_eq_true, decide_eq_true_eq] at h
      obtain ⟨e1, _, e3, e4, e5⟩ := h
      have := word_size e4
      have := word_size e5
      exact ⟨by omega, by omega, by rw [e1]; omega, by rw [e3]; omega⟩
    · split at h
      · simp only [Bool.and_eq_true, decide_eq_true_eq] at h
        obtain ⟨_, e3, e4, e5, e6⟩ := h
        have := word_size e4
        have := word_size e5
        have := worth_size e6
        exact ⟨by omega, by omega, by omega, by rw [e3]; omega⟩
      · split at h
        · simp only [Bool.and_eq_true, decide_eq_true_eq] at h
          obtain ⟨e1, e4, e5, e6⟩ := h
          have := word_size e4
          have := word_size e5
          have := word_size e6
          exact ⟨by omega, by omega, by rw [e1]; omega, by omega⟩
        · cases h
theorem okB_few {P : Pat} (h : P.okB = true) : 0 < P.atoms.length ∧ P.atoms.length ≤ 40 := by
  unfold Pat.okB sizesP at h
  simp only [Bool.and_eq_true, decide_eq_true_eq] at h
  exact ⟨h.1.1, h.1.2.1⟩
theorem okB_fits {P : Pat} (h : P.okB = true) : P.Fits := by
  refine ⟨fun a ha => ?_, by have := okB_few h; omega⟩
  unfold Pat.okB at h
  simp only [Bool.and_eq_true] at h
  exact atomB_fits (List.all_eq_true.1 h.2.2.2.2 a ha)
theorem zPat_fits : zPat.Fits := ⟨fun a ha => by simp [zPat] at ha, by simp [zPat]⟩
theorem ResIs.fits {ts : List Tk} {r : Except Nat Pat} {Q : Pat} {n c : Int} (h : ResIs ts r Q n c) : Q.Fits := by
  rcases h with ⟨_, _, _, h⟩ | ⟨q, _, _, rfl, _⟩
  · exact okB_fits h
  · exact zPat_fits
theorem toks_take {w : World} {a : Option Addr} {n cap : Nat} {l : List Tk} (h : Toks w (.slice a n cap) l) (m : Nat) (hm : m ≤ l.length) : Toks w (.slice a m cap) (l.take m) := by
  obtain ⟨a', c', e, h1, h2, h3⟩ := h
  cases e
  unfold Toks
  rw [List.length_take, Nat.min_eq_left hm]
  refine ⟨a, cap, rfl, by omega, h2, fun hp => ?_⟩
  have hlen := flatMap_len tkCells 3 (fun _ => rfl) l
  have hlen2 := flatMap_len tkCells 3 (fun _ => rfl) (l.take m)
  have hlm : ((l.take m).flatMap tkCells).length = m * 3 := by rw [hlen2, List.length_take, Nat.min_eq_left hm]
  have hpre : (l.take m).flatMap tkCells = (l.flatMap tkCells).take (m * 3) := by
    have e : l.flatMap tkCells = (l.take m).flatMap tkCells ++ (l.drop m).flatMap tkCells := by rw [← List.flatMap_append, List.take_append_drop]
    rw [e, List.take_append_of_le_length (by omega)]
    exact (List.take_of_length_le (by omega)).symm
  obtain ⟨b, o, rfl, hc⟩ := h3 (by omega)
  refine ⟨b, o, rfl, fun i u hu => ?_⟩
  rw [hpre, List.getElem?_take] at hu
  split at hu
  · exact hc i u hu
  · cases hu
/-- A text's reading, in the same form. -/
def PResIs (s : ByteArray) (r : Except Int Pat) (Q : Pat) (n c : Int) : Prop := (r = .ok Q ∧ n = s.size ∧ c = 0 ∧ Q.okB = true) ∨ (r = .error n ∧ Q = zPat ∧ c = 260)
theorem ParsR.okB {s : ByteArray} {P : Pat} (h : ParsR s (.ok P)) : P.okB = true := by
  unfold ParsR at h
  split at h
  · obtain ⟨x, hx, he⟩ := h
    cases x with
    | ok P' => cases he; exact hx.okB
    | error q => cases he
  · cases h
theorem run_cut_str (s : ByteArray) (n : Nat) (i : Int) (hi : i = n) (h : n ≤ s.size) (w : World) :
    (Instr.slice 9 (.string s) none (some (.int .i64 i)) none).run Try.prog w = .ok (.string (s.extract 0 n)) w := by
  subst hi
  rw [run_slice_string_h w 9 s Try.underlying9 .i64 (n : Int) (by omega) (by omega)]
  rfl
/-- A text's first bytes, as the laws cut them. -/
theorem cut_text (s : ByteArray) (m : Nat) (i : Int) (hi : i = m) : ∃ (k : Nat) (S : ByteArray), min (s.size : Int) i = k ∧ S.size ≤ m ∧ S.size = k ∧ ∀ w, (Instr.slice 9 (.string s) none (some (.int .i64 k)) none).run Try.prog w = .ok (.string S) w := by
  refine ⟨min s.size m, s.extract 0 (min s.size m), by omega, ?_, ?_, fun w => run_cut_str s _ _ rfl (by omega) w⟩
  · rw [ByteArray.size_extract]; omega
  · rw [ByteArray.size_extract]; omega
end Go.Proofs.Ytngnplghjaojhaa
