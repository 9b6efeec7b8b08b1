/- Rows of texts: is one among them? Are they the same? A row of one's own. -/
import Derived.Test.YtngnplghjaojhaaParX8
import Derived.Test.YtngnplghjaojhaaShelf
namespace Go.Proofs.Ytngnplghjaojhaa
set_option maxRecDepth 100000
set_option maxHeartbeats 2000000
set_option linter.unusedSimpArgs false
open Go.RowKit Go.Shelf Go.Sort
set_option linter.unusedVariables false

theorem hasB_contains (T : List ByteArray) (s : ByteArray) : Lib.containsS T s = hasB s T := by
  rw [Bool.eq_iff_iff, Lib.containsS_iff, hasB_iff]
theorem strs_cells {w : World} {b o n c : Nat} {l : List ByteArray} (h : Strs w (.slice (some ⟨b, o, none⟩) n c) l) : ∀ j, j < l.length → w.cell? ⟨b, o + j, none⟩ = some (.string (l.getD j ByteArray.empty)) := fun j hj => by
  obtain ⟨b', o', e, hc⟩ := Strs.at_ h hj
  simp only [Option.some.injEq, Addr.mk.injEq] at e
  obtain ⟨rfl, rfl, _⟩ := e
  rw [hc, List.getD_eq_getElem?_getD, List.getElem?_eq_getElem hj]
  rfl
theorem hasP_any (s : ByteArray) (v : Value) (T : List ByteArray) (w : World) (hT : Strs w v T) :
    Calls Try.prog 65 #[v, .string s] w fun e w' => e = .returned (.bool (hasB s T)) ∧ w' = w := by
  obtain ⟨a, c, rfl, hc1, hc2⟩ := Sl.shape hT
  by_cases h0 : T = []
  · subst h0
    exact (Try.slices_Contains_string_empty a c s w).mono fun e w' h => ⟨h.1, h.2⟩
  · obtain ⟨b, o, rfl, _⟩ := Strs.at_ hT (List.length_pos_iff.2 h0)
    refine (Try.slices_Contains_string b o T.length c T s w (Nat.le_refl _) (by omega) (strs_cells hT)).mono fun e w' h => ⟨?_, h.2⟩
    rw [h.1, List.take_length, hasB_contains]
theorem eqStrs_any (v u : Value) (T S : List ByteArray) (w : World) (hT : Strs w v T) (hS : Strs w u S) :
    Calls Try.prog 25 #[v, u] w fun e w' => e = .returned (.bool (decide (T = S))) ∧ Ext w w' := by
  obtain ⟨a, c, rfl, hc1, hc2⟩ := Sl.shape hT
  obtain ⟨a', c', rfl, hd1, hd2⟩ := Sl.shape hS
  by_cases hl : T.length = S.length
  · by_cases h0 : T = []
    · subst h0
      have hS0 : S = [] := List.eq_nil_of_length_eq_zero (by simpa using hl.symm)
      subst hS0
      exact (Try.slices_Equal_string_empty a a' c 0 c' w (by omega)).mono fun e w' h => ⟨h.1, by rw [h.2]; exact Ext.refl _⟩
    · have hp := List.length_pos_iff.2 h0
      obtain ⟨b, o, rfl, _⟩ := Strs.at_ hT hp
      obtain ⟨b', o', rfl, _⟩ := Strs.at_ hS (by omega : 0 < S.length)
      refine (Try.slices_Equal_string b o T.length c b' o' S.length c' T S w (Nat.le_refl _) (Nat.le_refl _) (by omega) (by omega) (strs_cells hT) (strs_cells hS)).mono fun e w' h => ⟨?_, ?_⟩
      · rw [h.1, List.take_length, List.take_length]
      · obtain ⟨q, rfl⟩ := h.2
        exact Ext.drewN w q
  · refine (Try.slices_Equal_string_lens a a' T.length c S.length c' w hl).mono fun e w' h => ⟨?_, by rw [h.2]; exact Ext.refl _⟩
    rw [h.1, decide_eq_false (fun e => hl (by rw [e]))]
theorem cloneStrs_any (v : Value) (T : List ByteArray) (w : World) (hT : Strs w v T) (hn : T.length ≤ 1048576) :
    Calls Try.prog 44 #[v] w fun e w' => ∃ u, e = .returned u ∧ w'.ownsRow w.heap.size 9 1 u T.length (T.map Value.string) ∧ Ext w w' := by
  obtain ⟨a, c, rfl, hc1, hc2⟩ := Sl.shape hT
  cases a with
  | none =>
    have h0 : T = [] := by
      refine Classical.byContradiction fun h0 => ?_
      obtain ⟨b, o, e, _⟩ := Strs.at_ hT (List.length_pos_iff.2 h0)
      cases e
    subst h0
    exact (Try.slices_Clone_string_nil 0 c w).mono fun e w' h => ⟨_, h.1, World.ownsRow_nil _ _ _ _, by rw [h.2]; exact Ext.refl _⟩
  | some a =>
    by_cases h0 : T = []
    · subst h0
      exact (Try.slices_Clone_string_zero a c w).mono fun e w' ⟨u, h1, h2, _, h3⟩ => ⟨u, h1, h2, h3⟩
    · obtain ⟨b, o, e, _⟩ := Strs.at_ hT (List.length_pos_iff.2 h0)
      cases e
      refine (Try.slices_Clone_string b o T.length c T w (Nat.le_refl _) (by omega) (strs_cells hT)).mono fun e w' ⟨u, h1, h2, _, h3⟩ => ⟨u, h1, ?_, h3⟩
      rw [List.take_length] at h2
      exact h2
end Go.Proofs.Ytngnplghjaojhaa

/- Rows of atoms: may all be? Are they the same? Numbers, and what is chosen. -/
namespace Go.Proofs.Ytngnplghjaojhaa
set_option maxRecDepth 100000
set_option maxHeartbeats 2000000
set_option linter.unusedSimpArgs false
open Go.RowKit Go.Shelf Go.Sort
attribute [local go_sem] Oper.semAt_some wide_fn wide_depth
set_option linter.unusedVariables false

theorem notAtom_any (a : Atm) (w : World) (hf : a.Fits) : Calls Try.prog 40 #[atV a] w fun e w' => e = .returned (.bool (!atomB a)) ∧ Ext w w' := by
  have HX := Lib.hid (Ext.alloc w (.cells (atCells a).toArray 64))
  have HB := Lib.hid (show RowAt (w.alloc (.cells (atCells a).toArray 64)) w.heap.size 64 (atCells a) from RowAt.new _ _ _)
  have HA := Lib.hid (fun w => atom_any' a w hf)
  generalize atomB a = R at *
  obtain ⟨k, fk, fn, nm, va, tk, tn⟩ := a
  unfold atV at HA ⊢
  unfold atCells at HX HB
  dsimp only at HX HB HA ⊢
  go_enter Try.func40, Try.ntmps40
  go_upto_region 1 with fail
  generalize w.alloc (.cells #[.int .i64 k, .bool fk, .string fn, .string nm, .string va, .bool tk, .string tn] 64) = w1 at *
  obtain ⟨d0, d1, d2, d3, d4, d5, d6⟩ := row7_facts HB.out
  go_wp2_with fail
  refine (HA.out _).mono ?_
  rintro e w2 ⟨rfl, hx2⟩
  have HX2 := Lib.hid (HX.out.trans hx2)
  clear hx2 d0 d1 d2 d3 d4 d5 d6
  go_wp2_with fail
  go_ret
  exact ⟨rfl, HX2.out⟩
theorem idxA_any (v : Value) (l : List Atm) (w : World) (hv : Ats w v l) (hf : ∀ a ∈ l, a.Fits) (hl : l.length ≤ 1000000000) :
    Calls Try.prog 67 #[v, .func (.func 40) #[] #[]] w (IdxQ w (!l.all atomB)) := by
  obtain ⟨a, c, rfl, hc1, hc2⟩ := hv.shape
  have HV := Lib.hid hv
  have HF := Lib.hid hf
  clear hv hf
  go_enter Try.func67, Try.ntmps67
  go_wp2_with fail
  go_loopg [8] l.length (fun g i wr => ∃ k : Nat, k ≤ l.length ∧ g = l.length - k ∧ i = .int .i64 k ∧ Ext w wr ∧ Hid (∀ x ∈ l.take k, atomB x = true))
  case atStart => exact ⟨0, Nat.zero_le _, rfl, rfl, Ext.refl _, Lib.hid (by simp)⟩
  case round =>
    obtain ⟨k, hk, hg, rfl, hx, hall⟩ := hrel
    have Hg := Lib.hid hg
    have HX := Lib.hid hx
    clear hg
    by_cases hlt : k < l.length
    · obtain ⟨b, o, rfl, c0, c1, c2, c3, c4, c5, c6⟩ := (HV.out.ext hx).at_ hlt
      have HC := Lib.hid (notAtom_any l[k] wr (HF.out _ (List.getElem_mem hlt)))
      have hsn : l.take (k + 1) = l.take k ++ [l[k]] := List.take_succ_eq_append_getElem hlt
      have hmem := List.getElem_mem hlt
      generalize l[k] = x at *
      obtain ⟨B, hB⟩ : ∃ B, atomB x = B := ⟨_, rfl⟩
      rw [hB] at HC
      have HSN := Lib.hid hsn
      have HM := Lib.hid hmem
      have HB := Lib.hid hB
      clear hsn hmem hx hB
      obtain ⟨kk, fk, fn, nm, va, tk, tn⟩ := x
      unfold atV at HC
      dsimp only at HC c0 c1 c2 c3 c4 c5 c6
      cases B with
      | true =>
        go_wp2_with fail
        refine HC.out.mono ?_
        rintro e w2 ⟨rfl, hx2⟩
        have HX2 := Lib.hid (HX.out.trans hx2)
        clear hx2 HC c0 c1 c2 c3 c4 c5 c6
        go_wp2_with fail
        go_roundg (l.length - (k + 1))
        case measure => have := Hg.out; omega
        case rel => exact ⟨k + 1, by omega, rfl, by go_num, HX2.out, Lib.hid (by rw [HSN.out]; intro y hy; rcases List.mem_append.1 hy with h | h; exact hall.out y h; rw [List.mem_singleton.1 h]; exact HB.out)⟩
      | false =>
        go_wp2_with fail
        refine HC.out.mono ?_
        rintro e w2 ⟨rfl, hx2⟩
        have HX2 := Lib.hid (HX.out.trans hx2)
        clear hx2 HC c0 c1 c2 c3 c4 c5 c6
        go_wp2_with fail
        go_ret
        refine ⟨k, rfl, ?_, by omega, by omega, HX2.out⟩
        rw [show l.all atomB = false from List.all_eq_false.2 ⟨_, HM.out, by rw [HB.out]; decide⟩]
        simp
    · have he : k = l.length := by omega
      subst he
      go_wp2_with fail
      go_ret
      refine ⟨-1, rfl, ?_, by omega, by omega, HX.out⟩
      have h := hall.out
      rw [List.take_length] at h
      rw [List.all_eq_true.2 h]
      rfl
theorem hasNotAtom_any (v : Value) (l : List Atm) (w : World) (hv : Ats w v l) (hf : ∀ a ∈ l, a.Fits) (hl : l.length ≤ 1000000000) :
    Calls Try.prog 42 #[v, .func (.func 40) #[] #[]] w fun e w' => e = .returned (.bool (!l.all atomB)) ∧ Ext w w' := by
  have HC := Lib.hid (idxA_any v l w hv hf hl)
  obtain ⟨a, c, rfl, hc1, hc2⟩ := hv.shape
  clear hv hf
  go_enter Try.func42, Try.ntmps42
  go_wp2_with fail
  refine HC.out.mono ?_
  rintro e w2 ⟨n, rfl, hb, h1, h2, hx2⟩
  have HB := Lib.hid hb
  clear hb
  go_wp2_with fail
  go_ret
  exact ⟨by rw [← HB.out]; rfl, hx2⟩
theorem eqAts_any (v u : Value) (l m : List Atm) (w : World) (hv : Ats w v l) (hu : Ats w u m) (hl : l.length ≤ 1000000000) (hm : m.length ≤ 1000000000) :
    Calls Try.prog 36 #[v, u] w fun e w' => e = .returned (.bool (decide (l = m))) ∧ Ext w w' := by
  obtain ⟨a, c, rfl, hc1, hc2⟩ := hv.shape
  obtain ⟨a', c', rfl, hc1', hc2'⟩ := hu.shape
  have HV := Lib.hid hv
  have HU := Lib.hid hu
  clear hv hu
  by_cases hlen : l.length = m.length
  · have hne : ((l.length : Int) != (m.length : Int)) = false := by simp [hlen]
    have Hlen := Lib.hid hlen
    clear hlen
    go_enter Try.func36, Try.ntmps36
    go_wp2_with fail
    go_loopg [13] l.length (fun g i wr => ∃ k : Nat, k ≤ l.length ∧ g = l.length - k ∧ i = .int .i64 k ∧ Ext w wr ∧ Hid (l.take k = m.take k))
    case atStart => exact ⟨0, Nat.zero_le _, rfl, rfl, Ext.refl _, Lib.hid rfl⟩
    case round =>
      obtain ⟨k, hk, hg, rfl, hx, heq⟩ := hrel
      have Hg := Lib.hid hg
      have HX := Lib.hid hx
      clear hg
      by_cases hlt : k < l.length
      · have hltm : k < m.length := by have := Hlen.out; omega
        obtain ⟨b, o, rfl, c0, c1, c2, c3, c4, c5, c6⟩ := (HV.out.ext hx).at_ hlt
        obtain ⟨b', o', rfl, d0, d1, d2, d3, d4, d5, d6⟩ := (HU.out.ext hx).at_ hltm
        have e1 : l.take (k + 1) = l.take k ++ [l[k]] := List.take_succ_eq_append_getElem hlt
        have e2 : m.take (k + 1) = m.take k ++ [m[k]] := List.take_succ_eq_append_getElem hltm
        generalize l[k] = x at e1 c0 c1 c2 c3 c4 c5 c6
        generalize m[k] = y at e2 d0 d1 d2 d3 d4 d5 d6
        have E1 := Lib.hid e1
        have E2 := Lib.hid e2
        have hq := fun w => at_neqB x y w
        obtain ⟨B, hB⟩ : ∃ B, decide (x = y) = B := ⟨_, rfl⟩
        rw [hB] at hq
        have HB := Lib.hid hB
        unfold atV at hq
        clear e1 e2 hB hx
        cases B with
        | true =>
          go_wp2_with fail
          go_quiet (fail)
          clear c0 c1 c2 c3 c4 c5 c6 d0 d1 d2 d3 d4 d5 d6 hq
          go_wp2_with fail
          go_roundg (l.length - (k + 1))
          case measure => have := Hg.out; omega
          case rel => exact ⟨k + 1, by omega, rfl, by go_num, HX.out.trans (Ext.drewN _ _), Lib.hid (by rw [E1.out, E2.out, heq.out, of_decide_eq_true HB.out])⟩
        | false =>
          have HNE : Hid (l ≠ m) := Lib.hid (fun h => by
            have h1 := E1.out
            have h2 := E2.out
            rw [h, h2] at h1
            have := List.append_cancel_left h1
            simp only [List.cons.injEq, and_true] at this
            exact of_decide_eq_false HB.out this.symm)
          go_wp2_with fail
          go_quiet (fail)
          clear c0 c1 c2 c3 c4 c5 c6 d0 d1 d2 d3 d4 d5 d6 hq
          go_wp2_with fail
          go_ret
          exact ⟨ret_bool (decide_eq_false HNE.out).symm, HX.out.trans (Ext.drewN _ _)⟩
      · have he : k = l.length := by omega
        have HEQ : Hid (l = m) := Lib.hid (by
          have h := heq.out
          rw [he, List.take_length, Hlen.out, List.take_length] at h
          exact h)
        clear he
        go_wp2_with fail
        go_ret
        exact ⟨ret_bool (decide_eq_true HEQ.out).symm, HX.out⟩
  · have hne : ((l.length : Int) != (m.length : Int)) = true := by simp; omega
    have HNE : Hid (l ≠ m) := Lib.hid (fun h => hlen (by rw [h]))
    clear hlen
    go_enter Try.func36, Try.ntmps36
    go_wp2_with fail
    go_ret
    exact ⟨ret_bool (decide_eq_false HNE.out).symm, Ext.refl _⟩
def numB (n : Int) : Bool := decide (0 ≤ n) && decide (n ≤ 2147483647)
theorem numberP_any (n : Int) (w : World) : Calls Try.prog 39 #[.int .i64 n] w fun e w' => e = .returned (.bool (numB n)) ∧ w' = w := by
  by_cases h : 0 ≤ n
  · have hd : decide (0 ≤ n) = true := decide_eq_true h
    have HR : Hid (numB n = decide (n ≤ 2147483647)) := Lib.hid (by unfold numB; rw [hd]; rfl)
    go_enter Try.func39, Try.ntmps39
    go_wp2_with fail
    go_ret
    exact ⟨by rw [HR.out]; rfl, rfl⟩
  · have hd : decide (0 ≤ n) = false := decide_eq_false h
    have HR : Hid (numB n = false) := Lib.hid (by unfold numB; rw [hd]; rfl)
    go_enter Try.func39, Try.ntmps39
    go_wp2_with fail
    go_ret
    exact ⟨by rw [HR.out]; rfl, rfl⟩
end Go.Proofs.Ytngnplghjaojhaa
