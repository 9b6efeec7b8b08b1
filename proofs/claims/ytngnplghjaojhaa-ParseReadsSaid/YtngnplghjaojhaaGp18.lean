/- Rows of atoms: may all be? Are they the same? Numbers, and what is chosen. -/
import Derived.Test.YtngnplghjaojhaaGp17
import Derived.Test.YtngnplghjaojhaaGp09
import Derived.Test.YtngnplghjaojhaaGp03
namespace Go.Proofs.Ytngnplghjaojhaa
set_option maxRecDepth 100000
set_option maxHeartbeats 2000000
set_option linter.unusedSimpArgs false
open Go.RowKit Go.Shelf Go.Sort
attribute [local go_sem] Oper.semAt_some wide_fn wide_depth
set_option linter.unusedVariables false

theorem notAtom_any (a : Atm) (w : World) (hf : a.Fits) : Calls Try.prog 40 #[atV a] w fun e w' => e = .returned (.bool (!atomB a)) ∧ Ext w w' := by
  have HX := Lib.hid (Ext.alloc w (.cells (atCells a).toArray 64))
  have HB := Lib.hid (show RowAt (w.alloc (.cells (atCells a).toArray 64)) w.heap.size 64 (atCells a) from RowAt.new _ _ _)
  have HA := Lib.hid (fun w => atom_any' a w hf)
  generalize atomB a = R at *
  obtain ⟨k, fk, fn, nm, va, tk, tn⟩ := a
  unfold atV at HA ⊢
  unfold atCells at HX HB
  dsimp only at HX HB HA ⊢
  go_enter Try.func40, Try.ntmps40
  go_upto_region 1 with fail
  generalize w.alloc (.cells #[.int .i64 k, .bool fk, .string fn, .string nm, .string va, .bool tk, .string tn] 64) = w1 at *
  obtain ⟨d0, d1, d2, d3, d4, d5, d6⟩ := row7_facts HB.out
  go_wp2_with fail
  refine (HA.out _).mono ?_
  rintro e w2 ⟨rfl, hx2⟩
  have HX2 := Lib.hid (HX.out.trans hx2)
  clear hx2 d0 d1 d2 d3 d4 d5 d6
  go_wp2_with fail
  go_ret
  exact ⟨rfl, HX2.out⟩
theorem idxA_any (v : Value) (l : List Atm) (w : World) (hv : Ats w v l) (hf : ∀ a ∈ l, a.Fits) (hl : l.length ≤ 1000000000) :
    Calls Try.prog 67 #[v, .func (.func 40) #[] #[]] w (IdxQ w (!l.all atomB)) := by
  obtain ⟨a, c, rfl, hc1, hc2⟩ := hv.shape
  have HV := Lib.hid hv
  have HF := Lib.hid hf
  clear hv hf
  go_enter Try.func67, Try.ntmps67
  go_wp2_with fail
  go_loopg [8] l.length (fun g i wr => ∃ k : Nat, k ≤ l.length ∧ g = l.length - k ∧ i = .int .i64 k ∧ Ext w wr ∧ Hid (∀ x ∈ l.take k, atomB x = true))
  case atStart => exact ⟨0, Nat.zero_le _, rfl, rfl, Ext.refl _, Lib.hid (by simp)⟩
  case round =>
    obtain ⟨k, hk, hg, rfl, hx, hall⟩ := hrel
    have Hg := Lib.hid hg
    have HX := Lib.hid hx
    clear hg
    by_cases hlt : k < l.length
    · obtain ⟨b, o, rfl, c0, c1, c2, c3, c4, c5, c6⟩ := (HV.out.ext hx).at_ hlt
      have HC := Lib.hid (notAtom_any l[k] wr (HF.out _ (List.getElem_mem hlt)))
      have hsn : l.take (k + 1) = l.take k ++ [l[k]] := List.take_succ_eq_append_getElem hlt
      have hmem := List.getElem_mem hlt
      generalize l[k] = x at *
      obtain ⟨B, hB⟩ : ∃ B, atomB x = B := ⟨_, rfl⟩
      rw [hB] at HC
      have HSN := Lib.hid hsn
      have HM := Lib.hid hmem
      have HB := Lib.hid hB
      clear hsn hmem hx hB
      obtain ⟨kk, fk, fn, nm, va, tk, tn⟩ := x
      unfold atV at HC
      dsimp only at HC c0 c1 c2 c3 c4 c5 c6
      cases B with
      | true =>
        go_wp2_with fail
        refine HC.out.mono ?_
        rintro e w2 ⟨rfl, hx2⟩
        have HX2 := Lib.hid (HX.out.trans hx2)
        clear hx2 HC c0 c1 c2 c3 c4 c5 c6
        go_wp2_with fail
        go_roundg (l.length - (k + 1))
        case measure => have := Hg.out; omega
        case rel => exact ⟨k + 1, by omega, rfl, by go_num, HX2.out, Lib.hid (by rw [HSN.out]; intro y hy; rcases List.mem_append.1 hy with h | h; exact hall.out y h; rw [List.mem_singleton.1 h]; exact HB.out)⟩
      | false =>
        go_wp2_with fail
        refine HC.out.mono ?_
        rintro e w2 ⟨rfl, hx2⟩
        have HX2 := Lib.hid (HX.out.trans hx2)
        clear hx2 HC c0 c1 c2 c3 c4 c5 c6
        go_wp2_with fail
        go_ret
        refine ⟨k, rfl, ?_, by omega, by omega, HX2.out⟩
        rw [show l.all atomB = false from List.all_eq_false.2 ⟨_, HM.out, by rw [HB.out]; decide⟩]
        simp
    · have he : k = l.length := by omega
      subst he
      go_wp2_with fail
      go_ret
      refine ⟨-1, rfl, ?_, by omega, by omega, HX.out⟩
      have h := hall.out
      rw [List.take_length] at h
      rw [List.all_eq_true.2 h]
      rfl
theorem hasNotAtom_any (v : Value) (l : List Atm) (w : World) (hv : Ats w v l) (hf : ∀ a ∈ l, a.Fits) (hl : l.length ≤ 1000000000) :
    Calls Try.prog 42 #[v, .func (.func 40) #[] #[]] w fun e w' => e = .returned (.bool (!l.all atomB)) ∧ Ext w w' := by
  have HC := Lib.hid (idxA_any v l w hv hf hl)
  obtain ⟨a, c, rfl, hc1, hc2⟩ := hv.shape
  clear hv hf
  go_enter Try.func42, Try.ntmps42
  go_wp2_with fail
  refine HC.out.mono ?_
  rintro e w2 ⟨n, rfl, hb, h1, h2, hx2⟩
  have HB := Lib.hid hb
  clear hb
  go_wp2_with fail
  go_ret
  exact ⟨by rw [← HB.out]; rfl, hx2⟩
def numB (n : Int) : Bool := decide (0 ≤ n) && decide (n ≤ 2147483647)
theorem numberP_any (n : Int) (w : World) : Calls Try.prog 39 #[.int .i64 n] w fun e w' => e = .returned (.bool (numB n)) ∧ w' = w := by
  by_cases h : 0 ≤ n
  · have hd : decide (0 ≤ n) = true := decide_eq_true h
    have HR : Hid (numB n = decide (n ≤ 2147483647)) := Lib.hid (by unfold numB; rw [hd]; rfl)
    go_enter Try.func39, Try.ntmps39
    go_wp2_with fail
    go_ret
    exact ⟨by rw [HR.out]; rfl, rfl⟩
  · have hd : decide (0 ≤ n) = false := decide_eq_false h
    have HR : Hid (numB n = false) := Lib.hid (by unfold numB; rw [hd]; rfl)
    go_enter Try.func39, Try.ntmps39
    go_wp2_with fail
    go_ret
    exact ⟨by rw [HR.out]; rfl, rfl⟩
end Go.Proofs.Ytngnplghjaojhaa

/- What is chosen among variables. -/
namespace Go.Proofs.Ytngnplghjaojhaa
set_option maxRecDepth 100000
set_option maxHeartbeats 2000000
set_option linter.unusedSimpArgs false
open Go.RowKit Go.Shelf Go.Sort
attribute [local go_sem] Oper.semAt_some wide_fn wide_depth
set_option linter.unusedVariables false

def chosenG (vars : List ByteArray) : List ByteArray → List ByteArray → Bool
  | _, [] => true
  | seen, s :: r => hasB s vars && (!hasB s seen && chosenG vars (seen ++ [s]) r)
/-- Are these variables, none twice? -/
def chosenB (vars l : List ByteArray) : Bool := chosenG vars [] l
theorem chosenG_at (vars l : List ByteArray) (k : Nat) (h : k < l.length) : chosenG vars (l.take k) (l.drop k) = (hasB l[k] vars && (!hasB l[k] (l.take k) && chosenG vars (l.take (k + 1)) (l.drop (k + 1)))) := by
  rw [List.drop_eq_getElem_cons h, chosenG, List.take_succ_eq_append_getElem h]
theorem chosenG_end (vars l seen : List ByteArray) (k : Nat) (h : ¬ k < l.length) : chosenG vars seen (l.drop k) = true := by
  rw [List.drop_eq_nil_of_le (by omega)]; rfl
theorem strs_take {w : World} {a : Option Addr} {n cap : Nat} {l : List ByteArray} (h : Strs w (.slice a n cap) l) (m : Nat) (hm : m ≤ n) : Strs w (.slice a m cap) (l.take m) := by
  have hn := Strs.len h
  unfold Strs at *
  obtain ⟨a', c', e, h1, h2, h3⟩ := h
  cases e
  rw [List.length_take, Nat.min_eq_left (by omega)]
  refine ⟨a, cap, rfl, by omega, h2, fun hp => ?_⟩
  obtain ⟨b, o, rfl, hc⟩ := h3 (by rw [List.length_map] at hp ⊢; rw [List.length_take] at hp; omega)
  refine ⟨b, o, rfl, fun i u hu => hc i u ?_⟩
  rw [List.map_take, List.getElem?_take] at hu
  split at hu
  · exact hu
  · cases hu
set_option maxHeartbeats 1000000 in
theorem chosen_any (v u : Value) (l vars : List ByteArray) (w : World) (hv : Strs w v l) (hu : Strs w u vars) :
    Calls Try.prog 38 #[v, u] w fun e w' => e = .returned (.bool (chosenB vars l)) ∧ w' = w := by
  obtain ⟨a, c, rfl, hc1, hc2⟩ := Sl.shape hv
  obtain ⟨a', c', rfl, hd1, hd2⟩ := Sl.shape hu
  have HV := Lib.hid hv
  have HU := Lib.hid hu
  have HST : Hid (chosenB vars l = chosenG vars (l.take 0) (l.drop 0)) := Lib.hid rfl
  generalize chosenB vars l = R at *
  clear hv hu
  go_enter Try.func38, Try.ntmps38
  go_wp2_with fail
  go_loopg [9] l.length (fun g i wr => ∃ k : Nat, k ≤ l.length ∧ g = l.length - k ∧ i = .int .i64 k ∧ w = wr ∧ Hid (R = chosenG vars (l.take k) (l.drop k)))
  case atStart => exact ⟨0, Nat.zero_le _, rfl, rfl, rfl, HST⟩
  case round =>
    obtain ⟨k, hk, hg, rfl, rfl, hr⟩ := hrel
    have Hg := Lib.hid hg
    clear hg HST
    by_cases hlt : k < l.length
    · obtain ⟨b, o, rfl, c0⟩ := Strs.at_ HV.out hlt
      have hat := chosenG_at vars l k hlt
      have HT := Lib.hid (strs_take HV.out k (by omega))
      generalize l[k] = x at *
      have H1 := Lib.hid (hasP_any x _ vars w HU.out)
      have H2 := Lib.hid (hasP_any x _ (l.take k) w HT.out)
      obtain ⟨B1, hB1⟩ : ∃ B, hasB x vars = B := ⟨_, rfl⟩
      obtain ⟨B2, hB2⟩ : ∃ B, hasB x (l.take k) = B := ⟨_, rfl⟩
      rw [hB1] at H1 hat
      rw [hB2] at H2 hat
      have HAT := Lib.hid hat
      clear hB1 hB2 hat
      cases B1 with
      | false =>
        go_wp2_with fail
        refine H1.out.mono ?_
        rintro e w2 ⟨rfl, rfl⟩
        go_wp2_with fail
        go_ret
        exact ⟨ret_bool (by rw [hr.out, HAT.out]; rfl), rfl⟩
      | true =>
        cases B2 with
        | true =>
          go_wp2_with fail
          refine H1.out.mono ?_
          rintro e w2 ⟨rfl, rfl⟩
          go_wp2_with fail
          refine H2.out.mono ?_
          rintro e w3 ⟨rfl, rfl⟩
          go_wp2_with fail
          go_ret
          exact ⟨ret_bool (by rw [hr.out, HAT.out]; rfl), rfl⟩
        | false =>
          go_wp2_with fail
          refine H1.out.mono ?_
          rintro e w2 ⟨rfl, rfl⟩
          go_wp2_with fail
          refine H2.out.mono ?_
          rintro e w3 ⟨rfl, rfl⟩
          go_wp2_with fail
          go_roundg (l.length - (k + 1))
          case measure => have := Hg.out; omega
          case rel => exact ⟨k + 1, by omega, rfl, by go_num, rfl, Lib.hid (by rw [hr.out, HAT.out]; rfl)⟩
    · have HE := Lib.hid (chosenG_end vars l (l.take k) k hlt)
      go_wp2_with fail
      go_ret
      exact ⟨ret_bool (by rw [hr.out, HE.out]), rfl⟩
end Go.Proofs.Ytngnplghjaojhaa

/- The variables of atoms, and how many are edges: the program. -/
namespace Go.Proofs.Ytngnplghjaojhaa
set_option maxRecDepth 100000
set_option maxHeartbeats 2000000
set_option linter.unusedSimpArgs false
open Go.RowKit Go.Shelf Go.Sort
attribute [local go_sem] Oper.semAt_some wide_fn wide_depth
set_option linter.unusedVariables false

/-- The variables with those of none, one, or two terms more. -/
def Tat (T : List ByteArray) (a b : Bool × ByteArray) : Nat → List ByteArray
  | 0 => T
  | 1 => termS T a
  | _ => termS (termS T a) b
set_option maxRecDepth 100000 in
set_option maxHeartbeats 2000000 in
theorem variables_any (v : Value) (l : List Atm) (w : World) (hv : Ats w v l) (hl : l.length ≤ 100000) :
    Calls Try.prog 37 #[v] w fun e w' => ∃ u, e = .returned (.tuple #[u, .int .i64 (edgesOf l)]) ∧ w'.ownsRow w.heap.size 9 1 u (varsS l).length ((varsS l).map Value.string) ∧ Ext w w' := by
  obtain ⟨a, c, rfl, hc1, hc2⟩ := hv.shape
  have HV := Lib.hid hv
  clear hv
  go_enter Try.func37, Try.ntmps37
  go_wp2_with fail
  go_loopg [4, 5, 12] l.length (fun g u e i wr => ∃ k : Nat, k ≤ l.length ∧ g = l.length - k ∧ i = .int .i64 k ∧ e = .int .i64 (edgesOf (l.take k)) ∧ Ext w wr ∧ Hid (wr.ownsRow w.heap.size 9 1 u (varsS (l.take k)).length ((varsS (l.take k)).map Value.string)))
  case atStart => exact ⟨0, Nat.zero_le _, rfl, rfl, rfl, Ext.refl _, Lib.hid (World.ownsRow_nil _ _ _ _)⟩
  case round =>
    obtain ⟨k, hk, hg, rfl, rfl, hx, ho⟩ := hrel
    have Hg := Lib.hid hg
    have HX := Lib.hid hx
    clear hg
    obtain ⟨ua, uc, rfl⟩ := own_vw ho.out
    by_cases hlt : k < l.length
    · obtain ⟨b, o, rfl, c0, c1, c2, c3, c4, c5, c6⟩ := (HV.out.ext hx).at_ hlt
      have hsn := varsS_take l k hlt
      have hln := varsS_take_len l k hk
      have hed := edgesOf_take l k hlt
      have hel : edgesOf (l.take k) ≤ 100000 := by
        unfold edgesOf
        have := List.length_filter_le (fun a : Atm => decide (a.kind = 4)) (l.take k)
        rw [List.length_take] at this
        omega
      generalize varsS (l.take k) = T at *
      generalize edgesOf (l.take k) = E at *
      generalize l[k] = x at *
      obtain ⟨kk, fk, fn, nm, va, tk, tn⟩ := x
      dsimp only at c0 c1 c2 c3 c4 c5 c6 hsn hed
      have ht1 := termS_len T (fk, fn)
      have HSN := Lib.hid hsn
      have HED := Lib.hid hed
      have HB := Lib.hid (RowAt.new wr 64 [.int .i64 kk, .bool fk, .string fn, .string nm, .string va, .bool tk, .string tn])
      have hx1 := Ext.alloc wr (.cells #[.int .i64 kk, .bool fk, .string fn, .string nm, .string va, .bool tk, .string tn] 64)
      have HX1 := Lib.hid (HX.out.trans hx1)
      have HO1 := Lib.hid (own_ext ho.out hx1)
      clear hsn hed hx1 hx ho
      go_upto_region 6 with fail
      generalize wr.alloc (.cells #[.int .i64 kk, .bool fk, .string fn, .string nm, .string va, .bool tk, .string tn] 64) = w1 at *
      obtain ⟨y, hy⟩ : ∃ y, wr.heap.size = y := ⟨_, rfl⟩
      rw [hy] at HB
      simp only [hy]
      clear hy c0 c1 c2 c3 c4 c5 c6
      obtain ⟨d0, d1, d2, d3, d4, d5, d6⟩ := row7_facts HB.out
      obtain ⟨E2, hE2⟩ : ∃ E2, E + (if kk = 4 then 1 else 0) = E2 := ⟨_, rfl⟩
      rw [hE2] at HED
      have HE2 := Lib.hid hE2
      clear hE2
      go_upto_if 18 with fail
      go_cut [5] (fun s5 wx => s5 = .int .i64 E2 ∧ wx = w1)
      case first =>
        by_cases hk4 : kk = 4
        · have hb : (kk == 4) = true := by simp [hk4]
          have HE3 : Hid ((E : Int) + 1 = E2) := Lib.hid (by have := HE2.out; rw [if_pos hk4] at this; omega)
          clear hk4
          go_wp2_with fail
          go_meet
          exact ⟨by rw [HE3.out], rfl⟩
        · have hb : (kk == 4) = false := by simp [hk4]
          have HE3 : Hid (E = E2) := Lib.hid (by have := HE2.out; rw [if_neg hk4] at this; omega)
          clear hk4
          go_wp2_with fail
          go_meet
          exact ⟨by rw [HE3.out], rfl⟩
      case rest =>
        obtain ⟨rfl, hwc⟩ := hcut
        rw [hwc]
        clear hwc
        go_wp2_with fail
        go_loopg [4, 26] 2 (fun g u i wi => ∃ (j : Nat) (Tj : List ByteArray), j ≤ 2 ∧ g = 2 - j ∧ i = .int .i64 j ∧ Tj = Tat T (fk, fn) (tk, tn) j ∧ Ext w wi ∧ Hid (wi.ownsRow w.heap.size 9 1 u Tj.length (Tj.map Value.string)))
        case atStart => exact ⟨0, T, by omega, rfl, rfl, rfl, HX1.out, HO1⟩
        case round =>
          obtain ⟨j, Tj, hj, hgj, rfl, htj, hx2, ho2⟩ := hrel
          have Hj := Lib.hid hgj
          have HX2 := Lib.hid hx2
          obtain ⟨va, vc, rfl⟩ := own_vw ho2.out
          have hTj := Lib.hid htj
          have hTl : Tj.length ≤ 300000 := by
            rw [htj]
            have := termS_len (termS T (fk, fn)) (tk, tn)
            match j with
            | 0 => simp only [Tat]; omega
            | 1 => simp only [Tat]; omega
            | j + 2 => simp only [Tat]; omega
          clear hgj htj hx2
          by_cases hj2 : j < 2
          · have h01 : j = 0 ∨ j = 1 := by omega
            rcases h01 with rfl | rfl
            · replace hTj : Hid (Tj = T) := hTj
              obtain ⟨kb, hkb⟩ : ∃ kb, fk = kb := ⟨_, rfl⟩
              have ix : ∀ w, (Instr.index 109 (.agg #[.bool fk, .string fn, .bool tk, .string tn]) (.int .i64 0)).run Try.prog w = .ok (.agg #[.bool kb, .string fn]) w := fun _ => by rw [← hkb]; kernel_rfl
              have HKB := Lib.hid hkb
              clear hkb
              have hT0 := hTj.out
              subst hT0
              -- a term's name, if it is new: fk key, fn name, 1 the next round
              have hbx := Ext.alloc wr (.cells #[.bool kb, .string fn] 62)
              have hrow := RowAt.new wr 62 [.bool kb, .string fn]
              have HRW := Lib.hid hrow
              have HX3 := Lib.hid (HX2.out.trans hbx)
              have HO3 := Lib.hid (own_ext ho2.out hbx)
              have HHP := Lib.hid (hasP_any fn _ Tj _ (Sl.of_own (own_ext ho2.out hbx)))
              clear hbx hrow HX2 ho2
              revert ix
              cases hkey : kb with
              | true =>
                intro ix
                have HT : Hid (termS Tj (fk, fn) = Tj) := Lib.hid (by unfold termS; rw [if_pos (.inl (HKB.out.trans hkey))])
                rw [hkey] at HRW HX3 HO3
                clear hkey HHP
                obtain ⟨e0, e1, _, _⟩ := HRW.out.facts2
                go_wp2_with fail
                go_roundg (2 - 1)
                case measure => have := Hj.out; omega
                case rel => exact ⟨1, Tj, by omega, rfl, by go_num, (by first | exact HT.out.symm | (show _ = termS (termS T (fk, fn)) (tk, tn); rw [← hTj.out]; exact HT.out.symm)), HX3.out, HO3⟩
              | false =>
                intro ix
                by_cases hnm : fn = nilB
                · have HT : Hid (termS Tj (fk, fn) = Tj) := Lib.hid (by unfold termS; rw [if_pos (.inr (.inl hnm))])
                  have hs : (fn).toList.isEmpty = true := nil_yes hnm
                  rw [hkey] at HRW HX3 HO3
                  clear hkey HHP hnm
                  obtain ⟨e0, e1, _, _⟩ := HRW.out.facts2
                  go_wp2_with fail
                  go_roundg (2 - 1)
                  case measure => have := Hj.out; omega
                  case rel => exact ⟨1, Tj, by omega, rfl, by go_num, (by first | exact HT.out.symm | (show _ = termS (termS T (fk, fn)) (tk, tn); rw [← hTj.out]; exact HT.out.symm)), HX3.out, HO3⟩
                · have hs : (fn).toList.isEmpty = false := nil_no hnm
                  have HNM := Lib.hid hnm
                  obtain ⟨Bh, hBh⟩ : ∃ B, hasB fn Tj = B := ⟨_, rfl⟩
                  rw [hBh] at HHP
                  have HT : Hid (termS Tj (fk, fn) = if Bh = true then Tj else Tj ++ [fn]) := Lib.hid (by
                    unfold termS
                    rw [hBh, HKB.out, hkey]
                    cases Bh
                    · rw [if_neg (by simp [HNM.out]), if_neg (by decide)]
                    · rw [if_pos (.inr (.inr rfl)), if_pos rfl])
                  rw [hkey] at HRW HX3 HO3 HHP
                  clear hkey hnm hBh
                  obtain ⟨e0, e1, _, _⟩ := HRW.out.facts2
                  cases Bh with
                  | true =>
                    go_wp2_with fail
                    refine HHP.out.mono ?_
                    rintro e w3 ⟨rfl, rfl⟩
                    go_wp2_with fail
                    go_roundg (2 - 1)
                    case measure => have := Hj.out; omega
                    case rel => exact ⟨1, Tj, by omega, rfl, by go_num, (by first | exact HT.out.symm | (show _ = termS (termS T (fk, fn)) (tk, tn); rw [← hTj.out]; exact HT.out.symm)), HX3.out, HO3⟩
                  | false =>
                    go_wp2_with fail
                    refine HHP.out.mono ?_
                    rintro e w3 ⟨rfl, rfl⟩
                    generalize wr.alloc (.cells #[.bool false, .string fn] 62) = wt at *
                    have hx4 := Ext.alloc wt (.cells #[.string fn] 9)
                    have hlw := HX3.out.size
                    go_wp2_with (at_builtin; refine wpList_append_sl _ rfl _ _ 22 rfl elStr rfl (own_ext HO3.out hx4) rfl (Sl.new _ _ _ 1 1 (Nat.le_refl _) ?_) rfl ?_ ?_ ?_ ?_ ?_)
                    · unfold maxLen; omega
                    · exact rfl
                    · omega
                    · unfold maxLen; omega
                    · have := hx4.size; omega
                    intro v5 w5 ho5 hb5 hg5 hat5
                    have HO5 := Lib.hid ho5
                    have HX5 := Lib.hid (show Ext w w5 from Below.trans (HX3.out.trans hx4) hb5)
                    clear ho5 hb5 hg5 hat5 hx4
                    go_wp2_with fail
                    go_roundg (2 - 1)
                    case measure => have := Hj.out; omega
                    case rel => exact ⟨1, Tj ++ [fn], by omega, rfl, by go_num, (by first | exact HT.out.symm | (show _ = termS (termS T (fk, fn)) (tk, tn); rw [← hTj.out]; exact HT.out.symm)), HX5.out, Lib.hid (by rw [List.length_append, List.map_append]; exact HO5.out)⟩
            · replace hTj : Hid (Tj = termS T (fk, fn)) := hTj
              obtain ⟨kb, hkb⟩ : ∃ kb, tk = kb := ⟨_, rfl⟩
              have ix : ∀ w, (Instr.index 109 (.agg #[.bool fk, .string fn, .bool tk, .string tn]) (.int .i64 1)).run Try.prog w = .ok (.agg #[.bool kb, .string tn]) w := fun _ => by rw [← hkb]; kernel_rfl
              have HKB := Lib.hid hkb
              clear hkb
              -- a term's name, if it is new: tk key, tn name, 2 the next round
              have hbx := Ext.alloc wr (.cells #[.bool kb, .string tn] 62)
              have hrow := RowAt.new wr 62 [.bool kb, .string tn]
              have HRW := Lib.hid hrow
              have HX3 := Lib.hid (HX2.out.trans hbx)
              have HO3 := Lib.hid (own_ext ho2.out hbx)
              have HHP := Lib.hid (hasP_any tn _ Tj _ (Sl.of_own (own_ext ho2.out hbx)))
              clear hbx hrow HX2 ho2
              revert ix
              cases hkey : kb with
              | true =>
                intro ix
                have HT : Hid (termS Tj (tk, tn) = Tj) := Lib.hid (by unfold termS; rw [if_pos (.inl (HKB.out.trans hkey))])
                rw [hkey] at HRW HX3 HO3
                clear hkey HHP
                obtain ⟨e0, e1, _, _⟩ := HRW.out.facts2
                go_wp2_with fail
                go_roundg (2 - 2)
                case measure => have := Hj.out; omega
                case rel => exact ⟨2, Tj, by omega, rfl, by go_num, (by first | exact HT.out.symm | (show _ = termS (termS T (fk, fn)) (tk, tn); rw [← hTj.out]; exact HT.out.symm)), HX3.out, HO3⟩
              | false =>
                intro ix
                by_cases hnm : tn = nilB
                · have HT : Hid (termS Tj (tk, tn) = Tj) := Lib.hid (by unfold termS; rw [if_pos (.inr (.inl hnm))])
                  have hs : (tn).toList.isEmpty = true := nil_yes hnm
                  rw [hkey] at HRW HX3 HO3
                  clear hkey HHP hnm
                  obtain ⟨e0, e1, _, _⟩ := HRW.out.facts2
                  go_wp2_with fail
                  go_roundg (2 - 2)
                  case measure => have := Hj.out; omega
                  case rel => exact ⟨2, Tj, by omega, rfl, by go_num, (by first | exact HT.out.symm | (show _ = termS (termS T (fk, fn)) (tk, tn); rw [← hTj.out]; exact HT.out.symm)), HX3.out, HO3⟩
                · have hs : (tn).toList.isEmpty = false := nil_no hnm
                  have HNM := Lib.hid hnm
                  obtain ⟨Bh, hBh⟩ : ∃ B, hasB tn Tj = B := ⟨_, rfl⟩
                  rw [hBh] at HHP
                  have HT : Hid (termS Tj (tk, tn) = if Bh = true then Tj else Tj ++ [tn]) := Lib.hid (by
                    unfold termS
                    rw [hBh, HKB.out, hkey]
                    cases Bh
                    · rw [if_neg (by simp [HNM.out]), if_neg (by decide)]
                    · rw [if_pos (.inr (.inr rfl)), if_pos rfl])
                  rw [hkey] at HRW HX3 HO3 HHP
                  clear hkey hnm hBh
                  obtain ⟨e0, e1, _, _⟩ := HRW.out.facts2
                  cases Bh with
                  | true =>
                    go_wp2_with fail
                    refine HHP.out.mono ?_
                    rintro e w3 ⟨rfl, rfl⟩
                    go_wp2_with fail
                    go_roundg (2 - 2)
                    case measure => have := Hj.out; omega
                    case rel => exact ⟨2, Tj, by omega, rfl, by go_num, (by first | exact HT.out.symm | (show _ = termS (termS T (fk, fn)) (tk, tn); rw [← hTj.out]; exact HT.out.symm)), HX3.out, HO3⟩
                  | false =>
                    go_wp2_with fail
                    refine HHP.out.mono ?_
                    rintro e w3 ⟨rfl, rfl⟩
                    generalize wr.alloc (.cells #[.bool false, .string tn] 62) = wt at *
                    have hx4 := Ext.alloc wt (.cells #[.string tn] 9)
                    have hlw := HX3.out.size
                    go_wp2_with (at_builtin; refine wpList_append_sl _ rfl _ _ 22 rfl elStr rfl (own_ext HO3.out hx4) rfl (Sl.new _ _ _ 1 1 (Nat.le_refl _) ?_) rfl ?_ ?_ ?_ ?_ ?_)
                    · unfold maxLen; omega
                    · exact rfl
                    · omega
                    · unfold maxLen; omega
                    · have := hx4.size; omega
                    intro v5 w5 ho5 hb5 hg5 hat5
                    have HO5 := Lib.hid ho5
                    have HX5 := Lib.hid (show Ext w w5 from Below.trans (HX3.out.trans hx4) hb5)
                    clear ho5 hb5 hg5 hat5 hx4
                    go_wp2_with fail
                    go_roundg (2 - 2)
                    case measure => have := Hj.out; omega
                    case rel => exact ⟨2, Tj ++ [tn], by omega, rfl, by go_num, (by first | exact HT.out.symm | (show _ = termS (termS T (fk, fn)) (tk, tn); rw [← hTj.out]; exact HT.out.symm)), HX5.out, Lib.hid (by rw [List.length_append, List.map_append]; exact HO5.out)⟩
          · obtain rfl : j = 2 := by omega
            have HO5 := Lib.hid (show wr.ownsRow w.heap.size 9 1 (.slice va Tj.length vc) (varsS (l.take (k + 1))).length ((varsS (l.take (k + 1))).map Value.string) from by
              rw [HSN.out, show termS (termS T (fk, fn)) (tk, tn) = Tj from hTj.out.symm]
              exact ho2.out)
            clear HSN HO1 ho2
            go_wp2_with fail
            go_roundg (l.length - (k + 1))
            case measure => have := Hg.out; omega
            case rel => exact ⟨k + 1, by omega, rfl, by go_num, by rw [HED.out], HX2.out, HO5⟩
    · have he : k = l.length := by omega
      have HO := ho
      rw [he, List.take_length] at HO
      have HEE : Hid (edgesOf (l.take k) = edgesOf l) := Lib.hid (by rw [he, List.take_length])
      have HLL : Hid ((varsS (l.take k)).length = (varsS l).length) := Lib.hid (by rw [he, List.take_length])
      rw [HEE.out, HLL.out]
      clear he ho hx HEE HLL
      go_wp2_with fail
      go_ret2
      exact ⟨_, rfl, HO.out, HX.out⟩
end Go.Proofs.Ytngnplghjaojhaa

/- A pattern's value. -/
namespace Go.Proofs.Ytngnplghjaojhaa
set_option maxRecDepth 100000
set_option maxHeartbeats 2000000
set_option linter.unusedVariables false
set_option linter.unusedSimpArgs false
open Go.RowKit
def patL (av rv hv : Value) (P : Pat) : List Value := [av, rv, .bool P.count, .bool P.distinct, .bool P.limited, .int .i64 P.limit, .int .i64 P.offset, hv]
def patV (av rv hv : Value) (P : Pat) : Value := .agg (patL av rv hv P).toArray
def pnoV : Value := .agg #[.slice none 0 0, .slice none 0 0, .bool false, .bool false, .bool false, .int .i64 0, .int .i64 0, .slice none 0 0]
theorem row8_facts {w : World} {g : Nat} {t : TypeId} {x0 x1 x2 x3 x4 x5 x6 x7 : Value} (h : RowAt w g t [x0, x1, x2, x3, x4, x5, x6, x7]) : w.cell? ⟨g, 0, none⟩ = some x0 ∧ w.cell? ⟨g, 1, none⟩ = some x1 ∧ w.cell? ⟨g, 2, none⟩ = some x2 ∧ w.cell? ⟨g, 3, none⟩ = some x3 ∧ w.cell? ⟨g, 4, none⟩ = some x4 ∧ w.cell? ⟨g, 5, none⟩ = some x5 ∧ w.cell? ⟨g, 6, none⟩ = some x6 ∧ w.cell? ⟨g, 7, none⟩ = some x7 :=
  ⟨h.cell (i := 0) rfl, h.cell (i := 1) rfl, h.cell (i := 2) rfl, h.cell (i := 3) rfl, h.cell (i := 4) rfl, h.cell (i := 5) rfl, h.cell (i := 6) rfl, h.cell (i := 7) rfl⟩
end Go.Proofs.Ytngnplghjaojhaa
