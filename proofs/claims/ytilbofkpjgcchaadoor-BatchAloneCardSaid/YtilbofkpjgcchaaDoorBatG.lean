/- The iterator of lines. -/
import Derived.Test.YtilbofkpjgcchaaDoorBatL
import Derived.Test.YtilbofkpjgcchaaDoorBatF
import Derived.Test.YtilbofkpjgcchaaDoorOverP
namespace Go.Proofs.YtilbofkpjgcchaaDoor
set_option maxRecDepth 100000
set_option maxHeartbeats 2000000
set_option linter.unusedVariables false
set_option linter.unusedSimpArgs false
open Go.RowKit Go.Shelf Go.Sort
attribute [local go_sem] Oper.semAt_some wide_fn wide_depth

theorem drop_cons {α : Type} {l : List α} {k : Nat} {x : α} {r : List α} (h : l.drop k = x :: r) : ∃ hk : k < l.length, l[k] = x ∧ l.drop (k + 1) = r := by
  have hk : k < l.length := by
    rcases Nat.lt_or_ge k l.length with h' | h'
    · exact h'
    · rw [List.drop_eq_nil_of_le h'] at h; cases h
  rw [List.drop_eq_getElem_cons hk] at h
  simp only [List.cons.injEq] at h
  exact ⟨hk, h.1, h.2⟩
theorem lines_any (s : ByteArray) (w : World) : Calls Tryd.prog 40 #[.string s] w fun e w' =>
    e = .returned (.func (.func 52) #[] #[.pointer (some ⟨w.heap.size, 0, none⟩)]) ∧ w' = w.alloc (.cells #[.string s] 9) := by
  go_enter Tryd.func40, Tryd.ntmps40
  go_wp2
  go_ret
  exact ⟨rfl, rfl⟩
/-- How long the text is that a box holds. -/
def boxLen (W : World) (x : Nat) : Nat := match W.cell? ⟨x, 0, none⟩ with
  | some (.string s) => s.size
  | _ => 0
theorem boxLen_row {W : World} {x : Nat} {t : TypeId} {s : ByteArray} (h : RowAt W x t [.string s]) : boxLen W x = s.size := by unfold boxLen; rw [h.facts1.1]

theorem lines_iter (s : ByteArray) (x : Nat) (Kt : TypeId → Prop) (hKt : Kt 9) (hs : s.size ≤ 1000000) :
    ∀ (L : Nat) (W : World) (J : Nat → World → Prop) (Js : World → Prop), x < W.heap.size → RowAt W x 9 [.string s] →
    (∀ k, PStab 9 x W.heap.size (J k)) → PStab 9 x W.heap.size Js →
    (∀ k args W₁, k < (linesL (bts s)).length → J k W₁ → (∃ h : k < (linesL (bts s)).length, args = #[.string (txt (linesL (bts s))[k])]) → YieldAt Fence.wide 0 Tryd.prog L args W₁ fun e W' => KeepsC Kt x W₁ W' ∧ ((e = .returned (.bool true) ∧ J (k + 1) W') ∨ (e = .returned (.bool false) ∧ Js W'))) →
    J 0 W →
    CallsIn Fence.wide 0 Tryd.prog 52 #[.func (.yield L) #[] #[], .pointer (some ⟨x, 0, none⟩)] W fun e W' => (∃ v, e = .returned v) ∧ (J (linesL (bts s)).length W' ∨ Js W') := by
  intro L W J Js hxW hbx hJ hJs hround h0
  refine callsIn_of_wp Tryd.func52 rfl trivial ?_
  simp only [Tryd.ntmps52, List.size_toArray, List.length_cons, List.length_nil, Nat.reduceAdd, Nat.reduceSub, Array.replicate_succ, Array.replicate_zero, List.push_toArray, List.append_toArray, List.nil_append, List.cons_append]
  have HJ := Lib.hid hJ
  have HRound := Lib.hid hround
  have hst : (linesL (bts s)).drop 0 = linesL (bts s) := List.drop_zero
  have Hst := Lib.hid hst
  clear hJ hround hst
  gi_wp2_with fail
  gi_loopw [3] (fun _ wr => ∃ (k : Nat) (r : ByteArray), r.size ≤ 1000000 ∧ k ≤ (linesL (bts s)).length ∧ RowAt wr x 9 [.string r] ∧ (linesL (bts s)).drop k = linesL (bts r) ∧ J k wr) (fun _ wr => boxLen wr x)
  case atStart => exact ⟨0, s, hs, Nat.zero_le _, hbx, Hst.out, h0⟩
  case round =>
    obtain ⟨k, r, hr, hkl, hrow, hst, hj⟩ := hrel
    obtain ⟨c0, f0⟩ := hrow.facts1
    have hln := lineN_le (bts r)
    rw [bts_len] at hln
    by_cases hz : r.size = 0
    · have hN : k = (linesL (bts s)).length := by
        rw [show bts r = [] from List.eq_nil_of_length_eq_zero (by rw [bts_len]; exact hz)] at hst
        have := congrArg List.length hst
        rw [List.length_drop, linesL_nil] at this; simp at this; omega
      gi_wp2
      go_end0
      exact ⟨⟨_, rfl⟩, .inl (hN ▸ hj)⟩
    · have hix := idx_span (bts r) 10
      rw [bts_len] at hix
      change Lib.indexByte (bts r) 10 = if lineN (bts r) < r.size then ((lineN (bts r) : Nat) : Int) else -1 at hix
      have hcall := Tryd.strings_IndexByte r 10
      rw [show r.data.toList = bts r from rfl, show (10 : Int).toNat.toUInt8 = 10 from rfl, hix] at hcall
      by_cases hc : lineN (bts r) < r.size
      · simp only [if_pos hc] at hcall
        rw [linesL_cut (l := bts r) (by rw [bts_len]; exact hc)] at hst
        have HC := Lib.hid hcall
        clear hcall hix
        generalize lineN (bts r) = n at *
        gi_wp2_with fail
        refine (callsIn_wide.2 (HC.out _)).mono ?_
        rintro e w' ⟨rfl, rfl⟩
        gi_wp2_with fail
        refine wpIn_wide.2 ?_
        go_region
        have hrow5 : RowAt (w'.setCell ⟨x, 0, none⟩ (.string (r.extract (n + 1) r.size))).drew x 9 [.string (r.extract (n + 1) r.size)] := (hrow.set 0 (.string (r.extract (n + 1) r.size))).ext (Ext.drewN _ 1)
        have hj5 : J k (w'.setCell ⟨x, 0, none⟩ (.string (r.extract (n + 1) r.size))).drew := HJ.out k _ _ (Turn.ext (Ext.drewN _ 1)) (HJ.out k _ _ (Turn.set hrow (Nat.le_refl _) 0 _) hj)
        generalize (w'.setCell ⟨x, 0, none⟩ (.string (r.extract (n + 1) r.size))).drew = w5 at hrow5 hj5 ⊢
        obtain ⟨hk, e1, e2⟩ := drop_cons hst
        have e1' : txt (linesL (bts s))[k] = r.extract 0 (n + 1) := bts_inj (by rw [bts_txt, e1, bts_extract]; simp)
        have e2' : (linesL (bts s)).drop (k + 1) = linesL (bts (r.extract (n + 1) r.size)) := by
          rw [e2, bts_extract, List.take_of_length_le (by rw [List.length_drop, bts_len]; exact Nat.le_refl _)]
        have hs5 : (r.extract (n + 1) r.size).size = r.size - (n + 1) := by simp
        have hb0 := boxLen_row hrow
        have HE2 := Lib.hid e2'
        have HB0 := Lib.hid hb0
        obtain ⟨fn', tmps', assign', body', hy, hR⟩ := HRound.out k _ _ hk hj5 ⟨hk, rfl⟩
        rw [e1'] at hy
        clear hst e1 e2 e2' e1' hb0 hrow c0 f0 hj
        generalize hq : r.extract (n + 1) r.size = q at *
        gi_wp2_with fail
        refine hR.mono ?_
        rintro e w6 ⟨hkc, ⟨rfl, hj6⟩ | ⟨rfl, hj6⟩⟩
        · have hrow6 := hkc.row x _ _ (Nat.le_refl _) hKt hrow5
          have hb6 := boxLen_row hrow6
          have HB6 := Lib.hid hb6
          clear hb6
          gi_wp2
          exact ⟨⟨k + 1, q, by omega, by omega, hrow6, HE2.out, hj6⟩, by rw [HB0.out, HB6.out]; omega⟩
        · gi_wp2
          exact bodyPost_ret (results_none rfl _ _ _) rfl ⟨⟨_, rfl⟩, .inr hj6⟩
      · simp only [if_neg hc] at hcall
        rw [linesL_end (l := bts r) (by intro h; exact hz (by rw [← bts_len, h]; rfl)) (by rw [bts_len]; exact hc)] at hst
        have HC := Lib.hid hcall
        clear hcall hix
        gi_wp2_with fail
        refine (callsIn_wide.2 (HC.out _)).mono ?_
        rintro e w' ⟨rfl, rfl⟩
        have hrow5 := hrow.set 0 (.string ⟨#[]⟩)
        have hj5 : J k (w'.setCell ⟨x, 0, none⟩ (.string ⟨#[]⟩)) := HJ.out k _ _ (Turn.set hrow (Nat.le_refl _) 0 _) hj
        obtain ⟨hk, e1, e2⟩ := drop_cons hst
        have e1' : txt (linesL (bts s))[k] = r := bts_inj (by rw [bts_txt, e1])
        have e2' : (linesL (bts s)).drop (k + 1) = linesL (bts ⟨#[]⟩) := by rw [e2]; rfl
        have hb0 := boxLen_row hrow
        have HE2 := Lib.hid e2'
        have HB0 := Lib.hid hb0
        obtain ⟨fn', tmps', assign', body', hy, hR⟩ := HRound.out k _ _ hk hj5 ⟨hk, rfl⟩
        rw [e1'] at hy
        clear hst e1 e2 e2' e1' hb0 hrow hj
        gi_wp2_with fail
        refine hR.mono ?_
        rintro e w6 ⟨hkc, ⟨rfl, hj6⟩ | ⟨rfl, hj6⟩⟩
        · have hrow6 := hkc.row x _ _ (Nat.le_refl _) hKt hrow5
          have hb6 := boxLen_row hrow6
          have HB6 := Lib.hid hb6
          clear hb6
          gi_wp2
          exact ⟨⟨k + 1, ⟨#[]⟩, by decide, by omega, hrow6, HE2.out, hj6⟩, by rw [HB0.out, HB6.out]; have : (⟨#[]⟩ : ByteArray).size = 0 := rfl; omega⟩
        · gi_wp2
          exact bodyPost_ret (results_none rfl _ _ _) rfl ⟨⟨_, rfl⟩, .inr hj6⟩
theorem lines_iterP (s : ByteArray) (x : Nat) (Kt : TypeId → Prop) (hKt : Kt 9) (hs : s.size ≤ 1000000) :
    IterP Tryd.prog 52 #[.pointer (some ⟨x, 0, none⟩)] (fun W => RowAt W x 9 [.string s]) 9 Kt x (linesL (bts s)).length (fun k _ args => ∃ h : k < (linesL (bts s)).length, args = #[.string (txt (linesL (bts s))[k])]) := by
  intro L W J Js _ hI hJ hJs hround h0
  exact lines_iter s x Kt hKt hs L W J Js hI.lt hI hJ hJs (fun k args W₁ hk hj he => by obtain ⟨fn', tmps', assign', body', hy, hR⟩ := hround k args W₁ hk hj he; exact ⟨fn', tmps', assign', body', hy, hR.mono fun e W' h => h.2⟩) h0
end Go.Proofs.YtilbofkpjgcchaaDoor
