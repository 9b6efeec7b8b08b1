/- The iterator of tokens. -/
import Derived.Test.YtofglbngnjcpeaaDoorLexE
import Derived.Test.YtofglbngnjcpeaaDoorLexQ
import Derived.Test.YtofglbngnjcpeaaDoorOverI
namespace Go.Proofs.YtofglbngnjcpeaaDoor
set_option maxRecDepth 100000
set_option maxHeartbeats 2000000
set_option linter.unusedVariables false
set_option linter.unusedSimpArgs false
open Go.RowKit Go.Shelf
attribute [local go_sem] Oper.semAt_some wide_fn wide_depth

theorem tokens_any (s : ByteArray) (w : World) : Calls Tryd.prog 10 #[.string s] w fun e w' =>
    e = .returned (.func (.func 21) #[] #[.pointer (some ⟨w.heap.size, 0, none⟩)]) ∧ w' = w.alloc (.cells #[.string s] 9) := by
  go_enter Tryd.func10, Tryd.ntmps10
  go_wp2
  go_ret
  exact ⟨rfl, rfl⟩

theorem drop_cons {α : Type} {l : List α} {k : Nat} {x : α} {r : List α} (h : l.drop k = x :: r) : ∃ hk : k < l.length, l[k] = x ∧ l.drop (k + 1) = r := by
  have hk : k < l.length := by
    rcases Nat.lt_or_ge k l.length with h' | h'
    · exact h'
    · rw [List.drop_eq_nil_of_le h'] at h; cases h
  rw [List.drop_eq_getElem_cons hk] at h
  simp only [List.cons.injEq] at h
  exact ⟨hk, h.1, h.2⟩

theorem tokens_iter (s : ByteArray) (x : Nat) (hs : s.size ≤ 9223372036854775807) :
    IterI Tryd.prog 21 #[.pointer (some ⟨x, 0, none⟩)] (fun W => W.cell? ⟨x, 0, none⟩ = some (.string s)) (yields (bts s)).length (fun k _ args => ∃ h : k < (yields (bts s)).length, args = #[tkV (yields (bts s))[k]]) := by
  intro L W J Js hB hJ hJs hround h0
  refine callsIn_of_wp Tryd.func21 rfl trivial ?_
  simp only [Tryd.ntmps21, List.size_toArray, List.length_cons, List.length_nil, Nat.reduceAdd, Nat.reduceSub, Array.replicate_succ, Array.replicate_zero, List.push_toArray, List.append_toArray, List.nil_append, List.cons_append]
  have hcell : ∀ k W, J k W → W.cell? ⟨x, 0, none⟩ = some (.string s) := hB
  have HCell := Lib.hid hcell
  have HJ := Lib.hid hJ
  have HRound := Lib.hid hround
  have c0 := hcell 0 W h0
  clear hcell hB hJ hround
  gi_wp2_with (gi_at_call 22; refine (callsIn_wide.2 (span_blank_any _ _ hs)).mono ?_; rintro e w1 ⟨rfl, hx1⟩)
  have h1 := HJ.out 0 _ _ h0 hx1
  have hlen := bts_len s
  have hsk := skipL_le (bts s) 0 (Nat.zero_le _)
  rw [hlen] at hsk
  have hst : (yields (bts s)).drop 0 = yieldsAt (bts s) (skipL (bts s) 0) := rfl
  have e0 : (spanL blankC (bts s) : Nat) = skipL (bts s) 0 := by unfold skipL; rw [List.drop_zero, Nat.zero_add]
  rw [e0]
  generalize skipL (bts s) 0 = p0 at hsk hst
  have Hst := Lib.hid hst
  have Hlen := Lib.hid hlen
  clear hst hlen e0 h0 c0
  gi_loopw [3] (fun at_ wr => ∃ k p : Nat, at_ = .int .i64 p ∧ p ≤ s.size ∧ k ≤ (yields (bts s)).length ∧ (yields (bts s)).drop k = yieldsAt (bts s) p ∧ J k wr) (fun at_ _ => s.size - (intOf at_).toNat)
  case atStart => exact ⟨0, p0, rfl, hsk, Nat.zero_le _, Hst.out, h1⟩
  case round =>
    obtain ⟨k, p, rfl, hp, hkl, hst, hj⟩ := hrel
    have c0 := HCell.out k _ hj
    by_cases hlt : p < s.size
    · have hbe := begin_any (s.extract p s.size)
      rw [bts_extract, List.take_of_length_le (by rw [List.length_drop, bts_len]; exact Nat.le_refl _)] at hbe
      have hle := begL_le ((bts s).drop p)
      rw [List.length_drop, bts_len] at hle
      by_cases hn : (begL ((bts s).drop p)).2.2 = 0
      · rw [yieldsAt_bad (by rw [bts_len]; exact hlt) hn] at hst
        obtain ⟨hk, e1, e2⟩ := drop_cons hst
        have hN : k + 1 = (yields (bts s)).length := by
          have := congrArg List.length hst
          rw [List.length_drop] at this; simp at this; omega
        have HRk := HRound.out k
        have Hkk : Hid (∃ h : k < (yields (bts s)).length, #[tkV (tkAt (bts s) p)] = #[tkV (yields (bts s))[k]]) := Lib.hid ⟨hk, by rw [e1]⟩
        have HN := Lib.hid hN
        have HK := Lib.hid hk
        unfold begV tokV at hbe
        unfold tkAt tkV at Hkk
        dsimp only at Hkk
        generalize begL ((bts s).drop p) = r at *
        obtain ⟨rk, rt, rn⟩ := r
        dsimp only at *
        subst hn
        have HBE := Lib.hid hbe
        have HR := Lib.hid HRk
        have hes : (s.extract p s.size).size ≤ 9223372036854775807 := by simp; omega
        clear hst e1 e2 hk hbe HRk
        try clear hN
        gi_wp2_with fail
        refine (callsIn_wide.2 (HBE.out _ hes)).mono ?_
        rintro e w2 ⟨rfl, hx2⟩
        have hj4 : J k (w2.alloc (.cells #[.int .i64 rk, .string (txt rt), .int .i64 p] 28)) := HJ.out _ _ _ (HJ.out _ _ _ hj hx2) (Ext.alloc _ _)
        obtain ⟨fn', tmps', assign', body', hy, hR⟩ := HR.out #[.agg #[.int .i64 rk, .string (txt rt), .int .i64 p]] _ HK.out hj4 Hkk.out
        gi_wp2_with fail
        refine hR.mono ?_
        rintro e w5 (⟨rfl, hj5⟩ | ⟨rfl, hj5⟩)
        · gi_wp2
          exact bodyPost_ret (results_none rfl _ _ _) rfl ⟨⟨_, rfl⟩, .inl (HN.out ▸ hj5)⟩
        · gi_wp2
          exact bodyPost_ret (results_none rfl _ _ _) rfl ⟨⟨_, rfl⟩, .inr hj5⟩
      · rw [yieldsAt_more (by rw [bts_len]; exact hlt) hn] at hst
        obtain ⟨hk, e1, e2⟩ := drop_cons hst
        have HRk := HRound.out k
        have Hkk : Hid (∃ h : k < (yields (bts s)).length, #[tkV (tkAt (bts s) p)] = #[tkV (yields (bts s))[k]]) := Lib.hid ⟨hk, by rw [e1]⟩
        have HN := Lib.hid e2
        have HK := Lib.hid hk
        have hsk2 := skipL_le (bts s) (p + (begL ((bts s).drop p)).2.2) (by rw [bts_len]; omega)
        have hsk3 := skipL_ge (bts s) (p + (begL ((bts s).drop p)).2.2)
        rw [bts_len] at hsk2
        have hsp := span_blank_any (s.extract (p + (begL ((bts s).drop p)).2.2) s.size)
        rw [bts_extract, List.take_of_length_le (by rw [List.length_drop, bts_len]; exact Nat.le_refl _)] at hsp
        have hskd : p + (begL ((bts s).drop p)).2.2 + spanL blankC ((bts s).drop (p + (begL ((bts s).drop p)).2.2)) = skipL (bts s) (p + (begL ((bts s).drop p)).2.2) := rfl
        unfold begV tokV at hbe
        unfold tkAt tkV at Hkk
        dsimp only at Hkk
        generalize begL ((bts s).drop p) = r at *
        obtain ⟨rk, rt, rn⟩ := r
        dsimp only at *
        have hnp : 0 < rn := by omega
        have HBE := Lib.hid hbe
        have HR := Lib.hid HRk
        have hes : (s.extract p s.size).size ≤ 9223372036854775807 := by simp; omega
        clear hst e1 e2 hk hbe HRk
        try clear hN
        gi_wp2_with fail
        refine (callsIn_wide.2 (HBE.out _ hes)).mono ?_
        rintro e w2 ⟨rfl, hx2⟩
        have hj4 : J k (w2.alloc (.cells #[.int .i64 rk, .string (txt rt), .int .i64 p] 28)) := HJ.out _ _ _ (HJ.out _ _ _ hj hx2) (Ext.alloc _ _)
        obtain ⟨fn', tmps', assign', body', hy, hR⟩ := HR.out #[.agg #[.int .i64 rk, .string (txt rt), .int .i64 p]] _ HK.out hj4 Hkk.out
        gi_wp2_with fail
        refine hR.mono ?_
        rintro e w5 (⟨rfl, hj5⟩ | ⟨rfl, hj5⟩)
        · have c5 := HCell.out _ _ hj5
          generalize spanL blankC ((bts s).drop (p + rn)) = sp at *
          generalize skipL (bts s) (p + rn) = q at *
          have HSP := Lib.hid hsp
          have Hsk := Lib.hid hskd
          have hb1 : p + rn + sp ≤ s.size := by omega
          clear hsp hskd
          have dn : ((rn : Int) == 0) = false := by simp; omega
          gi_wp2_with fail
          refine (callsIn_wide.2 (HSP.out _ (by simp; omega))).mono ?_
          rintro e w6 ⟨rfl, hx6⟩
          gi_wp2
          exact ⟨⟨k + 1, q, int_congr (by have := Hsk.out; omega), hsk2, HK.out, HN.out, HJ.out _ _ _ hj5 hx6⟩, by simp [intOf]; have := Hsk.out; omega⟩
        · gi_wp2
          exact bodyPost_ret (results_none rfl _ _ _) rfl ⟨⟨_, rfl⟩, .inr hj5⟩
    · have hN : k = (yields (bts s)).length := by
        rw [yieldsAt_end (by rw [bts_len]; omega)] at hst
        have := congrArg List.length hst
        rw [List.length_drop] at this; simp at this; omega
      gi_wp2
      go_end0
      exact ⟨⟨_, rfl⟩, .inl (hN ▸ hj)⟩
end Go.Proofs.YtofglbngnjcpeaaDoor
