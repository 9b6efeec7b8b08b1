/- The tokens of a text: plain. -/
import Derived.Test.YtngnplghjaojhaaGp03
import Derived.Test.YtngnplghjaojhaaGp05
import Derived.Test.YtngnplghjaojhaaGp01
namespace Go.Proofs.Ytngnplghjaojhaa
set_option maxRecDepth 100000
set_option maxHeartbeats 2000000
set_option linter.unusedSimpArgs false
set_option linter.unusedVariables false

theorem ask1_le (l : List UInt8) : (ask1 l).2.2 ≤ l.length := wordN_le l
theorem ask2_le (l : List UInt8) : (ask2 l).2.2 ≤ l.length := by
  cases l with
  | nil => exact Nat.le_refl _
  | cons c r =>
    have := wordN_le r
    by_cases h : c = 64 ∧ wordN r ≠ 0
    · simp only [ask2, if_pos h, List.length_cons]; omega
    · simp only [ask2, if_neg h, begNo]; omega
theorem ask3_le (l : List UInt8) : (ask3 l).2.2 ≤ l.length := by
  cases l with
  | nil => exact Nat.le_refl _
  | cons c r =>
    by_cases h : c = 34 ∧ spanL quotedC r ≤ 40 ∧ r[spanL quotedC r]? = some 34
    · have := (List.getElem?_eq_some_iff.1 h.2.2).1
      simp only [ask3, if_pos h, List.length_cons]; omega
    · simp only [ask3, if_neg h, begNo]; omega
theorem ask4_le (l : List UInt8) : (ask4 l).2.2 ≤ l.length := by
  unfold ask4
  cases hf : signs.find? (fun x => x.2.isPrefixOf l) with
  | none => simp [begNo]
  | some x => have := List.find?_some hf; exact (List.isPrefixOf_iff_prefix.1 this).length_le
theorem begL_le (l : List UInt8) : (begL l).2.2 ≤ l.length := by
  unfold begL
  split
  · exact ask1_le l
  split
  · exact ask2_le l
  split
  · exact ask3_le l
  · exact ask4_le l

/-- Behind the blanks. -/
def skipL (s : List UInt8) (q : Nat) : Nat := q + spanL blankC (s.drop q)
theorem skipL_ge (s : List UInt8) (q : Nat) : q ≤ skipL s q := Nat.le_add_right _ _
theorem skipL_le (s : List UInt8) (q : Nat) (h : q ≤ s.length) : skipL s q ≤ s.length := by
  have := spanL_le blankC (s.drop q)
  unfold skipL
  rw [List.length_drop] at this; omega
/-- What is told from a place on. -/
def yieldsF (s : List UInt8) : Nat → Nat → List Tk
  | 0, _ => []
  | f + 1, p => if p < s.length then
      (⟨(begL (s.drop p)).1, txt (begL (s.drop p)).2.1, p⟩ : Tk) :: (if (begL (s.drop p)).2.2 = 0 then [] else yieldsF s f (skipL s (p + (begL (s.drop p)).2.2)))
    else []
theorem yieldsF_fuel (s : List UInt8) : ∀ (f p : Nat), s.length ≤ f + p → yieldsF s f p = yieldsF s (f + 1) p
  | 0, p, h => by unfold yieldsF; rw [if_neg (by omega)]
  | f + 1, p, h => by
    rw [yieldsF]
    conv => rhs; rw [yieldsF]
    by_cases hp : p < s.length
    · rw [if_pos hp, if_pos hp]
      by_cases hn : (begL (s.drop p)).2.2 = 0
      · rw [if_pos hn, if_pos hn]
      · rw [if_neg hn, if_neg hn, yieldsF_fuel s f _ (by have := skipL_ge s (p + (begL (s.drop p)).2.2); omega)]
    · rw [if_neg hp, if_neg hp]
def yieldsAt (s : List UInt8) (p : Nat) : List Tk := yieldsF s s.length p
def tkAt (s : List UInt8) (p : Nat) : Tk := ⟨(begL (s.drop p)).1, txt (begL (s.drop p)).2.1, p⟩
theorem yieldsAt_end {s : List UInt8} {p : Nat} (h : s.length ≤ p) : yieldsAt s p = [] := by
  unfold yieldsAt
  cases s.length with
  | zero => rfl
  | succ n => unfold yieldsF; rw [if_neg (by omega)]
theorem yieldsAt_bad {s : List UInt8} {p : Nat} (h : p < s.length) (hn : (begL (s.drop p)).2.2 = 0) : yieldsAt s p = [tkAt s p] := by
  unfold yieldsAt
  rw [yieldsF_fuel s _ _ (by omega), yieldsF, if_pos h, if_pos hn]; rfl
theorem yieldsAt_more {s : List UInt8} {p : Nat} (h : p < s.length) (hn : (begL (s.drop p)).2.2 ≠ 0) : yieldsAt s p = tkAt s p :: yieldsAt s (skipL s (p + (begL (s.drop p)).2.2)) := by
  unfold yieldsAt
  rw [yieldsF_fuel s _ _ (by omega), yieldsF, if_pos h, if_neg hn]; rfl
/-- All that is told. -/
def yields (s : List UInt8) : List Tk := yieldsAt s (skipL s 0)
theorem yieldsF_len (s : List UInt8) : ∀ (f p : Nat), (yieldsF s f p).length ≤ s.length - p
  | 0, p => by simp [yieldsF]
  | f + 1, p => by
    unfold yieldsF
    by_cases hp : p < s.length
    · rw [if_pos hp]
      by_cases hn : (begL (s.drop p)).2.2 = 0
      · rw [if_pos hn]; simp; omega
      · rw [if_neg hn, List.length_cons]
        have h1 := yieldsF_len s f (skipL s (p + (begL (s.drop p)).2.2))
        have h2 := skipL_ge s (p + (begL (s.drop p)).2.2)
        omega
    · rw [if_neg hp]; simp
theorem yields_len (s : List UInt8) : (yields s).length ≤ s.length := by
  have := yieldsF_len s s.length (skipL s 0)
  unfold yields yieldsAt; omega
/-- What is read of a text: the tokens, a place, an error. -/
def readF (s : List UInt8) : List Tk × Int × Int :=
  if 500 < s.length then ([], 500, 3) else match (yields s).find? (fun t => decide (t.kind = 0)) with
    | some t => ([], t.at_, 250)
    | none => (yields s, s.length, 0)
theorem find_at {l : List Tk} {k : Nat} (hk : k < l.length) (h : ∀ j (hj : j < l.length), j < k → l[j].kind ≠ 0) (h0 : l[k].kind = 0) : l.find? (fun t => decide (t.kind = 0)) = some l[k] := by
  rw [List.find?_eq_some_iff_getElem]
  exact ⟨by simpa using h0, k, hk, rfl, fun j hj => by simpa using h j (by omega) hj⟩
theorem find_not {l : List Tk} (h : ∀ j (hj : j < l.length), l[j].kind ≠ 0) : l.find? (fun t => decide (t.kind = 0)) = none := by
  rw [List.find?_eq_none]
  intro x hx
  obtain ⟨j, hj, rfl⟩ := List.getElem_of_mem hx
  simpa using h j hj
theorem yieldsF_at (s : List UInt8) : ∀ (f p : Nat), ∀ t ∈ yieldsF s f p, (p : Int) ≤ t.at_ ∧ t.at_ < s.length
  | 0, p, t, h => by simp [yieldsF] at h
  | f + 1, p, t, h => by
    unfold yieldsF at h
    by_cases hp : p < s.length
    · rw [if_pos hp] at h
      rcases List.mem_cons.1 h with rfl | h
      · exact ⟨Int.le_refl _, by dsimp only; omega⟩
      · by_cases hn : (begL (s.drop p)).2.2 = 0
        · rw [if_pos hn] at h; simp at h
        · rw [if_neg hn] at h
          have h1 := yieldsF_at s f _ t h
          have h2 := skipL_ge s (p + (begL (s.drop p)).2.2)
          omega
    · rw [if_neg hp] at h; simp at h
theorem yields_at {s : List UInt8} {t : Tk} (h : t ∈ yields s) : 0 ≤ t.at_ ∧ t.at_ < s.length := by
  have := yieldsF_at s _ _ t h
  omega

theorem find_congr {α : Type} {p q : α → Bool} : ∀ {l : List α}, (∀ x ∈ l, p x = q x) → l.find? p = l.find? q
  | [], _ => rfl
  | x :: l, h => by
    rw [List.find?_cons, List.find?_cons, h x (by simp), find_congr (fun y hy => h y (List.mem_cons_of_mem _ hy))]
/-- The sign of a kind below k that a text begins with. -/
def uptoR (k : Int) (l : List UInt8) : Int := match signs.find? (fun x => decide (x.1 < k) && x.2.isPrefixOf l) with | some x => x.1 | none => 0
theorem uptoR_first (l : List UInt8) : uptoR 4 l = 0 := by
  unfold uptoR
  rw [List.find?_eq_none.2 (fun x hx => by
    have : ∀ x ∈ signs, 4 ≤ x.1 := by decide
    have := this x hx
    rw [decide_eq_false (by omega)]; simp)]
theorem sign_in {k : Int} (h1 : 4 ≤ k) (h2 : k ≤ 11) : ∃ x, (k, x) ∈ signs ∧ ((signs.find? (fun x => decide (x.1 = k))).map (·.2)).getD [] = x := by
  have hk : k = 4 ∨ k = 5 ∨ k = 6 ∨ k = 7 ∨ k = 8 ∨ k = 9 ∨ k = 10 ∨ k = 11 := by omega
  rcases hk with rfl | rfl | rfl | rfl | rfl | rfl | rfl | rfl <;> exact ⟨_, by simp [signs], rfl⟩
theorem uptoR_yes {k : Int} {x : List UInt8} (hx : (k, x) ∈ signs) {l : List UInt8} (h : x.isPrefixOf l = true) : uptoR (k + 1) l = k := by
  obtain ⟨r, hr⟩ := List.isPrefixOf_iff_prefix.1 h
  simp only [signs, List.mem_cons, List.not_mem_nil, or_false, Prod.mk.injEq] at hx
  rcases hx with ⟨rfl, rfl⟩ | ⟨rfl, rfl⟩ | ⟨rfl, rfl⟩ | ⟨rfl, rfl⟩ | ⟨rfl, rfl⟩ | ⟨rfl, rfl⟩ | ⟨rfl, rfl⟩ | ⟨rfl, rfl⟩ <;> subst hr <;> simp [uptoR, signs, List.isPrefixOf, List.find?]
theorem uptoR_no {k : Int} {x : List UInt8} (hx : (k, x) ∈ signs) {l : List UInt8} (h : x.isPrefixOf l = false) : uptoR (k + 1) l = uptoR k l := by
  unfold uptoR
  rw [find_congr (fun y hy => ?_)]
  by_cases e : y.1 = k
  · have hf : ∀ y ∈ signs, ∀ x ∈ signs, y.1 = x.1 → y = x := by decide
    have := hf y hy _ hx e
    rw [this, h]; simp
  · rw [show decide (y.1 < k + 1) = decide (y.1 < k) from by rw [Bool.eq_iff_iff, decide_eq_true_iff, decide_eq_true_iff]; omega]
theorem uptoR_all (l : List UInt8) : (uptoR 12 l, ([] : List UInt8)) = match signs.find? (fun x => x.2.isPrefixOf l) with | some x => (x.1, []) | none => (0, []) := by
  unfold uptoR
  rw [find_congr (q := fun x => x.2.isPrefixOf l) (fun y hy => by
    have : ∀ x ∈ signs, x.1 < 12 := by decide
    rw [decide_eq_true (this y hy), Bool.true_and])]
  cases signs.find? (fun x => x.2.isPrefixOf l) <;> rfl
theorem candR_word {c : UInt8} {r : List UInt8} (h : letterC c.toNat = true) : candR (c :: r) = (1, (c :: r).take (spanL letterC (c :: r))) := by simp only [candR]; rw [if_pos h]
theorem candR_key {c : UInt8} {r : List UInt8} (h : letterC c.toNat = false) (hc : c = 64) : candR (c :: r) = (2, r.take (spanL letterC r)) := by simp only [candR]; rw [if_neg (by rw [h]; simp), if_pos hc]
theorem candR_text {c : UInt8} {r : List UInt8} (h : letterC c.toNat = false) (h64 : c ≠ 64) (hc : c = 34) : candR (c :: r) = (3, r.take (spanL (fun x => decide (x ≠ 34)) r)) := by simp only [candR]; rw [if_neg (by rw [h]; simp), if_neg h64, if_pos hc]
theorem candR_sign {c : UInt8} {r : List UInt8} (h : letterC c.toNat = false) (h64 : c ≠ 64) (hc : c ≠ 34) : candR (c :: r) = (uptoR 12 (c :: r), []) := by simp only [candR]; rw [if_neg (by rw [h]; simp), if_neg h64, if_neg hc, uptoR_all]; rfl
theorem candR_len (l : List UInt8) : (candR l).2.length ≤ l.length := by
  cases l with
  | nil => exact Nat.le_refl _
  | cons c r =>
    cases h : letterC c.toNat with
    | true => rw [candR_word h]; simp; omega
    | false =>
      by_cases h64 : c = 64
      · rw [candR_key h h64]; simp; omega
      · by_cases h34 : c = 34
        · rw [candR_text h h64 h34]; simp; omega
        · rw [candR_sign h h64 h34]; simp
end Go.Proofs.Ytngnplghjaojhaa

/- The iterator of tokens. -/
namespace Go.Proofs.Ytngnplghjaojhaa
set_option maxRecDepth 100000
set_option maxHeartbeats 2000000
set_option linter.unusedVariables false
set_option linter.unusedSimpArgs false
open Go.RowKit Go.Shelf
attribute [local go_sem] Oper.semAt_some wide_fn wide_depth

theorem tokens_any (s : ByteArray) (w : World) : Calls Try.prog 33 #[.string s] w fun e w' =>
    e = .returned (.func (.func 60) #[] #[.pointer (some ⟨w.heap.size, 0, none⟩)]) ∧ w' = w.alloc (.cells #[.string s] 9) := by
  go_enter Try.func33, Try.ntmps33
  go_wp2
  go_ret
  exact ⟨rfl, rfl⟩

theorem drop_cons {α : Type} {l : List α} {k : Nat} {x : α} {r : List α} (h : l.drop k = x :: r) : ∃ hk : k < l.length, l[k] = x ∧ l.drop (k + 1) = r := by
  have hk : k < l.length := by
    rcases Nat.lt_or_ge k l.length with h' | h'
    · exact h'
    · rw [List.drop_eq_nil_of_le h'] at h; cases h
  rw [List.drop_eq_getElem_cons hk] at h
  simp only [List.cons.injEq] at h
  exact ⟨hk, h.1, h.2⟩

theorem tokens_iter (s : ByteArray) (x : Nat) (hs : s.size ≤ 9223372036854775807) :
    IterI Try.prog 60 #[.pointer (some ⟨x, 0, none⟩)] (fun W => W.cell? ⟨x, 0, none⟩ = some (.string s)) (yields (bts s)).length (fun k _ args => ∃ h : k < (yields (bts s)).length, args = #[tkV (yields (bts s))[k]]) := by
  intro L W J Js hB hJ hJs hround h0
  refine callsIn_of_wp Try.func60 rfl trivial ?_
  simp only [Try.ntmps60, List.size_toArray, List.length_cons, List.length_nil, Nat.reduceAdd, Nat.reduceSub, Array.replicate_succ, Array.replicate_zero, List.push_toArray, List.append_toArray, List.nil_append, List.cons_append]
  have hcell : ∀ k W, J k W → W.cell? ⟨x, 0, none⟩ = some (.string s) := hB
  have HCell := Lib.hid hcell
  have HJ := Lib.hid hJ
  have HRound := Lib.hid hround
  have c0 := hcell 0 W h0
  clear hcell hB hJ hround
  gi_wp2_with (gi_at_call 61; refine (callsIn_wide.2 (span_blank_any _ _ hs)).mono ?_; rintro e w1 ⟨rfl, hx1⟩)
  have h1 := HJ.out 0 _ _ h0 hx1
  have hlen := bts_len s
  have hsk := skipL_le (bts s) 0 (Nat.zero_le _)
  rw [hlen] at hsk
  have hst : (yields (bts s)).drop 0 = yieldsAt (bts s) (skipL (bts s) 0) := rfl
  have e0 : (spanL blankC (bts s) : Nat) = skipL (bts s) 0 := by unfold skipL; rw [List.drop_zero, Nat.zero_add]
  rw [e0]
  generalize skipL (bts s) 0 = p0 at hsk hst
  have Hst := Lib.hid hst
  have Hlen := Lib.hid hlen
  clear hst hlen e0 h0 c0
  gi_loopw [3] (fun at_ wr => ∃ k p : Nat, at_ = .int .i64 p ∧ p ≤ s.size ∧ k ≤ (yields (bts s)).length ∧ (yields (bts s)).drop k = yieldsAt (bts s) p ∧ J k wr) (fun at_ _ => s.size - (intOf at_).toNat)
  case atStart => exact ⟨0, p0, rfl, hsk, Nat.zero_le _, Hst.out, h1⟩
  case round =>
    obtain ⟨k, p, rfl, hp, hkl, hst, hj⟩ := hrel
    have c0 := HCell.out k _ hj
    by_cases hlt : p < s.size
    · have hbe := begin_any (s.extract p s.size)
      rw [bts_extract, List.take_of_length_le (by rw [List.length_drop, bts_len]; exact Nat.le_refl _)] at hbe
      have hle := begL_le ((bts s).drop p)
      rw [List.length_drop, bts_len] at hle
      by_cases hn : (begL ((bts s).drop p)).2.2 = 0
      · rw [yieldsAt_bad (by rw [bts_len]; exact hlt) hn] at hst
        obtain ⟨hk, e1, e2⟩ := drop_cons hst
        have hN : k + 1 = (yields (bts s)).length := by
          have := congrArg List.length hst
          rw [List.length_drop] at this; simp at this; omega
        have HRk := HRound.out k
        have Hkk : Hid (∃ h : k < (yields (bts s)).length, #[tkV (tkAt (bts s) p)] = #[tkV (yields (bts s))[k]]) := Lib.hid ⟨hk, by rw [e1]⟩
        have HN := Lib.hid hN
        have HK := Lib.hid hk
        unfold begV tokV at hbe
        unfold tkAt tkV at Hkk
        dsimp only at Hkk
        generalize begL ((bts s).drop p) = r at *
        obtain ⟨rk, rt, rn⟩ := r
        dsimp only at *
        subst hn
        have HBE := Lib.hid hbe
        have HR := Lib.hid HRk
        have hes : (s.extract p s.size).size ≤ 9223372036854775807 := by simp; omega
        clear hst e1 e2 hk hbe HRk
        try clear hN
        gi_wp2_with fail
        refine (callsIn_wide.2 (HBE.out _ hes)).mono ?_
        rintro e w2 ⟨rfl, hx2⟩
        have hj4 : J k (w2.alloc (.cells #[.int .i64 rk, .string (txt rt), .int .i64 p] 39)) := HJ.out _ _ _ (HJ.out _ _ _ hj hx2) (Ext.alloc _ _)
        obtain ⟨fn', tmps', assign', body', hy, hR⟩ := HR.out #[.agg #[.int .i64 rk, .string (txt rt), .int .i64 p]] _ HK.out hj4 Hkk.out
        gi_wp2_with fail
        refine hR.mono ?_
        rintro e w5 (⟨rfl, hj5⟩ | ⟨rfl, hj5⟩)
        · gi_wp2
          exact bodyPost_ret (results_none rfl _ _ _) rfl ⟨⟨_, rfl⟩, .inl (HN.out ▸ hj5)⟩
        · gi_wp2
          exact bodyPost_ret (results_none rfl _ _ _) rfl ⟨⟨_, rfl⟩, .inr hj5⟩
      · rw [yieldsAt_more (by rw [bts_len]; exact hlt) hn] at hst
        obtain ⟨hk, e1, e2⟩ := drop_cons hst
        have HRk := HRound.out k
        have Hkk : Hid (∃ h : k < (yields (bts s)).length, #[tkV (tkAt (bts s) p)] = #[tkV (yields (bts s))[k]]) := Lib.hid ⟨hk, by rw [e1]⟩
        have HN := Lib.hid e2
        have HK := Lib.hid hk
        have hsk2 := skipL_le (bts s) (p + (begL ((bts s).drop p)).2.2) (by rw [bts_len]; omega)
        have hsk3 := skipL_ge (bts s) (p + (begL ((bts s).drop p)).2.2)
        rw [bts_len] at hsk2
        have hsp := span_blank_any (s.extract (p + (begL ((bts s).drop p)).2.2) s.size)
        rw [bts_extract, List.take_of_length_le (by rw [List.length_drop, bts_len]; exact Nat.le_refl _)] at hsp
        have hskd : p + (begL ((bts s).drop p)).2.2 + spanL blankC ((bts s).drop (p + (begL ((bts s).drop p)).2.2)) = skipL (bts s) (p + (begL ((bts s).drop p)).2.2) := rfl
        unfold begV tokV at hbe
        unfold tkAt tkV at Hkk
        dsimp only at Hkk
        generalize begL ((bts s).drop p) = r at *
        obtain ⟨rk, rt, rn⟩ := r
        dsimp only at *
        have hnp : 0 < rn := by omega
        have HBE := Lib.hid hbe
        have HR := Lib.hid HRk
        have hes : (s.extract p s.size).size ≤ 9223372036854775807 := by simp; omega
        clear hst e1 e2 hk hbe HRk
        try clear hN
        gi_wp2_with fail
        refine (callsIn_wide.2 (HBE.out _ hes)).mono ?_
        rintro e w2 ⟨rfl, hx2⟩
        have hj4 : J k (w2.alloc (.cells #[.int .i64 rk, .string (txt rt), .int .i64 p] 39)) := HJ.out _ _ _ (HJ.out _ _ _ hj hx2) (Ext.alloc _ _)
        obtain ⟨fn', tmps', assign', body', hy, hR⟩ := HR.out #[.agg #[.int .i64 rk, .string (txt rt), .int .i64 p]] _ HK.out hj4 Hkk.out
        gi_wp2_with fail
        refine hR.mono ?_
        rintro e w5 (⟨rfl, hj5⟩ | ⟨rfl, hj5⟩)
        · have c5 := HCell.out _ _ hj5
          generalize spanL blankC ((bts s).drop (p + rn)) = sp at *
          generalize skipL (bts s) (p + rn) = q at *
          have HSP := Lib.hid hsp
          have Hsk := Lib.hid hskd
          have hb1 : p + rn + sp ≤ s.size := by omega
          clear hsp hskd
          have dn : ((rn : Int) == 0) = false := by simp; omega
          gi_wp2_with fail
          refine (callsIn_wide.2 (HSP.out _ (by simp; omega))).mono ?_
          rintro e w6 ⟨rfl, hx6⟩
          gi_wp2
          exact ⟨⟨k + 1, q, int_congr (by have := Hsk.out; omega), hsk2, HK.out, HN.out, HJ.out _ _ _ hj5 hx6⟩, by simp [intOf]; have := Hsk.out; omega⟩
        · gi_wp2
          exact bodyPost_ret (results_none rfl _ _ _) rfl ⟨⟨_, rfl⟩, .inr hj5⟩
    · have hN : k = (yields (bts s)).length := by
        rw [yieldsAt_end (by rw [bts_len]; omega)] at hst
        have := congrArg List.length hst
        rw [List.length_drop] at this; simp at this; omega
      gi_wp2
      go_end0
      exact ⟨⟨_, rfl⟩, .inl (hN ▸ hj)⟩
end Go.Proofs.Ytngnplghjaojhaa

/- Read: the walk. -/
namespace Go.Proofs.Ytngnplghjaojhaa
set_option maxRecDepth 100000
set_option maxHeartbeats 2000000
set_option linter.unusedVariables false
set_option linter.unusedSimpArgs false
open Go.RowKit Go.Shelf Go.Sort
attribute [local go_sem] Oper.semAt_some wide_fn wide_depth

theorem elTok : ElT Try.prog 36 39 (.agg #[.int .i64 0, .string ⟨#[]⟩, .int .i64 0]) 3 32 := ⟨Try.underlying36, ⟨_, rfl, by kernel_rfl, by kernel_rfl, by kernel_rfl⟩, rfl, by decide⟩

theorem Stab.exP {p : Prop} {B : Nat} {I : p → World → Prop} (h : ∀ x, Stab B (I x)) : Stab B (fun W => ∃ x, I x W) := fun W W' row ⟨x, hi⟩ hg hr => ⟨x, h x W W' row hi hg hr⟩
theorem Stab.row (B g : Nat) (t : TypeId) (xs : List Value) : Stab B (fun W => RowAt W g t xs) := fun W W' row h hg hr => h.kept hg (fun e => by
  obtain ⟨_, o, ho, hc⟩ := hr g e
  rw [show W.heap[g]? = _ from h] at ho
  cases ho; cases hc)
/-- What holds when k tokens have been taken. -/
structure RdI (w : World) (s : ByteArray) (ys : List Tk) (k : Nat) (v : Value) (W : World) : Prop where
  below : Below w.heap.size w W
  out : RowAt W w.heap.size 36 [v]
  bad : RowAt W (w.heap.size + 1) 3 [.int .i64 (-1)]
  box : RowAt W (w.heap.size + 1 + 1) 9 [.string s]
  own : W.ownsRow (w.heap.size + 1 + 1 + 1) 39 3 v k ((ys.take k).flatMap tkCells)
  kinds : ∀ j (hj : j < ys.length), j < k → ys[j].kind ≠ 0
theorem RdI.stab (w : World) (s : ByteArray) (ys : List Tk) (k : Nat) (v : Value) (B : Nat) (hB : w.heap.size ≤ B) : Stab B (RdI w s ys k v) := fun W W' row h hg hr =>
  ⟨h.below.grown hg h.below.size (fun k e => Nat.le_trans hB (hr k e).1), Stab.row B _ _ _ W W' row h.out hg hr, Stab.row B _ _ _ W W' row h.bad hg hr, Stab.row B _ _ _ W W' row h.box hg hr, Stab.own B _ _ _ _ _ _ W W' row h.own hg hr, h.kinds⟩
theorem RdI.ext {w : World} {s : ByteArray} {ys : List Tk} {k : Nat} {v : Value} {W W' : World} (h : RdI w s ys k v W) (hx : Ext W W') : RdI w s ys k v W' :=
  ⟨Below.ext h.below hx h.below.size, h.out.ext hx, h.bad.ext hx, h.box.ext hx, own_ext h.own hx, h.kinds⟩
theorem RdI.next {w : World} {s : ByteArray} {ys : List Tk} {k : Nat} {v v4 : Value} {W2 w4 : World} {o : Obj} {B : Nat} {news : List Value} (h : RdI w s ys k v W2) (hg : (W2.alloc o).grownBy w4 v.ownBlock)
    (hown : w4.ownsRow (w.heap.size + 1 + 1 + 1) 39 3 v4 (k + 1) ((ys.take k).flatMap tkCells ++ news)) (hkk : (ys.take (k + 1)).flatMap tkCells = (ys.take k).flatMap tkCells ++ news) (hkinds : ∀ j (hj : j < ys.length), j < k + 1 → ys[j].kind ≠ 0) :
    KeepsFrom B W2 (w4.setCell ⟨w.heap.size, 0, none⟩ v4) ∧ ∃ v, RdI w s ys (k + 1) v (w4.setCell ⟨w.heap.size, 0, none⟩ v4) := by
  have h1 := h.ext (Ext.alloc W2 o)
  have hne : ∀ g, g < w.heap.size + 1 + 1 + 1 → v.ownBlock ≠ some g := fun g hg e => by have := (own_lt h1.own e).1; omega
  have hout := h1.out.kept hg (hne _ (by omega))
  have hbel : Below w.heap.size w w4 := h1.below.grown hg h1.below.size (fun r hr => by have := (own_lt h1.own hr).1; omega)
  refine ⟨((keeps_ext B (Ext.alloc W2 o)).trans (keeps_own h1.own hg)).trans (keeps_set B hout.facts1.1 v4), v4, ?_, ?_, ?_, ?_, ?_, hkinds⟩
  · exact hbel.setCell (p := ⟨w.heap.size, 0, none⟩) (Nat.le_refl _) _
  · exact hout.set 0 v4
  · exact (h1.bad.kept hg (hne _ (by omega))).kept (grown_set w4 _ 0 v4) (fun e => by have := Option.some.inj e; omega)
  · exact (h1.box.kept hg (hne _ (by omega))).kept (grown_set w4 _ 0 v4) (fun e => by have := Option.some.inj e; omega)
  · rw [hkk]
    exact own_kept hown (grown_set w4 _ 0 v4) (fun r hr => by cases hr; omega)
/-- Where none begins. -/
def RdX (w : World) (t : Int) (W : World) : Prop := Below w.heap.size w W ∧ RowAt W (w.heap.size + 1) 3 [.int .i64 t]
theorem RdX.stab (w : World) (t : Int) (B : Nat) (hB : w.heap.size ≤ B) : Stab B (RdX w t) := fun W W' row h hg hr =>
  ⟨h.1.grown hg h.1.size (fun k e => Nat.le_trans hB (hr k e).1), Stab.row B _ _ _ W W' row h.2 hg hr⟩

def LReadPost (w : World) (r : List Tk × Int × Int) (e : Ending) (w' : World) : Prop :=
  ∃ v, e = .returned (.tuple #[v, .int .i64 r.2.1, .int .i64 r.2.2]) ∧ w'.ownsRow w.heap.size 39 3 v r.1.length (r.1.flatMap tkCells) ∧ Ext w w'

theorem read_go (s : ByteArray) (w : World) (hs : s.size ≤ 500) :
    Calls Try.prog 18 #[.string s] w (LReadPost w (readF (bts s))) := by
  refine calls_of_wp_marks Try.func18 rfl ?_
  simp only [Try.ntmps18, List.size_toArray, List.length_cons, List.length_nil, Nat.reduceAdd, Nat.reduceSub, Array.replicate_succ, Array.replicate_zero, List.push_toArray, List.append_toArray, List.nil_append, List.cons_append]
  have hlen := yields_len (bts s)
  rw [bts_len] at hlen
  have hrf : readF (bts s) = match (yields (bts s)).find? (fun t => decide (t.kind = 0)) with | some t => ([], t.at_, 250) | none => (yields (bts s), ((s.size : Nat) : Int), 0) := by unfold readF; rw [bts_len, if_neg (by omega)]; try rfl
  have hit := fun x => tokens_iter s x (by omega)
  have hpl : ∀ t ∈ yields (bts s), 0 ≤ t.at_ := fun t ht => (yields_at ht).1
  generalize yields (bts s) = ys at *
  generalize readF (bts s) = R at *
  have Hrf := Lib.hid hrf
  clear hrf
  go_wp2_with fail
  go_step3
  go_wp2_with fail
  go_step3
  go_wp2_with (go_at_call 33; refine (tokens_any _ _).mono ?_; rintro e w' ⟨rfl, rfl⟩)
  have hI0 : RdI w s ys 0 (.slice none 0 0) (((w.alloc (.cells #[.slice none 0 0] 36)).alloc (.cells #[.int .i64 (-1)] 3)).alloc (.cells #[.string s] 9)) :=
    ⟨(show Ext w _ from (by repeat (first | exact Ext.refl _ | with_reducible assumption | with_reducible refine Ext.alloc_of ?_ _ | with_reducible refine Ext.drewN_of ?_ _ | with_reducible refine Ext.drew_of ?_ | (with_reducible refine Ext.set_of ?_ ?hsz _; case hsz => ((first | exact Nat.le_refl _ | omega | (simp; omega)))) | with_reducible refine Ext.via (by assumption) ?_))), ((RowAt.new w _ [.slice none 0 0]).ext (Ext.alloc _ _)).ext (Ext.alloc _ _), (row_at (by simp)).ext (Ext.alloc _ _), row_at (by simp), World.ownsRow_nil _ _ _ _, fun j _ h => by omega⟩
  have hsz : (((w.alloc (.cells #[.slice none 0 0] 36)).alloc (.cells #[.int .i64 (-1)] 3)).alloc (.cells #[.string s] 9)).heap.size = w.heap.size + 1 + 1 + 1 := by simp
  generalize (((w.alloc (.cells #[.slice none 0 0] 36)).alloc (.cells #[.int .i64 (-1)] 3)).alloc (.cells #[.string s] 9)) = w1 at hI0 hsz ⊢
  have hI0' := Lib.hid hI0.below.size
  refine wp_overI (Inv := fun W => W.cell? ⟨w.heap.size + 1 + 1, 0, none⟩ = some (.string s)) rfl (enters_of Try.func60 (by kernel_rfl) rfl) (hit _)
    (by rintro k W args ⟨_, rfl⟩; rfl) (fun k args => Stab.pure _ _)
    (fun k W => ∃ v, RdI w s ys k v W) (fun q W => q = .exit 0 ∧ ∃ k, ∃ hk : k < ys.length, ys[k].kind = 0 ∧ (∀ j (hj : j < ys.length), j < k → ys[j].kind ≠ 0) ∧ RdX w ys[k].at_ W)
    (fun k => Stab.ex (fun v => RdI.stab w s ys k v _ hI0.below.size)) (fun q => (Stab.pure _ _).and (Stab.ex fun k => Stab.exP fun hk => (Stab.pure _ _).and ((Stab.pure _ _).and (RdX.stab w _ _ hI0.below.size)))) (fun k W ⟨v, h⟩ => h.box.facts1.1) ⟨_, hI0⟩ ?_ ?_ ?_
  · rintro k args W L hk hL ⟨v, hI⟩ ⟨_, rfl⟩
    obtain ⟨tk, tt, ta, ht⟩ : ∃ tk tt ta, ys[k] = ⟨tk, tt, ta⟩ := ⟨_, _, _, rfl⟩
    have hkk : (ys.take (k + 1)).flatMap tkCells = (ys.take k).flatMap tkCells ++ [.int .i64 tk, .string tt, .int .i64 ta] := by rw [take_snoc ys k hk, List.flatMap_append, ht]; simp [tkCells]
    have hEnc : ∃ h : k < ys.length, #[Value.agg #[.int .i64 tk, .string tt, .int .i64 ta]] = #[tkV ys[k]] := ⟨hk, by rw [ht]; rfl⟩
    have hX : Hid (tk = 0 → ∀ W' v', RdI w s ys k v' W' → (∃ k', ∃ hk : k' < ys.length, ys[k'].kind = 0 ∧ (∀ j (hj : j < ys.length), j < k' → ys[j].kind ≠ 0) ∧ RdX w ys[k'].at_ (W'.setCell ⟨w.heap.size + 1, 0, none⟩ (.int .i64 ta)))) :=
      Lib.hid (fun h0 W' v' hI => ⟨k, hk, by rw [ht]; exact h0, hI.kinds, hI.below.setCell (p := ⟨w.heap.size + 1, 0, none⟩) (Nat.le_succ _) _, by rw [ht]; exact hI.bad.set 0 _⟩)
    have hkinds : Hid (tk ≠ 0 → ∀ j (hj : j < ys.length), j < k + 1 → ys[j].kind ≠ 0) := Lib.hid (fun h0 j hj hjk => by
      by_cases e : j = k
      · subst e; rw [ht]; exact h0
      · exact hI.kinds j hj (by omega))
    rw [ht]
    unfold tkV
    dsimp only
    clear ht
    have hkk := Lib.hid hkk
    have hEnc := Lib.hid hEnc
    gi_wp2
    refine ⟨keeps_ext _ (Ext.alloc _ _), ⟨v, hI.ext (Ext.alloc _ _)⟩, hEnc.out, ?_⟩
    have hbx := RowAt.new W 39 [.int .i64 tk, .string tt, .int .i64 ta]
    have hlt : w.heap.size + 1 + 1 < W.heap.size := hI.box.lt
    rintro W2 hst ⟨v2, hI2⟩ -
    have HX : Hid (tk = 0 → (∃ k', ∃ hk : k' < ys.length, ys[k'].kind = 0 ∧ (∀ j (hj : j < ys.length), j < k' → ys[j].kind ≠ 0) ∧ RdX w ys[k'].at_ (W2.setCell ⟨w.heap.size + 1, 0, none⟩ (.int .i64 ta)))) := Lib.hid (fun h => hX.out h _ _ hI2)
    obtain ⟨d0, d1, d2, g0, g1, g2⟩ := (hst _ (Stab.row _ _ _ _) hbx).facts3
    obtain ⟨c0, f0⟩ := hI2.out.facts1
    obtain ⟨b0, e0⟩ := hI2.bad.facts1
    clear hI hit hst hbx hX
    by_cases h0 : tk = 0
    · subst h0
      clear hI2 hkk
      gi_wp2
      refine ⟨keeps_set _ b0 _, rfl, HX.out trivial⟩
    · have hd : (tk == 0) = false := by simpa using h0
      have HI := Lib.hid hI2
      have HK := Lib.hid (hkinds.out h0)
      have hown := hI2.own
      have hlt2 := hI2.box.lt
      have hlen2 : (ys.take k).length ≤ k := List.length_take_le _ _
      clear h0 hI2 hkinds HX
      gi_wp2_with (gi_at_builtin; refine wpListIn_append_sl _ rfl _ _ 36 rfl elTok rfl (own_ext hown (Ext.alloc _ _)) rfl (Sl.new _ _ _ 1 1 (Nat.le_refl _) ?_) rfl ?_ ?_ ?_ ?_ ?_)
      · unfold maxLen; omega
      · exact ⟨rfl, rfl, rfl⟩
      · omega
      · unfold maxLen; omega
      · have := HI.out.box.lt; simp; omega
      intro v4 w4 hown4 hB4 hg4 hat4
      obtain ⟨a4, c4, rfl⟩ := own_vw hown4
      have hne : v2.ownBlock ≠ some w.heap.size := fun e => by have := (own_lt hown e).1; omega
      have hrow := (HI.out.out.ext (Ext.alloc W2 _)).kept hg4 hne
      obtain ⟨c0, f0⟩ := hrow.facts1
      have HG := Lib.hid hg4
      have HO := Lib.hid hown4
      have HB := Lib.hid hB4
      clear hg4 hown4 hB4 hat4 hrow
      gi_wp2
      exact RdI.next HI.out HG.out HO.out hkk.out HK.out
  · rintro D W hD ⟨v, hI⟩ hdf
    have hR : R = (ys, ((s.size : Nat) : Int), 0) := by rw [Hrf.out, find_not (fun j hj => hI.kinds j hj hj)]
    obtain ⟨c0, f0⟩ := hI.out.facts1
    obtain ⟨c1, f1⟩ := hI.bad.facts1
    have hown := hI.own
    rw [List.take_of_length_le (Nat.le_refl _)] at hown
    have HO := Lib.hid (own_base hown (show w.heap.size ≤ w.heap.size + 1 + 1 + 1 by omega))
    have hB := hI.below
    have HR := Lib.hid hR
    clear hit Hrf hI0 hsz hI hown hR
    go_wp2
    rw [Exit.noGoto_ret]
    have hw : R.1.length = ys.length := by rw [HR.out]
    refine leave_marked hdf (fun _ => results_tmp3 rfl _ _ _) ⟨_, by rw [HR.out]; rfl, ?_, below_mark hB (Nat.le_trans hI0'.out hD)⟩
    rw [HR.out]
    exact own_mark HO.out hdf
  · rintro D q W hD ⟨rfl, k, hk, hk0, hkj, hX⟩ hdf
    have hR : R = ([], ys[k].at_, 250) := by rw [Hrf.out, find_at hk hkj hk0]
    have hat := hpl _ (List.getElem_mem hk)
    generalize ys[k].at_ = ta at *
    obtain ⟨c1, f1⟩ := hX.2.facts1
    have hB := hX.1
    have HR := Lib.hid hR
    clear hit Hrf hI0 hsz hk0 hkj hX hR
    go_wp2
    go_region
    all_goals go_wp2
    all_goals rw [Exit.noGoto_ret]
    all_goals exact leave_marked (W := W.drew) hdf (fun _ => results_tmp3 rfl _ _ _) ⟨_, by rw [HR.out]; rfl, by rw [HR.out]; exact World.ownsRow_nil _ _ _ _, below_mark (below_drewN hB 1) (Nat.le_trans hI0'.out hD)⟩

theorem read_any (s : ByteArray) (w : World) (hs : s.size ≤ 9223372036854775807) :
    Calls Try.prog 18 #[.string s] w (LReadPost w (readF (bts s))) := by
  by_cases h : s.size ≤ 500
  · exact read_go s w h
  · have hR : readF (bts s) = ([], 500, 3) := by unfold readF; rw [bts_len, if_pos (by omega)]
    rw [hR]
    have hd : decide ((500 : Int) < (s.size : Int)) = true := by simp; omega
    have hlt : (500 : Int) < (s.size : Int) := by omega
    clear h hR
    go_enter Try.func18, Try.ntmps18
    go_wp2_with fail
    go_step3
    go_wp2_with fail
    rw [Exit.noGoto_ret]
    go_ret3
    exact ⟨_, rfl, World.ownsRow_nil _ _ _ _, Ext.refl _⟩
end Go.Proofs.Ytngnplghjaojhaa
