/- The reference's names of kinds. -/
import Derived.Test.YtkmbnghghbfkdaaGreatGp08
import Derived.Test.YtkmbnghghbfkdaaGreatGp02
import Derived.Test.YtkmbnghghbfkdaaGreatGp09
import Derived.Test.YtkmbnghghbfkdaaGreatGp07
set_option linter.unusedSimpArgs false
set_option linter.unusedVariables false
set_option maxHeartbeats 2000000
set_option maxRecDepth 100000

namespace Go.Proofs.YtkmbnghghbfkdaaGreat
open Go.RowKit
def byteB (k : Int) (c : Int) : Bool := if k < 4 then letterC c else if k = 4 then quotedC c else true
theorem mayB_eq (k : Int) (l : List UInt8) : mayB k l = (decide (spanL (byteB k) l = l.length) && (decide (0 ≤ k) && decide (k < 4) && (decide (1 ≤ l.length) && decide (l.length ≤ 32)) || (decide (k = 4) && decide (l.length ≤ 40)))) := by
 unfold mayB
 by_cases h4 : k = 4
 ·subst h4
  have e : byteB 4 = quotedC := by funext c; unfold byteB; rw [if_neg (by omega), if_pos rfl]
  rw [e]
  unfold dworthB dallB
  simp
 ·by_cases hk : 0 ≤ k ∧ k < 4
  ·have e : byteB k = letterC := by funext c; unfold byteB; rw [if_pos hk.2]
   rw [e, decide_eq_true hk.1, decide_eq_true (show k ≤ 4 by omega), decide_eq_true hk.2, decide_eq_false h4, if_neg h4]
   unfold nameB dallB
   simp
  ·have e : (decide (0 ≤ k) && (decide (k ≤ 4) && (if k = 4 then dworthB l else nameB l))) = false := by
    by_cases h0 : 0 ≤ k
    ·rw [decide_eq_false (show ¬ k ≤ 4 by omega)]; simp
    ·rw [decide_eq_false h0]; rfl
   have e2 : (decide (0 ≤ k) && decide (k < 4)) = false := by
    by_cases h0 : 0 ≤ k
    ·rw [decide_eq_false (show ¬ k < 4 by omega)]; simp
    ·rw [decide_eq_false h0]; rfl
   rw [e, e2, decide_eq_false h4]; simp
set_option maxHeartbeats 4000000 in
theorem refMay_any (k : Int) (s : ByteArray) (w : World) (hs : s.size ≤ 9223372036854775807) :
 Calls Tryz.prog 39 #[.int .i64 k, .string s] w fun e w' => e = .returned (.bool (mayB k (bts s))) ∧ w = w' := by
 have he := mayB_eq k (bts s)
 rw [bts_len] at he
 obtain ⟨r, hr⟩ : ∃ r, mayB k (bts s) = r := ⟨_, rfl⟩
 have hk : k < 4 ∨ k = 4 ∨ 4 < k := by omega
 have hb : ∀ c, byteB k c = if k < 4 then letterC c else if k = 4 then quotedC c else true := fun _ => rfl
 have HB := Lib.hid hb
 have HE := Lib.hid he
 clear he hb hr r
 go_enter Tryz.func39, Tryz.ntmps39
 go_wp2_with fail
 go_loopw [11] (fun i wr => ∃ j : Nat, j ≤ s.size ∧ i = .int .i64 j ∧ wr = w ∧ spanL (byteB k) (bts s) = j + spanL (byteB k) ((bts s).drop j)) (fun i _ => s.size - (intOf i).toNat)
 case atStart => exact ⟨0, Nat.zero_le _, rfl, rfl, by simp⟩
 case round =>
  obtain ⟨j, hj, rfl, rfl, hsp⟩ := hrel
  have Hsp := Lib.hid hsp
  clear hsp
  by_cases hlt : j < s.size
  ·have hb8 : s[j].toNat < 256 := s[j].toNat_lt
   have HYes := Lib.hid (fun h => spanL_drop_yes (p := byteB k) hlt h)
   have HNo := Lib.hid (fun h => spanL_drop_no (p := byteB k) hlt h)
   have HBj := Lib.hid (HB.out (s[j].toNat : Int))
   obtain ⟨c, hc⟩ : ∃ c : Int, (s[j].toNat : Int) = c := ⟨_, rfl⟩
   rw [hc] at HYes HNo HBj
   go_upto_region 5 with fail
   try simp only [hc]
   have h0 : 0 ≤ c := by omega
   have h256 : c < 256 := by omega
   clear hc hb8
   go_cut [7] (fun s7 wx => s7 = .bool (letterC c) ∧ wx = wr)
   case first =>
    go_wp2
    all_goals (go_meet; exact ⟨congrArg Value.bool (by unfold letterC; rw [Bool.eq_iff_iff]; simp; try omega), rfl⟩)
   case rest =>
    obtain ⟨rfl, hwc⟩ := hcut
    rw [hwc]
    clear hwc
    go_upto_region 6 with fail
    go_cut [8] (fun s8 wx => s8 = .bool (quotedC c) ∧ wx = wr)
    case first =>
     cases hq : quotedC c with
     | true =>
      have HQ := Lib.hid hq
      have hq' := of_decide_eq_true hq
      have q1 : (c != 34) = true := by simp; omega
      have q2 : (c != 92) = true := by simp; omega
      have q3 : 32 ≤ c := by omega
      have q4 : c ≤ 126 := by omega
      clear hq hq'
      go_wp2_with fail
      go_meet
      exact ⟨congrArg Value.bool HQ.out.symm, rfl⟩
     | false =>
      have HQ := Lib.hid hq
      have hq' := of_decide_eq_false hq
      clear hq
      have hc : c < 32 ∨ 126 < c ∨ (32 ≤ c ∧ c ≤ 126 ∧ (c != 34) = false) ∨ (32 ≤ c ∧ c ≤ 126 ∧ (c != 34) = true ∧ (c != 92) = false) := by simp; omega
      clear hq'
      rcases hc with h | h | ⟨h, h', h2⟩ | ⟨h, h', h2, h3⟩
      all_goals
       go_wp2_with fail
       go_meet
       exact ⟨congrArg Value.bool HQ.out.symm, rfl⟩
    case rest =>
     obtain ⟨rfl, hwc⟩ := hcut
     rw [hwc]
     clear hwc
     have hyes := HYes.out
     have hno := HNo.out
     rw [HBj.out] at hyes hno
     generalize letterC c = b1 at *
     generalize quotedC c = b2 at *
     have HF : Hid (spanL (byteB k) ((bts s).drop j) = 0 → mayB k (bts s) = false) := Lib.hid (fun h => by rw [HE.out, Hsp.out, h, decide_eq_false (by omega)]; rfl)
     rcases hk with h4 | h4 | h4
     ·have k4 : (k == 4) = false := by simp; omega
      rw [if_pos h4] at hyes hno
      cases b1 with
      | true =>
       have HY := Lib.hid (hyes rfl)
       clear hyes hno
       go_wp2_with fail
       go_roundw
       case rel => exact ⟨j + 1, by omega, by go_num, by trivial, by rw [Hsp.out, HY.out]; omega⟩
       case measure => simp [intOf]; omega
      | false =>
       have HN := Lib.hid (HF.out (hno rfl))
       clear hyes hno
       go_wp2_with fail
       go_ret
       exact ⟨ret_bool HN.out.symm, rfl⟩
     ·subst h4
      rw [if_neg (by omega), if_pos rfl] at hyes hno
      cases b2 with
      | true =>
       have HY := Lib.hid (hyes rfl)
       clear hyes hno
       go_wp2_with fail
       go_roundw
       case rel => exact ⟨j + 1, by omega, by go_num, by trivial, by rw [Hsp.out, HY.out]; omega⟩
       case measure => simp [intOf]; omega
      | false =>
       have HN := Lib.hid (HF.out (hno rfl))
       clear hyes hno
       go_wp2_with fail
       go_ret
       exact ⟨ret_bool HN.out.symm, rfl⟩
     ·have k4 : (k == 4) = false := by simp; omega
      have h4' : ¬ k < 4 := by omega
      rw [if_neg h4', if_neg (by omega)] at hyes hno
      have HY := Lib.hid (hyes rfl)
      clear hyes hno
      go_wp2_with fail
      go_roundw
      case rel => exact ⟨j + 1, by omega, by go_num, by trivial, by rw [Hsp.out, HY.out]; omega⟩
      case measure => simp [intOf]; omega
  ·have hd : spanL (byteB k) ((bts s).drop j) = 0 := by rw [List.drop_eq_nil_of_le (by rw [bts_len]; omega)]; rfl
   have HF : Hid (mayB k (bts s) = (decide (0 ≤ k) && decide (k < 4) && (decide (1 ≤ s.size) && decide (s.size ≤ 32)) || (decide (k = 4) && decide (s.size ≤ 40)))) := Lib.hid (by rw [HE.out, Hsp.out, hd, decide_eq_true (by omega)]; rfl)
   clear hd
   have hk' : k < 0 ∨ (0 ≤ k ∧ k < 4) ∨ k = 4 ∨ 4 < k := by omega
   clear hk
   rcases hk' with h | h | h | h
   all_goals
    try subst h
    go_wp2
    all_goals
     go_ret
     exact ⟨ret_bool (by rw [HF.out, Bool.eq_iff_iff]; simp <;> omega), rfl⟩
end Go.Proofs.YtkmbnghghbfkdaaGreat

/- Dictionaries: five tables; the tables of all kinds, told one by one. -/
namespace Go.Proofs.YtkmbnghghbfkdaaGreat
open Go.RowKit Go.Shelf
attribute [local go_sem] Oper.semAt_some wide_fn wide_depth
def dcells (vs : Nat → Value × Value) : List Value := [(vs 0).1, (vs 0).2, (vs 1).1, (vs 1).2, (vs 2).1, (vs 2).2, (vs 3).1, (vs 3).2, (vs 4).1, (vs 4).2]
def dv (vs : Nat → Value × Value) : Value := .agg (dcells vs).toArray
abbrev Dic := Nat → List ByteArray × List Int
def TabV (w : World) (v : Value × Value) (t : List ByteArray × List Int) : Prop := ∃ a n c b m d, v = (.slice a n c, .slice b m d) ∧ Strs w (.slice a n c) t.1 ∧ Ints w .i64 (.slice b m d) t.2
def DicV (w : World) (vs : Nat → Value × Value) (D : Dic) : Prop := ∀ i, i < 5 → TabV w (vs i) (D i)
theorem TabV.ext {w w' : World} {v : Value × Value} {t : List ByteArray × List Int} (h : TabV w v t) (hx : Ext w w') : TabV w' v t := by
 obtain ⟨a, n, c, b, m, d, e, h1, h2⟩ := h
 exact ⟨a, n, c, b, m, d, e, h1.ext hx, h2.ext hx⟩
theorem DicV.ext {w w' : World} {vs : Nat → Value × Value} {D : Dic} (h : DicV w vs D) (hx : Ext w w') : DicV w' vs D := fun i hi => (h i hi).ext hx
def DicS (D : Dic) : Prop := ∀ i, i < 5 → (D i).1.length ≤ 4096 ∧ (D i).2.length ≤ 4096 ∧ ∀ s ∈ (D i).1, s.size ≤ 9223372036854775807
theorem ix_any (vs : Nat → Value × Value) (k : Nat) (h : k < 5) (w : World) : (Instr.index 26 (.agg #[(vs 0).1, (vs 0).2, (vs 1).1, (vs 1).2, (vs 2).1, (vs 2).2, (vs 3).1, (vs 3).2, (vs 4).1, (vs 4).2]) (.int .i64 k)).run Tryz.prog w = .ok (.agg #[(vs k).1, (vs k).2]) w := by
 have hc : k = 0 ∨ k = 1 ∨ k = 2 ∨ k = 3 ∨ k = 4 := by omega
 rcases hc with rfl | rfl | rfl | rfl | rfl <;> rfl
theorem RowAt.facts10 {w : World} {g : Nat} {t : TypeId} {vs : Nat → Value × Value} (h : RowAt w g t (dcells vs)) : w.cell? ⟨g, 0, none⟩ = some (vs 0).1 ∧ w.cell? ⟨g, 1, none⟩ = some (vs 0).2 ∧ w.cell? ⟨g, 2, none⟩ = some (vs 1).1 ∧ w.cell? ⟨g, 3, none⟩ = some (vs 1).2 ∧ w.cell? ⟨g, 4, none⟩ = some (vs 2).1 ∧ w.cell? ⟨g, 5, none⟩ = some (vs 2).2 ∧ w.cell? ⟨g, 6, none⟩ = some (vs 3).1 ∧ w.cell? ⟨g, 7, none⟩ = some (vs 3).2 ∧ w.cell? ⟨g, 8, none⟩ = some (vs 4).1 ∧ w.cell? ⟨g, 9, none⟩ = some (vs 4).2 :=
 ⟨h.cell (i := 0) rfl, h.cell (i := 1) rfl, h.cell (i := 2) rfl, h.cell (i := 3) rfl, h.cell (i := 4) rfl, h.cell (i := 5) rfl, h.cell (i := 6) rfl, h.cell (i := 7) rfl, h.cell (i := 8) rfl, h.cell (i := 9) rfl⟩
theorem kinds_any (vs : Nat → Value × Value) (w : World) : Calls Tryz.prog 76 #[dv vs] w fun e w' =>
 e = .returned (.func (.func 109) #[] #[.pointer (some ⟨w.heap.size, 0, none⟩)]) ∧ w' = w.alloc (.cells (dcells vs).toArray 28) := by
 unfold dv dcells
 go_enter Tryz.func76, Tryz.ntmps76
 go_wp2
 go_ret
 exact ⟨rfl, rfl⟩
theorem kinds_iter (vs : Nat → Value × Value) (x : Nat) (hsh : ∀ i, i < 5 → ∃ a n c b m d, vs i = (.slice a n c, .slice b m d)) :
 IterI Tryz.prog 109 #[.pointer (some ⟨x, 0, none⟩)] (fun W => RowAt W x 28 (dcells vs)) 5 (fun k _ args => args = #[.int .i64 k, .agg #[(vs k).1, (vs k).2]]) := by
 intro L W J Js hB hJ hJs hround h0
 refine callsIn_of_wp Tryz.func109 rfl trivial ?_
 simp only [Tryz.ntmps109, List.size_toArray, List.length_cons, List.length_nil, Nat.reduceAdd, Nat.reduceSub, Array.replicate_succ, Array.replicate_zero, List.push_toArray, List.append_toArray, List.nil_append, List.cons_append]
 have hr0 := hB 0 W h0
 obtain ⟨c0, c1, c2, c3, c4, c5, c6, c7, c8, c9⟩ := hr0.facts10
 have HIX := Lib.hid (ix_any vs)
 have HJ := Lib.hid hJ
 clear hr0
 gi_wp2_with fail
 clear c0 c1 c2 c3 c4 c5 c6 c7 c8 c9
 gi_loopw [7] (fun i wr => ∃ k : Nat, k ≤ 5 ∧ i = .int .i64 k ∧ J k wr) (fun i _ => 5 - (intOf i).toNat)
 case atStart => exact ⟨0, Nat.zero_le _, rfl, h0⟩
 case round =>
  obtain ⟨k, hk, rfl, hj⟩ := hrel
  by_cases hlt : k < 5
  ·have ix := HIX.out k hlt
   obtain ⟨a, n, c, b, m, d, hv⟩ := hsh k hlt
   rw [hv] at ix
   dsimp only at ix
   obtain ⟨fn', tmps', assign', body', hy, hR⟩ := hround k #[.int .i64 k, .agg #[.slice a n c, .slice b m d]] (wr.alloc (.cells #[.slice a n c, .slice b m d] 25)) hlt (HJ.out _ _ _ hj (Ext.alloc _ _)) (by rw [hv])
   gi_wp2_with fail
   refine hR.mono ?_
   rintro e W3 (⟨rfl, hj3⟩ | ⟨rfl, hj3⟩)
   ·gi_wp2
    exact ⟨⟨k + 1, by omega, by go_num, hj3⟩, by simp [intOf]; omega⟩
   ·gi_wp2
    exact bodyPost_ret (results_none rfl _ _ _) rfl ⟨⟨_, rfl⟩, .inr hj3⟩
  ·gi_wp2
   go_end0
   exact ⟨⟨_, rfl⟩, .inl (by rw [show 5 = k from by omega]; exact hj)⟩
end Go.Proofs.YtkmbnghghbfkdaaGreat

/- Is one of the texts no name of its kind? -/
namespace Go.Proofs.YtkmbnghghbfkdaaGreat
open Go.RowKit Go.Shelf
def badB (k : Int) (T : List ByteArray) : Bool := T.any (fun s => !(mayB k (bts s)))
theorem badB_take (k : Int) (T : List ByteArray) (i : Nat) (h : i < T.length) : badB k (T.take (i + 1)) = (badB k (T.take i) || !(mayB k (bts T[i]))) := by
 unfold badB
 rw [take_snoc T i h, List.any_append]; simp
theorem badB_mem {k : Int} {T : List ByteArray} {i : Nat} (h : i < T.length) (hb : mayB k (bts T[i]) = false) : badB k T = true := by
 unfold badB
 rw [List.any_eq_true]
 exact ⟨T[i], List.getElem_mem h, by rw [hb]; rfl⟩
theorem bad_any (k : Int) (x : Nat) (s : ByteArray) (w : World) (hs : s.size ≤ 9223372036854775807) (hx : w.cell? ⟨x, 0, none⟩ = some (.int .i64 k)) :
 Calls Tryz.prog 77 #[.string s, .pointer (some ⟨x, 0, none⟩)] w fun e w' => e = .returned (.bool (!(mayB k (bts s)))) ∧ Ext w w' := by
 have hm := may_any k s w hs
 generalize mayB k (bts s) = b at *
 have HM := Lib.hid hm
 clear hm
 go_enter Tryz.func77, Tryz.ntmps77
 go_wp2_with fail
 refine HM.out.mono ?_
 rintro e w1 ⟨rfl, hx1⟩
 cases b
 all_goals
  go_wp2_with fail
  go_ret
  exact ⟨rfl, hx1⟩
theorem index_any (k : Int) (x : Nat) (v : Value) (T : List ByteArray) (w : World) (hT : Strs w v T) (hTs : ∀ s ∈ T, s.size ≤ 9223372036854775807) (hx : w.cell? ⟨x, 0, none⟩ = some (.int .i64 k)) :
 Calls Tryz.prog 111 #[v, .func (.func 77) #[] #[.pointer (some ⟨x, 0, none⟩)]] w fun e w' => ∃ r : Int, e = .returned (.int .i64 r) ∧ decide (0 ≤ r) = badB k T ∧ Ext w w' := by
 obtain ⟨a, c, rfl, hc1, hc2⟩ := Sl.shape hT
 have HT := Lib.hid hT
 have HTs := Lib.hid hTs
 clear hT hTs
 go_enter Tryz.func111, Tryz.ntmps111
 go_wp2_with fail
 go_loopg [8] T.length (fun g i wr => ∃ j : Nat, j ≤ T.length ∧ g = T.length - j ∧ i = .int .i64 j ∧ badB k (T.take j) = false ∧ Ext w wr)
 case atStart => exact ⟨0, Nat.zero_le _, rfl, rfl, rfl, Ext.refl _⟩
 case round =>
  obtain ⟨j, hj, hg, rfl, hb, hxr⟩ := hrel
  have Hg := Lib.hid hg
  have HB := Lib.hid hb
  clear hg hb
  by_cases hlt : j < T.length
  ·obtain ⟨b, o, rfl, c0⟩ := (HT.out.ext hxr).at_ hlt
   have hcx := ext_cell hxr hx
   have hba := fun w' (h : Ext w w') => bad_any k x T[j] w' (HTs.out _ (List.getElem_mem hlt)) (ext_cell h hx)
   have hsn := badB_take k T j hlt
   have hmem := fun h => badB_mem (k := k) hlt h
   rw [HB.out, Bool.false_or] at hsn
   generalize mayB k (bts T[j]) = m at *
   generalize T[j] = s at *
   have HBA := Lib.hid hba
   have HSN := Lib.hid hsn
   have HMEM := Lib.hid hmem
   clear hba hsn hmem
   cases m with
   | true =>
    go_wp2_with fail
    refine (HBA.out _ hxr).mono ?_
    rintro e w2 ⟨rfl, hx2⟩
    go_wp2_with fail
    go_roundg (T.length - (j + 1))
    case measure => have := Hg.out; omega
    case rel => exact ⟨j + 1, by omega, rfl, by go_num, HSN.out, hxr.trans hx2⟩
   | false =>
    have HF := Lib.hid (HMEM.out rfl)
    go_wp2_with fail
    refine (HBA.out _ hxr).mono ?_
    rintro e w2 ⟨rfl, hx2⟩
    go_wp2_with fail
    go_ret
    exact ⟨j, rfl, by rw [HF.out]; exact decide_eq_true (by omega), hxr.trans hx2⟩
  ·have hb := HB.out
   rw [List.take_of_length_le (by omega)] at hb
   have HF := Lib.hid hb
   clear hb
   go_wp2_with fail
   go_ret
   exact ⟨-1, rfl, by rw [HF.out]; rfl, hxr⟩
theorem contains_any (k : Int) (x : Nat) (v : Value) (T : List ByteArray) (w : World) (hT : Strs w v T) (hTs : ∀ s ∈ T, s.size ≤ 9223372036854775807) (hx : w.cell? ⟨x, 0, none⟩ = some (.int .i64 k)) :
 Calls Tryz.prog 79 #[v, .func (.func 77) #[] #[.pointer (some ⟨x, 0, none⟩)]] w fun e w' => e = .returned (.bool (badB k T)) ∧ Ext w w' := by
 have hi := index_any k x v T w hT hTs hx
 generalize badB k T = r at *
 have HI := Lib.hid hi
 clear hi
 go_enter Tryz.func79, Tryz.ntmps79
 go_wp2_with fail
 refine HI.out.mono ?_
 rintro e w1 ⟨q, rfl, hq, hx1⟩
 have HQ := Lib.hid hq
 clear hq
 by_cases h : 0 ≤ q
 ·go_wp2_with fail
  go_ret
  exact ⟨ret_bool (by rw [← HQ.out]; try exact (decide_eq_true h).symm), hx1⟩
 ·go_wp2_with fail
  go_ret
  exact ⟨ret_bool (by rw [← HQ.out]; try exact (decide_eq_false h).symm), hx1⟩
end Go.Proofs.YtkmbnghghbfkdaaGreat

/- Which dictionaries may be. -/
namespace Go.Proofs.YtkmbnghghbfkdaaGreat
open Go.RowKit Go.Shelf Go.Sort
attribute [local go_sem] Oper.semAt_some wide_fn wide_depth
def KindOK (k : Nat) (t : List ByteArray × List Int) : Prop := TabOK t.1 t.2 ∧ t.1.length ≤ 128 ∧ badB k t.1 = false
def DicOK (D : Dic) : Prop := ∀ i, i < 5 → KindOK i (D i)
theorem Stab.rowD (B g : Nat) (t : TypeId) (xs : List Value) : Stab B (fun W => RowAt W g t xs) := fun W W' row h hg hr => by
 refine h.kept hg (fun e => ?_)
 obtain ⟨_, o, ho, hc⟩ := hr g e
 rw [show W.heap[g]? = _ from h] at ho
 cases ho; cases hc
theorem Stab.belowW (w : World) (B : Nat) (hB : w.heap.size ≤ B) : Stab B (fun W => Below w.heap.size w W) := fun W W' row h hg hr => h.grown hg h.size (fun k e => Nat.le_trans hB (hr k e).1)
theorem leave_markedC {P : Program} {fn : Func} {tmps : Array Value} {D : Nat} {W : World} {R : Ending → World → Prop} {v : Value} (hD : W.heap[D]? = some (.deferred (some [])))
 (hr : (results fn tmps).run P (W.putObj D (.deferred none)) = .ok v (W.putObj D (.deferred none))) (h : R (.returned v) (W.putObj D (.deferred none))) : bodyPostM Fence.wide 0 P fn R .ret { tmps, defers := [{ target := .collected D, args := #[] }] } W :=
 ⟨by simp, .inl ⟨_, _, rfl, run_takeDeferred hD, ⟨_, hr, h⟩⟩⟩
theorem row_mark {W : World} {D g : Nat} {t : TypeId} {xs : List Value} (h : RowAt W g t xs) (hD : W.heap[D]? = some (.deferred (some []))) : RowAt (W.putObj D (.deferred none)) g t xs :=
 (World.putObj_heap_other (fun e => by subst e; rw [show W.heap[_]? = _ from h] at hD; cases hD)).trans h
theorem fst_eq {v : Value × Value} {a : Option Addr} {n c : Nat} {b : Option Addr} {m d : Nat} (h : v = (.slice a n c, .slice b m d)) : v.1 = .slice a n c ∧ v.2 = .slice b m d := by rw [h]; exact ⟨rfl, rfl⟩
theorem DicV.shape {w : World} {vs : Nat → Value × Value} {D : Dic} (h : DicV w vs D) : ∀ i, i < 5 → ∃ a n c b m d, vs i = (.slice a n c, .slice b m d) := fun i hi => by
 obtain ⟨a, n, c, b, m, d, e, _⟩ := h i hi
 exact ⟨a, n, c, b, m, d, e⟩
structure CkI (w w1 : World) (vs : Nat → Value × Value) (D : Dic) (k : Nat) (W : World) : Prop where
 ext : Ext w1 W
 arg : RowAt W (w.heap.size + 1 + 1) 28 (dcells vs)
 out : RowAt W (w.heap.size + 1) 40 [.int .i64 0]
 ok : ∀ i, i < k → KindOK i (D i)
theorem CkI.stab (w w1 : World) (vs : Nat → Value × Value) (D : Dic) (k : Nat) : Stab w1.heap.size (CkI w w1 vs D k) := fun W W' row h hg hr =>
 ⟨Stab.ext_ _ W W' row h.ext hg hr, Stab.rowD _ _ _ _ W W' row h.arg hg hr, Stab.rowD _ _ _ _ W W' row h.out hg hr, h.ok⟩
theorem CkI.grow {w w1 : World} {vs : Nat → Value × Value} {D : Dic} {k : Nat} {W W' : World} (h : CkI w w1 vs D k W) (hx : Ext W W') : CkI w w1 vs D k W' :=
 ⟨h.ext.trans hx, h.arg.ext hx, h.out.ext hx, h.ok⟩
set_option maxRecDepth 100000 in
set_option maxHeartbeats 2000000 in
theorem dcheck_any (vs : Nat → Value × Value) (D : Dic) (w : World) (hV : DicV w vs D) (hS : DicS D) :
 Calls Tryz.prog 41 #[dv vs] w fun e w' => ∃ r : Int, e = .returned (.int .i64 r) ∧ (r = 0 ∨ r = 160) ∧ (r = 0 ↔ DicOK D) ∧ Ext w w' := by
 have hk := fun w => kinds_any vs w
 have hr1 : RowAt ((w.alloc (.cells (dcells vs).toArray 28)).alloc (.cells #[.int .i64 0] 40)) (w.heap.size + 1) 40 [.int .i64 0] := row_at (by simp)
 have hr2 := RowAt.new ((w.alloc (.cells (dcells vs).toArray 28)).alloc (.cells #[.int .i64 0] 40)) 28 (dcells vs)
 have hx0 : Ext w ((w.alloc (.cells (dcells vs).toArray 28)).alloc (.cells #[.int .i64 0] 40)) := (Ext.alloc _ _).trans (Ext.alloc _ _)
 have hsz : ((w.alloc (.cells (dcells vs).toArray 28)).alloc (.cells #[.int .i64 0] 40)).heap.size = w.heap.size + 1 + 1 := by simp
 have hx1 := Ext.alloc ((w.alloc (.cells (dcells vs).toArray 28)).alloc (.cells #[.int .i64 0] 40)) (.cells (dcells vs).toArray 28)
 rw [hsz] at hr2
 unfold dv
 unfold dv at hk
 have hdc : (dcells vs).toArray = #[(vs 0).1, (vs 0).2, (vs 1).1, (vs 1).2, (vs 2).1, (vs 2).2, (vs 3).1, (vs 3).2, (vs 4).1, (vs 4).2] := rfl
 rw [hdc]
 simp only [hdc] at hr1 hr2 hx0 hsz hx1 hk
 refine calls_of_wp_marks Tryz.func41 rfl ?_
 simp only [Tryz.ntmps41, List.size_toArray, List.length_cons, List.length_nil, Nat.reduceAdd, Nat.reduceSub, Array.replicate_succ, Array.replicate_zero, List.push_toArray, List.append_toArray, List.nil_append, List.cons_append]
 go_wp2_with (go_at_call 76; refine (hk _).mono ?_; rintro e w' ⟨rfl, rfl⟩)
 replace hr1 := hr1.ext hx1
 generalize ((w.alloc (.cells #[(vs 0).1, (vs 0).2, (vs 1).1, (vs 1).2, (vs 2).1, (vs 2).2, (vs 3).1, (vs 3).2, (vs 4).1, (vs 4).2] 28)).alloc (.cells #[.int .i64 0] 40)).alloc (.cells #[(vs 0).1, (vs 0).2, (vs 1).1, (vs 1).2, (vs 2).1, (vs 2).2, (vs 3).1, (vs 3).2, (vs 4).1, (vs 4).2] 28) = w1 at *
 have hxw := hx0.trans hx1
 have hsh := hV.shape
 have HV := Lib.hid (hV.ext hxw)
 have HS := Lib.hid hS
 have hwz := hxw.size
 have hI0 : CkI w w1 vs D 0 w1 := ⟨Ext.refl _, hr2, hr1, fun i h => by omega⟩
 have HXW := Lib.hid hxw
 clear hk hr1 hr2 hx0 hsz hx1 hdc hV hS hxw
 refine wp_overI rfl (enters_of Tryz.func109 (by kernel_rfl) rfl) (kinds_iter vs _ hsh)
  (by rintro k W args rfl; rfl) (fun k args => Stab.pure _ _)
  (fun k W => CkI w w1 vs D k W) (fun q W => q = .ret ∧ ¬ DicOK D ∧ Below w.heap.size w W ∧ RowAt W (w.heap.size + 1) 40 [.int .i64 160])
  (fun k => CkI.stab _ _ _ _ _) (fun q => (Stab.pure _ _).and ((Stab.pure _ _).and ((Stab.belowW w _ hwz).and (Stab.rowD _ _ _ _)))) (fun k W h => h.arg) hI0 ?_ ?_ ?_
 ·rintro k args W L hk hL hI rfl
  obtain ⟨a, n, c, b, m, d, hv, hT, hSl⟩ := HV.out k hk
  obtain ⟨hD1, hD2, hD3⟩ := HS.out k hk
  obtain ⟨e1, e2⟩ := fst_eq hv
  rw [e1, e2]
  gi_wp2
  refine ⟨keeps_ext _ ((Ext.alloc _ _).trans (Ext.alloc _ _)), hI.grow ((Ext.alloc _ _).trans (Ext.alloc _ _)), trivial, ?_⟩
  have hb1 : RowAt ((W.alloc (.cells #[.int .i64 k] 3)).alloc (.cells #[.slice a n c, .slice b m d] 25)) W.heap.size 3 [.int .i64 k] := (RowAt.new W 3 [.int .i64 k]).ext (Ext.alloc _ _)
  have hb2 : RowAt ((W.alloc (.cells #[.int .i64 k] 3)).alloc (.cells #[.slice a n c, .slice b m d] 25)) (W.heap.size + 1) 25 [.slice a n c, .slice b m d] := row_at (by simp)
  rintro W2 hst hI2 -
  replace hb1 := hst _ (Stab.rowD _ _ _ _) hb1
  replace hb2 := hst _ (Stab.rowD _ _ _ _) hb2
  obtain ⟨p0, q0⟩ := hb1.facts1
  obtain ⟨p1, p2, q1, q2⟩ := hb2.facts2
  have hx2 := HXW.out.trans hI2.ext
  have HT := Lib.hid (hT.ext hI2.ext)
  have HSl := Lib.hid (hSl.ext hI2.ext)
  have HI := Lib.hid hI2
  obtain ⟨r0, u0⟩ := hI2.out.facts1
  clear hst hb1 hb2 hT hSl hI hI2
  gi_wp2
  have hslen : m ≤ 1048576 := by have := HSl.out.len; omega
  have hcall : ∀ {f : Nat} {args : Array Value} {w : World} {R : Ending → World → Prop}, Calls Tryz.prog f args w R → CallsIn (Fence.wide.inRound L) 0 Tryz.prog f args w R := fun h => (callsIn_wide (n := 0)).2 h
  have hn := HT.out.len
  have hnx : Hid (∀ W3, Ext W2 W3 → KindOK k (D k) → CkI w w1 vs D (k + 1) W3) := Lib.hid (fun W3 hx3 hok => ⟨(HI.out.grow hx3).ext, (HI.out.grow hx3).arg, (HI.out.grow hx3).out, fun i hi => by
   by_cases e : i = k
   ·subst e; exact hok
   ·exact HI.out.ok i (by omega)⟩)
  have hst : Hid (∀ W3, Ext W2 W3 → ¬ KindOK k (D k) → KeepsFrom w1.heap.size W2 (W3.setCell ⟨w.heap.size + 1, 0, none⟩ (.int .i64 160)) ∧ (¬ DicOK D ∧ Below w.heap.size w (W3.setCell ⟨w.heap.size + 1, 0, none⟩ (.int .i64 160)) ∧ RowAt (W3.setCell ⟨w.heap.size + 1, 0, none⟩ (.int .i64 160)) (w.heap.size + 1) 40 [.int .i64 160])) :=
   Lib.hid (fun W3 hx3 hno => ⟨(keeps_ext _ hx3).trans (keeps_set _ (HI.out.grow hx3).out.facts1.1 _), fun h => hno (h k hk), ((hx2.trans hx3).setCell (p := ⟨w.heap.size + 1, 0, none⟩) (Nat.le_succ _) _), (HI.out.grow hx3).out.set 0 _⟩)
  by_cases hc : TabOK (D k).1 (D k).2
  ·refine (hcall (tcheck_yes HT.out HSl.out hslen hD3 hc)).mono ?_
   rintro e W3 ⟨rfl, hx3⟩
   have p1' := ext_cell hx3 p1
   have p2' := ext_cell hx3 p2
   have p0' := ext_cell hx3 p0
   obtain ⟨r0', u0'⟩ := ((HI.out.grow hx3).out).facts1
   have hct := contains_any (k := (k : Int)) W.heap.size (.slice a n c) (D k).1 W3 (HT.out.ext hx3) hD3 p0'
   by_cases hl : 128 < n
   ·have hd : decide ((128 : Int) < (n : Int)) = true := decide_eq_true (by omega)
    have hno : Hid (¬ KindOK k (D k)) := Lib.hid (fun h => by have := h.2.1; omega)
    have hs := Lib.hid (hst.out W3 hx3 hno.out)
    clear hct hnx hst hl hn
    gi_wp2
    exact ⟨hs.out.1, rfl, hs.out.2⟩
   ·have hd : decide ((128 : Int) < (n : Int)) = false := decide_eq_false (by omega)
    generalize hb : badB (k : Int) (D k).1 = bb at *
    have HCT := Lib.hid hct
    have hok : Hid (bb = false → KindOK k (D k)) := Lib.hid (fun h => ⟨hc, by omega, by rw [hb, h]⟩)
    have hno : Hid (bb = true → ¬ KindOK k (D k)) := Lib.hid (fun h h' => by have := h'.2.2; rw [hb, h] at this; cases this)
    clear hct hl hn hb hc
    cases bb with
    | true =>
     gi_wp2
     refine (hcall HCT.out).mono ?_
     rintro e W4 ⟨rfl, hx4⟩
     have hs := Lib.hid (hst.out W4 (hx3.trans hx4) (hno.out trivial))
     obtain ⟨r0'', u0''⟩ := ((HI.out.grow (hx3.trans hx4)).out).facts1
     clear hnx hst hok hno r0' u0'
     gi_wp2
     exact ⟨hs.out.1, rfl, hs.out.2⟩
    | false =>
     gi_wp2
     refine (hcall HCT.out).mono ?_
     rintro e W4 ⟨rfl, hx4⟩
     have hs := Lib.hid (hnx.out W4 (hx3.trans hx4) (hok.out trivial))
     clear hnx hst hok hno
     gi_wp2
     exact ⟨keeps_ext _ (hx3.trans hx4), hs.out⟩
  ·refine (hcall (tcheck_no HT.out HSl.out hslen hD3 hc)).mono ?_
   rintro e W3 ⟨rfl, hx3⟩
   obtain ⟨r0', u0'⟩ := ((HI.out.grow hx3).out).facts1
   have hs := Lib.hid (hst.out W3 hx3 (fun h => hc h.1))
   clear hnx hst hc hn
   gi_wp2
   exact ⟨hs.out.1, rfl, hs.out.2⟩
 ·rintro Dd W hD hI hdf
  obtain ⟨r0, u0⟩ := hI.out.facts1
  have HI := Lib.hid hI
  have hyes : Hid (DicOK D) := Lib.hid hI.ok
  clear hI0 hsh hI
  go_wp2
  have hdf' := (keeps_set 0 HI.out.out.facts1.1 (.int .i64 0)).same Dd _ (Nat.zero_le _) hdf rfl
  have q0 := (row_mark (HI.out.out.set 0 (.int .i64 0)) hdf').facts1.1
  refine leave_markedC hdf' (v := .int .i64 0) (by simp [results, Tryz.results41, go_sem, q0]) ⟨0, rfl, .inl rfl, ⟨fun _ => hyes.out, fun _ => rfl⟩, below_mark ((HXW.out.trans HI.out.ext).setCell (p := ⟨w.heap.size + 1, 0, none⟩) (Nat.le_succ _) _) (by omega)⟩
 ·rintro Dd q W hD ⟨rfl, hno, hB, hR⟩ hdf
  have HB := Lib.hid hB
  have HN := Lib.hid hno
  have HR := Lib.hid hR
  clear hI0 hsh hB hno hR
  go_wp2
  have q0 := (row_mark HR.out hdf).facts1.1
  exact leave_markedC hdf (v := .int .i64 160) (by simp [results, Tryz.results41, go_sem, q0]) ⟨160, rfl, .inr rfl, ⟨fun h => (by simp at h), fun h => absurd h HN.out⟩, below_mark HB.out (by omega)⟩
end Go.Proofs.YtkmbnghghbfkdaaGreat
