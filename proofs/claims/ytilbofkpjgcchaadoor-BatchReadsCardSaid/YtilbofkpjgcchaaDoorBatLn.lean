/- The reference's lines of a text. -/
import Derived.Test.YtilbofkpjgcchaaDoorBatOg
namespace Go.Proofs.YtilbofkpjgcchaaDoor
set_option maxRecDepth 100000
set_option maxHeartbeats 2000000
set_option linter.unusedVariables false
set_option linter.unusedSimpArgs false
open Go.RowKit

/-- What holds when k bytes have been seen: whole lines, up to b; no feed since. -/
def LnAt (l : List UInt8) (k b : Nat) (xs : List (List UInt8)) : Prop := b ≤ k ∧ k ≤ l.length ∧ xs.flatten = l.take b ∧ (∀ x ∈ xs, FeedLine x) ∧ NoFeed ((l.take k).drop b)
theorem LnAt.start (l : List UInt8) : LnAt l 0 0 [] := by
  refine ⟨Nat.le_refl _, Nat.zero_le _, by simp, ?_, ?_⟩
  · intro x hx
    simp at hx
  · intro c hc
    simp at hc
theorem LnAt.piece {l : List UInt8} {k b : Nat} {xs : List (List UInt8)} (h : LnAt l k b xs) (hk : k < l.length) : (l.take (k + 1)).drop b = (l.take k).drop b ++ [l[k]] := by
  rw [take_snoc l k hk, List.drop_append_of_le_length (by rw [List.length_take]; have := h.1; omega)]
theorem LnAt.feed {l : List UInt8} {k b : Nat} {xs : List (List UInt8)} (h : LnAt l k b xs) (hk : k < l.length) (hc : l[k] = 10) : LnAt l (k + 1) (k + 1) (xs ++ [(l.take (k + 1)).drop b]) := by
  obtain ⟨h1, h2, h3, h4, h5⟩ := h
  have hp := LnAt.piece ⟨h1, h2, h3, h4, h5⟩ hk
  refine ⟨Nat.le_refl _, hk, ?_, fun x hx => ?_, fun c hc => by simp at hc⟩
  · rw [List.flatten_append, h3]
    simp only [List.flatten_cons, List.flatten_nil, List.append_nil]
    conv => rhs; rw [← List.take_append_drop b (l.take (k + 1)), List.take_take, Nat.min_eq_left (by omega)]
  · rcases List.mem_append.1 hx with hx | hx
    · exact h4 x hx
    · simp only [List.mem_singleton] at hx
      subst hx
      exact ⟨(l.take k).drop b, h5, by rw [hp, hc]⟩
theorem LnAt.more {l : List UInt8} {k b : Nat} {xs : List (List UInt8)} (h : LnAt l k b xs) (hk : k < l.length) (hc : l[k] ≠ 10) : LnAt l (k + 1) b xs := by
  obtain ⟨h1, h2, h3, h4, h5⟩ := h
  have hp := LnAt.piece ⟨h1, h2, h3, h4, h5⟩ hk
  refine ⟨by omega, hk, h3, h4, ?_⟩
  rw [hp]
  refine nofeed_app h5 (nofeed_cons ?_ nofeed_nil)
  exact decide_eq_true (fun e => hc (UInt8.toNat_inj.1 (by omega)))
theorem LnAt.fin {l : List UInt8} {b : Nat} {xs : List (List UInt8)} (h : LnAt l l.length b xs) : linesL l = if b < l.length then xs ++ [l.drop b] else xs := by
  obtain ⟨h1, h2, h3, h4, h5⟩ := h
  rw [List.take_of_length_le (Nat.le_refl _)] at h5
  have hl : l = xs.flatten ++ l.drop b := by rw [h3, List.take_append_drop]
  have := linesL_flatten xs h4 (l.drop b)
  rw [← hl] at this
  rw [this]
  split
  · rename_i hb
    rw [linesL_last h5 (fun e => by have := congrArg List.length e; rw [List.length_drop, List.length_nil] at this; omega)]
  · rename_i hb
    rw [List.drop_eq_nil_of_le (by omega), linesL_nil, List.append_nil]
theorem LnAt.len {l : List UInt8} {k b : Nat} {xs : List (List UInt8)} (h : LnAt l k b xs) : xs.length ≤ b := by
  obtain ⟨h1, h2, h3, h4, _⟩ := h
  have hl : xs.flatten.length = b := by rw [h3, List.length_take]; omega
  rw [← hl]
  clear hl h3
  induction xs with
  | nil => exact Nat.zero_le _
  | cons x xs ih =>
    obtain ⟨a, _, rfl⟩ := h4 x (by simp)
    have := ih (fun y hy => h4 y (by simp [hy]))
    rw [List.flatten_cons, List.length_append, List.length_append, List.length_cons]
    simp only [List.length_cons, List.length_nil]; omega
theorem refLines_any (s : ByteArray) (w : World) (hs : s.size ≤ 1000000) :
    Calls Tryd.prog 33 #[.string s] w fun e w' => ∃ u, e = .returned u ∧ Sl w' u (linesL (bts s)).length (strsV (linesL (bts s))) ∧ Ext w w' := by
  go_enter Tryd.func33, Tryd.ntmps33
  go_wp2_with fail
  go_loopg [3, 4, 8] s.size (fun g v bv i wr => ∃ (k b : Nat) (xs : List (List UInt8)), k ≤ s.size ∧ g = s.size - k ∧ i = .int .i64 k ∧ bv = .int .i64 b ∧ LnAt (bts s) k b xs ∧ wr.ownsRow w.heap.size 9 1 v xs.length (strsV xs) ∧ Ext w wr)
  case atStart => exact ⟨0, 0, [], Nat.zero_le _, rfl, rfl, rfl, LnAt.start _, World.ownsRow_nil _ _ _ _, Ext.refl _⟩
  case round =>
    obtain ⟨k, b, xs, hk, hg, rfl, rfl, hln, ho, hx⟩ := hrel
    have Hg := Lib.hid hg
    have hxl := hln.len
    have hbk := hln.1
    have HO := Lib.hid ho
    have HLN := Lib.hid hln
    clear hg ho hln
    by_cases hlt : k < s.size
    · have hlt' : k < (bts s).length := by rw [bts_len]; exact hlt
      by_cases hb : s[k] = 10
      · have HF := Lib.hid (HLN.out.feed hlt' hb)
        have hb' : (s[k].toNat : Int) = 10 := by rw [hb]; rfl
        have hpc : txt (((bts s).take (k + 1)).drop b) = s.extract b (k + 1) := bts_inj (by rw [bts_txt, bts_extract, List.take_drop, show b + (k + 1 - b) = k + 1 by omega])
        have HPC := Lib.hid hpc
        clear hb hpc
        obtain ⟨av, cv, hav⟩ := own_vw HO.out
        have hxs := hx.size
        go_wp2_with (at_builtin; refine wpList_append_sl _ rfl _ _ 23 rfl elStr rfl (own_ext HO.out (Ext.alloc _ _)) rfl (Sl.new _ _ _ 1 1 (Nat.le_refl _) ?_) rfl ?_ ?_ ?_ ?_ ?_)
        · unfold maxLen; omega
        · rfl
        · omega
        · unfold maxLen; omega
        · first | omega | (simp; omega)
        intro v4 w4 hown4 hB4 _ _
        have HO4 : Hid (w4.ownsRow w.heap.size 9 1 v4 (xs ++ [((bts s).take (k + 1)).drop b]).length (strsV (xs ++ [((bts s).take (k + 1)).drop b]))) := Lib.hid (by
          rw [strsV_snoc, HPC.out, List.length_append]; exact hown4)
        have HX4 : Hid (Ext w w4) := Lib.hid ((below_step hx (Ext.alloc _ _)).trans hB4)
        clear hown4 hB4
        go_wp2_with fail
        go_roundg (s.size - (k + 1))
        case measure => have := Hg.out; omega
        case rel => exact ⟨k + 1, k + 1, _, by omega, rfl, by go_num, by go_num, HF.out, HO4.out, HX4.out⟩
      · have HF := Lib.hid (HLN.out.more hlt' hb)
        have hb' : ¬ (s[k].toNat : Int) = 10 := fun e => hb (UInt8.toNat_inj.1 (by have h32 : (10 : UInt8).toNat = 10 := rfl; omega))
        have hb'' : ((s[k].toNat : Int) == 10) = false := by simpa using hb'
        clear hb
        go_wp2_with fail
        go_roundg (s.size - (k + 1))
        case measure => have := Hg.out; omega
        case rel => exact ⟨k + 1, b, xs, by omega, rfl, by go_num, rfl, HF.out, HO.out, hx⟩
    · have hkk : k = s.size := by omega
      have hfin := HLN.out
      have hl2 : k = (bts s).length := by rw [bts_len]; exact hkk
      rw [hl2] at hfin
      have hll := hfin.fin
      rw [bts_len] at hll
      clear hfin hl2
      by_cases hbs : b < s.size
      · rw [if_pos hbs] at hll
        have hpc : txt ((bts s).drop b) = s.extract b s.size := bts_inj (by rw [bts_txt, bts_extract, List.take_of_length_le (by rw [List.length_drop, bts_len]; omega)])
        have HPC := Lib.hid hpc
        have HLL := Lib.hid hll
        clear hll hpc
        obtain ⟨av, cv, hav⟩ := own_vw HO.out
        have hxs := hx.size
        go_wp2_with (at_builtin; refine wpList_append_sl _ rfl _ _ 23 rfl elStr rfl (own_ext HO.out (Ext.alloc _ _)) rfl (Sl.new _ _ _ 1 1 (Nat.le_refl _) ?_) rfl ?_ ?_ ?_ ?_ ?_)
        · unfold maxLen; omega
        · rfl
        · omega
        · unfold maxLen; omega
        · first | omega | (simp; omega)
        intro v4 w4 hown4 hB4 _ _
        have HO4 : Hid (Sl w4 v4 (linesL (bts s)).length (strsV (linesL (bts s)))) := Lib.hid (Sl.of_own (by
          rw [HLL.out, strsV_snoc, HPC.out, List.length_append]; exact hown4))
        have HX4 : Hid (Ext w w4) := Lib.hid ((below_step hx (Ext.alloc _ _)).trans hB4)
        clear hown4 hB4
        go_wp2_with fail
        go_ret
        exact ⟨_, rfl, HO4.out, HX4.out⟩
      · rw [if_neg hbs] at hll
        have hbs' : s.size ≤ b := by omega
        have HO4 : Hid (∀ v, wr.ownsRow w.heap.size 9 1 v xs.length (strsV xs) → Sl wr v (linesL (bts s)).length (strsV (linesL (bts s)))) := Lib.hid (fun v h => by rw [hll]; exact Sl.of_own h)
        clear hll hbs
        go_wp2_with fail
        go_ret
        exact ⟨_, rfl, HO4.out _ HO.out, hx⟩
end Go.Proofs.YtilbofkpjgcchaaDoor
