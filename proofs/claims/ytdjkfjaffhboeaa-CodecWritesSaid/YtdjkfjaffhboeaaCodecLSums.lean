/- CodecSums: the walk. -/
import Derived.Test.YtdjkfjaffhboeaaCodecV
import Derived.Test.YtdjkfjaffhboeaaCodecQ
namespace Go.Proofs.Ytdjkfjaffhboeaa
open Go.RowKit

theorem own_open {w : World} {B : Nat} {e : TypeId} {k : IntKind} {v : Value} {l : List Int} (h : Own w B e k v l) (hl : 0 < l.length) : ∃ g cap, v = .slice (some ⟨g, 0, none⟩) l.length cap ∧ B ≤ g ∧ l.length ≤ cap ∧ cap ≤ 9223372036854775807 ∧
    (∀ (i : Nat) (hi : i < l.length), w.cell? ⟨g, i, none⟩ = some (.int k l[i])) ∧ (∀ i, w.frozen? ⟨g, i, none⟩ = false) ∧ g < w.heap.size := by
  obtain ⟨h1, h | ⟨g, cap, cur, rfl, hg, hh, h2, h3, h4, h5⟩⟩ := h
  · omega
  · unfold maxLen at h3
    refine ⟨g, cap, rfl, hg, h2, h3, fun i hi => ?_, fun i => by simp [World.frozen?, hh], (Array.getElem?_eq_some_iff.1 hh).1⟩
    rw [cell_of_row w g i cur e (0, 0) hh]
    have : (cur.toList.take (l.length * 1))[i]? = some (.int k l[i]) := by rw [h5]; simp [hi]
    rw [List.getElem?_take] at this
    split at this
    · simpa using this
    · cases this
theorem own_set {w : World} {B : Nat} {e : TypeId} {k : IntKind} {g n cap : Nat} {l : List Int} (h : Own w B e k (.slice (some ⟨g, 0, none⟩) n cap) l) (i : Nat) (hi : i < l.length) (c : Int) :
    Own (w.setCell ⟨g, i, none⟩ (.int k c)) B e k (.slice (some ⟨g, 0, none⟩) n cap) (l.set i c) := by
  obtain ⟨h1, h | ⟨g', cap', cur, e1, hg, hh, h2, h3, h4, h5⟩⟩ := h
  · cases h.1
  · simp only [Value.slice.injEq, Option.some.injEq, Addr.mk.injEq, and_true] at e1
    obtain ⟨rfl, rfl, rfl⟩ := e1
    refine ⟨by simp, .inr ⟨g, cap, cur.setIfInBounds i (.int k c), by simp, hg, ?_, by simpa using h2, h3, by simpa using h4, ?_⟩⟩
    · simp [World.setCell, Array.getElem?_modify, hh]
    · rw [Array.toList_setIfInBounds, List.take_set, List.length_set, h5, List.map_set]
theorem sum_q (v : Value) (l : List Int) (w : World) (n : Nat) (hv : Ints w .u8 v l) (hl : Byt l) :
    Calls Try.prog 19 #[v] (w.drewN n) fun e w' => e = .returned (.int .u32 (sumL 1 l)) ∧ w' = w.drewN n :=
  (sum_any v l _ hl (hv.ext (Ext.drewN _ _))).mono fun _ _ h => ⟨h.1, h.2.symm⟩
theorem fourB_byt (n : Int) : Byt (fourB n) := by
  intro c hc
  simp only [fourB, List.mem_cons, List.not_mem_nil, or_false] at hc
  rcases hc with h | h | h | h <;> omega
theorem rem_fit (k0 : Int) (n : Nat) (hn : 0 < n) (hn2 : n ≤ 300) : ∃ kk : Nat, kk < n ∧ wrap64 ((IntKind.u64.wrap k0).tmod (n : Int)) = kk := by
  rw [wrapU]
  have h0 : 0 ≤ k0 % 18446744073709551616 := Int.emod_nonneg _ (by omega)
  rw [Int.tmod_eq_emod_of_nonneg h0]
  have h1 := Int.emod_nonneg (k0 % 18446744073709551616) (show (n : Int) ≠ 0 by omega)
  have h2 := Int.emod_lt_of_pos (k0 % 18446744073709551616) (show (0 : Int) < n by omega)
  refine ⟨(k0 % 18446744073709551616 % (n : Int)).toNat, by omega, ?_⟩
  rw [IntWalk.wrap64_in _ ⟨by omega, by omega⟩]
  omega

set_option maxHeartbeats 2000000 in
theorem sums_walk (v : Value) (l : List Int) (k0 c : Int) (w : World) (hv : Ints w .u8 v l) (hl : Byt l) (hk0 : -9223372036854775808 ≤ k0 ∧ k0 ≤ 9223372036854775807) (hc : 0 ≤ c ∧ c < 256) :
    Calls Try.prog 5 #[v, .int .i64 k0, .int .u8 c] w fun e w' => e = .returned (.bool true) ∧ Below w.heap.size w w' := by
  obtain ⟨hk1, hk2⟩ := hk0
  obtain ⟨hc0, hc1⟩ := hc
  go_enter Try.func5, Try.ntmps5
  go_wp2_with fail
  refine (wakes_any _).mono ?_
  rintro e w1 ⟨rfl, hx1⟩
  go_wp2_with fail
  refine (few_any _ l _ (hv.ext hx1)).mono ?_
  rintro e w2 ⟨u, rfl, ho2, hx2⟩
  have hb : Byt (l.take 300) := hl.take 300
  have hbl : (l.take 300).length ≤ 300 := List.length_take_le _ _
  have hx12 := hx1.trans hx2
  generalize l.take 300 = b at ho2 hb hbl
  clear hx1 hx2 hv hl
  have hi2 := Own.ints ho2
  have hi2' := hi2
  obtain ⟨a, cap, rfl, hcap, hmax, hcells⟩ := hi2'.open_
  by_cases hz : b.length = 0
  · obtain rfl : b = [] := List.eq_nil_of_length_eq_zero hz
    clear hz
    go_wp2_with fail
    refine (sum_any _ [] _ Byt.nil hi2).mono ?_
    rintro e w' ⟨rfl, rfl⟩
    go_wp2_with fail
    go_ret
    exact ⟨rfl, hx12⟩
  · have hne : ((b.length : Int) == 0) = false := by simp; exact fun e => hz (by simp [e])
    have hlp : (0 : Int) < (b.length : Int) := by omega
    clear hz
    obtain ⟨kk, hkk, hE⟩ := rem_fit k0 b.length (by omega) (by omega)
    have HE := Lib.hid hE
    clear hE
    go_wp2_with fail
    rw [HE.out]
    refine (cloneB _ b _ hi2 (by omega)).mono ?_
    rintro e w3 ⟨u3, rfl, ho3, hx3⟩
    have hi3 := hi2.ext hx3
    obtain ⟨g, cap3, rfl, hg, hcp1, hcp2, hcell3, hfr3, hgl⟩ := own_open ho3 (by omega)
    have hck := hcell3 kk hkk
    have hfk := hfr3 kk
    have hkk0 : (kk : Int) < (b.length : Int) := by omega
    have hos := own_set ho3 kk hkk c
    have hB3 : Below w.heap.size w (w3.setCell ⟨g, kk, none⟩ (.int .u8 c)) := (hx12.trans hx3).setCell (p := ⟨g, kk, none⟩) (by have := hx12.size; show w.heap.size ≤ g; omega) _
    have hi4 : Ints (w3.setCell ⟨g, kk, none⟩ (.int .u8 c)) .u8 (.slice a b.length cap) b := (hi2.below (Below.setCell hx3 (p := ⟨g, kk, none⟩) hg _) (Nat.le_refl _))
    have hbs : Byt (b.set kk c) := fun x hx => by
      rcases List.mem_or_eq_of_mem_set hx with h | h
      · exact hb x h
      · exact h ▸ ⟨hc0, hc1⟩
    have hss := sumL_set b kk hkk c 1 hb ⟨hc0, hc1⟩ (by omega) (by omega)
    have hbk := hb.get hkk
    obtain ⟨b0, o0, rfl, hcb⟩ := hcells kk hkk
    have hcbk : (w3.setCell ⟨g, kk, none⟩ (.int .u8 c)).cell? ⟨b0, o0 + kk, none⟩ = some (.int .u8 b[kk]) := by
      obtain ⟨_, _, e1, _, _, h⟩ := hi4.open_
      simp only [Value.slice.injEq] at e1
      obtain ⟨rfl, _, _⟩ := e1
      obtain ⟨_, _, e2, h⟩ := h kk hkk
      cases e2
      exact h kk hkk
    have hi5 : Ints (w3.setCell ⟨g, kk, none⟩ (.int .u8 c)) .u8 (.slice (some ⟨g, 0, none⟩) b.length cap3) (b.set kk c) := by
      have := Own.ints hos
      exact this
    clear hcell3 hfr3 hcb hi3
    by_cases hbc : b[kk] = c
    · have t1 : (b[kk] == c) = true := by simp [hbc]
      have t2 : (sumL 1 b == sumL 1 (b.set kk c)) = true := by simp; exact (hss.2 hbc).symm
      have Hbc := Lib.hid hbc
      clear hbc hss
      go_wp2_with fail
      generalize w3.setCell ⟨g, kk, none⟩ (.int .u8 c) = w4 at *
      go_quiet ((go_at_call 19; exact Calls.quiet_of_same (sum_q _ _ _ _ (by assumption) (by assumption))))
      go_wp2_with fail
      refine (frame_any _ b _ hb (hi4.ext (Ext.drewN _ _)) (by omega)).mono ?_
      rintro e w5 ⟨u5, rfl, ho5, hx5⟩
      obtain ⟨nl, hnl⟩ : ∃ nl, nl = (num 9 (b.length : Int)).length := ⟨_, rfl⟩
      have hnl2 := num_len 9 (b.length : Int)
      rw [← hnl] at hnl2
      have hFl : (frameB b).length = nl + b.length + 4 := by unfold frameB; rw [List.length_append, List.length_append, fourB_len, ← hnl]; omega
      have hFs : (frameB b).set (nl + kk) c = num 9 b.length ++ (b.set kk c ++ (fourB (sumL 1 b) ++ [])) := by
        unfold frameB
        rw [List.append_nil, List.set_append_right _ _ (by omega), hnl, Nat.add_sub_cancel_left, List.set_append_left _ _ hkk]
      generalize frameB b = F at ho5 hFl hFs
      obtain ⟨gF, capF, rfl, hgF, hcF1, hcF2, hcellF, hfrF, hgFl⟩ := own_open ho5 (by omega)
      have hcF := hcellF (nl + kk) (by omega)
      have hfF := hfrF (nl + kk)
      have hos5 := own_set ho5 (nl + kk) (by omega) c
      have hcb5 := (hx5.cell (p := ⟨b0, o0 + kk, none⟩) (cell_lt (o := o0 + kk) (u := .int .u8 b[kk]) hcbk)).trans hcbk
      have hB5 : Below w.heap.size w w5 := hB3.trans ((Below.ext (below_drewN (Below.refl w.heap.size w4) _) hx5 hB3.size))
      have hne5 : gF ≠ b0 := fun e => by have := cell_lt hcbk; have hh := hgF; simp only [World.heap_drewN] at hh; omega
      have HFs := Lib.hid hFs
      have hcb6 : (w5.setCell ⟨gF, nl + kk, none⟩ (.int .u8 c)).cell? ⟨b0, o0 + kk, none⟩ = some (.int .u8 b[kk]) := by
        rw [World.cell?_setCell_other _ _ _ _ (by intro e; have := congrArg Addr.block e; simp at this; first | exact hne5 this | exact hne5 this.symm)]; exact hcb5
      have hB6 : Below w.heap.size w (w5.setCell ⟨gF, nl + kk, none⟩ (.int .u8 c)) := hB5.setCell (p := ⟨gF, nl + kk, none⟩) (by have := hB3.size; show w.heap.size ≤ gF; simp only [World.heap_drewN] at hgF; omega) _
      generalize F[nl + kk] = fv at hcF
      rw [hFl] at hcF1
      simp only [hFl]
      have hidx : nl + b.length + 4 - b.length - 4 + kk = nl + kk := by omega
      have hcF' : w5.cell? ⟨gF, nl + b.length + 4 - b.length - 4 + kk, none⟩ = some (.int .u8 fv) := by rw [hidx]; exact hcF
      have hfF' : w5.frozen? ⟨gF, nl + b.length + 4 - b.length - 4 + kk, none⟩ = false := by rw [hidx]; exact hfF
      have Hidx := Lib.hid hidx
      have hi6 := Own.ints hos5
      rw [hFl] at hi6
      have hFb : (F.set (nl + kk) c).length ≤ 1000 := by rw [List.length_set]; omega
      have hsr := sumL_range 1 b (by omega) (by omega)
      have hsr' := sumL_range 1 (b.set kk c) (by omega) (by omega)
      have hFbyt : Byt (F.set (nl + kk) c) := by
        rw [hFs]
        exact (num9_byt (by omega) (by omega)).append (hbs.append (Byt.append (fourB_byt _) Byt.nil))
      have hread : rdAt 0 (F.set (nl + kk) c) rdFrame = if fourB (sumL 1 b) = fourB (sumL 1 (b.set kk c)) then .ok (b.set kk c) ((num 9 (b.set kk c).length).length + (b.set kk c).length + 4) else .no 122 := by
        unfold rdAt
        rw [if_neg (by omega), hFs]
        have := rdFrame_at (b.set kk c) (fourB (sumL 1 b)) [] (by rw [List.length_set]; omega) rfl
        rw [List.length_set] at this ⊢
        exact this
      have Hread := Lib.hid hread
      clear hcellF hfrF hFs hnl hcbk hx5 hidx hcF hfF hos5 ho5 hread
      go_wp2_with fail
      rw [Hidx.out]
      have hr := Hread.out
      rw [if_pos (by rw [fourB_inj _ _ hsr hsr']; simpa using t2)] at hr
      refine (readFrame_yes _ _ 0 _ hFbyt hi6 (by omega) hr).mono ?_
      rintro e w7 ⟨u7, rfl, _, hx7⟩
      have hcb7 := (hx7.cell (p := ⟨b0, o0 + kk, none⟩) (cell_lt (o := o0 + kk) (u := .int .u8 b[kk]) hcb6)).trans hcb6
      clear hr hi6
      go_wp2_with fail
      go_ret
      exact ⟨rfl, Below.ext hB6 hx7 hB6.size⟩
    · have t1 : (b[kk] == c) = false := by simp [hbc]
      have t3 : (b[kk] != c) = true := by simp [hbc]
      have t2 : (sumL 1 b == sumL 1 (b.set kk c)) = false := by simp; exact fun e => hbc (hss.1 e.symm)
      have Hbc := Lib.hid hbc
      clear hbc hss
      go_wp2_with fail
      generalize w3.setCell ⟨g, kk, none⟩ (.int .u8 c) = w4 at *
      go_quiet ((go_at_call 19; exact Calls.quiet_of_same (sum_q _ _ _ _ (by assumption) (by assumption))))
      go_wp2_with fail
      refine (frame_any _ b _ hb (hi4.ext (Ext.drewN _ _)) (by omega)).mono ?_
      rintro e w5 ⟨u5, rfl, ho5, hx5⟩
      obtain ⟨nl, hnl⟩ : ∃ nl, nl = (num 9 (b.length : Int)).length := ⟨_, rfl⟩
      have hnl2 := num_len 9 (b.length : Int)
      rw [← hnl] at hnl2
      have hFl : (frameB b).length = nl + b.length + 4 := by unfold frameB; rw [List.length_append, List.length_append, fourB_len, ← hnl]; omega
      have hFs : (frameB b).set (nl + kk) c = num 9 b.length ++ (b.set kk c ++ (fourB (sumL 1 b) ++ [])) := by
        unfold frameB
        rw [List.append_nil, List.set_append_right _ _ (by omega), hnl, Nat.add_sub_cancel_left, List.set_append_left _ _ hkk]
      generalize frameB b = F at ho5 hFl hFs
      obtain ⟨gF, capF, rfl, hgF, hcF1, hcF2, hcellF, hfrF, hgFl⟩ := own_open ho5 (by omega)
      have hcF := hcellF (nl + kk) (by omega)
      have hfF := hfrF (nl + kk)
      have hos5 := own_set ho5 (nl + kk) (by omega) c
      have hcb5 := (hx5.cell (p := ⟨b0, o0 + kk, none⟩) (cell_lt (o := o0 + kk) (u := .int .u8 b[kk]) hcbk)).trans hcbk
      have hB5 : Below w.heap.size w w5 := hB3.trans ((Below.ext (below_drewN (Below.refl w.heap.size w4) _) hx5 hB3.size))
      have hne5 : gF ≠ b0 := fun e => by have := cell_lt hcbk; have hh := hgF; simp only [World.heap_drewN] at hh; omega
      have HFs := Lib.hid hFs
      have hcb6 : (w5.setCell ⟨gF, nl + kk, none⟩ (.int .u8 c)).cell? ⟨b0, o0 + kk, none⟩ = some (.int .u8 b[kk]) := by
        rw [World.cell?_setCell_other _ _ _ _ (by intro e; have := congrArg Addr.block e; simp at this; first | exact hne5 this | exact hne5 this.symm)]; exact hcb5
      have hB6 : Below w.heap.size w (w5.setCell ⟨gF, nl + kk, none⟩ (.int .u8 c)) := hB5.setCell (p := ⟨gF, nl + kk, none⟩) (by have := hB3.size; show w.heap.size ≤ gF; simp only [World.heap_drewN] at hgF; omega) _
      generalize F[nl + kk] = fv at hcF
      rw [hFl] at hcF1
      simp only [hFl]
      have hidx : nl + b.length + 4 - b.length - 4 + kk = nl + kk := by omega
      have hcF' : w5.cell? ⟨gF, nl + b.length + 4 - b.length - 4 + kk, none⟩ = some (.int .u8 fv) := by rw [hidx]; exact hcF
      have hfF' : w5.frozen? ⟨gF, nl + b.length + 4 - b.length - 4 + kk, none⟩ = false := by rw [hidx]; exact hfF
      have Hidx := Lib.hid hidx
      have hi6 := Own.ints hos5
      rw [hFl] at hi6
      have hFb : (F.set (nl + kk) c).length ≤ 1000 := by rw [List.length_set]; omega
      have hsr := sumL_range 1 b (by omega) (by omega)
      have hsr' := sumL_range 1 (b.set kk c) (by omega) (by omega)
      have hFbyt : Byt (F.set (nl + kk) c) := by
        rw [hFs]
        exact (num9_byt (by omega) (by omega)).append (hbs.append (Byt.append (fourB_byt _) Byt.nil))
      have hread : rdAt 0 (F.set (nl + kk) c) rdFrame = if fourB (sumL 1 b) = fourB (sumL 1 (b.set kk c)) then .ok (b.set kk c) ((num 9 (b.set kk c).length).length + (b.set kk c).length + 4) else .no 122 := by
        unfold rdAt
        rw [if_neg (by omega), hFs]
        have := rdFrame_at (b.set kk c) (fourB (sumL 1 b)) [] (by rw [List.length_set]; omega) rfl
        rw [List.length_set] at this ⊢
        exact this
      have Hread := Lib.hid hread
      clear hcellF hfrF hFs hnl hcbk hx5 hidx hcF hfF hos5 ho5 hread
      go_wp2_with fail
      rw [Hidx.out]
      have hr := Hread.out
      rw [if_neg (by rw [fourB_inj _ _ hsr hsr']; simpa using t2)] at hr
      refine (readFrame_no _ _ 0 _ hFbyt hi6 (by omega) hr).mono ?_
      rintro e w7 ⟨rfl, hx7⟩
      have hcb7 := (hx7.cell (p := ⟨b0, o0 + kk, none⟩) (cell_lt (o := o0 + kk) (u := .int .u8 b[kk]) hcb6)).trans hcb6
      clear hr hi6
      go_wp2_with fail
      go_ret
      exact ⟨rfl, Below.ext hB6 hx7 hB6.size⟩
end Go.Proofs.Ytdjkfjaffhboeaa
