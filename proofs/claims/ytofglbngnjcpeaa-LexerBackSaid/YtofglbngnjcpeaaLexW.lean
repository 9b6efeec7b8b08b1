/- The reference's Read. -/
import Derived.Test.YtofglbngnjcpeaaLexV
import Derived.Test.YtofglbngnjcpeaaLexR
namespace Go.Proofs.Ytofglbngnjcpeaa
set_option maxRecDepth 100000
set_option maxHeartbeats 2000000
set_option linter.unusedVariables false
set_option linter.unusedSimpArgs false
open Go.RowKit

theorem begL_kind0 {l : List UInt8} (h : (begL l).2.2 = 0) : (begL l).1 = 0 := by rw [begL_zero h]; rfl
theorem begL_kind1 {l : List UInt8} (h : (begL l).2.2 ≠ 0) : (begL l).1 ≠ 0 := by have := (begL_is (Nat.pos_of_ne_zero h)).kind; omega
theorem skipL_yes {s : ByteArray} {p : Nat} (h : p < s.size) (hb : blankC s[p].toNat = true) : skipL (bts s) p = skipL (bts s) (p + 1) := by
  unfold skipL; rw [spanL_drop_yes h hb]; omega
theorem skipL_no {s : ByteArray} {p : Nat} (h : p < s.size) (hb : blankC s[p].toNat = false) : skipL (bts s) p = p := by
  unfold skipL; rw [spanL_drop_no h hb]; rfl
theorem readF_bad {s : List UInt8} (hs : s.length ≤ 500) {toks : List Tk} {t : Tk} (h : yields s = toks ++ [t]) (hk : ∀ x ∈ toks, x.kind ≠ 0) (h0 : t.kind = 0) : readF s = ([], t.at_, 250) := by
  unfold readF
  rw [if_neg (by omega), h, List.find?_append, List.find?_eq_none.2 (fun x hx => by simpa using hk x hx)]
  simp [h0]
theorem readF_good {s : List UInt8} (hs : s.length ≤ 500) (hk : ∀ x ∈ yields s, x.kind ≠ 0) : readF s = (yields s, ((s.length : Nat) : Int), 0) := by
  unfold readF
  rw [if_neg (by omega), List.find?_eq_none.2 (fun x hx => by simpa using hk x hx)]

theorem refRead_any (s : ByteArray) (w : World) (hs : s.size ≤ 9223372036854775807) :
    Calls Try.prog 9 #[.string s] w (ReadPost w (readF (bts s))) := by
  by_cases h5 : s.size ≤ 500
  case neg =>
    have hR : readF (bts s) = ([], 500, 3) := by unfold readF; rw [bts_len, if_pos (by omega)]
    rw [hR]
    have hlt : (500 : Int) < (s.size : Int) := by omega
    clear h5 hR
    go_enter Try.func9, Try.ntmps9
    go_wp2_with fail
    go_ret3
    exact ⟨_, rfl, World.ownsRow_nil _ _ _ _, Ext.refl _⟩
  have h5' : (bts s).length ≤ 500 := by rw [bts_len]; exact h5
  have H5 := Lib.hid h5'
  have hyl := yields_len (bts s)
  rw [bts_len] at hyl
  have hRg := fun hk => readF_good h5' hk
  have hRb := fun toks t h hk h0 => readF_bad (toks := toks) (t := t) h5' h hk h0
  rw [bts_len] at hRg
  have HRg := Lib.hid hRg
  have HRb := Lib.hid hRb
  generalize readF (bts s) = R at *
  clear h5' hRg hRb
  go_enter Try.func9, Try.ntmps9
  go_wp2_with fail
  go_loopg [5, 6] s.size (fun g v at_ wr => ∃ (p : Nat) (toks : List Tk), p ≤ s.size ∧ g = s.size - p ∧ at_ = .int .i64 p ∧ yields (bts s) = toks ++ yieldsAt (bts s) (skipL (bts s) p) ∧ (∀ x ∈ toks, x.kind ≠ 0) ∧
    wr.ownsRow w.heap.size 29 3 v toks.length (toks.flatMap tkCells) ∧ Ext w wr)
  case atStart => exact ⟨0, [], Nat.zero_le _, rfl, rfl, rfl, fun x hx => by simp at hx, World.ownsRow_nil _ _ _ _, Ext.refl _⟩
  case round =>
    obtain ⟨p, toks, hp, hg, rfl, hy, hk, ho, hx⟩ := hrel
    have hyl2 : toks.length ≤ s.size := by have := congrArg List.length hy; simp at this; omega
    have Hg := Lib.hid hg
    have HY := Lib.hid hy
    have HK := Lib.hid hk
    have HO := Lib.hid ho
    clear hg hy hk ho
    by_cases hlt : p < s.size
    · have hb256 : s[p].toNat < 256 := s[p].toNat_lt
      by_cases hbl : s[p].toNat = 32 ∨ s[p].toNat = 10
      · have HS := Lib.hid (skipL_yes hlt (show blankC s[p].toNat = true from decide_eq_true (by omega)))
        rcases hbl with hbl | hbl
        · have d1 : ((s[p].toNat : Int) == 32) = true := by simp; omega
          clear hbl
          go_wp2_with fail
          go_roundg (s.size - (p + 1))
          case measure => have := Hg.out; omega
          case rel => exact ⟨p + 1, toks, by omega, rfl, by go_num, by rw [← HS.out]; exact HY.out, HK.out, HO.out, hx⟩
        · have d1 : ((s[p].toNat : Int) == 32) = false := by simp; omega
          have d2 : ((s[p].toNat : Int) == 10) = true := by simp; omega
          clear hbl
          go_wp2_with fail
          go_roundg (s.size - (p + 1))
          case measure => have := Hg.out; omega
          case rel => exact ⟨p + 1, toks, by omega, rfl, by go_num, by rw [← HS.out]; exact HY.out, HK.out, HO.out, hx⟩
      · have HS := Lib.hid (skipL_no hlt (show blankC s[p].toNat = false from decide_eq_false (by omega)))
        have d1 : ((s[p].toNat : Int) == 32) = false := by simp; omega
        have d2 : ((s[p].toNat : Int) == 10) = false := by simp; omega
        clear hbl
        have hbd := bts_drop s p hlt
        have hbe := refBegin_any (s.extract p s.size)
        have hlen := begL_le ((bts s).drop p)
        rw [List.length_drop, bts_len] at hlen
        rw [bts_extract, List.take_of_length_le (by rw [List.length_drop, bts_len]; exact Nat.le_refl _), begR_eq _ (by rw [hbd]; simp)] at hbe
        have hes : (s.extract p s.size).size ≤ 1000000 := by simp; omega
        have HBe := Lib.hid (fun w h => hbe w h _ _ hbd)
        have hplen : p < (bts s).length := by rw [bts_len]; exact hlt
        have hY0 : (begL ((bts s).drop p)).2.2 = 0 → R = ([], (p : Int), 250) := fun h0 => by
          have h := HY.out
          rw [HS.out, yieldsAt_bad hplen h0] at h
          exact HRb.out _ _ h HK.out (begL_kind0 h0)
        have hY1 : (begL ((bts s).drop p)).2.2 ≠ 0 → yields (bts s) = (toks ++ [tkAt (bts s) p]) ++ yieldsAt (bts s) (skipL (bts s) (p + (begL ((bts s).drop p)).2.2)) ∧ ∀ x ∈ toks ++ [tkAt (bts s) p], x.kind ≠ 0 := fun h0 => by
          have h := HY.out
          rw [HS.out, yieldsAt_more hplen h0] at h
          refine ⟨by rw [h]; simp, fun x hx => ?_⟩
          rcases List.mem_append.1 hx with hx | hx
          · exact HK.out x hx
          · simp at hx; subst hx; exact begL_kind1 h0
        have HY0 := Lib.hid hY0
        have HY1 := Lib.hid hY1
        unfold tkAt begV tokV at *
        generalize begL ((bts s).drop p) = r at *
        obtain ⟨rk, rt, rn⟩ := r
        dsimp only at *
        clear hY0 hY1 hbe hbd hplen
        go_wp2_with fail
        refine (HBe.out _ hes).mono ?_
        rintro e w2 ⟨rfl, hx2⟩
        by_cases h0 : rn = 0
        · have HF := Lib.hid (HY0.out h0)
          subst h0
          go_wp2_with fail
          go_ret3
          rw [HF.out]
          exact ⟨_, rfl, World.ownsRow_nil _ _ _ _, (by repeat (first | exact Ext.refl _ | with_reducible refine Ext.alloc_of ?_ _ | with_reducible refine Ext.drewN_of ?_ _ | with_reducible refine Ext.drew_of ?_ | (with_reducible refine Ext.set_of ?_ ?hsz _; case hsz => ((first | exact Nat.le_refl _ | omega | (simp; omega)))) | with_reducible refine Ext.via (by assumption) ?_))⟩
        · have d0 : ((rn : Int) == 0) = false := by simp; omega
          have HF := Lib.hid (HY1.out h0)
          have hpos : 0 < rn := by omega
          clear h0
          have ho2 := own_ext (own_ext HO.out hx2) (Ext.alloc w2 (.cells #[.int .i64 rk, .string (txt rt), .int .i64 p] 29))
          have hBx : Ext w (w2.alloc (.cells #[.int .i64 rk, .string (txt rt), .int .i64 p] 29)) := (by repeat (first | exact Ext.refl _ | with_reducible refine Ext.alloc_of ?_ _ | with_reducible refine Ext.drewN_of ?_ _ | with_reducible refine Ext.drew_of ?_ | (with_reducible refine Ext.set_of ?_ ?hsz _; case hsz => ((first | exact Nat.le_refl _ | omega | (simp; omega)))) | with_reducible refine Ext.via (by assumption) ?_))
          obtain ⟨b0, b1, b2, e0, e1, e2⟩ := (RowAt.new w2 29 [.int .i64 rk, .string (txt rt), .int .i64 p]).facts3
          go_upto_region 12 with fail
          generalize w2.alloc (.cells #[.int .i64 rk, .string (txt rt), .int .i64 p] 29) = w3 at *
          go_wp2_with (at_builtin; refine wpList_append_sl _ rfl _ _ 23 rfl elTok rfl (own_ext ho2 (Ext.alloc _ _)) rfl (Sl.new _ _ _ 1 1 (Nat.le_refl _) ?_) rfl ?_ ?_ ?_ ?_ ?_)
          · unfold maxLen; omega
          · exact ⟨rfl, rfl, rfl⟩
          · omega
          · unfold maxLen; omega
          · have := hBx.size; simp; omega
          intro v4 w4 hown4 hB4 _ _
          have hfl : (toks ++ [(⟨rk, txt rt, (p : Int)⟩ : Tk)]).flatMap tkCells = toks.flatMap tkCells ++ #[Value.int .i64 rk, .string (txt rt), .int .i64 p].toList := by rw [List.flatMap_append]; rfl
          have HO4 := Lib.hid hown4
          have HX4 : Hid (Ext w w4) := Lib.hid ((below_step hBx (Ext.alloc _ _)).trans hB4)
          have Hfl := Lib.hid hfl
          clear hown4 hB4 ho2 hfl
          go_wp2_with fail
          go_roundg (s.size - (p + rn))
          case measure => have := Hg.out; omega
          case rel => exact ⟨p + rn, toks ++ [⟨rk, txt rt, p⟩], by omega, rfl, by go_num, HF.out.1, HF.out.2, by rw [Hfl.out, List.length_append]; exact HO4.out, HX4.out⟩
    · obtain rfl : p = s.size := by omega
      have hyy := HY.out
      rw [yieldsAt_end (by rw [bts_len]; exact skipL_ge _ _), List.append_nil] at hyy
      have HF : Hid (R = (toks, ((s.size : Nat) : Int), 0)) := Lib.hid (by rw [HRg.out (by rw [hyy]; exact HK.out), hyy])
      clear hyy
      go_wp2_with fail
      go_ret3
      rw [HF.out]
      exact ⟨_, rfl, HO.out, hx⟩
end Go.Proofs.Ytofglbngnjcpeaa
