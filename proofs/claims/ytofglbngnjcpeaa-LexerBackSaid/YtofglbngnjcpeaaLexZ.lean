/- The reference's Same, Plain and Number. -/
import Derived.Test.YtofglbngnjcpeaaLexY
import Derived.Test.YtofglbngnjcpeaaLexU
import Derived.Test.YtofglbngnjcpeaaLexG
import Derived.Test.YtofglbngnjcpeaaLexN
namespace Go.Proofs.Ytofglbngnjcpeaa
set_option maxRecDepth 100000
set_option maxHeartbeats 2000000
set_option linter.unusedVariables false
set_option linter.unusedSimpArgs false
open Go.RowKit

theorem sameR (v u : Value) (l m : List Tk) (w : World) (hv : Toks w v l) (hu : Toks w u m) :
    Calls Try.prog 21 #[v, u] w fun e w' => e = .returned (.bool (sameL l m)) ∧ Ext w w' := by
  obtain ⟨a, c, rfl, hc1, hc2⟩ := hv.shape
  obtain ⟨a', c', rfl, hc1', hc2'⟩ := hu.shape
  by_cases hlen : l.length = m.length
  · have hne : ((l.length : Int) != (m.length : Int)) = false := by simp [hlen]
    have Hlen := Lib.hid hlen
    have HV := Lib.hid hv
    have HU := Lib.hid hu
    clear hlen hv hu
    go_enter Try.func21, Try.ntmps21
    go_wp2_with fail
    go_loopg [14] l.length (fun g i wr => ∃ k : Nat, k ≤ l.length ∧ g = l.length - k ∧ i = .int .i64 k ∧ Ext w wr ∧ sameL l m = sameL (l.drop k) (m.drop k))
    case atStart => exact ⟨0, Nat.zero_le _, rfl, rfl, Ext.refl _, rfl⟩
    case round =>
      obtain ⟨k, hk, hg, rfl, hx, hs⟩ := hrel
      have Hg := Lib.hid hg
      have Hs := Lib.hid hs
      clear hg hs
      by_cases hlt : k < l.length
      · have hlt' : k < m.length := by have := Hlen.out; omega
        obtain ⟨b, o, rfl, c0, c1, c2⟩ := (HV.out.ext hx).at_ hlt
        obtain ⟨b', o', rfl, d0, d1, d2⟩ := (HU.out.ext hx).at_ hlt'
        have Hd := Lib.hid (sameL_drop hlt hlt')
        generalize l[k] = x at *
        generalize m[k] = y at *
        obtain ⟨xk, xt, xa⟩ := x
        obtain ⟨yk, yt, ya⟩ := y
        unfold Tk.same at Hd
        dsimp only at *
        have hb1 := cell_lt c0
        have hb2 := cell_lt d0
        have hx5 : Ext w (wr.alloc (.cells #[.int .i64 xk, .string xt, .int .i64 xa] 29)) := (by repeat (first | exact Ext.refl _ | with_reducible refine Ext.alloc_of ?_ _ | with_reducible refine Ext.drewN_of ?_ _ | with_reducible refine Ext.drew_of ?_ | (with_reducible refine Ext.set_of ?_ ?hsz _; case hsz => ((first | exact Nat.le_refl _ | omega | (simp; omega)))) | with_reducible refine Ext.via (by assumption) ?_))
        obtain ⟨p0, p1, p2, _, _, _⟩ := (RowAt.new wr 29 [.int .i64 xk, .string xt, .int .i64 xa]).facts3
        have d0 := ext_cell (Ext.alloc wr (.cells #[.int .i64 xk, .string xt, .int .i64 xa] 29)) d0
        have d1 := ext_cell (Ext.alloc wr (.cells #[.int .i64 xk, .string xt, .int .i64 xa] 29)) d1
        go_upto_region 6 with fail
        generalize wr.alloc (.cells #[.int .i64 xk, .string xt, .int .i64 xa] 29) = w3 at *
        by_cases h1 : xk = yk
        · have e1 : (xk != yk) = false := by simp [h1]
          by_cases h2 : xt = yt
          · have e2 : (xt.toList == yt.toList) = true := str_yes h2
            have HN : Hid (sameL l m = sameL (l.drop (k + 1)) (m.drop (k + 1))) := Lib.hid (by rw [Hs.out, Hd.out, decide_eq_true h1, decide_eq_true h2]; rfl)
            clear h1 h2
            go_quiet (fail)
            go_wp2_with fail
            go_roundg (l.length - (k + 1))
            case measure => have := Hg.out; omega
            case rel => exact ⟨k + 1, by omega, rfl, by go_num, (by repeat (first | exact Ext.refl _ | with_reducible refine Ext.alloc_of ?_ _ | with_reducible refine Ext.drewN_of ?_ _ | with_reducible refine Ext.drew_of ?_ | (with_reducible refine Ext.set_of ?_ ?hsz _; case hsz => ((first | exact Nat.le_refl _ | omega | (simp; omega)))) | with_reducible refine Ext.via (by assumption) ?_)), HN.out⟩
          · have e2 : (xt.toList == yt.toList) = false := str_no h2
            have HN : Hid (sameL l m = false) := Lib.hid (by rw [Hs.out, Hd.out, decide_eq_false h2]; simp)
            clear h1 h2
            go_quiet (fail)
            go_wp2_with fail
            go_ret
            exact ⟨ret_bool HN.out.symm, (by repeat (first | exact Ext.refl _ | with_reducible refine Ext.alloc_of ?_ _ | with_reducible refine Ext.drewN_of ?_ _ | with_reducible refine Ext.drew_of ?_ | (with_reducible refine Ext.set_of ?_ ?hsz _; case hsz => ((first | exact Nat.le_refl _ | omega | (simp; omega)))) | with_reducible refine Ext.via (by assumption) ?_))⟩
        · have e1 : (xk != yk) = true := by simpa using h1
          have HN : Hid (sameL l m = false) := Lib.hid (by rw [Hs.out, Hd.out, decide_eq_false h1]; simp)
          clear h1
          go_quiet (fail)
          go_wp2_with fail
          go_ret
          exact ⟨ret_bool HN.out.symm, (by repeat (first | exact Ext.refl _ | with_reducible refine Ext.alloc_of ?_ _ | with_reducible refine Ext.drewN_of ?_ _ | with_reducible refine Ext.drew_of ?_ | (with_reducible refine Ext.set_of ?_ ?hsz _; case hsz => ((first | exact Nat.le_refl _ | omega | (simp; omega)))) | with_reducible refine Ext.via (by assumption) ?_))⟩
      · have HN : Hid (sameL l m = true) := Lib.hid (by rw [Hs.out, List.drop_eq_nil_of_le (by omega), List.drop_eq_nil_of_le (by have := Hlen.out; omega)]; rfl)
        go_wp2_with fail
        go_ret
        exact ⟨ret_bool HN.out.symm, (by repeat (first | exact Ext.refl _ | with_reducible refine Ext.alloc_of ?_ _ | with_reducible refine Ext.drewN_of ?_ _ | with_reducible refine Ext.drew_of ?_ | (with_reducible refine Ext.set_of ?_ ?hsz _; case hsz => ((first | exact Nat.le_refl _ | omega | (simp; omega)))) | with_reducible refine Ext.via (by assumption) ?_))⟩
  · have hne : ((l.length : Int) != (m.length : Int)) = true := by simp; omega
    have Hf := Lib.hid (sameL_len hlen)
    clear hlen
    go_enter Try.func21, Try.ntmps21
    go_wp2
    go_ret
    exact ⟨ret_bool Hf.out.symm, Ext.refl _⟩

theorem joinT_snoc (l : List Tk) (k : Nat) (hk : k < l.length) : joinT (l.take (k + 1)) = if k = 0 then l[k].stands else joinT (l.take k) ++ 32 :: l[k].stands := by
  unfold joinT
  rw [take_snoc l k hk, List.map_append, List.map_cons, List.map_nil, joinB_snoc]
  by_cases h : k = 0
  · subst h; rw [if_pos (by simp), if_pos rfl]
  · rw [if_neg (fun e => by have := congrArg List.length e; rw [List.length_map, List.length_take] at this; simp only [List.length_nil] at this; omega), if_neg h]
theorem joinT_len (l : List Tk) (ht : ∀ t ∈ l, t.text.size ≤ 1000) : (joinT l).length ≤ l.length * 1004 := by
  unfold joinT
  have := joinB_len (l.map Tk.stands) 1003 (fun x hx => by obtain ⟨t, htm, rfl⟩ := List.mem_map.1 hx; exact stands_size (ht t htm))
  rwa [List.length_map] at this
theorem txt_append (a b : List UInt8) : txt (a ++ b) = txt a ++ txt b := bts_inj (by rw [bts_txt, bts_append, bts_txt, bts_txt])
theorem plainR (v : Value) (l : List Tk) (w : World) (hv : Toks w v l) (hn : l.length ≤ 1000) (ht : ∀ t ∈ l, t.text.size ≤ 1000) :
    Calls Try.prog 20 #[v] w fun e w' => e = .returned (.string (txt (joinT l))) ∧ Ext w w' := by
  obtain ⟨a, c, rfl, hc1, hc2⟩ := hv.shape
  have HV := Lib.hid hv
  have HT := Lib.hid ht
  clear hv ht
  go_enter Try.func20, Try.ntmps20
  go_wp2_with fail
  go_loopg [3, 8] l.length (fun g v i wr => ∃ k : Nat, k ≤ l.length ∧ g = l.length - k ∧ i = .int .i64 k ∧ v = .string (txt (joinT (l.take k))) ∧ Ext w wr)
  case atStart => exact ⟨0, Nat.zero_le _, rfl, rfl, rfl, Ext.refl _⟩
  case round =>
    obtain ⟨k, hk, hg, rfl, rfl, hx⟩ := hrel
    have Hg := Lib.hid hg
    clear hg
    by_cases hlt : k < l.length
    · obtain ⟨b, o, rfl, c0, c1, c2⟩ := (HV.out.ext hx).at_ hlt
      have hbl := cell_lt c0
      have hts := HT.out _ (List.getElem_mem hlt)
      have hjn := joinT_snoc l k hlt
      have hjl := joinT_len (l.take k) (fun t htm => HT.out t (List.mem_of_mem_take htm))
      have hkl : (l.take k).length ≤ 1000 := by rw [List.length_take]; omega
      have hjs : (txt (joinT (l.take k))).size ≤ 1004000 := by rw [txt_size]; exact Nat.le_trans hjl (Nat.le_trans (Nat.mul_le_mul_right _ hkl) (by decide))
      obtain ⟨t, hte⟩ : ∃ t, t = l[k] := ⟨_, rfl⟩
      rw [← hte] at c0 c1 c2 hts hjn
      clear hte hkl hjl
      have hsz := stands_size hts
      have hss : (txt t.stands).size ≤ 1003 := by rw [txt_size]; exact hsz
      have hst := fun w => refStands_any t w (by omega)
      have Hjn := Lib.hid hjn
      generalize hsd : t.stands = sd at *
      obtain ⟨tk, tt, ta⟩ := t
      unfold tkV at hst
      dsimp only at *
      have HS := Lib.hid hst
      generalize hJ : txt (joinT (l.take k)) = J at *
      have HJ := Lib.hid hJ
      clear hst hjn hsd hJ
      by_cases h0 : k = 0
      · have d0 : decide ((k : Int) > 0) = false := by simp; omega
        have hk0 : ¬ (0 : Int) < (k : Int) := by omega
        have HF : Hid (joinT (l.take (k + 1)) = sd) := Lib.hid (by rw [Hjn.out, if_pos h0])
        have HJ0 : Hid (J ++ txt sd = txt (joinT (l.take (k + 1)))) := Lib.hid (by
          rw [HF.out, ← HJ.out, h0]
          show txt [] ++ txt sd = txt sd
          rw [← txt_append]; rfl)
        clear h0
        go_wp2_with fail
        refine (HS.out _).mono ?_
        rintro e w2 ⟨rfl, hx2⟩
        go_wp2_with fail
        go_roundg (l.length - (k + 1))
        case measure => have := Hg.out; omega
        case rel => exact ⟨k + 1, by omega, rfl, by go_num, by rw [HJ0.out], (by repeat (first | exact Ext.refl _ | with_reducible refine Ext.alloc_of ?_ _ | with_reducible refine Ext.drewN_of ?_ _ | with_reducible refine Ext.drew_of ?_ | (with_reducible refine Ext.set_of ?_ ?hsz _; case hsz => ((first | exact Nat.le_refl _ | omega | (simp; omega)))) | with_reducible refine Ext.via (by assumption) ?_))⟩
      · have hk0 : (0 : Int) < (k : Int) := by omega
        have HJ0 : Hid (J ++ ⟨#[32]⟩ ++ txt sd = txt (joinT (l.take (k + 1)))) := Lib.hid (by
          rw [Hjn.out, if_neg h0, ← HJ.out, show (32 :: sd) = [32] ++ sd from rfl, ← List.append_assoc, txt_append, txt_append]; rfl)
        clear h0
        go_wp2_with fail
        refine (HS.out _).mono ?_
        rintro e w2 ⟨rfl, hx2⟩
        go_wp2_with fail
        go_roundg (l.length - (k + 1))
        case measure => have := Hg.out; omega
        case rel => exact ⟨k + 1, by omega, rfl, by go_num, by rw [HJ0.out], (by repeat (first | exact Ext.refl _ | with_reducible refine Ext.alloc_of ?_ _ | with_reducible refine Ext.drewN_of ?_ _ | with_reducible refine Ext.drew_of ?_ | (with_reducible refine Ext.set_of ?_ ?hsz _; case hsz => ((first | exact Nat.le_refl _ | omega | (simp; omega)))) | with_reducible refine Ext.via (by assumption) ?_))⟩
    · have HF : Hid (txt (joinT (l.take k)) = txt (joinT l)) := Lib.hid (by rw [List.take_of_length_le (by omega)])
      go_wp2_with fail
      go_ret
      exact ⟨by first | rfl | (rw [HF.out]; rfl), (by repeat (first | exact Ext.refl _ | with_reducible refine Ext.alloc_of ?_ _ | with_reducible refine Ext.drewN_of ?_ _ | with_reducible refine Ext.drew_of ?_ | (with_reducible refine Ext.set_of ?_ ?hsz _; case hsz => ((first | exact Nat.le_refl _ | omega | (simp; omega)))) | with_reducible refine Ext.via (by assumption) ?_))⟩
end Go.Proofs.Ytofglbngnjcpeaa
