/- The reference's Same, Plain and Number. -/
import Derived.Test.YtngnplghjaojhaaLexX5
import Derived.Test.YtngnplghjaojhaaLexX4
import Derived.Test.YtngnplghjaojhaaLexX3
import Derived.Test.YtngnplghjaojhaaLexX2
namespace Go.Proofs.Ytngnplghjaojhaa
set_option maxRecDepth 100000
set_option maxHeartbeats 2000000
set_option linter.unusedVariables false
set_option linter.unusedSimpArgs false
open Go.RowKit

theorem joinT_snoc (l : List Tk) (k : Nat) (hk : k < l.length) : joinT (l.take (k + 1)) = if k = 0 then l[k].stands else joinT (l.take k) ++ 32 :: l[k].stands := by
  unfold joinT
  rw [take_snoc l k hk, List.map_append, List.map_cons, List.map_nil, joinB_snoc]
  by_cases h : k = 0
  · subst h; rw [if_pos (by simp), if_pos rfl]
  · rw [if_neg (fun e => by have := congrArg List.length e; rw [List.length_map, List.length_take] at this; simp only [List.length_nil] at this; omega), if_neg h]
theorem joinT_len (l : List Tk) (ht : ∀ t ∈ l, t.text.size ≤ 1000) : (joinT l).length ≤ l.length * 1004 := by
  unfold joinT
  have := joinB_len (l.map Tk.stands) 1003 (fun x hx => by obtain ⟨t, htm, rfl⟩ := List.mem_map.1 hx; exact stands_size (ht t htm))
  rwa [List.length_map] at this
theorem txt_append (a b : List UInt8) : txt (a ++ b) = txt a ++ txt b := bts_inj (by rw [bts_txt, bts_append, bts_txt, bts_txt])
end Go.Proofs.Ytngnplghjaojhaa

/- The reference's Number. -/
namespace Go.Proofs.Ytngnplghjaojhaa
set_option maxRecDepth 100000
set_option maxHeartbeats 2000000
set_option linter.unusedVariables false
set_option linter.unusedSimpArgs false
open Go.RowKit

def numD : Int → List UInt8 → Option Int
  | n, [] => some n
  | n, c :: l => if 48 ≤ c.toNat ∧ c.toNat ≤ 57 then numD (10 * n + (c.toNat - 48 : Nat)) l else none
theorem numD_no {n : Int} {c : UInt8} {l : List UInt8} (h : ¬ (48 ≤ c.toNat ∧ c.toNat ≤ 57)) : numD n (c :: l) = none := by unfold numD; rw [if_neg h]
theorem numD_yes {n : Int} {c : UInt8} {l : List UInt8} (h : 48 ≤ c.toNat ∧ c.toNat ≤ 57) : numD n (c :: l) = numD (10 * n + (c.toNat - 48 : Nat)) l := by
  show (if 48 ≤ c.toNat ∧ c.toNat ≤ 57 then _ else _) = _
  rw [if_pos h]
def capD (r : Option Int) : Int := match r with | some n => if 2147483647 < n then -1 else n | none => -1
def numR (k : Int) (l : List UInt8) : Int := if k ≠ 1 ∨ l = [] ∨ 10 < l.length ∨ 1 < l.length ∧ l.head? = some 48 then -1 else capD (numD 0 l)

theorem pow10 (k : Nat) (h : k ≤ 10) : (10 : Int) ^ k ≤ 10000000000 := by
  have : k = 0 ∨ k = 1 ∨ k = 2 ∨ k = 3 ∨ k = 4 ∨ k = 5 ∨ k = 6 ∨ k = 7 ∨ k = 8 ∨ k = 9 ∨ k = 10 := by omega
  rcases this with rfl | rfl | rfl | rfl | rfl | rfl | rfl | rfl | rfl | rfl | rfl <;> decide
theorem refNum_go (t : Tk) (w : World) (h1 : t.kind = 1) (h2 : t.text.toList.isEmpty = false) (h10 : t.text.size ≤ 10) (h3 : t.text.size ≤ 1 ∨ 1 < t.text.size ∧ ∃ h0 : 0 < t.text.size, ((t.text[0].toNat : Int) == 48) = false) :
    Calls Try.prog 86 #[tkV t] w fun e w' => e = .returned (.int .i64 (capD (numD 0 (bts t.text)))) ∧ Ext w w' := by
  obtain ⟨tk, tt, ta⟩ := t
  unfold tkV
  dsimp only at *
  subst h1
  have hr := RowAt.new w 39 [.int .i64 1, .string tt, .int .i64 ta]
  have hst := Lib.hid (show numD 0 (bts tt) = numD 0 ((bts tt).drop 0) by rw [List.drop_zero])
  rcases h3 with h3 | ⟨hs1, h0, h3⟩
  all_goals
    go_enter Try.func86, Try.ntmps86
    go_upto_region 1 with fail
    have hx0 := Ext.alloc w (.cells #[.int .i64 1, .string tt, .int .i64 ta] 39)
    generalize w.alloc (.cells #[.int .i64 1, .string tt, .int .i64 ta] 39) = w1 at *
    obtain ⟨c0, c1, c2, f0, f1, f2⟩ := hr.facts3
    clear hr
    go_wp2_with fail
    clear h3
    go_loop [3, 34] (fun v i => ∃ (k : Nat) (n : Int), k ≤ tt.size ∧ i = .int .i64 k ∧ v = .int .i64 n ∧ 0 ≤ n ∧ n < 10 ^ k ∧ numD 0 (bts tt) = numD n ((bts tt).drop k)) (fun _ i => tt.size - (intOf i).toNat)
    case atStart => exact ⟨0, 0, Nat.zero_le _, rfl, rfl, by omega, by decide, hst.out⟩
    case round =>
      obtain ⟨k, n, hk, rfl, rfl, hn0, hn1, hs⟩ := hrel
      have hp := pow10 k (by omega)
      have hn2 : n < 10000000000 := by omega
      have Hs := Lib.hid hs
      have Hn1 := Lib.hid hn1
      clear hs hn1 hp
      by_cases hlt : k < tt.size
      · have hb := bts_drop tt k hlt
        have hb256 : tt[k].toNat < 256 := tt[k].toNat_lt
        have Hb := Lib.hid hb
        clear hb
        by_cases hA : tt[k].toNat < 48
        · have HF : Hid (numD 0 (bts tt) = none) := Lib.hid (by rw [Hs.out, Hb.out, numD_no (by omega)])
          go_wp2_with fail
          go_ret
          exact ⟨by rw [HF.out]; rfl, hx0⟩
        by_cases hB : 57 < tt[k].toNat
        · have HF : Hid (numD 0 (bts tt) = none) := Lib.hid (by rw [Hs.out, Hb.out, numD_no (by omega)])
          go_wp2_with fail
          go_ret
          exact ⟨by rw [HF.out]; rfl, hx0⟩
        have hA' : 48 ≤ tt[k].toNat := by omega
        have hB' : tt[k].toNat ≤ 57 := by omega
        have HF : Hid (numD 0 (bts tt) = numD (10 * n + ((tt[k].toNat : Int) - 48)) ((bts tt).drop (k + 1))) := Lib.hid (by rw [Hs.out, Hb.out, numD_yes ⟨hA', hB'⟩]; congr 1; omega)
        clear hA hB
        go_wp2_with fail
        go_round
        case rel => exact ⟨k + 1, 10 * n + ((tt[k].toNat : Int) - 48), by omega, by go_num, rfl, by omega, by have := Hn1.out; rw [Int.pow_succ]; omega, HF.out⟩
        case measure => simp [intOf]; omega
      · have HF : Hid (numD 0 (bts tt) = some n) := Lib.hid (by rw [Hs.out, List.drop_eq_nil_of_le (by rw [bts_len]; omega)]; rfl)
        by_cases hbig : 2147483647 < n
        · go_wp2_with fail
          go_ret
          exact ⟨by rw [HF.out]; show _ = Ending.returned (.int .i64 (if 2147483647 < n then -1 else n)); rw [if_pos (by omega)]; rfl, hx0⟩
        · go_wp2_with fail
          go_ret
          exact ⟨by rw [HF.out]; show _ = Ending.returned (.int .i64 (if 2147483647 < n then -1 else n)); rw [if_neg (by omega)]; rfl, hx0⟩
theorem refNum_stop (t : Tk) (w : World) (h : (t.kind != 1) = true ∨ (t.kind != 1) = false ∧ t.text.toList.isEmpty = true ∨ (t.kind != 1) = false ∧ t.text.toList.isEmpty = false ∧ 10 < (t.text.size : Int) ∨ (t.kind != 1) = false ∧ t.text.toList.isEmpty = false ∧ (t.text.size : Int) ≤ 10 ∧ 1 < (t.text.size : Int) ∧ ∃ h0 : 0 < t.text.size, ((t.text[0].toNat : Int) == 48) = true) :
    Calls Try.prog 86 #[tkV t] w fun e w' => e = .returned (.int .i64 (-1)) ∧ Ext w w' := by
  obtain ⟨tk, tt, ta⟩ := t
  unfold tkV
  dsimp only at *
  rcases h with h | ⟨h, h'⟩ | ⟨h, h', h''⟩ | ⟨h, h', h'', h1, h0, h2⟩
  all_goals
    go_enter Try.func86, Try.ntmps86
    go_wp2_with fail
    go_ret
    exact ⟨rfl, (by repeat (first | exact Ext.refl _ | with_reducible assumption | with_reducible refine Ext.alloc_of ?_ _ | with_reducible refine Ext.drewN_of ?_ _ | with_reducible refine Ext.drew_of ?_ | (with_reducible refine Ext.set_of ?_ ?hsz _; case hsz => ((first | exact Nat.le_refl _ | omega | (simp; omega)))) | with_reducible refine Ext.via (by assumption) ?_))⟩
theorem refNum_any (t : Tk) (w : World) : Calls Try.prog 86 #[tkV t] w fun e w' => e = .returned (.int .i64 (numR t.kind (bts t.text))) ∧ Ext w w' := by
  unfold numR
  by_cases h1 : t.kind = 1
  case neg => rw [if_pos (.inl h1)]; exact refNum_stop t w (.inl (by simpa using h1))
  by_cases h2 : bts t.text = []
  · rw [if_pos (.inr (.inl h2))]
    refine refNum_stop t w (.inr (.inl ⟨by simp [h1], ?_⟩))
    rw [ByteArray.toList_eq]; exact List.isEmpty_iff.2 h2
  have he : t.text.toList.isEmpty = false := by rw [ByteArray.toList_eq]; cases hb : t.text.data.toList with | nil => exact absurd hb h2 | cons _ _ => rfl
  have hpos : 0 < t.text.size := by rw [← bts_len]; exact List.length_pos_iff.2 h2
  by_cases h10 : 10 < (bts t.text).length
  · rw [if_pos (.inr (.inr (.inl h10)))]
    rw [bts_len] at h10
    exact refNum_stop t w (.inr (.inr (.inl ⟨by simp [h1], he, by omega⟩)))
  have hb := bts_drop t.text 0 hpos
  rw [List.drop_zero] at hb
  by_cases h3 : 1 < (bts t.text).length ∧ (bts t.text).head? = some 48
  · rw [if_pos (.inr (.inr (.inr h3)))]
    obtain ⟨h4, h5⟩ := h3
    rw [hb] at h5
    have h5 : t.text[0] = 48 := by simpa using h5
    rw [bts_len] at h4 h10
    exact refNum_stop t w (.inr (.inr (.inr ⟨by simp [h1], he, by omega, by omega, hpos, by rw [h5]; rfl⟩)))
  · rw [if_neg (by rintro (h | h | h | h); exact h h1; exact h2 h; exact h10 h; exact h3 h)]
    rw [bts_len] at h10 h3
    refine refNum_go t w h1 he (by omega) ?_
    by_cases hs1 : t.text.size ≤ 1
    · exact .inl hs1
    · refine .inr ⟨by omega, hpos, ?_⟩
      have : t.text[0].toNat ≠ 48 := fun e => h3 ⟨by omega, by rw [hb]; simp; exact UInt8.toNat_inj.1 e⟩
      simp; omega
end Go.Proofs.Ytngnplghjaojhaa

/- What may be, what is a number, and reading on: plain. -/
namespace Go.Proofs.Ytngnplghjaojhaa
set_option maxRecDepth 100000
set_option maxHeartbeats 2000000
set_option linter.unusedSimpArgs false
set_option linter.unusedVariables false

theorem all_span {p : Int → Bool} {l : List UInt8} (h : spanL p l = l.length) : l.take (spanL p l) = l := by rw [h, List.take_of_length_le (Nat.le_refl _)]
/-- A token that may be. -/
inductive TokIs : Int → List UInt8 → Prop
  | word {l : List UInt8} (h : allB letterC 1 32 l = true) : TokIs 1 l
  | key {l : List UInt8} (h : allB letterC 1 32 l = true) : TokIs 2 l
  | text {l : List UInt8} (h : allB quotedC 0 40 l = true) : TokIs 3 l
  | sign {k : Int} {x : List UInt8} (h : (k, x) ∈ signs) : TokIs k []
theorem TokIs.of_right {k : Int} {l : List UInt8} {a : Int} (h : rightB k l a = true) : TokIs k l ∧ 0 ≤ a := by
  unfold rightB at h
  by_cases ha : a < 0
  · rw [if_pos ha] at h; cases h
  rw [if_neg ha] at h
  by_cases h1 : k = 1 ∨ k = 2
  · rw [if_pos h1] at h
    rcases h1 with rfl | rfl
    · exact ⟨.word h, by omega⟩
    · exact ⟨.key h, by omega⟩
  rw [if_neg h1] at h
  by_cases h3 : k = 3
  · rw [if_pos h3] at h; subst h3; exact ⟨.text h, by omega⟩
  rw [if_neg h3] at h
  obtain ⟨h4, h5, rfl⟩ := of_decide_eq_true h
  obtain ⟨x, hx, _⟩ := sign_in h4 h5
  exact ⟨.sign hx, by omega⟩
theorem TokIs.right {k : Int} {l : List UInt8} {a : Int} (h : TokIs k l) (ha : 0 ≤ a) : rightB k l a = true := by
  unfold rightB
  rw [if_neg (by omega)]
  cases h with
  | word h => rw [if_pos (.inl rfl)]; exact h
  | key h => rw [if_pos (.inr rfl)]; exact h
  | text h => rw [if_neg (by omega), if_pos rfl]; exact h
  | sign h =>
    have hk : ∀ x ∈ signs, 4 ≤ x.1 ∧ x.1 ≤ 11 := by decide
    have hk := hk _ h
    dsimp only at hk
    rw [if_neg (by omega), if_neg (by omega)]
    exact decide_eq_true ⟨hk.1, hk.2, rfl⟩
/-- What stands behind a token: nothing, or a blank. -/
def Stop (r : List UInt8) : Prop := r = [] ∨ ∃ c y, r = c :: y ∧ blankC c.toNat = true
theorem Stop.letter {r : List UInt8} (h : Stop r) : spanL letterC r = 0 := by
  rcases h with rfl | ⟨c, y, rfl, hc⟩
  · rfl
  · have := of_decide_eq_true hc
    exact spanL_no (decide_eq_false (by omega))
theorem TokIs.begins {k : Int} {l : List UInt8} (h : TokIs k l) {r : List UInt8} (hr : Stop r) : BegIs (standsL k l ++ r) k l (standsL k l).length := by
  cases h with
  | word h =>
    obtain ⟨h1, h2, h3⟩ := allB_iff.1 h
    have e := all_prefix (b := r) h1
    rw [hr.letter, Nat.add_zero] at e
    have := BegIs.word (l := l ++ r) (by omega) (by omega)
    rw [e, List.take_left] at this
    exact this
  | key h =>
    obtain ⟨h1, h2, h3⟩ := allB_iff.1 h
    have e := all_prefix (b := r) h1
    rw [hr.letter, Nat.add_zero] at e
    have := BegIs.key (r := l ++ r) (by omega) (by omega)
    rw [e, List.take_left] at this
    exact this
  | text h =>
    obtain ⟨h1, h2, h3⟩ := allB_iff.1 h
    have e := all_prefix (b := 34 :: r) h1
    rw [spanL_no (by decide), Nat.add_zero] at e
    have := BegIs.text (r := l ++ 34 :: r) (by omega) (by rw [e, List.getElem?_append_right (Nat.le_refl _), Nat.sub_self]; rfl)
    rw [e, List.take_left] at this
    have e2 : standsL 3 l ++ r = 34 :: (l ++ 34 :: r) := by
      show (34 :: (l ++ [34])) ++ r = _
      simp
    rw [e2]
    have e3 : (standsL 3 l).length = l.length + 2 := by
      show (34 :: (l ++ [34])).length = _
      simp
    rw [e3]; exact this
  | sign h => rw [standsL_sign h]; exact .sign h
theorem BegIs.tok {s : List UInt8} {k : Int} {l : List UInt8} {n : Nat} (h : BegIs s k l n) : TokIs k l := by
  cases h with
  | word h1 h2 =>
    have := spanL_le letterC s
    exact .word (allB_iff.2 ⟨by rw [spanL_take, List.length_take]; omega, by rw [List.length_take]; omega, by rw [List.length_take]; omega⟩)
  | @key r h1 h2 =>
    have := spanL_le letterC r
    exact .key (allB_iff.2 ⟨by rw [spanL_take, List.length_take]; omega, by rw [List.length_take]; omega, by rw [List.length_take]; omega⟩)
  | @text r h1 h2 =>
    have := spanL_le quotedC r
    exact .text (allB_iff.2 ⟨by rw [spanL_take, List.length_take]; omega, by rw [List.length_take]; omega, by rw [List.length_take]; omega⟩)
  | sign h => exact .sign h
theorem checkB_iff {k : Int} {l : List UInt8} {a : Int} : checkB k l a = true ↔ TokIs k l ∧ 0 ≤ a := by
  unfold checkB
  constructor
  · intro h
    simp only [Bool.and_eq_true, decide_eq_true_eq] at h
    obtain ⟨⟨⟨⟨h1, h2⟩, h3⟩, h4⟩, h5⟩ := h
    have := (begL_is (Nat.pos_of_ne_zero h1)).tok
    rw [h3, h4] at this
    exact ⟨this, h5⟩
  · rintro ⟨h, ha⟩
    have hb := h.begins (r := []) (.inl rfl)
    rw [List.append_nil] at hb
    have hp := hb.pos
    rw [begL_of hb]
    simp [ha]
    intro h0; rw [h0] at hp; simp at hp
theorem right_check (k : Int) (l : List UInt8) (a : Int) : rightB k l a = checkB k l a := by
  rw [Bool.eq_iff_iff, checkB_iff]
  exact ⟨TokIs.of_right, fun h => h.1.right h.2⟩

/-! Numbers. -/
theorem numL_numD (l : List UInt8) : ∀ n : Int, 0 ≤ n → n < 2147483648 → numL n l = match numD n l with | some m => if 2147483647 < m then none else some m | none => none := by
  induction l with
  | nil => intro n h0 h1; show some n = if 2147483647 < n then none else some n; rw [if_neg (by omega)]
  | cons c l ih =>
    intro n h0 h1
    by_cases hd : 48 ≤ c.toNat ∧ c.toNat ≤ 57
    · rw [numD_yes hd]
      by_cases hb : 10 * n + (c.toNat - 48 : Nat) < 2147483648
      · rw [numL_yes ⟨hd.1, hd.2, hb⟩, ih _ (by omega) hb]
      · rw [numL_no (fun h => hb h.2.2)]
        have hgrow : ∀ (l : List UInt8) (m : Int), 2147483648 ≤ m → ∀ x, numD m l = some x → 2147483648 ≤ x := fun l => by
          induction l with
          | nil => intro m hm x hx; cases hx; exact hm
          | cons c l ih =>
            intro m hm x hx
            by_cases hd : 48 ≤ c.toNat ∧ c.toNat ≤ 57
            · rw [numD_yes hd] at hx; exact ih _ (by omega) x hx
            · rw [numD_no hd] at hx; cases hx
        cases hx : numD (10 * n + (c.toNat - 48 : Nat)) l with
        | none => rfl
        | some x =>
          have := hgrow l _ (by omega) x hx
          show none = if 2147483647 < x then none else some x
          rw [if_pos (by omega)]
    · rw [numD_no hd, numL_no (fun h => hd ⟨h.1, h.2.1⟩)]
theorem numD_long (l : List UInt8) : ∀ (n : Int), 0 ≤ n → ∀ x, numD n l = some x → n * 10 ^ l.length ≤ x := by
  induction l with
  | nil => intro n h0 x hx; cases hx; simp
  | cons c l ih =>
    intro n h0 x hx
    by_cases hd : 48 ≤ c.toNat ∧ c.toNat ≤ 57
    · rw [numD_yes hd] at hx
      have := ih _ (by omega) x hx
      refine Int.le_trans ?_ this
      rw [List.length_cons, Int.pow_succ, Int.mul_comm (10 ^ l.length) 10, ← Int.mul_assoc]
      exact Int.mul_le_mul_of_nonneg_right (by omega) (Int.pow_nonneg (by omega))
    · rw [numD_no hd] at hx; cases hx
theorem number_ref (k : Int) (l : List UInt8) : numR k l = match numberF k l with | some n => n | none => -1 := by
  by_cases h1 : k = 1
  case neg =>
    have e1 : numberF k l = none := by unfold numberF; rw [if_pos (.inl h1)]
    rw [e1]; unfold numR; rw [if_pos (.inl h1)]
  by_cases h2 : l = []
  · have e1 : numberF k l = none := by unfold numberF; rw [if_pos (.inr (.inl h2))]
    rw [e1]; unfold numR; rw [if_pos (.inr (.inl h2))]
  have hcap : ∀ l : List UInt8, (match numL 0 l with | some n => n | none => -1) = capD (numD 0 l) := fun l => by
    rw [numL_numD l 0 (by omega) (by omega)]
    cases numD 0 l with
    | none => rfl
    | some x =>
      unfold capD
      dsimp only
      by_cases h : 2147483647 < x
      · rw [if_pos h, if_pos h]
      · rw [if_neg h, if_neg h]
  by_cases h3 : l.head? = some 48 ∧ l ≠ [48]
  · have e1 : numberF k l = none := by unfold numberF; rw [if_pos (.inr (.inr h3))]
    rw [e1]
    cases l with
    | nil => exact absurd rfl h2
    | cons c r =>
      cases r with
      | nil => obtain ⟨a, b⟩ := h3; simp at a; subst a; exact absurd rfl b
      | cons d r => unfold numR; rw [if_pos (.inr (.inr (.inr ⟨by simp, h3.1⟩)))]
  · have e1 : numberF k l = numL 0 l := by unfold numberF; rw [if_neg (by rintro (h | h | h); exact h h1; exact h2 h; exact h3 h)]
    rw [e1, hcap]
    by_cases h10 : 10 < l.length
    · unfold numR
      rw [if_pos (.inr (.inr (.inl h10)))]
      cases l with
      | nil => exact absurd rfl h2
      | cons c r =>
        have hc48 : c.toNat ≠ 48 := fun e => by
          refine h3 ⟨by simp; exact UInt8.toNat_inj.1 e, fun e' => ?_⟩
          rw [e'] at h10; simp at h10
        unfold capD
        by_cases hd : 48 ≤ c.toNat ∧ c.toNat ≤ 57
        · rw [numD_yes hd]
          cases hx : numD (10 * 0 + (c.toNat - 48 : Nat)) r with
          | none => rfl
          | some x =>
            have h4 := numD_long r _ (by omega) x hx
            have h5 : (10000000000 : Int) ≤ 10 ^ r.length := by
              have : 10 ≤ r.length := by simp at h10; omega
              have h6 : (10 : Int) ^ r.length = 10 ^ 10 * 10 ^ (r.length - 10) := by rw [← Int.pow_add]; congr 1; omega
              have h7 : (0 : Int) < 10 ^ (r.length - 10) := Int.pow_pos (by omega)
              rw [h6]; show 10000000000 ≤ 10000000000 * _; omega
            have h8 : 1 * 10 ^ r.length ≤ (10 * 0 + (c.toNat - 48 : Nat) : Int) * 10 ^ r.length := Int.mul_le_mul_of_nonneg_right (by omega) (by omega)
            dsimp only
            rw [if_pos (by omega)]
        · rw [numD_no hd]
    · unfold numR
      rw [if_neg]
      rintro (h | h | h | h)
      · exact h h1
      · exact h2 h
      · exact h10 h
      · refine h3 ⟨h.2, fun e => ?_⟩
        rw [e] at h; simp at h
end Go.Proofs.Ytngnplghjaojhaa

/- Reading what was laid: plain. -/
namespace Go.Proofs.Ytngnplghjaojhaa
set_option maxRecDepth 100000
set_option maxHeartbeats 2000000
set_option linter.unusedSimpArgs false
set_option linter.unusedVariables false

theorem TokIs.head {k : Int} {l : List UInt8} (h : TokIs k l) : ∃ c y, standsL k l = c :: y ∧ blankC c.toNat = false := by
  cases h with
  | word h =>
    obtain ⟨h1, h2, h3⟩ := allB_iff.1 h
    cases l with
    | nil => simp at h2
    | cons c y =>
      refine ⟨c, y, rfl, ?_⟩
      cases hl : letterC c.toNat with
      | true =>
        have := of_decide_eq_true hl
        exact decide_eq_false (by omega)
      | false => rw [spanL_no hl] at h1; simp at h1
  | key h => exact ⟨64, l, rfl, by decide⟩
  | text h => exact ⟨34, l ++ [34], rfl, by decide⟩
  | sign h =>
    rw [standsL_sign h]
    simp only [signs, List.mem_cons, List.not_mem_nil, or_false, Prod.mk.injEq] at h
    rcases h with ⟨rfl, rfl⟩ | ⟨rfl, rfl⟩ | ⟨rfl, rfl⟩ | ⟨rfl, rfl⟩ | ⟨rfl, rfl⟩ | ⟨rfl, rfl⟩ | ⟨rfl, rfl⟩ | ⟨rfl, rfl⟩ <;> exact ⟨_, _, rfl, by decide⟩
/-- Tokens, one behind the other, blanks between. -/
inductive Laid : List Tk → List UInt8 → Prop
  | nil : Laid [] []
  | cons {t : Tk} {l : List Tk} {sep r : List UInt8} (h : TokIs t.kind (bts t.text)) (hs : ∀ c ∈ sep, blankC c.toNat = true) (hn : sep ≠ [] ∨ r = []) (hl : Laid l r) : Laid (t :: l) (t.stands ++ (sep ++ r))
theorem Laid.start {l : List Tk} {u : List UInt8} (h : Laid l u) : spanL blankC u = 0 := by
  cases h with
  | nil => rfl
  | cons h =>
    obtain ⟨c, y, e, hc⟩ := h.head
    unfold Tk.stands
    rw [e]; exact spanL_no hc
def kt (l : List Tk) : List (Int × ByteArray) := l.map fun t => (t.kind, t.text)
theorem sameL_iff (l m : List Tk) : sameL l m = true ↔ kt l = kt m := by
  induction l generalizing m with
  | nil => cases m <;> simp [sameL, kt]
  | cons x l ih => cases m with
    | nil => simp [sameL, kt]
    | cons y m =>
      rw [sameL, Bool.and_eq_true, ih]
      unfold Tk.same kt
      simp
theorem Laid.read {l : List Tk} {u : List UInt8} (h : Laid l u) : ∀ (s : List UInt8) (p : Nat), s.drop p = u → p ≤ s.length → kt (yieldsAt s p) = kt l ∧ ∀ t ∈ yieldsAt s p, t.kind ≠ 0 := by
  induction h with
  | nil =>
    intro s p hd hp
    have : s.length ≤ p := by
      rcases Nat.lt_or_ge p s.length with h | h
      · have := congrArg List.length hd; rw [List.length_drop] at this; simp at this; omega
      · exact h
    rw [yieldsAt_end this]
    exact ⟨rfl, fun t ht => by simp at ht⟩
  | @cons t l sep r ht hs hn hl ih =>
    intro s p hd hp
    have hstop : Stop (sep ++ r) := by
      cases hsep : sep with
      | nil => rcases hn with hn | hn
               · exact absurd hsep hn
               · subst hn; exact .inl rfl
      | cons c y => exact .inr ⟨c, y ++ r, rfl, hs c (by rw [hsep]; simp)⟩
    have hb := ht.begins hstop
    have hbl : begL (s.drop p) = (t.kind, bts t.text, t.stands.length) := by rw [hd]; exact begL_of hb
    have hpos := hb.pos
    have hlt : p < s.length := by
      rcases Nat.lt_or_ge p s.length with h | h
      · exact h
      · rw [List.drop_eq_nil_of_le h] at hd
        have := congrArg List.length hd
        unfold Tk.stands at this
        simp at this; omega
    have hn0 : (begL (s.drop p)).2.2 ≠ 0 := by rw [hbl]; unfold Tk.stands; dsimp only; omega
    rw [yieldsAt_more hlt hn0]
    have hd2 : s.drop (p + t.stands.length) = sep ++ r := by rw [← List.drop_drop, hd, List.drop_left]
    have hsk : skipL s (p + (begL (s.drop p)).2.2) = p + t.stands.length + sep.length := by
      unfold skipL
      rw [hbl]
      dsimp only
      rw [hd2, spanL_append _ _ _ hs, hl.start, Nat.add_zero]
    have hd3 : s.drop (p + t.stands.length + sep.length) = r := by rw [← List.drop_drop, hd2, List.drop_left]
    have hlen : p + t.stands.length + sep.length ≤ s.length := by
      have := congrArg List.length hd
      rw [List.length_drop, List.length_append, List.length_append] at this; omega
    obtain ⟨h1, h2⟩ := ih s _ hd3 hlen
    rw [hsk]
    have htk : (tkAt s p).kind = t.kind ∧ (tkAt s p).text = t.text := by
      unfold tkAt
      rw [hbl]
      exact ⟨rfl, txt_bts _⟩
    refine ⟨?_, fun x hx => ?_⟩
    · unfold kt at h1 ⊢
      rw [List.map_cons, List.map_cons, h1, htk.1, htk.2]
    · rcases List.mem_cons.1 hx with rfl | hx
      · rw [htk.1]; have := hb.kind; omega
      · exact h2 x hx
theorem Laid.reads {l : List Tk} {u : List UInt8} (h : Laid l u) (hu : u.length ≤ 500) : ∃ back, readF u = (back, (u.length : Int), 0) ∧ sameL back l = true := by
  have h0 : skipL u 0 = 0 := by unfold skipL; rw [List.drop_zero, h.start]
  obtain ⟨h1, h2⟩ := h.read u 0 (by rw [List.drop_zero]) (Nat.zero_le _)
  refine ⟨yields u, readF_good hu (by unfold yields; rw [h0]; exact h2), (sameL_iff _ _).2 ?_⟩
  unfold yields; rw [h0]; exact h1
theorem check_tok {t : Tk} (h : t.check = true) : TokIs t.kind (bts t.text) := (checkB_iff.1 h).1
/-- The plain text is laid. -/
theorem joinT_cons (t : Tk) (l : List Tk) : joinT (t :: l) = t.stands ++ ((if l = [] then [] else [32]) ++ joinT l) := by
  unfold joinT
  rw [List.map_cons, joinB_cons]
  cases l with
  | nil => rfl
  | cons x l =>
    rw [List.map_cons, joinB_cons, if_neg (by simp)]
    unfold Lib.joinTail
    simp
theorem laid_join (l : List Tk) (h : ∀ t ∈ l, t.check = true) : Laid l (joinT l) := by
  induction l with
  | nil => exact .nil
  | cons t l ih =>
    rw [joinT_cons]
    refine .cons (check_tok (h t (by simp))) ?_ ?_ (ih (fun x hx => h x (List.mem_cons_of_mem _ hx)))
    · intro c hc
      split at hc
      · simp at hc
      · simp at hc; subst hc; decide
    · split
      · rename_i e; subst e; exact .inr rfl
      · exact .inl (by simp)
/-- What is read may be, and stands where it stood. -/
theorem yieldsF_check (s : List UInt8) : ∀ (f p : Nat), (∀ t ∈ yieldsF s f p, t.kind ≠ 0) → ∀ t ∈ yieldsF s f p, t.check = true ∧ t.text.size ≤ s.length
  | 0, p, _, t, h => by simp [yieldsF] at h
  | f + 1, p, hk, t, h => by
    unfold yieldsF at h hk
    by_cases hp : p < s.length
    · rw [if_pos hp] at h hk
      have hn : (begL (s.drop p)).2.2 ≠ 0 := fun e => hk _ List.mem_cons_self (begL_kind0 e)
      rw [if_neg hn] at h hk
      have hb := begL_is (Nat.pos_of_ne_zero hn)
      rcases List.mem_cons.1 h with rfl | h
      · refine ⟨?_, ?_⟩
        · unfold Tk.check
          dsimp only
          rw [bts_txt]
          exact checkB_iff.2 ⟨hb.tok, by omega⟩
        · dsimp only
          rw [txt_size]
          obtain ⟨h1, h2, h3⟩ := hb.stands
          have : (begL (s.drop p)).2.1.length ≤ (standsL (begL (s.drop p)).1 (begL (s.drop p)).2.1).length := by
            generalize (begL (s.drop p)).1 = k at *
            generalize (begL (s.drop p)).2.1 = l at *
            unfold standsL
            by_cases h1 : k = 1
            · rw [if_pos h1]; omega
            rw [if_neg h1]
            by_cases h2 : k = 2
            · rw [if_pos h2]; simp
            rw [if_neg h2]
            by_cases h3 : k = 3
            · rw [if_pos h3]; simp; omega
            · have htok := hb.tok
              cases htok with
              | word => exact absurd rfl h1
              | key => exact absurd rfl h2
              | text => exact absurd rfl h3
              | sign => simp
          rw [List.length_drop] at h3; omega
      · exact yieldsF_check s f _ (fun x hx => hk x (List.mem_cons_of_mem _ hx)) t h
    · rw [if_neg hp] at h; simp at h
/-- What Read tells of a text. -/
theorem readF_cases (s : List UInt8) : (500 < s.length ∧ readF s = ([], 500, 3)) ∨ (s.length ≤ 500 ∧ ∃ p : Int, 0 ≤ p ∧ p < s.length ∧ readF s = ([], p, 250)) ∨
    (s.length ≤ 500 ∧ ∃ l, readF s = (l, (s.length : Int), 0) ∧ l = yields s ∧ (∀ t ∈ l, t.kind ≠ 0) ∧ ∀ t ∈ l, t.check = true ∧ t.text.size ≤ s.length) := by
  by_cases h5 : 500 < s.length
  · exact .inl ⟨h5, by unfold readF; rw [if_pos h5]⟩
  refine .inr ?_
  cases hf : (yields s).find? (fun t => decide (t.kind = 0)) with
  | some t =>
    have hm := List.mem_of_find?_eq_some hf
    have ha := yields_at hm
    exact .inl ⟨by omega, t.at_, ha.1, ha.2, by unfold readF; rw [if_neg h5, hf]⟩
  | none =>
    have hk : ∀ t ∈ yields s, t.kind ≠ 0 := fun t ht => by have := List.find?_eq_none.1 hf t ht; simpa using this
    exact .inr ⟨by omega, yields s, readF_good (by omega) hk, rfl, hk, yieldsF_check s _ _ hk⟩
end Go.Proofs.Ytngnplghjaojhaa
