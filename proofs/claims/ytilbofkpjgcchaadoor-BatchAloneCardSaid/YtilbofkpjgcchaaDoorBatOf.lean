/- The reference's change of a line. -/
import Derived.Test.YtilbofkpjgcchaaDoorBatV
import Derived.Test.YtilbofkpjgcchaaDoorBatN
import Derived.Test.YtilbofkpjgcchaaDoorBatO
namespace Go.Proofs.YtilbofkpjgcchaaDoor
set_option maxRecDepth 100000
set_option maxHeartbeats 2000000
set_option linter.unusedVariables false
set_option linter.unusedSimpArgs false
open Go.RowKit

theorem decide_of {p : Prop} [Decidable p] {b : Bool} (h : decide p = b) : if b then p else ¬ p := by
  subst h
  by_cases hp : p <;> simp [hp]
def atL (ws : List (List UInt8)) (i : Nat) : List UInt8 := ws.getD i []
theorem strsV_at (ws : List (List UInt8)) (i : Nat) (h : i < ws.length) : (strsV ws)[i]? = some (.string (txt (atL ws i))) := by
  unfold strsV atL
  rw [List.getElem?_map, List.getElem?_eq_getElem h, List.getD_eq_getElem?_getD, List.getElem?_eq_getElem h]; rfl
theorem strs_cell {w : World} {a : Option Addr} {n c : Nat} {ws : List (List UInt8)} (h : Sl w (.slice a n c) ws.length (strsV ws)) {i : Nat} (hi : i < ws.length) : ∃ b o, a = some ⟨b, o, none⟩ ∧ n = ws.length ∧ w.cell? ⟨b, o + i, none⟩ = some (.string (txt (atL ws i))) := by
  obtain ⟨a', c', e, _, _, hc⟩ := h
  simp only [Value.slice.injEq] at e
  obtain ⟨rfl, rfl, rfl⟩ := e
  obtain ⟨b, o, rfl, hcl⟩ := hc (by simp [strsV]; omega)
  exact ⟨b, o, rfl, rfl, hcl _ _ (strsV_at ws i hi)⟩
theorem at_any (v : Value) (ws : List (List UInt8)) (i : Nat) (w : World) (hv : Sl w v ws.length (strsV ws)) (hi : i ≤ 1000) :
    Calls Tryd.prog 46 #[v, .int .i64 i] w fun e w' => e = .returned (.string (txt (atL ws i))) ∧ w = w' := by
  obtain ⟨a, c, rfl, hc1, hc2⟩ := Sl.shape hv
  by_cases h : i < ws.length
  · obtain ⟨b, o, rfl, _, c0⟩ := strs_cell hv h
    generalize txt (atL ws i) = t at *
    clear hv
    go_enter Tryd.func46, Tryd.ntmps46
    go_wp2_with fail
    go_ret
    exact ⟨rfl, rfl⟩
  · have e : atL ws i = [] := by unfold atL; rw [List.getD_eq_getElem?_getD, List.getElem?_eq_none (by omega)]; rfl
    rw [e]
    have h' : ws.length ≤ i := by omega
    clear hv e
    go_enter Tryd.func46, Tryd.ntmps46
    go_wp2_with fail
    go_ret
    exact ⟨rfl, rfl⟩
def beginN (k : Nat) (ws : List (List UInt8)) : Nat := (wordOf k).length + (atL ws 1).length + (atL ws 2).length + 4
/-- The change that the words say, were it of the kind k. -/
def ofC (k : Nat) (s : ByteArray) : Ch :=
  ⟨k, txt (atL (wordsL (bts s)) 1), if 3 ≤ k then txt (atL (wordsL (bts s)) 2) else ⟨#[]⟩, if k = 5 ∧ beginN k (wordsL (bts s)) < s.size then s.extract (beginN k (wordsL (bts s))) (s.size - 1) else ⟨#[]⟩, if 7 ≤ k then txt (atL (wordsL (bts s)) 3) else ⟨#[]⟩⟩
def kindW (s : ByteArray) : Nat := kindL (atL (wordsL (bts s)) 0)
def ofR (s : ByteArray) : Option Ch := if kindW s = 0 then none else if okC (ofC (kindW s) s) = true ∧ lineL (ofC (kindW s) s) = bts s then some (ofC (kindW s) s) else none
theorem atL_len (l : List UInt8) (i : Nat) : (atL (wordsL l) i).length ≤ l.length := by
  unfold atL
  by_cases h : i < (wordsL l).length
  · rw [List.getD_eq_getElem?_getD, List.getElem?_eq_getElem h]
    exact (wordsL_lens l).2 _ (List.getElem_mem h)
  · rw [List.getD_eq_getElem?_getD, List.getElem?_eq_none (by omega)]; exact Nat.zero_le _
theorem ofR_eq (s : ByteArray) : ofR s = if saysB s then some (parseC s) else none := by
  have hk : ∀ c : Ch, okC c = true → lineL c = bts s → kindW s = c.kind.toNat ∧ ofC (kindW s) s = c := by
    intro c hc hl
    obtain ⟨kd, key, name, val, to_⟩ := c
    obtain ⟨h1, h8, q0, q1, q2, q3⟩ := okC_iff.1 hc
    dsimp only at h1 h8 q0 q1 q2 q3
    obtain ⟨k, rfl⟩ := Int.eq_ofNat_of_zero_le (show 0 ≤ kd by omega)
    simp only [Int.toNat_natCast] at q0 q1 q2 q3
    have e0 : hasOf k 0 = true := decide_eq_true (by omega)
    rw [e0] at q0
    have d0 : Dense (bts key) := dense_name (by simpa [okF] using q0)
    have hw : bts s = wordOf k ++ 32 :: (bts key ++ (partL 1 (hasOf k 1) name ++ (partL 2 (hasOf k 2) val ++ partL 3 (hasOf k 3) to_))) := by
      rw [← hl]
      unfold lineL
      simp only [Int.toNat_natCast, e0]
      simp [partL]
    have hws := wordsL_at (b := bts key ++ (partL 1 (hasOf k 1) name ++ (partL 2 (hasOf k 2) val ++ partL 3 (hasOf k 3) to_))) (dense_word k)
    rw [← hw] at hws
    have hkw : kindW s = k := by
      unfold kindW
      rw [hws]
      show kindL (wordOf k) = k
      exact kindL_word (by omega) (by omega)
    refine ⟨by rw [hkw]; rfl, ?_⟩
    rw [hkw]
    have hsz := congrArg List.length hw
    rw [bts_len] at hsz
    unfold ofC beginN
    rw [hws]
    clear hws hkw hl hc
    rcases has_cases k with ⟨b1, b2, b3⟩ | ⟨b1, b2, b3⟩ | ⟨b1, b2, b3⟩ | ⟨b1, b2, b3⟩
    all_goals
      rw [b1] at q1 hw hsz
      rw [b2] at q2 hw hsz
      rw [b3] at q3 hw hsz
      rw [b1, b2, b3]
      replace b1 := decide_of (p := 3 ≤ k) b1
      replace b2 := decide_of (p := k = 5) b2
      replace b3 := decide_of (p := 7 ≤ k) b3
      simp only [if_true, Bool.false_eq_true, if_false] at b1 b2 b3
    · obtain rfl : name = ⟨#[]⟩ := of_decide_eq_true q1
      obtain rfl : val = ⟨#[]⟩ := of_decide_eq_true q2
      obtain rfl : to_ = ⟨#[]⟩ := of_decide_eq_true q3
      have e : bts key ++ (partL 1 false ⟨#[]⟩ ++ (partL 2 false ⟨#[]⟩ ++ partL 3 false ⟨#[]⟩)) = bts key := by simp [partL]
      rw [e, wordsL_end d0, if_neg (by omega), if_neg (by omega), if_neg (by omega)]
      simp [atL, txt_bts]
    · obtain rfl : val = ⟨#[]⟩ := of_decide_eq_true q2
      obtain rfl : to_ = ⟨#[]⟩ := of_decide_eq_true q3
      have d1 : Dense (bts name) := dense_name (by simpa [okF] using q1)
      have e : bts key ++ (partL 1 true name ++ (partL 2 false ⟨#[]⟩ ++ partL 3 false ⟨#[]⟩)) = bts key ++ 32 :: bts name := by simp [partL]
      rw [e, wordsL_at d0, wordsL_end d1, if_pos (by omega), if_neg (by omega), if_neg (by omega)]
      simp [atL, txt_bts]
    · obtain rfl : to_ = ⟨#[]⟩ := of_decide_eq_true q3
      have d1 : Dense (bts name) := dense_name (by simpa [okF] using q1)
      have e : bts key ++ (partL 1 true name ++ (partL 2 true val ++ partL 3 false ⟨#[]⟩)) = bts key ++ 32 :: (bts name ++ 32 :: (34 :: (bts val ++ [34]))) := by simp [partL]
      rw [e] at hw hsz
      rw [e, wordsL_at d0, wordsL_at d1, if_pos (by omega), if_neg (show ¬ 7 ≤ k by omega)]
      have a1 : ∀ ws : List (List UInt8), atL (wordOf k :: bts key :: bts name :: ws) 1 = bts key := fun _ => rfl
      have a2 : ∀ ws : List (List UInt8), atL (wordOf k :: bts key :: bts name :: ws) 2 = bts name := fun _ => rfl
      rw [a1, a2]
      simp only [List.length_append, List.length_cons, List.length_nil, bts_len] at hsz ⊢
      rw [if_pos (by omega), txt_bts, txt_bts]
      refine Ch.ext' rfl rfl rfl (bts_inj ?_) rfl
      show bts (s.extract _ _) = bts val
      rw [bts_extract, hw]
      have e2 : wordOf k ++ 32 :: (bts key ++ 32 :: (bts name ++ 32 :: (34 :: (bts val ++ [34])))) = (wordOf k ++ 32 :: (bts key ++ 32 :: (bts name ++ [32, 34]))) ++ (bts val ++ [34]) := by simp
      rw [e2, List.drop_left' (by simp [bts_len]; omega), List.take_left' (by rw [bts_len]; omega)]
    · obtain rfl : val = ⟨#[]⟩ := of_decide_eq_true q2
      have d1 : Dense (bts name) := dense_name (by simpa [okF] using q1)
      have d3 : Dense (bts to_) := dense_name (by simpa [okF] using q3)
      have e : bts key ++ (partL 1 true name ++ (partL 2 false ⟨#[]⟩ ++ partL 3 true to_)) = bts key ++ 32 :: (bts name ++ 32 :: bts to_) := by simp [partL]
      rw [e, wordsL_at d0, wordsL_at d1, wordsL_end d3, if_pos (by omega), if_neg (by omega), if_pos (by omega)]
      simp [atL, txt_bts]
  cases hs : saysB s with
  | true =>
    obtain ⟨h1, h2⟩ := (saysB_iff s).1 hs
    obtain ⟨k1, k2⟩ := hk _ h1 h2
    have hk0 : kindW s ≠ 0 := by have := (okC_iff.1 h1).1; omega
    unfold ofR
    rw [if_neg hk0, k2, if_pos ⟨h1, h2⟩]; rfl
  | false =>
    unfold ofR
    split
    · rfl
    · rw [if_neg]
      · rfl
      · rintro ⟨h1, h2⟩
        have hp := parse_line _ h1
        rw [h2, txt_bts] at hp
        have := (saysB_iff s).2 (by rw [hp]; exact ⟨h1, h2⟩)
        rw [hs] at this; cases this
end Go.Proofs.YtilbofkpjgcchaaDoor
