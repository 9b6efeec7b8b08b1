/- What is written is read again; what is read is written as it stood there: plain. -/
import Derived.Test.YtdjkfjaffhboeaaCodecJ
namespace Go.Proofs.Ytdjkfjaffhboeaa

theorem small_mul (d : Int) (i : Nat) (h0 : 0 ≤ d) (h1 : d < 128) (hi : i ≤ 8) : d * 128 ^ i % 18446744073709551616 = d * 128 ^ i := by
  have : i = 0 ∨ i = 1 ∨ i = 2 ∨ i = 3 ∨ i = 4 ∨ i = 5 ∨ i = 6 ∨ i = 7 ∨ i = 8 := by omega
  rcases this with rfl | rfl | rfl | rfl | rfl | rfl | rfl | rfl | rfl <;> simp <;> omega

theorem rdn_num (f : Nat) (m : Int) (i : Nat) (acc : Int) (rest : List Int) (hif : i + f = 9) (h0 : 0 ≤ m) (hm : m < 2 * 128 ^ f) (hpos : i = 0 ∨ 0 < m) :
    rdn (num f m ++ rest) i acc = .ok (acc + m * 128 ^ i) (i + (num f m).length) := by
  induction f generalizing m i acc with
  | zero =>
    simp at hm
    obtain rfl : i = 9 := by omega
    obtain rfl : m = 1 := by omega
    simp only [num, List.cons_append, List.nil_append]
    rw [rdn_yes _ _ _ _ (by omega) (by omega) (by omega)]
    simp
  | succ f ih =>
    by_cases hs : m < 128
    · rw [num_small _ m hs, List.cons_append, List.nil_append, rdn_yes _ _ _ _ (by omega) (by omega) (by omega)]
      rw [show m % 128 = m from by omega, small_mul m i h0 hs (by omega)]
      rfl
    · rw [num_big _ m hs, List.cons_append, rdn_more _ _ _ _ (by omega) (by omega)]
      rw [show (m % 128 + 128) % 128 = m % 128 from by omega, small_mul (m % 128) i (by omega) (by omega) (by omega)]
      rw [ih (m / 128) (i + 1) _ (by omega) (by omega) (by rw [Int.pow_succ] at hm; omega) (by omega)]
      have hmd : m = m % 128 + 128 * (m / 128) := by omega
      congr 1
      · rw [Int.pow_succ]
        conv => rhs; rw [hmd]
        rw [Int.add_mul, Int.mul_comm (128 ^ i : Int) 128, ← Int.mul_assoc, Int.mul_comm (m / 128) 128]
        omega
      · simp; omega
theorem rdNum_num (n : Int) (rest : List Int) (h0 : 0 ≤ n) (h1 : n < 18446744073709551616) : rdNum (num 9 n ++ rest) = .ok n (num 9 n).length := by
  unfold rdNum
  rw [rdn_num 9 n 0 0 rest rfl h0 (by omega) (.inl rfl)]
  simp

theorem rdn_inv (l : List Int) (i f : Nat) (acc n : Int) (u : Nat) (hif : i + f = 9) (hl : Byt l) (h : rdn l i acc = .ok n u) :
    ∃ m, n = acc + m * 128 ^ i ∧ i ≤ u ∧ l.take (u - i) = num f m ∧ 0 ≤ m ∧ (i = 0 ∨ 0 < m) ∧ u - i ≤ l.length := by
  induction l generalizing i f acc with
  | nil => unfold rdn at h; split at h <;> cases h
  | cons c l ih =>
    have hc := hl c (by simp)
    by_cases hb : 128 ≤ c
    · rw [rdn_more _ _ _ _ (by omega) hb] at h
      rcases Nat.lt_or_ge i 9 with hi | hi
      · obtain ⟨f', rfl⟩ : ∃ f', f = f' + 1 := ⟨f - 1, by omega⟩
        obtain ⟨m', h1, h2, h3, h4, h5, h6⟩ := ih (i + 1) f' _ (by omega) (fun d hd => hl d (by simp [hd])) h
        refine ⟨c % 128 + 128 * m', ?_, by omega, ?_, by omega, .inr (by omega), by simp; omega⟩
        · rw [h1, small_mul _ i (by omega) (by omega) (by omega), Int.pow_succ, Int.add_mul, Int.mul_comm (128 ^ i : Int) 128, ← Int.mul_assoc, Int.mul_comm m' 128]
          omega
        · rw [num_big f' _ (by omega), show (c % 128 + 128 * m') / 128 = m' from by omega, show (c % 128 + 128 * m') % 128 + 128 = c from by omega]
          obtain ⟨t, ht⟩ : ∃ t, u - i = t + 1 := ⟨u - i - 1, by omega⟩
          rw [ht, List.take_succ_cons, ← h3]
          congr 2; omega
      · obtain rfl : i = 9 := by omega
        rw [rdn_ten] at h; cases h
    · by_cases ht : (i = 0 ∨ 0 < c) ∧ (i < 9 ∨ c = 1)
      · rw [rdn_yes _ _ _ _ (by omega) hb ht] at h
        cases h
        refine ⟨c, ?_, by omega, ?_, hc.1, ht.1, by simp⟩
        · rw [show c % 128 = c from by omega]
          rcases Nat.lt_or_ge i 9 with hi | hi
          · rw [small_mul c i hc.1 (by omega) (by omega)]
          · obtain rfl : i = 9 := by omega
            obtain rfl : c = 1 := by omega
            simp
        · rw [show i + 1 - i = 1 from by omega, num_small f c (by omega)]; rfl
      · rw [rdn_no _ _ _ _ (by omega) hb ht] at h; cases h
theorem rdNum_inv {l : List Int} {n : Int} {u : Nat} (hl : Byt l) (h : rdNum l = .ok n u) : l.take u = num 9 n ∧ u ≤ l.length := by
  obtain ⟨m, h1, _, h3, _, _, h6⟩ := rdn_inv l 0 9 0 n u rfl hl h
  simp at h1 h3 h6
  subst h1
  exact ⟨h3, h6⟩

theorem rdRows_num (xs : List Int) (used : Nat) (acc rest : List Int) (hx : U64 xs) :
    rdRows xs.length (xs.flatMap (num 9) ++ rest) used acc = .ok (acc ++ xs) (used + (xs.flatMap (num 9)).length) := by
  induction xs generalizing used acc with
  | nil => simp [rdRows]
  | cons x xs ih =>
    have h := hx x (by simp)
    rw [List.length_cons, rdRows_succ, List.flatMap_cons, List.append_assoc, rdNum_num x _ h.1 h.2]
    simp only [List.drop_left]
    rw [ih _ _ (fun c hc => hx c (by simp [hc]))]
    simp; omega
theorem flat_ge (xs : List Int) : xs.length ≤ (xs.flatMap (num 9)).length := by
  induction xs with
  | nil => simp
  | cons x xs ih => have := num_len 9 x; rw [List.flatMap_cons, List.length_append, List.length_cons]; omega
theorem rdRow_row (xs rest : List Int) (hx : U64 xs) (hn : xs.length ≤ 1000000) : rdRow (rowB xs ++ rest) = .ok xs (rowB xs).length := by
  unfold rdRow rowB
  rw [List.append_assoc, rdNum_num _ _ (by omega) (by omega)]
  have := flat_ge xs
  simp only [List.drop_left]
  rw [if_pos (by simp only [List.length_append]; omega), Int.toNat_natCast, rdRows_num xs _ [] rest hx]
  simp
theorem rdRows_inv (m : Nat) (l : List Int) (used u : Nat) (acc xs : List Int) (hl : Byt l) (h : rdRows m l used acc = .ok xs u) :
    ∃ ys, xs = acc ++ ys ∧ ys.length = m ∧ U64 ys ∧ used ≤ u ∧ l.take (u - used) = ys.flatMap (num 9) ∧ u - used ≤ l.length := by
  induction m generalizing l used acc with
  | zero =>
    unfold rdRows at h
    cases h
    exact ⟨[], by simp, rfl, fun c hc => by simp at hc, Nat.le_refl _, by simp, by omega⟩
  | succ m ih =>
    rw [rdRows_succ] at h
    generalize hnn : rdNum l = r at h
    cases r with
    | no e => cases h
    | ok x w =>
      have hi := rdNum_inv hl hnn
      have hok := rdNum_ok hl hnn
      obtain ⟨ys, h1, h2, h3, h4, h5, h6⟩ := ih (l.drop w) (used + w) (acc ++ [x]) (hl.drop w) h
      rw [List.length_drop] at h6
      refine ⟨x :: ys, by rw [h1]; simp, by simp [h2], ?_, by omega, ?_, by omega⟩
      · intro c hc
        rcases List.mem_cons.1 hc with rfl | hc
        · exact ⟨hok.2.2.1, hok.2.2.2⟩
        · exact h3 c hc
      · rw [List.flatMap_cons, ← h5, ← hi.1, ← List.take_add]
        congr 1; omega
theorem rdRow_inv {l xs : List Int} {u : Nat} (hl : Byt l) (h : rdRow l = .ok xs u) : l.take u = rowB xs ∧ u ≤ l.length ∧ U64 xs ∧ xs.length ≤ l.length := by
  unfold rdRow at h
  generalize hnn : rdNum l = r at h
  cases r with
  | no e => cases h
  | ok n w =>
    have hi := rdNum_inv hl hnn
    have hok := rdNum_ok hl hnn
    simp only [] at h
    split at h
    · rename_i hle
      obtain ⟨ys, h1, h2, h3, h4, h5, h6⟩ := rdRows_inv _ _ _ _ _ _ (hl.drop w) h
      rw [List.nil_append] at h1
      subst h1
      rw [List.length_drop] at h6
      refine ⟨?_, by omega, h3, by omega⟩
      have e1 : (xs.length : Int) = n := by omega
      unfold rowB
      rw [e1, ← h5, ← hi.1, ← List.take_add]
      congr 1; omega
    · cases h

theorem rdText_text (s rest : List Int) (hn : s.length ≤ 4000) : rdText (textB s ++ rest) = .ok s (textB s).length := by
  unfold rdText textB
  rw [List.append_assoc, rdNum_num _ _ (by omega) (by omega)]
  simp only [List.drop_left]
  rw [if_pos (by omega), if_pos (by simp only [List.length_append]; omega), Int.toNat_natCast, List.take_left, List.length_append]
theorem rdText_inv {l s : List Int} {u : Nat} (hl : Byt l) (h : rdText l = .ok s u) : l.take u = textB s ∧ u ≤ l.length ∧ s.length ≤ 4000 ∧ Byt s := by
  unfold rdText at h
  generalize hnn : rdNum l = r at h
  cases r with
  | no e => cases h
  | ok n w =>
    have hi := rdNum_inv hl hnn
    have hok := rdNum_ok hl hnn
    simp only [] at h
    split at h
    · split at h
      · cases h
        have hlen : ((l.drop w).take n.toNat).length = n.toNat := by simp; omega
        refine ⟨?_, by omega, by omega, (hl.drop w).take _⟩
        unfold textB
        rw [hlen, show ((n.toNat : Nat) : Int) = n from by omega, ← hi.1, ← List.take_add]
      · cases h
    · cases h
theorem fourB_len (n : Int) : (fourB n).length = 4 := rfl
theorem rdFrame_at (s y rest : List Int) (hn : s.length ≤ 1048576) (hy : y.length = 4) :
    rdFrame (num 9 s.length ++ (s ++ (y ++ rest))) = if y = fourB (sumL 1 s) then .ok s ((num 9 s.length).length + s.length + 4) else .no 122 := by
  unfold rdFrame
  rw [rdNum_num _ _ (by omega) (by omega)]
  simp only [List.drop_left, Int.toNat_natCast]
  rw [if_pos (by omega), if_pos (by simp only [List.length_append]; omega), List.take_left, ← List.drop_drop, List.drop_left, List.drop_left, ← hy, List.take_left]
theorem rdFrame_frame (s rest : List Int) (hn : s.length ≤ 1048576) : rdFrame (frameB s ++ rest) = .ok s (frameB s).length := by
  unfold frameB
  rw [List.append_assoc, List.append_assoc, rdFrame_at s _ rest hn rfl, if_pos rfl]
  simp only [List.length_append, fourB_len]
  exact congrArg (Rd.ok s) (by omega)
theorem rdFrame_inv {l s : List Int} {u : Nat} (hl : Byt l) (h : rdFrame l = .ok s u) : l.take u = frameB s ∧ u ≤ l.length ∧ s.length ≤ 1048576 ∧ Byt s := by
  unfold rdFrame at h
  generalize hnn : rdNum l = r at h
  cases r with
  | no e => cases h
  | ok n w =>
    have hi := rdNum_inv hl hnn
    have hok := rdNum_ok hl hnn
    simp only [] at h
    split at h
    · split at h
      · split at h
        · rename_i hf
          cases h
          have hlen : ((l.drop w).take n.toNat).length = n.toNat := by simp; omega
          refine ⟨?_, by omega, by omega, (hl.drop w).take _⟩
          unfold frameB
          rw [hlen, show ((n.toNat : Nat) : Int) = n from by omega, ← hf, ← hi.1, ← List.append_assoc, ← List.take_add, ← List.take_add]
        · cases h
      · cases h
    · cases h

theorem sum_step_inj (n n' c : Int) (h0 : 0 ≤ n) (h1 : n < 4294967296) (h0' : 0 ≤ n') (h1' : n' < 4294967296) (h : (31 * n + c + 1) % 4294967296 = (31 * n' + c + 1) % 4294967296) : n = n' := by omega
theorem sumL_inj (l : List Int) (n n' : Int) (h0 : 0 ≤ n) (h1 : n < 4294967296) (h0' : 0 ≤ n') (h1' : n' < 4294967296) (h : sumL n l = sumL n' l) : n = n' := by
  induction l generalizing n n' with
  | nil => exact h
  | cons c l ih =>
    refine sum_step_inj n n' c h0 h1 h0' h1' (ih _ _ ?_ ?_ ?_ ?_ h) <;> omega
theorem sumL_set (l : List Int) (k : Nat) (hk : k < l.length) (c n : Int) (hl : Byt l) (hc : 0 ≤ c ∧ c < 256) (h0 : 0 ≤ n) (h1 : n < 4294967296) : sumL n (l.set k c) = sumL n l ↔ l[k] = c := by
  induction l generalizing k n with
  | nil => simp at hk
  | cons x l ih =>
    have hx := hl x (by simp)
    cases k with
    | zero =>
      simp only [List.set_cons_zero, sumL, List.getElem_cons_zero]
      constructor
      · intro h
        have := sumL_inj l _ _ (by omega) (by omega) (by omega) (by omega) h
        omega
      · intro h; rw [h]
    | succ k =>
      simp only [List.set_cons_succ, sumL, List.getElem_cons_succ]
      exact ih k (by simpa using hk) _ (fun d hd => hl d (by simp [hd])) (by omega) (by omega)
theorem fourB_inj (a b : Int) (ha : 0 ≤ a ∧ a < 4294967296) (hb : 0 ≤ b ∧ b < 4294967296) : fourB a = fourB b ↔ a = b := by
  constructor
  · intro h
    simp only [fourB, List.cons.injEq, and_true] at h
    omega
  · intro h; rw [h]
end Go.Proofs.Ytdjkfjaffhboeaa
