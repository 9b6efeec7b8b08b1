/- The reference's reading of a number. -/
import Derived.Test.YtogoejlbdbapoaaCodX
import Derived.Test.YtogoejlbdbapoaaKit
import Derived.Test.YtogoejlbdbapoaaOpenB
namespace Go.Proofs.Ytogoejlbdbapoaa
set_option maxRecDepth 100000
set_option maxHeartbeats 2000000
set_option linter.unusedSimpArgs false
open Go.RowKit
set_option linter.unusedVariables false

/-- The number of digits, the lowest first. -/
def valN : List Int → Int
  | [] => 0
  | c :: l => c % 128 + 128 * valN l
theorem valN_nonneg : ∀ l : List Int, 0 ≤ valN l
  | [] => Int.le_refl _
  | c :: l => by have := valN_nonneg l; unfold valN; omega
theorem valN_snoc (l : List Int) (c : Int) : valN (l ++ [c]) = valN l + c % 128 * 128 ^ l.length := by
  induction l with
  | nil => simp [valN]
  | cons a l ih => 
    simp only [List.cons_append, valN, ih, List.length_cons]
    rw [Int.pow_succ]
    have : c % 128 * (128 ^ l.length * 128) = 128 * (c % 128 * 128 ^ l.length) := by rw [Int.mul_comm (128 ^ l.length) 128, ← Int.mul_assoc, Int.mul_comm (c % 128) 128, Int.mul_assoc]
    rw [this]; omega
theorem valN_drop (l : List Int) (i : Nat) (h : i < l.length) : valN (l.drop i) = l[i] % 128 + 128 * valN (l.drop (i + 1)) := by
  rw [List.drop_eq_getElem_cons h]; rfl
theorem valN_drop_le (l : List Int) (i : Nat) : valN (l.drop i) ≤ valN l := by
  induction i generalizing l with
  | zero => simp
  | succ i ih =>
    cases l with
    | nil => simp
    | cons a l =>
      have h1 := ih l
      have h2 := valN_nonneg l
      simp only [List.drop_succ_cons, valN]
      omega
theorem pow128 {i : Nat} (h : i ≤ 8) : (128 : Int) ^ i ≤ 72057594037927936 := by
  have hc : i = 0 ∨ i = 1 ∨ i = 2 ∨ i = 3 ∨ i = 4 ∨ i = 5 ∨ i = 6 ∨ i = 7 ∨ i = 8 := by omega
  rcases hc with rfl | rfl | rfl | rfl | rfl | rfl | rfl | rfl | rfl <;> decide
theorem term_fits {c : Int} {i : Nat} (h : i ≤ 8) : c % 128 * 128 ^ i % 18446744073709551616 = c % 128 * 128 ^ i := by
  have h1 := pow128 h
  have h2 : (0 : Int) < 128 ^ i := Int.pow_pos (by decide)
  have h3 : 0 ≤ c % 128 ∧ c % 128 ≤ 127 := by omega
  have h4 : 0 ≤ c % 128 * 128 ^ i := Int.mul_nonneg h3.1 (by omega)
  have h5 : c % 128 * 128 ^ i ≤ 127 * 128 ^ i := Int.mul_le_mul_of_nonneg_right h3.2 (by omega)
  exact Int.emod_eq_of_lt h4 (by omega)
/-- What holds of the digits that have been looked at. -/
def DigI (l : List Int) (j : Nat) : Prop := j ≤ 10 ∧ j ≤ l.length ∧ (j ≤ 9 → rdn l 0 0 = rdn (l.drop j) j (valN (l.take j))) ∧ (j = 10 → rdn l 0 0 = .no 121)
theorem DigI.zero (l : List Int) : DigI l 0 := ⟨by omega, by omega, fun _ => rfl, fun h => by omega⟩
theorem DigI.next {l : List Int} {j : Nat} (h : DigI l j) (hj : j < 10) (hl : j < l.length) (hc : 128 ≤ l[j]) : DigI l (j + 1) := by
  obtain ⟨h1, h2, h3, h4⟩ := h
  have e := h3 (by omega)
  rw [List.drop_eq_getElem_cons hl, rdn_more _ _ _ _ hj hc] at e
  refine ⟨by omega, by omega, fun h9 => ?_, fun h10 => ?_⟩
  · rw [e, term_fits (by omega), List.take_succ_eq_append_getElem hl, valN_snoc, List.length_take, Nat.min_eq_left (by omega)]
  · rw [e, h10]; exact rdn_ten _ _
theorem DigI.short {l : List Int} {j : Nat} (h : DigI l j) (hj : j < 10) (hl : ¬ j < l.length) : rdn l 0 0 = .no 120 := by
  rw [h.2.2.1 (by omega), List.drop_eq_nil_of_le (by omega)]
  simp [rdn, hj]
theorem DigI.bad {l : List Int} {j : Nat} (h : DigI l j) (hj : j < 10) (hl : j < l.length) (hc : ¬ 128 ≤ l[j]) (ht : ¬ ((j = 0 ∨ 0 < l[j]) ∧ (j < 9 ∨ l[j] = 1))) : rdn l 0 0 = .no 121 := by
  rw [h.2.2.1 (by omega), List.drop_eq_getElem_cons hl, rdn_no _ _ _ _ hj hc ht]
theorem DigI.good {l : List Int} {j : Nat} (h : DigI l j) (hj : j < 10) (hl : j < l.length) (hc : ¬ 128 ≤ l[j]) (hc0 : 0 ≤ l[j]) (ht : (j = 0 ∨ 0 < l[j]) ∧ (j < 9 ∨ l[j] = 1)) : rdn l 0 0 = .ok (valN (l.take (j + 1))) (j + 1) := by
  rw [h.2.2.1 (by omega), List.drop_eq_getElem_cons hl, rdn_yes _ _ _ _ hj hc ht, List.take_succ_eq_append_getElem hl, valN_snoc, List.length_take, Nat.min_eq_left (by omega)]
  by_cases h8 : j ≤ 8
  · rw [term_fits h8]
  · obtain rfl : j = 9 := by omega
    have : l[9] = 1 := by omega
    rw [this]; rfl
def RNPost (k : Int) (r : Rd Int) (w : World) (e : Ending) (w' : World) : Prop := w = w' ∧
  match r with
  | .ok x used => e = .returned (.tuple #[.int .u64 x, .int .i64 (k + used), .int .i64 0])
  | .no c => e = .returned (.tuple #[.int .u64 0, .int .i64 0, .int .i64 c])
set_option maxHeartbeats 2000000 in
theorem refReadNumber_any (v : Value) (l : List Int) (k : Nat) (w : World) (hl : Byt l) (hv : Ints w .u8 v l) (hk : k ≤ l.length) (hn : l.length ≤ 10000000) :
    Calls Try.prog 56 #[v, .int .i64 k] w (RNPost k (rdNum (l.drop k)) w) := by
  have hv' := hv
  obtain ⟨a, cap, rfl, hcap, hmax, hc⟩ := hv'.open_
  clear hv' hc
  have hbl : Byt (l.drop k) := hl.drop k
  have hdl : (l.drop k).length = l.length - k := List.length_drop
  have hgd : ∀ j (h : j < (l.drop k).length) (h' : k + j < l.length), (l.drop k)[j] = l[k + j] := fun j h h' => by simp
  unfold rdNum
  generalize hm : l.drop k = m at *
  have Hm := Lib.hid hm
  have HGD := Lib.hid hgd
  have HB := Lib.hid hbl
  obtain ⟨r, hr⟩ : ∃ r, rdn m 0 0 = r := ⟨_, rfl⟩
  rw [hr]
  have HR := Lib.hid hr
  have HL := Lib.hid hl
  clear hm hgd hbl hr hl
  go_enter Try.func56, Try.ntmps56
  go_wp2_with fail
  go_loopg [7] m.length (fun g i wr => ∃ j q : Nat, j ≤ m.length ∧ g = m.length - j ∧ q = k + j ∧ i = .int .i64 q ∧ DigI m j ∧ wr = w)
  case atStart => exact ⟨0, k, Nat.zero_le _, rfl, rfl, rfl, DigI.zero _, rfl⟩
  case round =>
    obtain ⟨j, q, hj, hg, hq, rfl, hD, rfl⟩ := hrel
    have HD := Lib.hid hD
    have Hg := Lib.hid hg
    have Hq := Lib.hid hq
    have hj10 := hD.1
    have hsub : (q : Int) - (k : Int) = (j : Int) := by omega
    have hql : q ≤ l.length := by omega
    clear hD hg hq
    by_cases h10 : j = 10
    · have hrr : r = .no 121 := by rw [← HR.out]; exact HD.out.2.2.2 h10
      subst hrr
      subst h10
      by_cases hlt : q < l.length
      · obtain ⟨b, o, rfl, hcell⟩ := hv.atD hlt
        generalize l.getD q 0 = c at hcell
        by_cases hc : 128 ≤ c
        · go_wp2_with fail
          go_ret3
          exact ⟨rfl, rfl⟩
        · go_wp2_with fail
          go_ret3
          exact ⟨rfl, rfl⟩
      · go_wp2_with fail
        go_ret3
        exact ⟨rfl, rfl⟩
    · have hjlt : j < 10 := by omega
      by_cases hlt : q < l.length
      · have hjm : j < m.length := by have := Hq.out; omega
        have hmj := HGD.out j hjm (by have := Hq.out; omega)
        have hmb := HB.out.get hjm
        obtain ⟨b, o, rfl, hcell⟩ := hv.atD hlt
        have hgq : l.getD q 0 = m[j] := by
          have h1 : k + j < l.length := by have := Hq.out; omega
          have h2 := Hq.out
          rw [hmj]
          subst h2
          simp [List.getD, h1]
        rw [hgq] at hcell
        have HNX := Lib.hid (fun h => HD.out.next hjlt hjm h)
        have HBAD := Lib.hid (fun h h' => HD.out.bad hjlt hjm h h')
        have HGOOD := Lib.hid (fun h h' => HD.out.good hjlt hjm h hmb.1 h')
        rw [HR.out] at HBAD HGOOD
        have HJM := Lib.hid hjm
        clear hmj hgq
        generalize m[j] = c at *
        by_cases hc : 128 ≤ c
        · go_wp2_with fail
          go_roundg (m.length - (j + 1))
          case measure => have := Hg.out; have := HJM.out; omega
          case rel => exact ⟨j + 1, q + 1, by have := HJM.out; omega, rfl, by have := Hq.out; omega, by go_num, HNX.out hc, rfl⟩
        · by_cases ht : (j = 0 ∨ 0 < c) ∧ (j < 9 ∨ c = 1)
          · have hrr := HGOOD.out hc ht
            subst hrr
            have hlen : (m.take (j + 1)).length = j + 1 := by rw [List.length_take]; have := HJM.out; omega
            have hmt : ∀ i (h : i < (m.take (j + 1)).length) (h' : k + i < l.length), (m.take (j + 1))[i] = l[k + i] := fun i h h' => by
              rw [List.getElem_take]; exact HGD.out i (by have := HJM.out; omega) h'
            have hbt := HB.out.take (j + 1)
            have hbd := rdNum_ok HB.out HR.out
            generalize m.take (j + 1) = p at *
            have HMT := Lib.hid hmt
            have HBT := Lib.hid hbt
            have HBD := Lib.hid hbd.2.2
            clear hmt hbt hbd HBAD HNX HGOOD HGD HB
            have hne10 : ((j : Int) == 10) = false := by simp; omega
            have HP : Hid (p.length = j + 1) := Lib.hid hlen
            have hcs : (j = 0 ∧ ((j : Int) == 9) = false ∧ ¬ k < q) ∨ ((c == 0) = false ∧ ((j : Int) == 9) = false ∧ k < q) ∨ (((j : Int) == 9) = true ∧ (c == 0) = false ∧ decide (1 < c) = false ∧ k < q) := by
              simp only [beq_eq_false_iff_ne, decide_eq_false_iff_not, decide_eq_true_eq, beq_iff_eq, ne_eq]
              omega
            clear ht hlen
            rcases hcs with ⟨_, h1, h2⟩ | ⟨h1, h2, h3⟩ | ⟨h1, h2, h3, h4⟩
            all_goals
              go_wp2_with fail
              go_loopg [8, 9] p.length (fun g n i wx => ∃ (x : Nat) (y : Int), x ≤ p.length ∧ g = x ∧ n = .int .u64 (valN (p.drop x)) ∧ i = .int .i64 y ∧ y = (k : Int) + (x : Int) - 1 ∧ wx = wr)
              case atStart => exact ⟨p.length, _, Nat.le_refl _, rfl, by simp [valN], rfl, by have := Hq.out; have := HP.out; omega, rfl⟩
              case round =>
                obtain ⟨x, y, hx, hg, rfl, rfl, hy, rfl⟩ := hrel
                have Hg2 := Lib.hid hg
                clear hg
                cases x with
                | zero =>
                  obtain rfl : y = (k : Int) - 1 := by simpa using hy
                  have HQ : Hid ((q : Int) + 1 = (k : Int) + ((j + 1 : Nat) : Int)) := Lib.hid (by have := Hq.out; omega)
                  have HE : Hid (Ending.returned (.tuple #[.int .u64 (valN p), .int .i64 ((q : Int) + 1), .int .i64 0]) = Ending.returned (.tuple #[.int .u64 (valN p), .int .i64 ((k : Int) + ((j + 1 : Nat) : Int)), .int .i64 0])) := Lib.hid (by rw [HQ.out])
                  rw [List.drop_zero]
                  clear hy
                  go_wp2_with fail
                  go_ret3
                  exact ⟨rfl, HE.out⟩
                | succ x =>
                  have hxp : x < p.length := by omega
                  have hkx : k + x < l.length := by have := HP.out; have := Hq.out; omega
                  have hpx := HMT.out x hxp hkx
                  have hpb := HBT.out.get hxp
                  have hvd := valN_drop p x hxp
                  have h1 := valN_nonneg (p.drop (x + 1))
                  have h2 := valN_drop_le p x
                  have h3 := HBD.out
                  have hcell2 := hv.atD hkx
                  have hgd : l.getD (k + x) 0 = p[x] := by rw [hpx]; simp [List.getD, hkx]
                  rw [hgd] at hcell2
                  generalize p[x] = d at *
                  obtain ⟨z, hz⟩ : ∃ z : Nat, k + x = z := ⟨_, rfl⟩
                  rw [hz] at hcell2 hkx
                  obtain rfl : y = (z : Int) := by omega
                  generalize valN (p.drop (x + 1)) = N at *
                  have hw1 : IntKind.u64.wrap (N * 128) = N * 128 := IntWalk.u64_in _ (by omega)
                  have hw2 : IntKind.u64.wrap (N * 128 + d % 128) = N * 128 + d % 128 := IntWalk.u64_in _ (by omega)
                  have hw3 : IntKind.u64.wrap d = d := IntWalk.u64_in _ (by omega)
                  obtain ⟨b', o', e, hcell3⟩ := hcell2
                  cases e
                  have hkz : k ≤ z := by omega
                  have HV : Hid (N * 128 + d % 128 = valN (p.drop x)) := Lib.hid (by omega)
                  have HZ := Lib.hid hz
                  clear hpx hvd hgd hy hz h2 h3 hxp
                  go_wp2_with fail
                  go_roundg x
                  case measure => have := Hg2.out; omega
                  case rel => exact ⟨x, (z : Int) - 1, by omega, rfl, by rw [HV.out], rfl, by have := HZ.out; omega, rfl⟩
          · have hrr : r = .no 121 := HBAD.out hc ht
            subst hrr
            have ht' : (0 < j ∧ c = 0) ∨ (j = 9 ∧ 1 < c) := by omega
            clear ht
            rcases ht' with ⟨h1, rfl⟩ | ⟨rfl, h2⟩
            · have hkq : (k : Int) < (q : Int) := by omega
              go_wp2_with fail
              go_ret3
              exact ⟨rfl, rfl⟩
            · have hkq : (k : Int) < (q : Int) := by omega
              have h0 : (c == 0) = false := by simp; omega
              go_wp2_with fail
              go_ret3
              exact ⟨rfl, rfl⟩
      · have hrr : r = .no 120 := by rw [← HR.out]; exact HD.out.short hjlt (by have := Hq.out; omega)
        subst hrr
        have hne : ((j : Int) == 10) = false := by simp; omega
        obtain rfl : q = l.length := by omega
        go_wp2_with fail
        go_ret3
        exact ⟨rfl, rfl⟩
end Go.Proofs.Ytogoejlbdbapoaa
