/- Check. -/
import Derived.Test.YtkmbnghghbfkdaaGreatGp05
import Derived.Deep.DeepCutAuto
import Derived.Deep.LoopGhost
set_option linter.unusedSimpArgs false
set_option linter.unusedVariables false
set_option maxHeartbeats 2000000
set_option maxRecDepth 100000

namespace Go.Proofs.YtkmbnghghbfkdaaGreat
open Go.RowKit Go.Shelf
def sizesB (n m : Nat) : Bool := decide ((n : Int) ≤ 1024) && (decide (8 ≤ (m : Int)) && (decide (bits .and .i64 (m : Int) ((m : Int) - 1) = 0) && decide (2 * (n : Int) ≤ m)))
def rangeB (n : Nat) (S : List Int) : Bool := S.all fun x => decide (0 ≤ x) && decide (x ≤ n)
theorem rangeB_snoc (n : Nat) (S : List Int) (k : Nat) (h : k < S.length) : rangeB n (S.take (k + 1)) = (rangeB n (S.take k) && (decide (0 ≤ S.getD k 0) && decide (S.getD k 0 ≤ n))) := by
 unfold rangeB; rw [take_snoc _ _ h, List.all_append]; simp [List.getD, h]
theorem usedN_snoc (S : List Int) (k : Nat) (h : k < S.length) : usedN (S.take (k + 1)) = usedN (S.take k) + if 0 < S.getD k 0 then 1 else 0 := by
 unfold usedN; rw [take_snoc _ _ h, List.filter_append]; simp only [List.length_append, List.filter_cons, List.filter_nil]; simp only [List.getD, h, List.getElem?_eq_getElem, Option.getD_some]
 split <;> simp_all
theorem i64_and_nat (a b : Nat) (ha : a < 9223372036854775808) (hb : b < 9223372036854775808) : bits .and .i64 (a : Int) (b : Int) = ((a &&& b : Nat) : Int) := by
 have hx : a &&& b < 2 ^ 63 := Nat.and_lt_two_pow _ (by omega)
 show IntKind.i64.wrap ((BitVec.ofInt 64 (a : Int) &&& BitVec.ofInt 64 (b : Int)).toNat : Int) = _
 rw [BitVec.toNat_and, BitVec.ofInt_natCast, BitVec.ofInt_natCast, BitVec.toNat_ofNat, BitVec.toNat_ofNat, Nat.mod_eq_of_lt (by omega), Nat.mod_eq_of_lt (by omega), IntKind.wrap_i64]
 omega
theorem pow_iff (m : Nat) (hm : m ≤ 1048576) : (8 ≤ (m : Int) ∧ bits .and .i64 (m : Int) ((m : Int) - 1) = 0) ↔ ∃ e, m = 8 * 2 ^ e := by
 by_cases h0 : m = 0
 ·subst h0
  constructor
  ·rintro ⟨h, _⟩; simp at h
  ·rintro ⟨e, h⟩; have : 0 < 2 ^ e := Nat.pow_pos (by omega); omega
 ·have e1 : (m : Int) - 1 = ((m - 1 : Nat) : Int) := by omega
  rw [e1, i64_and_nat m (m - 1) (by omega) (by omega)]
  have hp := Nat.and_sub_one_eq_zero_iff_isPowerOfTwo (n := m) h0
  constructor
  ·rintro ⟨h8, hb⟩
   obtain ⟨e, he⟩ := hp.1 (by omega)
   have h3 : 3 ≤ e := by
    refine Classical.byContradiction fun hc => ?_
    have : e = 0 ∨ e = 1 ∨ e = 2 := by omega
    rcases this with rfl | rfl | rfl <;> simp at he <;> omega
   obtain ⟨f, rfl⟩ : ∃ f, e = f + 3 := ⟨e - 3, by omega⟩
   exact ⟨f, by rw [he, Nat.pow_add]; omega⟩
  ·rintro ⟨e, he⟩
   have h1 : 0 < 2 ^ e := Nat.pow_pos (by omega)
   refine ⟨by omega, ?_⟩
   have := hp.2 ⟨e + 3, by rw [he, Nat.pow_add]; omega⟩
   omega
theorem check_iff {T : List ByteArray} {S : List Int} {n m : Nat} (hn : T.length = n) (hl : S.length = m) (hm : m ≤ 1048576) :
 TabOK T S ↔ ((sizesB n m && rangeB n S) = true ∧ usedN S = n) ∧ ∀ i (h : i < T.length), ∃ p : Nat, placeF T S T[i] = p ∧ S.getD p 0 = i + 1 := by
 have hp := pow_iff m hm
 constructor
 ·intro h
  refine ⟨⟨?_, by rw [← hn]; exact h.laid.used⟩, fun i hi => h.laid.at_ i hi hi⟩
  obtain ⟨h1, h2⟩ := hp.2 (hl ▸ h.pow)
  have h3 := h.most
  have h4 := h.half
  rw [Bool.and_eq_true]
  refine ⟨?_, ?_⟩
  ·unfold sizesB; simp [h2]; omega
  ·unfold rangeB; rw [List.all_eq_true]; intro x hx; have := h.laid.range x hx; simp; omega
 ·rintro ⟨⟨h1, h2⟩, h3⟩
  rw [Bool.and_eq_true] at h1
  obtain ⟨h1, h1'⟩ := h1
  unfold sizesB at h1
  simp only [Bool.and_eq_true, decide_eq_true_eq] at h1
  obtain ⟨a1, a2, a3, a4⟩ := h1
  refine ⟨hl ▸ hp.1 ⟨a2, a3⟩, by omega, by omega, ?_, by omega, fun i hi hi' => h3 i hi'⟩
  intro x hx
  have := List.all_eq_true.1 h1' x hx
  simp at this; omega
set_option maxRecDepth 100000 in
set_option maxHeartbeats 1000000 in
theorem tcheck_any (T : List ByteArray) (S : List Int) (a : Option Addr) (n c : Nat) (b : Option Addr) (m d : Nat) (w : World) (hT : Strs w (.slice a n c) T) (hS : Ints w .i64 (.slice b m d) S)
 (hm : m ≤ 1048576) (hTs : ∀ s ∈ T, s.size ≤ 9223372036854775807) : Calls Tryz.prog 78 #[.agg #[.slice a n c, .slice b m d]] w fun e w' => ∃ r, e = .returned (.int .i64 r) ∧ (r = 0 ∨ r = 150) ∧ (r = 0 ↔ TabOK T S) ∧ Ext w w' := by
 have hn : n ≤ 9223372036854775807 := by obtain ⟨_, _, e, h1, h2⟩ := Sl.shape hT; simp only [Value.slice.injEq] at e; omega
 have hlen := Lib.hid hS.len
 have hlenT := Lib.hid hT.len
 go_enter Tryz.func78, Tryz.ntmps78
 go_upto_region 2 with fail
 go_cut [4] (fun s4 wx => s4 = .bool (sizesB n m) ∧ wx = w.alloc (.cells #[.slice a n c, .slice b m d] 25))
 case first =>
  go_wp2
  all_goals (go_meet; exact ⟨bool_congr (by unfold sizesB; simp [*] <;> omega), rfl⟩)
 case rest =>
  obtain ⟨rfl, rfl⟩ := hcut
  have hx1 := Ext.alloc w (.cells #[.slice a n c, .slice b m d] 25)
  have hT1 := hT.ext hx1
  have hS1 := hS.ext hx1
  have hx1 := Lib.hid hx1
  go_wp2_with fail
  go_loopg [4, 5, 41] m (fun g s4 s5 i wr => ∃ (k u : Nat) (ok : Bool), k ≤ m ∧ g = m - k ∧ i = .int .i64 k ∧ s4 = .bool ok ∧ s5 = .int .i64 u ∧ u ≤ k ∧ ok = (sizesB n m && rangeB n (S.take k)) ∧ (ok = true → u = usedN (S.take k)) ∧ wr = w.alloc (.cells #[.slice a n c, .slice b m d] 25))
  case atStart => exact ⟨0, 0, _, Nat.zero_le _, rfl, rfl, rfl, rfl, Nat.le_refl _, by simp [rangeB], by simp [usedN], rfl⟩
  case round =>
   obtain ⟨k, u, ok, hk, hg, rfl, rfl, rfl, hu, hok, huse, rfl⟩ := hrel
   have Hok := Lib.hid hok
   have Huse := Lib.hid huse
   have Hg := Lib.hid hg
   clear hok huse hg
   by_cases hlt : k < m
   ·obtain ⟨sb, so, rfl, hck⟩ := hS1.atD (k := k) (by rw [hlen.out]; exact hlt)
    generalize hxk : S.getD k 0 = x at hck
    have Hxk := Lib.hid hxk
    clear hxk
    have hck : (w.alloc (.cells #[.slice a n c, .slice (some ⟨sb, so, none⟩) m d] 25)).cell? ⟨sb, so + k, none⟩ = some (.int .i64 x) := hck
    have hk' := rangeB_snoc n S k (by rw [hlen.out]; exact hlt)
    have hu' := usedN_snoc S k (by rw [hlen.out]; exact hlt)
    rw [Hxk.out] at hk' hu'
    rw [← Bool.and_assoc] at hk'
    have HK := Lib.hid hk'
    have HU := Lib.hid hu'
    clear hS1 hS hT1 hT hTs hk' hu'
    cases ok with
    | false =>
     go_wp2
     go_roundg (m - (k + 1))
     case measure => have := Hg.out; omega
     case rel => exact ⟨k + 1, u, false, by omega, rfl, by go_num, rfl, by go_num, by omega, by rw [HK.out, Bool.and_assoc, ← Bool.and_assoc, ← Hok.out]; rfl, fun h => (by cases h), rfl⟩
    | true =>
     by_cases h0 : 0 ≤ x
     ·by_cases h1 : x ≤ n
      ·by_cases h2 : 0 < x
       ·go_wp2
        go_roundg (m - (k + 1))
        case measure => have := Hg.out; omega
        case rel => exact ⟨k + 1, u + 1, true, by omega, rfl, by go_num, rfl, by go_num, by omega, by rw [HK.out, Bool.and_assoc, ← Bool.and_assoc, ← Hok.out]; simp [h0, h1], fun h => by rw [HU.out, if_pos h2, ← Huse.out (by trivial)], rfl⟩
       ·go_wp2
        go_roundg (m - (k + 1))
        case measure => have := Hg.out; omega
        case rel => exact ⟨k + 1, u, true, by omega, rfl, by go_num, rfl, by go_num, by omega, by rw [HK.out, Bool.and_assoc, ← Bool.and_assoc, ← Hok.out]; simp [h0, h1], fun h => by rw [HU.out, if_neg (by omega), ← Huse.out (by trivial)]; rfl, rfl⟩
      ·go_wp2
       go_roundg (m - (k + 1))
       case measure => have := Hg.out; omega
       case rel => exact ⟨k + 1, u, false, by omega, rfl, by go_num, rfl, by go_num, by omega, by rw [HK.out, Bool.and_assoc, ← Bool.and_assoc, ← Hok.out]; simp [h0, h1], fun h => (by cases h), rfl⟩
     ·go_wp2
      go_roundg (m - (k + 1))
      case measure => have := Hg.out; omega
      case rel => exact ⟨k + 1, u, false, by omega, rfl, by go_num, rfl, by go_num, by omega, by rw [HK.out, Bool.and_assoc, ← Bool.and_assoc, ← Hok.out]; rw [decide_eq_false (show ¬ 0 ≤ x by omega)]; rfl, fun h => (by cases h), rfl⟩
   ·obtain rfl : k = m := by omega
    rw [List.take_of_length_le (Nat.le_of_eq hlen.out)] at Hok Huse
    cases ok with
    | false =>
     have hno : ¬ TabOK T S := fun h => by have := ((check_iff hlenT.out hlen.out hm).1 h).1.1; rw [← Hok.out] at this; cases this
     have Hno := Lib.hid hno
     clear hno
     go_wp2
     go_ret
     exact ⟨150, rfl, .inr rfl, ⟨fun h => by omega, fun h => absurd h Hno.out⟩, hx1.out⟩
    | true =>
     by_cases hun : u = n
     ·have hun' : ((u : Int) != (n : Int)) = false := by simp [hun]
      have Hun := Lib.hid hun
      clear hun
      have hr : ∀ x ∈ S, 0 ≤ x ∧ x ≤ T.length := by
       have h := Hok.out
       have hl := hlenT.out
       intro x hx
       have h2 : rangeB n S = true := by rw [eq_comm, Bool.and_eq_true] at h; exact h.2
       have := List.all_eq_true.1 h2 x hx
       simp at this; omega
      have Hr := Lib.hid hr
      have HS := Lib.hid hS1
      have HT := Lib.hid hT1
      have HTs := Lib.hid hTs
      have b1 : (w.alloc (.cells #[.slice a n c, .slice b k d] 25)).cell? ⟨w.heap.size, 0, none⟩ = some (.slice a n c) := by simp [go_sem]
      have b2 : (w.alloc (.cells #[.slice a n c, .slice b k d] 25)).cell? ⟨w.heap.size, 1, none⟩ = some (.slice b k d) := by simp [go_sem]
      clear hr hS1 hT1 hS hT hTs
      go_wp2_with fail
      generalize (w.alloc (.cells #[.slice a n c, .slice b k d] 25)) = w1 at *
      go_loopg [80] n (fun g i wr => ∃ j : Nat, j ≤ n ∧ g = n - j ∧ i = .int .i64 j ∧ (∀ x (h : x < T.length), x < j → ∃ p : Nat, placeF T S T[x] = p ∧ S.getD p 0 = x + 1) ∧ Ext w1 wr)
      case atStart => exact ⟨0, Nat.zero_le _, rfl, rfl, fun x h hx => by omega, Ext.refl _⟩
      case round =>
       obtain ⟨j, hj, hg, rfl, hall, hxr⟩ := hrel
       have Hall := Lib.hid hall
       have Hg2 := Lib.hid hg
       clear hall hg
       by_cases hlt2 : j < n
       ·have hTr := HT.out.ext hxr
        have hSr := HS.out.ext hxr
        have b1 := (hxr.cell (p := ⟨w.heap.size, 0, none⟩) (cell_lt b1)).trans b1
        have b2 := (hxr.cell (p := ⟨w.heap.size, 1, none⟩) (cell_lt b2)).trans b2
        have hjT : j < T.length := by have := hlenT.out; omega
        obtain ⟨tb, tO, rfl, htk⟩ := hTr.atD hjT
        have hss := HTs.out _ (List.getElem_mem hjT)
        rw [getD_at hjT] at htk
        generalize hse : T[j] = s at htk hss
        have Hse := Lib.hid hse
        clear hse
        go_wp2_with fail
        refine (place_any T S s _ _ _ _ _ _ _ hTr hSr Hr.out hm hss).mono ?_
        rintro e w2 ⟨rfl, hx2⟩
        have b1 := (hx2.cell (p := ⟨w.heap.size, 0, none⟩) (cell_lt b1)).trans b1
        have b2 := (hx2.cell (p := ⟨w.heap.size, 1, none⟩) (cell_lt b2)).trans b2
        have hS2 := hSr.ext hx2
        clear hTr hSr
        rcases placeFrom_cases T S s S.length 0 with hp | ⟨p, hp⟩
        ·replace hp : placeF T S s = -1 := hp
         have hno : ¬ TabOK T S := fun h => by
          obtain ⟨p, h1, h2⟩ := h.laid.at_ j hjT hjT
          rw [Hse.out, hp] at h1; omega
         have Hno := Lib.hid hno
         clear hno
         rw [hp]
         go_wp2
         go_ret
         exact ⟨150, rfl, .inr rfl, ⟨fun h => by omega, fun h => absurd h Hno.out⟩, hx1.out.trans (hxr.trans hx2)⟩
        ·replace hp : placeF T S s = p := hp
         have hpl := placeF_lt hp
         rw [hlen.out] at hpl
         obtain ⟨sb, so, rfl, hck⟩ := hS2.atD (k := p) (by rw [hlen.out]; exact hpl)
         generalize hxe : S.getD p 0 = x at hck
         have Hxe := Lib.hid hxe
         have Hp := Lib.hid hp
         rw [hp]
         clear hxe hp hS2
         by_cases hxj : x = (j : Int) + 1
         ·have hb : (x != (j : Int) + 1) = false := by simp [hxj]
          have Hxj := Lib.hid hxj
          clear hxj
          go_wp2_with fail
          go_roundg (n - (j + 1))
          case measure => have := Hg2.out; omega
          case rel =>
           refine ⟨j + 1, by omega, rfl, by go_num, fun y hy hyj => ?_, hxr.trans hx2⟩
           rcases Nat.lt_or_ge y j with h | h
           ·exact Hall.out y hy h
           ·obtain rfl : y = j := by omega
            exact ⟨p, by rw [Hse.out]; exact Hp.out, by rw [Hxe.out]; exact Hxj.out⟩
         ·have hb : (x != (j : Int) + 1) = true := by simpa using hxj
          have hno : ¬ TabOK T S := fun h => by
           obtain ⟨q, h1, h2⟩ := h.laid.at_ j hjT hjT
           rw [Hse.out, Hp.out] at h1
           obtain rfl : q = p := by omega
           rw [Hxe.out] at h2; exact hxj h2
          have Hno := Lib.hid hno
          clear hno hxj
          go_wp2
          go_ret
          exact ⟨150, rfl, .inr rfl, ⟨fun h => by omega, fun h => absurd h Hno.out⟩, hx1.out.trans (hxr.trans hx2)⟩
       ·have hyes : TabOK T S := (check_iff hlenT.out hlen.out hm).2 ⟨⟨Hok.out.symm, by have := Huse.out (by trivial); rw [← this, Hun.out]⟩, fun i hi => Hall.out i hi (by have := hlenT.out; omega)⟩
        have Hyes := Lib.hid hyes
        clear hyes
        go_wp2
        go_ret
        exact ⟨0, rfl, .inl rfl, ⟨fun _ => Hyes.out, fun _ => rfl⟩, hx1.out.trans hxr⟩
     ·have hun' : ((u : Int) != (n : Int)) = true := by simp; omega
      have hno : ¬ TabOK T S := fun h => by have := ((check_iff hlenT.out hlen.out hm).1 h).1.2; have := Huse.out (by trivial); omega
      have Hno := Lib.hid hno
      clear hno
      go_wp2
      go_ret
      exact ⟨150, rfl, .inr rfl, ⟨fun h => by omega, fun h => absurd h Hno.out⟩, hx1.out⟩
end Go.Proofs.YtkmbnghghbfkdaaGreat

/- Find and Text; the document's Find, stands, Right. -/
namespace Go.Proofs.YtkmbnghghbfkdaaGreat
open Go.RowKit Go.Shelf Go.Sort
set_option maxRecDepth 100000 in
theorem tcheck_yes {T : List ByteArray} {S : List Int} {a : Option Addr} {n c : Nat} {b : Option Addr} {m d : Nat} {w : World} (hT : Strs w (.slice a n c) T) (hS : Ints w .i64 (.slice b m d) S)
 (hm : m ≤ 1048576) (hTs : ∀ s ∈ T, s.size ≤ 9223372036854775807) (h : TabOK T S) : Calls Tryz.prog 78 #[.agg #[.slice a n c, .slice b m d]] w fun e w' => e = .returned (.int .i64 0) ∧ Ext w w' :=
 (tcheck_any T S a n c b m d w hT hS hm hTs).mono fun e w' ⟨r, he, _, h2, hx⟩ => ⟨by rw [he, h2.2 h], hx⟩
theorem tcheck_no {T : List ByteArray} {S : List Int} {a : Option Addr} {n c : Nat} {b : Option Addr} {m d : Nat} {w : World} (hT : Strs w (.slice a n c) T) (hS : Ints w .i64 (.slice b m d) S)
 (hm : m ≤ 1048576) (hTs : ∀ s ∈ T, s.size ≤ 9223372036854775807) (h : ¬ TabOK T S) : Calls Tryz.prog 78 #[.agg #[.slice a n c, .slice b m d]] w fun e w' => e = .returned (.int .i64 150) ∧ Ext w w' :=
 (tcheck_any T S a n c b m d w hT hS hm hTs).mono fun e w' ⟨r, he, h1, h2, hx⟩ => ⟨by rw [he]; rcases h1 with rfl | rfl; exact absurd (h2.1 rfl) h; rfl, hx⟩
theorem refFind_any (T : List ByteArray) (s : ByteArray) (v : Value) (w : World) (hT : Strs w v T) :
 Calls Tryz.prog 74 #[v, .string s] w fun e w' => e = .returned (.int .i64 (findF T s)) ∧ w = w' := by
 obtain ⟨a, c, rfl, hc1, hc2⟩ := Sl.shape hT
 go_enter Tryz.func74, Tryz.ntmps74
 go_wp2
 go_loopg [9] T.length (fun g i wr => ∃ k : Nat, k ≤ T.length ∧ g = T.length - k ∧ i = .int .i64 k ∧ (∀ j (h : j < T.length), j < k → T[j] ≠ s) ∧ w = wr)
 case atStart => exact ⟨0, Nat.zero_le _, rfl, rfl, fun j _ h => by omega, rfl⟩
 case round =>
  obtain ⟨k, hk, hg, rfl, hall, rfl⟩ := hrel
  have Hall := Lib.hid hall
  have Hg := Lib.hid hg
  clear hall hg
  by_cases hlt : k < T.length
  ·obtain ⟨tb, tO, rfl, htk⟩ := hT.atD hlt
   rw [getD_at hlt] at htk
   generalize hx : T[k] = x at htk
   have Hx := Lib.hid hx
   clear hx
   by_cases hxs : x = s
   ·have hb := str_yes hxs
    have Hxs := Lib.hid hxs
    clear hxs
    go_wp2
    go_ret
    exact ⟨ret_int (findF_yes.2 ⟨hlt, by rw [Hx.out, Hxs.out], fun j hj => Hall.out j (by omega) hj⟩).symm, rfl⟩
   ·have hb := str_no hxs
    have Hxs := Lib.hid hxs
    clear hxs
    go_wp2
    go_roundg (T.length - (k + 1))
    case measure => have := Hg.out; omega
    case rel =>
     refine ⟨k + 1, by omega, rfl, by go_num, fun j hj hjk => ?_, rfl⟩
     rcases Nat.lt_or_ge j k with h | h
     ·exact Hall.out j hj h
     ·obtain rfl : j = k := by omega
      rw [Hx.out]; exact Hxs.out
  ·go_wp2
   go_ret
   refine ⟨ret_int (findF_no.2 fun hm => ?_).symm, rfl⟩
   obtain ⟨j, hj, he⟩ := List.getElem_of_mem hm
   exact Hall.out j hj (by omega) he
set_option maxRecDepth 100000 in
set_option maxHeartbeats 1000000 in
theorem tstands_any (T : List ByteArray) (S : List Int) (a : Option Addr) (n c : Nat) (b : Option Addr) (m d : Nat) (q : Nat) (w : World) (hT : Strs w (.slice a n c) T) (hS : Ints w .i64 (.slice b m d) S)
 (hm : m ≤ 1048576) (hm0 : 0 < m) (hTs : ∀ s ∈ T, s.size ≤ 9223372036854775807) (hq : q < T.length) : Calls Tryz.prog 75 #[.agg #[.slice a n c, .slice b m d], .int .i64 q] w fun e w' => e = .returned (.bool (standsF T S T[q] q)) ∧ Ext w w' := by
 have hn : n ≤ 9223372036854775807 := by obtain ⟨_, _, e, h1, h2⟩ := Sl.shape hT; simp only [Value.slice.injEq] at e; omega
 have hlen := Lib.hid hS.len
 have hqn : q < n := by rw [← hT.len]; exact hq
 have hss := hTs _ (List.getElem_mem hq)
 generalize hsq : T[q] = s at hss
 have hm1 : 0 < (m : Int) := by omega
 have hH : (hashN s : Int) = hashL 14695981039346656037 (sbt s) := by have := hashL_range 14695981039346656037 (sbt s) (by omega) (by omega); unfold hashN; omega
 have hp0 : ((hashN s : Int) % (m : Int)) = ((probe m s 0 : Nat) : Int) := by unfold probe; simp
 have hps : ∀ k, (probe m s k + 1) % m = probe m s (k + 1) := fun k => by unfold probe; rw [Nat.mod_add_mod]; rfl
 have Hps := Lib.hid hps
 have HH := Lib.hid hH
 have Hsq := Lib.hid hsq
 have Hp0 := Lib.hid hp0
 clear hTs hps hH hsq hp0
 go_enter Tryz.func75, Tryz.ntmps75
 go_upto_region 1 with fail
 have hx1 : Ext w (w.alloc (.cells #[.slice a n c, .slice b m d] 25)) := Ext.alloc _ _
 have b0 : (w.alloc (.cells #[.slice a n c, .slice b m d] 25)).cell? ⟨w.heap.size, 0, none⟩ = some (.slice a n c) := by simp [go_sem]
 have b1 : (w.alloc (.cells #[.slice a n c, .slice b m d] 25)).cell? ⟨w.heap.size, 1, none⟩ = some (.slice b m d) := by simp [go_sem]
 have hT1 := hT.ext hx1
 have hS1 := hS.ext hx1
 generalize (w.alloc (.cells #[.slice a n c, .slice b m d] 25)) = w1 at *
 clear hT hS
 obtain ⟨tb, tO, rfl, htk⟩ := hT1.atD hq
 rw [getD_at hq, Hsq.out] at htk
 have HS := Lib.hid hS1
 clear hT1 hS1
 go_wp2_with fail
 refine (refHash_any s _ hss).mono ?_
 rintro e w2 ⟨rfl, n1, rfl⟩
 rw [← HH.out]
 have hp0 := Hp0.out
 have hxd := Ext.drewN w1 n1
 have hx2 := hx1.trans hxd
 have HS2 := Lib.hid (HS.out.ext hxd)
 have b0 := ext_cell hxd b0
 have b1 := ext_cell hxd b1
 generalize w1.drewN n1 = w2 at *
 clear hss htk hx1 hxd HS
 have hH0 : 0 ≤ (hashN s : Int) := by omega
 generalize (hashN s : Int) = H at hp0 hH0
 have hpl0 : probe m s 0 < m := probe_lt m s 0 hm0
 go_wp2_with fail
 go_loopg [6, 7, 22] m (fun g s6 s7 i wr => ∃ (k : Nat) (f : Bool), k ≤ m ∧ g = m - k ∧ i = .int .i64 k ∧ s6 = .int .i64 (probe m s k) ∧ s7 = .bool f ∧ standsFrom T S s q (m - k) k f = standsF T S s q ∧ wr = w2)
 case atStart => exact ⟨0, false, Nat.zero_le _, rfl, rfl, rfl, rfl, by unfold standsF; rw [hlen.out]; rfl, rfl⟩
 case round =>
  obtain ⟨k, f, hk, hg, rfl, rfl, rfl, hst, rfl⟩ := hrel
  have Hg := Lib.hid hg
  by_cases hlt : k < m
  ·have e1 : standsFrom T S s q (m - k) k f = if S.getD (probe S.length s k) 0 = 0 ∧ f = false then false else if S.getD (probe S.length s k) 0 = q + 1 then (if f then false else standsFrom T S s q (m - (k + 1)) (k + 1) true) else standsFrom T S s q (m - (k + 1)) (k + 1) f := by
    rw [show m - k = (m - (k + 1)) + 1 from by omega]; rfl
   rw [e1, hlen.out] at hst
   have hpl := probe_lt m s k hm0
   have hpn : ((probe m s k : Int) + 1) % (m : Int) = (probe m s (k + 1) : Nat) := by rw [← Hps.out k]; rfl
   obtain ⟨sb, so, rfl, hck⟩ := HS2.out.atD (k := probe m s k) (by rw [hlen.out]; exact hpl)
   generalize S.getD (probe m s k) 0 = x at hck hst
   have Hst := Lib.hid hst
   clear hg hst e1 hp0 hpl0
   by_cases hx0 : x = 0
   ·subst hx0
    have hq1 : ((0 : Int) == (q : Int) + 1) = false := by simp; omega
    cases f with
    | false =>
     go_wp2
     go_ret
     exact ⟨ret_bool (by have h := Hst.out; simpa using h), hx2⟩
    | true =>
     go_wp2
     go_roundg (m - (k + 1))
     case measure => have := Hg.out; omega
     case rel => exact ⟨k + 1, true, by omega, rfl, by go_num, rfl, rfl, by have h := Hst.out; have h2 : ¬ (0 : Int) = (q : Int) + 1 := (by omega); simpa [h2] using h, rfl⟩
   ·have hb : (x == 0) = false := by simpa using hx0
    have Hx0 := Lib.hid hx0
    clear hx0
    by_cases hxq : x = (q : Int) + 1
    ·have hq1 : (x == (q : Int) + 1) = true := by simpa using hxq
     have Hxq := Lib.hid hxq
     clear hxq
     cases f with
     | false =>
      go_wp2
      go_roundg (m - (k + 1))
      case measure => have := Hg.out; omega
      case rel => exact ⟨k + 1, true, by omega, rfl, by go_num, rfl, rfl, by have h := Hst.out; have h1 := Hx0.out; have h2 := Hxq.out; (simp [h1, h2] at h ⊢; try exact h), rfl⟩
     | true =>
      go_wp2
      go_ret
      exact ⟨ret_bool (by have h := Hst.out; have h2 := Hxq.out; simpa [h2] using h), hx2⟩
    ·have hq1 : (x == (q : Int) + 1) = false := by simpa using hxq
     have Hxq := Lib.hid hxq
     clear hxq
     cases f with
     | false =>
      go_wp2
      go_roundg (m - (k + 1))
      case measure => have := Hg.out; omega
      case rel => exact ⟨k + 1, false, by omega, rfl, by go_num, rfl, rfl, by have h := Hst.out; have h1 := Hx0.out; have h2 := Hxq.out; simpa [h1, h2] using h, rfl⟩
     | true =>
      go_wp2
      go_roundg (m - (k + 1))
      case measure => have := Hg.out; omega
      case rel => exact ⟨k + 1, true, by omega, rfl, by go_num, rfl, rfl, by have h := Hst.out; have h2 := Hxq.out; simpa [h2] using h, rfl⟩
  ·rw [show m - k = 0 from by omega, show standsFrom T S s q 0 k f = f from by cases f <;> rfl] at hst
   have Hst := Lib.hid hst
   clear hst hg
   go_wp2
   go_ret
   exact ⟨ret_bool Hst.out, hx2⟩
def SaidB (Q : Prop) (w : World) (e : Ending) (w' : World) : Prop := ∃ r, e = .returned (.bool r) ∧ (r = true ↔ Q) ∧ Ext w w'
theorem pow_no {m e p : Nat} (hp : p = 8 * 2 ^ e) (h : e = 0 ∨ 8 * 2 ^ (e - 1) < m) (hle : m ≤ p) (hne : m ≠ p) : ¬ ∃ f, m = 8 * 2 ^ f := by
 rintro ⟨f, hf⟩
 rcases Nat.lt_trichotomy f e with hfe | rfl | hfe
 ·have := Nat.pow_le_pow_right (show 0 < 2 by omega) (show f ≤ e - 1 by omega)
  rcases h with h | h <;> omega
 ·omega
 ·have := Nat.pow_lt_pow_right (show 1 < 2 by omega) hfe
  omega
theorem rangeB_iff (n : Nat) (S : List Int) : rangeB n S = true ↔ ∀ x ∈ S, 0 ≤ x ∧ x ≤ n := by
 unfold rangeB; rw [List.all_eq_true]; simp
set_option maxRecDepth 100000 in
set_option maxHeartbeats 1000000 in
theorem right_any (T : List ByteArray) (S : List Int) (a : Option Addr) (n c : Nat) (b : Option Addr) (m d : Nat) (w : World) (hT : Strs w (.slice a n c) T) (hS : Ints w .i64 (.slice b m d) S)
 (hm : m ≤ 1048576) (hTs : ∀ s ∈ T, s.size ≤ 9223372036854775807) : Calls Tryz.prog 38 #[.agg #[.slice a n c, .slice b m d]] w (SaidB (RightP T S) w) := by
 have hn : n ≤ 9223372036854775807 := by obtain ⟨_, _, e, h1, h2⟩ := Sl.shape hT; simp only [Value.slice.injEq] at e; omega
 have hlen := Lib.hid hS.len
 have hlenT := Lib.hid hT.len
 go_enter Tryz.func38, Tryz.ntmps38
 go_upto_region 1 with fail
 have hx1 : Ext w (w.alloc (.cells #[.slice a n c, .slice b m d] 25)) := Ext.alloc _ _
 have b0 : (w.alloc (.cells #[.slice a n c, .slice b m d] 25)).cell? ⟨w.heap.size, 0, none⟩ = some (.slice a n c) := by simp [go_sem]
 have b1 : (w.alloc (.cells #[.slice a n c, .slice b m d] 25)).cell? ⟨w.heap.size, 1, none⟩ = some (.slice b m d) := by simp [go_sem]
 have hT1 := hT.ext hx1
 have hS1 := hS.ext hx1
 generalize (w.alloc (.cells #[.slice a n c, .slice b m d] 25)) = w1 at *
 clear hT hS
 have HS := Lib.hid hS1
 have HT := Lib.hid hT1
 have HTs := Lib.hid hTs
 clear hS1 hT1 hTs
 go_wp2_with fail
 go_loopg [3] (2 * m - 8) (fun g s3 wr => ∃ e p : Nat, 8 ≤ p ∧ p = 8 * 2 ^ e ∧ (e = 0 ∨ 8 * 2 ^ (e - 1) < m) ∧ g = 2 * m - p ∧ s3 = .int .i64 p ∧ p ≤ 8 + 2 * m ∧ wr = w1)
 case atStart => exact ⟨0, 8, Nat.le_refl _, rfl, .inl rfl, by omega, rfl, by omega, rfl⟩
 case round =>
  obtain ⟨e, p, hp8, hp, hpm, hg, rfl, hpb, rfl⟩ := hrel
  have Hg := Lib.hid hg
  have Hp := Lib.hid hp
  have Hpm := Lib.hid hpm
  clear hg hp hpm
  by_cases hlt : p < m
  ·go_wp2
   go_roundg (2 * m - 2 * p)
   case measure => have := Hg.out; omega
   case rel => exact ⟨e + 1, 2 * p, by omega, by rw [Hp.out, Nat.pow_succ]; omega, .inr (by rw [Nat.add_sub_cancel, ← Hp.out]; exact hlt), rfl, by go_num, by omega, rfl⟩
  ·by_cases hmp : m = p
   ·by_cases hn1 : n ≤ 1024
    ·by_cases hn2 : 2 * n ≤ m
     ·subst hmp
      clear hlt hp8 hpb
      go_wp2_with fail
      go_loopg [37] m (fun g i wr' => ∃ k : Nat, k ≤ m ∧ g = m - k ∧ i = .int .i64 k ∧ rangeB n (S.take k) = true ∧ wr' = wr)
      case atStart => exact ⟨0, Nat.zero_le _, rfl, rfl, rfl, rfl⟩
      case round =>
       obtain ⟨k, hk, hg, rfl, hrb, rfl⟩ := hrel
       have Hrb := Lib.hid hrb
       have Hg2 := Lib.hid hg
       clear hrb hg
       by_cases hlt : k < m
       ·obtain ⟨sb, so, rfl, hck⟩ := HS.out.atD (k := k) (by rw [hlen.out]; exact hlt)
        have hk' := rangeB_snoc n S k (by rw [hlen.out]; exact hlt)
        have hmem : S.getD k 0 ∈ S := getD_mem (by rw [hlen.out]; exact hlt)
        generalize S.getD k 0 = x at hck hk' hmem
        rw [Hrb.out] at hk'
        have Hk := Lib.hid hk'
        have Hmem := Lib.hid hmem
        clear hk' hmem
        by_cases h0 : 0 ≤ x
        ·by_cases h1 : x ≤ n
         ·go_wp2
          go_roundg (m - (k + 1))
          case measure => have := Hg2.out; omega
          case rel => exact ⟨k + 1, by omega, rfl, by go_num, by rw [Hk.out]; simp [h0, h1], rfl⟩
         ·have hno : ¬ RightP T S := fun h => h1 (by have := (h.range x Hmem.out).2; have := hlenT.out; omega)
          have Hno := Lib.hid hno
          clear hno
          go_wp2
          go_ret
          exact ⟨false, rfl, ⟨fun h => (by cases h), fun h => absurd h Hno.out⟩, hx1⟩
        ·have hno : ¬ RightP T S := fun h => h0 (h.range x Hmem.out).1
         have Hno := Lib.hid hno
         clear hno
         go_wp2
         go_ret
         exact ⟨false, rfl, ⟨fun h => (by cases h), fun h => absurd h Hno.out⟩, hx1⟩
       ·have hrange : ∀ x ∈ S, 0 ≤ x ∧ x ≤ T.length := by
         have := Hrb.out
         rw [List.take_of_length_le (by have := hlen.out; omega), rangeB_iff] at this
         rw [hlenT.out]; exact this
        have Hrange := Lib.hid hrange
        clear hrange
        obtain ⟨w3, hwn⟩ : ∃ x, x = wr := ⟨_, rfl⟩
        subst hwn
        have hm0 : 0 < m := by have := Hp.out; have : 0 < 2 ^ e := Nat.pow_pos (by omega); omega
        go_wp2_with fail
        go_loopg [54] n (fun g i wx => ∃ j : Nat, j ≤ n ∧ g = n - j ∧ i = .int .i64 j ∧ (∀ x (h : x < T.length), x < j → findF T T[x] = x ∧ standsF T S T[x] x = true) ∧ Ext w3 wx)
        case atStart => exact ⟨0, Nat.zero_le _, rfl, rfl, fun x h hx => by omega, Ext.refl _⟩
        case round =>
         obtain ⟨j, hj, hg, rfl, hall, hxr⟩ := hrel
         have Hall := Lib.hid hall
         have Hg3 := Lib.hid hg
         clear hall hg
         by_cases hlt2 : j < n
         ·have hTr := HT.out.ext hxr
          have hSr := HS.out.ext hxr
          have b0 := ext_cell hxr b0
          have b1 := ext_cell hxr b1
          have hjT : j < T.length := by have := hlenT.out; omega
          obtain ⟨tb, tO, rfl, htk⟩ := hTr.atD hjT
          rw [getD_at hjT] at htk
          have hst := tstands_any T S _ n c b m d j wr hTr hSr hm hm0 HTs.out hjT
          have Hall1 := fun h : RightP T S => h.at_ j hjT
          have hfr := findF_range T T[j]
          generalize hse : T[j] = s at htk hst Hall1 hfr
          have Hse := Lib.hid hse
          have Hst := Lib.hid hst
          have Hall1 := Lib.hid Hall1
          have HTr := Lib.hid hTr
          clear hse hst hTr hSr
          go_wp2_with fail
          refine (refFind_any T s _ _ HTr.out).mono ?_
          rintro e w' ⟨rfl, rfl⟩
          generalize hf : findF T s = f at hfr
          have Hf := Lib.hid hf
          clear hf
          by_cases hfj : f = j
          ·have hb : (f != (j : Int)) = false := by simp [hfj]
           have Hfj := Lib.hid hfj
           clear hfj
           go_wp2_with fail
           refine Hst.out.mono ?_
           rintro e w3 ⟨rfl, hx3⟩
           cases hsf : standsF T S s j with
           | true =>
            have Hsf := Lib.hid hsf
            clear hsf
            go_wp2_with fail
            go_roundg (n - (j + 1))
            case measure => have := Hg3.out; omega
            case rel =>
             refine ⟨j + 1, by omega, rfl, by go_num, fun y hy hyj => ?_, hxr.trans hx3⟩
             rcases Nat.lt_or_ge y j with h | h
             ·exact Hall.out y hy h
             ·obtain rfl : y = j := by omega
              rw [Hse.out, Hf.out]
              exact ⟨Hfj.out, Hsf.out⟩
           | false =>
            have hno : ¬ RightP T S := fun h => by have := (Hall1.out h).2; rw [hsf] at this; cases this
            have Hno := Lib.hid hno
            clear hno hsf
            go_wp2
            go_ret
            exact ⟨false, rfl, ⟨fun h => (by cases h), fun h => absurd h Hno.out⟩, hx1.trans (hxr.trans hx3)⟩
          ·have hb : (f != (j : Int)) = true := by simpa using hfj
           have hno : ¬ RightP T S := fun h => hfj (by rw [← Hf.out]; exact (Hall1.out h).1)
           have Hno := Lib.hid hno
           clear hno hfj
           go_wp2
           go_ret
           exact ⟨false, rfl, ⟨fun h => (by cases h), fun h => absurd h Hno.out⟩, hx1.trans hxr⟩
         ·have hyes : RightP T S := ⟨⟨e, by rw [hlen.out]; exact Hp.out⟩, by have := hlenT.out; omega, by have := hlenT.out; have := hlen.out; omega, Hrange.out, fun i hi => Hall.out i hi (by have := hlenT.out; omega)⟩
          have Hyes := Lib.hid hyes
          clear hyes
          go_wp2
          go_ret
          exact ⟨true, rfl, ⟨fun _ => Hyes.out, fun _ => rfl⟩, hx1.trans hxr⟩
     ·have hno : ¬ RightP T S := fun h => hn2 (by have := h.half; have := hlenT.out; have := hlen.out; omega)
      have Hno := Lib.hid hno
      clear hno
      subst hmp
      go_wp2
      go_ret
      exact ⟨false, rfl, ⟨fun h => (by cases h), fun h => absurd h Hno.out⟩, hx1⟩
    ·have hno : ¬ RightP T S := fun h => hn1 (by have := h.most; have := hlenT.out; omega)
     have Hno := Lib.hid hno
     clear hno
     subst hmp
     go_wp2
     go_ret
     exact ⟨false, rfl, ⟨fun h => (by cases h), fun h => absurd h Hno.out⟩, hx1⟩
   ·have hno : ¬ RightP T S := fun h => pow_no Hp.out Hpm.out (by omega) hmp (by have := h.pow; rw [hlen.out] at this; exact this)
    have Hno := Lib.hid hno
    have hb : ((m : Int) != (p : Int)) = true := by simp; omega
    clear hno
    go_wp2
    go_ret
    exact ⟨false, rfl, ⟨fun h => (by cases h), fun h => absurd h Hno.out⟩, hx1⟩
end Go.Proofs.YtkmbnghghbfkdaaGreat
