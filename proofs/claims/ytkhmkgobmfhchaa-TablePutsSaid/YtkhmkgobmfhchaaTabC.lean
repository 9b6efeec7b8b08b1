/- Check. -/
import Derived.Test.YtkhmkgobmfhchaaTabB
import Derived.Deep.DeepCutAuto
import Derived.Deep.LoopGhost
namespace Go.Proofs.Ytkhmkgobmfhchaa
open Go.RowKit Go.Shelf

def sizesB (n m : Nat) : Bool := decide ((n : Int) ≤ 1024) && (decide (8 ≤ (m : Int)) && (decide (bits .and .i64 (m : Int) ((m : Int) - 1) = 0) && decide (2 * (n : Int) ≤ m)))
def rangeB (n : Nat) (S : List Int) : Bool := S.all fun x => decide (0 ≤ x) && decide (x ≤ n)
theorem rangeB_snoc (n : Nat) (S : List Int) (k : Nat) (h : k < S.length) : rangeB n (S.take (k + 1)) = (rangeB n (S.take k) && (decide (0 ≤ S.getD k 0) && decide (S.getD k 0 ≤ n))) := by
  unfold rangeB; rw [take_snoc _ _ h, List.all_append]; simp [List.getD, h]
theorem usedN_snoc (S : List Int) (k : Nat) (h : k < S.length) : usedN (S.take (k + 1)) = usedN (S.take k) + if 0 < S.getD k 0 then 1 else 0 := by
  unfold usedN; rw [take_snoc _ _ h, List.filter_append]; simp only [List.length_append, List.filter_cons, List.filter_nil]; simp only [List.getD, h, List.getElem?_eq_getElem, Option.getD_some]
  split <;> simp_all
theorem usedN_le (S : List Int) : usedN S ≤ S.length := List.length_filter_le _ _

theorem i64_and_nat (a b : Nat) (ha : a < 9223372036854775808) (hb : b < 9223372036854775808) : bits .and .i64 (a : Int) (b : Int) = ((a &&& b : Nat) : Int) := by
  have hx : a &&& b < 2 ^ 63 := Nat.and_lt_two_pow _ (by omega)
  show IntKind.i64.wrap ((BitVec.ofInt 64 (a : Int) &&& BitVec.ofInt 64 (b : Int)).toNat : Int) = _
  rw [BitVec.toNat_and, BitVec.ofInt_natCast, BitVec.ofInt_natCast, BitVec.toNat_ofNat, BitVec.toNat_ofNat, Nat.mod_eq_of_lt (by omega), Nat.mod_eq_of_lt (by omega), IntKind.wrap_i64]
  omega
theorem pow_iff (m : Nat) (hm : m ≤ 1048576) : (8 ≤ (m : Int) ∧ bits .and .i64 (m : Int) ((m : Int) - 1) = 0) ↔ ∃ e, m = 8 * 2 ^ e := by
  by_cases h0 : m = 0
  · subst h0
    constructor
    · rintro ⟨h, _⟩; simp at h
    · rintro ⟨e, h⟩; have : 0 < 2 ^ e := Nat.pow_pos (by omega); omega
  · have e1 : (m : Int) - 1 = ((m - 1 : Nat) : Int) := by omega
    rw [e1, i64_and_nat m (m - 1) (by omega) (by omega)]
    have hp := Nat.and_sub_one_eq_zero_iff_isPowerOfTwo (n := m) h0
    constructor
    · rintro ⟨h8, hb⟩
      obtain ⟨e, he⟩ := hp.1 (by omega)
      have h3 : 3 ≤ e := by
        refine Classical.byContradiction fun hc => ?_
        have : e = 0 ∨ e = 1 ∨ e = 2 := by omega
        rcases this with rfl | rfl | rfl <;> simp at he <;> omega
      obtain ⟨f, rfl⟩ : ∃ f, e = f + 3 := ⟨e - 3, by omega⟩
      exact ⟨f, by rw [he, Nat.pow_add]; omega⟩
    · rintro ⟨e, he⟩
      have h1 : 0 < 2 ^ e := Nat.pow_pos (by omega)
      refine ⟨by omega, ?_⟩
      have := hp.2 ⟨e + 3, by rw [he, Nat.pow_add]; omega⟩
      omega
theorem check_iff {T : List ByteArray} {S : List Int} {n m : Nat} (hn : T.length = n) (hl : S.length = m) (hm : m ≤ 1048576) :
    TabOK T S ↔ ((sizesB n m && rangeB n S) = true ∧ usedN S = n) ∧ ∀ i (h : i < T.length), ∃ p : Nat, placeF T S T[i] = p ∧ S.getD p 0 = i + 1 := by
  have hp := pow_iff m hm
  constructor
  · intro h
    refine ⟨⟨?_, by rw [← hn]; exact h.laid.used⟩, fun i hi => h.laid.at_ i hi hi⟩
    obtain ⟨h1, h2⟩ := hp.2 (hl ▸ h.pow)
    have h3 := h.most
    have h4 := h.half
    rw [Bool.and_eq_true]
    refine ⟨?_, ?_⟩
    · unfold sizesB; simp [h2]; omega
    · unfold rangeB; rw [List.all_eq_true]; intro x hx; have := h.laid.range x hx; simp; omega
  · rintro ⟨⟨h1, h2⟩, h3⟩
    rw [Bool.and_eq_true] at h1
    obtain ⟨h1, h1'⟩ := h1
    unfold sizesB at h1
    simp only [Bool.and_eq_true, decide_eq_true_eq] at h1
    obtain ⟨a1, a2, a3, a4⟩ := h1
    refine ⟨hl ▸ hp.1 ⟨a2, a3⟩, by omega, by omega, ?_, by omega, fun i hi hi' => h3 i hi'⟩
    intro x hx
    have := List.all_eq_true.1 h1' x hx
    simp at this; omega

set_option maxRecDepth 100000 in
set_option maxHeartbeats 1000000 in
theorem check_any (T : List ByteArray) (S : List Int) (a : Option Addr) (n c : Nat) (b : Option Addr) (m d : Nat) (w : World) (hT : Strs w (.slice a n c) T) (hS : Ints w .i64 (.slice b m d) S)
    (hm : m ≤ 1048576) (hTs : ∀ s ∈ T, s.size ≤ 9223372036854775807) : Calls Try.prog 12 #[.agg #[.slice a n c, .slice b m d]] w fun e w' => ∃ r, e = .returned (.int .i64 r) ∧ (r = 0 ∨ r = 150) ∧ (r = 0 ↔ TabOK T S) ∧ Ext w w' := by
  have hn : n ≤ 9223372036854775807 := by obtain ⟨_, _, e, h1, h2⟩ := Sl.shape hT; simp only [Value.slice.injEq] at e; omega
  have hlen := Lib.hid hS.len
  have hlenT := Lib.hid hT.len
  go_enter Try.func12, Try.ntmps12
  go_upto_region 2 with fail
  go_cut [4] (fun s4 wx => s4 = .bool (sizesB n m) ∧ wx = w.alloc (.cells #[.slice a n c, .slice b m d] 25))
  case first =>
    go_wp2
    all_goals (go_meet; exact ⟨bool_congr (by unfold sizesB; simp [*] <;> omega), rfl⟩)
  case rest =>
    obtain ⟨rfl, rfl⟩ := hcut
    have hx1 := Ext.alloc w (.cells #[.slice a n c, .slice b m d] 25)
    have hT1 := hT.ext hx1
    have hS1 := hS.ext hx1
    have hx1 := Lib.hid hx1
    go_wp2_with fail
    go_loopg [4, 5, 41] m (fun g s4 s5 i wr => ∃ (k u : Nat) (ok : Bool), k ≤ m ∧ g = m - k ∧ i = .int .i64 k ∧ s4 = .bool ok ∧ s5 = .int .i64 u ∧ u ≤ k ∧ ok = (sizesB n m && rangeB n (S.take k)) ∧ (ok = true → u = usedN (S.take k)) ∧ wr = w.alloc (.cells #[.slice a n c, .slice b m d] 25))
    case atStart => exact ⟨0, 0, _, Nat.zero_le _, rfl, rfl, rfl, rfl, Nat.le_refl _, by simp [rangeB], by simp [usedN], rfl⟩
    case round =>
      obtain ⟨k, u, ok, hk, hg, rfl, rfl, rfl, hu, hok, huse, rfl⟩ := hrel
      have Hok := Lib.hid hok
      have Huse := Lib.hid huse
      have Hg := Lib.hid hg
      clear hok huse hg
      by_cases hlt : k < m
      · obtain ⟨sb, so, rfl, hck⟩ := hS1.atD (k := k) (by rw [hlen.out]; exact hlt)
        generalize hxk : S.getD k 0 = x at hck
        have Hxk := Lib.hid hxk
        clear hxk
        have hck : (w.alloc (.cells #[.slice a n c, .slice (some ⟨sb, so, none⟩) m d] 25)).cell? ⟨sb, so + k, none⟩ = some (.int .i64 x) := hck
        have hk' := rangeB_snoc n S k (by rw [hlen.out]; exact hlt)
        have hu' := usedN_snoc S k (by rw [hlen.out]; exact hlt)
        rw [Hxk.out] at hk' hu'
        rw [← Bool.and_assoc] at hk'
        have HK := Lib.hid hk'
        have HU := Lib.hid hu'
        clear hS1 hS hT1 hT hTs hk' hu'
        cases ok with
        | false =>
          go_wp2
          go_roundg (m - (k + 1))
          case measure => have := Hg.out; omega
          case rel => exact ⟨k + 1, u, false, by omega, rfl, by go_num, rfl, by go_num, by omega, by rw [HK.out, Bool.and_assoc, ← Bool.and_assoc, ← Hok.out]; rfl, fun h => (by cases h), rfl⟩
        | true =>
          by_cases h0 : 0 ≤ x
          · by_cases h1 : x ≤ n
            · by_cases h2 : 0 < x
              · go_wp2
                go_roundg (m - (k + 1))
                case measure => have := Hg.out; omega
                case rel => exact ⟨k + 1, u + 1, true, by omega, rfl, by go_num, rfl, by go_num, by omega, by rw [HK.out, Bool.and_assoc, ← Bool.and_assoc, ← Hok.out]; simp [h0, h1], fun h => by rw [HU.out, if_pos h2, ← Huse.out (by trivial)], rfl⟩
              · go_wp2
                go_roundg (m - (k + 1))
                case measure => have := Hg.out; omega
                case rel => exact ⟨k + 1, u, true, by omega, rfl, by go_num, rfl, by go_num, by omega, by rw [HK.out, Bool.and_assoc, ← Bool.and_assoc, ← Hok.out]; simp [h0, h1], fun h => by rw [HU.out, if_neg (by omega), ← Huse.out (by trivial)]; rfl, rfl⟩
            · go_wp2
              go_roundg (m - (k + 1))
              case measure => have := Hg.out; omega
              case rel => exact ⟨k + 1, u, false, by omega, rfl, by go_num, rfl, by go_num, by omega, by rw [HK.out, Bool.and_assoc, ← Bool.and_assoc, ← Hok.out]; simp [h0, h1], fun h => (by cases h), rfl⟩
          · go_wp2
            go_roundg (m - (k + 1))
            case measure => have := Hg.out; omega
            case rel => exact ⟨k + 1, u, false, by omega, rfl, by go_num, rfl, by go_num, by omega, by rw [HK.out, Bool.and_assoc, ← Bool.and_assoc, ← Hok.out]; rw [decide_eq_false (show ¬ 0 ≤ x by omega)]; rfl, fun h => (by cases h), rfl⟩
      · obtain rfl : k = m := by omega
        rw [List.take_of_length_le (Nat.le_of_eq hlen.out)] at Hok Huse
        cases ok with
        | false =>
          have hno : ¬ TabOK T S := fun h => by have := ((check_iff hlenT.out hlen.out hm).1 h).1.1; rw [← Hok.out] at this; cases this
          have Hno := Lib.hid hno
          clear hno
          go_wp2
          go_ret
          exact ⟨150, rfl, .inr rfl, ⟨fun h => by omega, fun h => absurd h Hno.out⟩, hx1.out⟩
        | true =>
          by_cases hun : u = n
          · have hun' : ((u : Int) != (n : Int)) = false := by simp [hun]
            have Hun := Lib.hid hun
            clear hun
            have hr : ∀ x ∈ S, 0 ≤ x ∧ x ≤ T.length := by
              have h := Hok.out
              have hl := hlenT.out
              intro x hx
              have h2 : rangeB n S = true := by rw [eq_comm, Bool.and_eq_true] at h; exact h.2
              have := List.all_eq_true.1 h2 x hx
              simp at this; omega
            have Hr := Lib.hid hr
            have HS := Lib.hid hS1
            have HT := Lib.hid hT1
            have HTs := Lib.hid hTs
            have b1 : (w.alloc (.cells #[.slice a n c, .slice b k d] 25)).cell? ⟨w.heap.size, 0, none⟩ = some (.slice a n c) := by simp [go_sem]
            have b2 : (w.alloc (.cells #[.slice a n c, .slice b k d] 25)).cell? ⟨w.heap.size, 1, none⟩ = some (.slice b k d) := by simp [go_sem]
            clear hr hS1 hT1 hS hT hTs
            go_wp2_with fail
            generalize (w.alloc (.cells #[.slice a n c, .slice b k d] 25)) = w1 at *
            go_loopg [80] n (fun g i wr => ∃ j : Nat, j ≤ n ∧ g = n - j ∧ i = .int .i64 j ∧ (∀ x (h : x < T.length), x < j → ∃ p : Nat, placeF T S T[x] = p ∧ S.getD p 0 = x + 1) ∧ Ext w1 wr)
            case atStart => exact ⟨0, Nat.zero_le _, rfl, rfl, fun x h hx => by omega, Ext.refl _⟩
            case round =>
              obtain ⟨j, hj, hg, rfl, hall, hxr⟩ := hrel
              have Hall := Lib.hid hall
              have Hg2 := Lib.hid hg
              clear hall hg
              by_cases hlt2 : j < n
              · have hTr := HT.out.ext hxr
                have hSr := HS.out.ext hxr
                have b1 := (hxr.cell (p := ⟨w.heap.size, 0, none⟩) (cell_lt b1)).trans b1
                have b2 := (hxr.cell (p := ⟨w.heap.size, 1, none⟩) (cell_lt b2)).trans b2
                have hjT : j < T.length := by have := hlenT.out; omega
                obtain ⟨tb, tO, rfl, htk⟩ := hTr.atD hjT
                have hss := HTs.out _ (List.getElem_mem hjT)
                rw [getD_at hjT] at htk
                generalize hse : T[j] = s at htk hss
                have Hse := Lib.hid hse
                clear hse
                go_wp2_with fail
                refine (place_any T S s _ _ _ _ _ _ _ hTr hSr Hr.out hm hss).mono ?_
                rintro e w2 ⟨rfl, hx2⟩
                have b1 := (hx2.cell (p := ⟨w.heap.size, 0, none⟩) (cell_lt b1)).trans b1
                have b2 := (hx2.cell (p := ⟨w.heap.size, 1, none⟩) (cell_lt b2)).trans b2
                have hS2 := hSr.ext hx2
                clear hTr hSr
                rcases placeFrom_cases T S s S.length 0 with hp | ⟨p, hp⟩
                · replace hp : placeF T S s = -1 := hp
                  have hno : ¬ TabOK T S := fun h => by
                    obtain ⟨p, h1, h2⟩ := h.laid.at_ j hjT hjT
                    rw [Hse.out, hp] at h1; omega
                  have Hno := Lib.hid hno
                  clear hno
                  rw [hp]
                  go_wp2
                  go_ret
                  exact ⟨150, rfl, .inr rfl, ⟨fun h => by omega, fun h => absurd h Hno.out⟩, hx1.out.trans (hxr.trans hx2)⟩
                · replace hp : placeF T S s = p := hp
                  have hpl := placeF_lt hp
                  rw [hlen.out] at hpl
                  obtain ⟨sb, so, rfl, hck⟩ := hS2.atD (k := p) (by rw [hlen.out]; exact hpl)
                  generalize hxe : S.getD p 0 = x at hck
                  have Hxe := Lib.hid hxe
                  have Hp := Lib.hid hp
                  rw [hp]
                  clear hxe hp hS2
                  by_cases hxj : x = (j : Int) + 1
                  · have hb : (x != (j : Int) + 1) = false := by simp [hxj]
                    have Hxj := Lib.hid hxj
                    clear hxj
                    go_wp2_with fail
                    go_roundg (n - (j + 1))
                    case measure => have := Hg2.out; omega
                    case rel =>
                      refine ⟨j + 1, by omega, rfl, by go_num, fun y hy hyj => ?_, hxr.trans hx2⟩
                      rcases Nat.lt_or_ge y j with h | h
                      · exact Hall.out y hy h
                      · obtain rfl : y = j := by omega
                        exact ⟨p, by rw [Hse.out]; exact Hp.out, by rw [Hxe.out]; exact Hxj.out⟩
                  · have hb : (x != (j : Int) + 1) = true := by simpa using hxj
                    have hno : ¬ TabOK T S := fun h => by
                      obtain ⟨q, h1, h2⟩ := h.laid.at_ j hjT hjT
                      rw [Hse.out, Hp.out] at h1
                      obtain rfl : q = p := by omega
                      rw [Hxe.out] at h2; exact hxj h2
                    have Hno := Lib.hid hno
                    clear hno hxj
                    go_wp2
                    go_ret
                    exact ⟨150, rfl, .inr rfl, ⟨fun h => by omega, fun h => absurd h Hno.out⟩, hx1.out.trans (hxr.trans hx2)⟩
              · have hyes : TabOK T S := (check_iff hlenT.out hlen.out hm).2 ⟨⟨Hok.out.symm, by have := Huse.out (by trivial); rw [← this, Hun.out]⟩, fun i hi => Hall.out i hi (by have := hlenT.out; omega)⟩
                have Hyes := Lib.hid hyes
                clear hyes
                go_wp2
                go_ret
                exact ⟨0, rfl, .inl rfl, ⟨fun _ => Hyes.out, fun _ => rfl⟩, hx1.out.trans hxr⟩
          · have hun' : ((u : Int) != (n : Int)) = true := by simp; omega
            have hno : ¬ TabOK T S := fun h => by have := ((check_iff hlenT.out hlen.out hm).1 h).1.2; have := Huse.out (by trivial); omega
            have Hno := Lib.hid hno
            clear hno
            go_wp2
            go_ret
            exact ⟨150, rfl, .inr rfl, ⟨fun h => by omega, fun h => absurd h Hno.out⟩, hx1.out⟩
end Go.Proofs.Ytkhmkgobmfhchaa
