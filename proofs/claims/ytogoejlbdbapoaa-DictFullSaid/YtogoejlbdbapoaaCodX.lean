/- The walks of the small functions: need, Sum, Equal of bytes and of numbers. -/
import Derived.Test.YtogoejlbdbapoaaBase
import Derived.Test.YtogoejlbdbapoaaProg
import Derived.Test.YtogoejlbdbapoaaIter
import Derived.Lib.AppendStr
import Derived.Laws.BytesArg
import Derived.Laws.CopyOwn
namespace Go.Proofs.Ytogoejlbdbapoaa
set_option maxRecDepth 100000
set_option maxHeartbeats 2000000
set_option linter.unusedVariables false
set_option linter.unusedSimpArgs false
open Go.RowKit

def sumL (n : Int) : List Int → Int
  | [] => n
  | c :: l => sumL ((31 * n + c + 1) % 4294967296) l
theorem sumL_snoc (n : Int) (l : List Int) (c : Int) : sumL n (l ++ [c]) = (31 * sumL n l + c + 1) % 4294967296 := by
  induction l generalizing n with
  | nil => rfl
  | cons x l ih => simp [sumL, ih]
theorem sumL_range (n : Int) (l : List Int) (h0 : 0 ≤ n) (h1 : n < 4294967296) : 0 ≤ sumL n l ∧ sumL n l < 4294967296 := by
  induction l generalizing n with
  | nil => exact ⟨h0, h1⟩
  | cons x l ih => exact ih _ (Int.emod_nonneg _ (by omega)) (Int.emod_lt_of_pos _ (by omega))

theorem need_ok (c : Int) (w : World) : Calls Try.prog 88 #[.bool true, .int .i64 c] w fun e w' => e = .returned (.tuple #[]) ∧ w = w' := by
  go_enter Try.func88, Try.ntmps88
  go_wp2
  go_end0
  exact ⟨rfl, rfl⟩
theorem need_no (c : Int) (w : World) : Calls Try.prog 88 #[.bool false, .int .i64 c] w fun e w' => e = .panicked [{ v := .iface 32 (.int .i64 c), recovered := false }] ∧ w = w' := by
  go_enter Try.func88, Try.ntmps88
  go_wp2
  exact ⟨rfl, rfl, rfl⟩

set_option maxHeartbeats 400000 in
theorem equalB (v u : Value) (l m : List Int) (w : World) (hv : Ints w .u8 v l) (hu : Ints w .u8 u m) :
    Calls Try.prog 27 #[v, u] w fun e w' => e = .returned (.bool (decide (l = m))) ∧ ∃ n, w' = w.drewN n := by
  obtain ⟨a, cap, rfl, hcap, hmax, hc⟩ := hv.open_
  obtain ⟨a', cap', rfl, hcap', hmax', hc'⟩ := hu.open_
  clear hv hu
  by_cases hlen : l.length = m.length
  · have hne : ((l.length : Int) != (m.length : Int)) = false := by simp [hlen]
    have Hlen := Lib.hid hlen
    clear hlen
    go_enter Try.func27, Try.ntmps27
    go_wp2
    go_loopw [5, 13] (fun _ i wr => ∃ k n : Nat, k ≤ l.length ∧ i = .int .i64 k ∧ wr = w.drewN n ∧ l.take k = m.take k) (fun _ i _ => l.length - (intOf i).toNat)
    case atStart => exact ⟨0, 0, Nat.zero_le _, rfl, rfl, rfl⟩
    case round =>
      obtain ⟨k, n, hk, rfl, rfl, heq⟩ := hrel
      have Heq := Lib.hid heq
      clear heq
      by_cases hlt : k < l.length
      · obtain ⟨b, o, rfl, hcell⟩ := hc k hlt
        have hltm : k < m.length := by have := Hlen.out; omega
        obtain ⟨b', o', rfl, hcell'⟩ := hc' k hltm
        have hck := hcell k hlt
        have hck' := hcell' k hltm
        clear hcell hcell' hc hc'
        by_cases hx : l[k] = m[k]
        · have hxb : (l[k] != m[k]) = false := by simp [hx]
          have Hx := Lib.hid hx
          clear hx
          go_wp2
          go_quiet (fail)
          go_wp2
          go_roundw
          case rel => exact ⟨k + 1, _, by omega, by go_num, rfl, by rw [take_snoc l k hlt, take_snoc m k hltm, Heq.out, Hx.out]⟩
          case measure => simp [intOf]; omega
        · have hxb : (l[k] != m[k]) = true := by simp [hx]
          go_wp2
          go_quiet (fail)
          go_wp2
          go_ret
          exact ⟨ret_bool (by simp; intro h; subst h; exact hx rfl), _, World.drewN_drewN _ _ _⟩
      · go_wp2
        go_ret
        have hkl : k = l.length := by omega
        have hl' := Hlen.out
        exact ⟨ret_bool (by have := Heq.out; rw [List.take_of_length_le (by omega), List.take_of_length_le (by omega)] at this; simp [this]), _, rfl⟩
  · have hne : ((l.length : Int) != (m.length : Int)) = true := by simp; omega
    go_enter Try.func27, Try.ntmps27
    go_wp2
    go_ret
    exact ⟨ret_bool (by simp; intro h; exact hlen (by rw [h])), 0, rfl⟩

theorem equalB_yes (v u : Value) (l m : List Int) (w : World) (hv : Ints w .u8 v l) (hu : Ints w .u8 u m) (h : l = m) :
    Calls Try.prog 27 #[v, u] w fun e w' => e = .returned (.bool true) ∧ ∃ n, w' = w.drewN n :=
  (equalB v u l m w hv hu).mono fun e w' ⟨he, hx⟩ => ⟨by rw [he, decide_eq_true h], hx⟩
theorem equalB_no (v u : Value) (l m : List Int) (w : World) (hv : Ints w .u8 v l) (hu : Ints w .u8 u m) (h : l ≠ m) :
    Calls Try.prog 27 #[v, u] w fun e w' => e = .returned (.bool false) ∧ ∃ n, w' = w.drewN n :=
  (equalB v u l m w hv hu).mono fun e w' ⟨he, hx⟩ => ⟨by rw [he, decide_eq_false h], hx⟩

end Go.Proofs.Ytogoejlbdbapoaa

/- Clone, few. -/
namespace Go.Proofs.Ytogoejlbdbapoaa
set_option maxRecDepth 100000
set_option maxHeartbeats 2000000
set_option linter.unusedVariables false
set_option linter.unusedSimpArgs false
open Go.RowKit

theorem elB : ElT Try.prog 51 5 (.int .u8 0) 1 1 := by
  obtain ⟨i, hi⟩ := info_parts (P := Try.prog) (e := 5) (z := .int .u8 0) (size := 1) (bytes := 1) (by kernel_rfl)
  exact ⟨Try.underlying51, ⟨i, hi⟩, rfl, by decide⟩
/-- A result that is owned, a slice of integers of base block B on. -/
def Own (w : World) (B : Nat) (e : TypeId) (k : IntKind) (v : Value) (l : List Int) : Prop := w.ownsRow B e 1 v l.length (l.map (Value.int k))
theorem Own.ints {w : World} {B : Nat} {e : TypeId} {k : IntKind} {v : Value} {l : List Int} (h : Own w B e k v l) : Ints w k v l := Sl.of_own h

theorem eqNilB (a : Option Addr) (n c n' c' : Nat) (w : World) : (binOp .eql 51 (.slice a n c) (.slice none n' c')).run Try.prog w = .ok (.bool a.isNone) w :=
  Lib.run_eql_slice_nil w _ _ a n c n' c' Try.underlying51

set_option maxHeartbeats 400000 in
theorem cloneB (v : Value) (l : List Int) (w : World) (hv : Ints w .u8 v l) (hn : l.length ≤ 1099511627776) :
    Calls Try.prog 28 #[v] w fun e w' => ∃ u, e = .returned u ∧ Own w' w.heap.size 5 .u8 u l ∧ Ext w w' := by
  have hv' := hv
  obtain ⟨a, cap, rfl, hcap, hmax, hc⟩ := hv'.open_
  have hq := eqNilB
  cases a with
  | none =>
    have hl : l = [] := List.eq_nil_of_length_eq_zero (by rcases Nat.eq_zero_or_pos l.length with h | h; exact h; obtain ⟨_, _, h, _⟩ := hc 0 h; cases h)
    clear hv' hc
    subst hl
    go_enter Try.func28, Try.ntmps28
    go_wp2
    go_ret
    exact ⟨_, rfl, World.ownsRow_nil _ _ _ _, Ext.refl _⟩
  | some ad =>
    clear hv' hc
    go_enter Try.func28, Try.ntmps28
    go_wp2_with (at_builtin; refine wpList_append_sl _ rfl _ _ _ rfl elB rfl (own_new w w.heap.size #[] 5 1 0 (Nat.le_refl _) rfl (Nat.zero_le _)) rfl (hv.ext (Ext.alloc _ _)) ?_ (ints_one _ _) ?_ ?_ ?_ ?_)
    · simp
    · omega
    · unfold maxLen; omega
    · simp
    intro v1 w1 hown hb _ _
    go_wp2
    go_ret
    exact ⟨_, rfl, by simpa [Own] using hown, Below.trans (Ext.alloc w _) hb⟩

/-- A slice expression's address. -/
theorem Ints.cut {w : World} {k : IntKind} {a : Option Addr} {n cap : Nat} {l : List Int} (h : Ints w k (.slice a n cap) l) (m : Nat) (hm : m ≤ l.length) : Ints w k (.slice a m cap) (l.take m) := by
  obtain ⟨a', cap', e, h1, h2, h3⟩ := h
  simp only [Value.slice.injEq] at e
  obtain ⟨rfl, rfl, rfl⟩ := e
  have hlen : (l.take m).length = m := by simp; omega
  refine ⟨a, cap, by rw [hlen], by omega, h2, fun hp => ?_⟩
  obtain ⟨b, o, e, hc⟩ := h3 (by simp at hp ⊢; omega)
  refine ⟨b, o, e, fun i u hu => hc i u ?_⟩
  rw [List.getElem?_map, List.getElem?_take] at hu
  split at hu
  · simpa using hu
  · simp at hu

end Go.Proofs.Ytogoejlbdbapoaa

/- Numbers as bytes: plain, no program in sight. -/
namespace Go.Proofs.Ytogoejlbdbapoaa
set_option maxRecDepth 100000
set_option maxHeartbeats 2000000
set_option linter.unusedVariables false
set_option linter.unusedSimpArgs false

/-- The bytes of a number: fuel f serves m < 2 * 128 ^ f. -/
def num : Nat → Int → List Int
  | 0, m => [m]
  | f + 1, m => if m < 128 then [m] else (m % 128 + 128) :: num f (m / 128)
theorem num_small (f : Nat) (m : Int) (h : m < 128) : num f m = [m] := by cases f <;> simp [num, h]
theorem num_big (f : Nat) (m : Int) (h : ¬ m < 128) : num (f + 1) m = (m % 128 + 128) :: num f (m / 128) := by simp [num, h]
theorem num_len (f : Nat) (m : Int) : 1 ≤ (num f m).length ∧ (num f m).length ≤ f + 1 := by
  induction f generalizing m with
  | zero => simp [num]
  | succ f ih => by_cases h : m < 128 <;> simp [num, h]; have := ih (m / 128); omega
theorem num_byt (f : Nat) (m : Int) (h0 : 0 ≤ m) (h : m < 2 * 128 ^ f) : Byt (num f m) := by
  induction f generalizing m with
  | zero => simp at h; exact Byt.cons ⟨h0, by omega⟩ Byt.nil
  | succ f ih =>
    by_cases hm : m < 128
    · rw [num_small _ _ hm]; exact Byt.cons ⟨h0, by omega⟩ Byt.nil
    · rw [num_big _ _ hm]; refine Byt.cons ⟨by omega, by omega⟩ (ih _ (by omega) ?_)
      rw [Int.pow_succ] at h; omega
set_option maxRecDepth 10000 in
theorem or128_nat : ∀ a : Fin 256, a.val ||| 128 = a.val % 128 + 128 := by decide
theorem or128 (m : Int) : bits .or .u8 (m % 256) 128 = m % 128 + 128 := by
  have h0 := Int.emod_nonneg m (show (256 : Int) ≠ 0 by omega)
  have h1 := Int.emod_lt_of_pos m (show (0 : Int) < 256 by omega)
  rw [u8_or _ _ h0 h1 (by omega) (by omega)]
  have := or128_nat ⟨(m % 256).toNat, by omega⟩
  simp only [] at this
  rw [show (128 : Int).toNat = 128 from rfl, this]
  omega

set_option maxRecDepth 10000 in
theorem and127_nat : ∀ a : Fin 256, a.val &&& 127 = a.val % 128 := by decide
theorem and127 (c : Int) (h0 : 0 ≤ c) (h1 : c < 256) : bits .and .u8 c 127 = c % 128 := by
  rw [u8_and _ _ h0 h1 (by omega) (by omega)]
  have := and127_nat ⟨c.toNat, by omega⟩
  simp only [] at this
  rw [show (127 : Int).toNat = 127 from rfl, this]
  omega
theorem wrapU (n : Int) : IntKind.u64.wrap n = n % 18446744073709551616 := by simp [IntKind.wrap, IntKind.bits, IntKind.signed]
theorem or_shift (acc c : Int) (j : Nat) (h0 : 0 ≤ acc) (h1 : acc < 128 ^ j) (h1' : acc < 18446744073709551616) (hj : j ≤ 9) (hc0 : 0 ≤ c) (hc1 : c < 256) :
    bits .or .u64 acc (IntKind.u64.wrap (IntKind.u64.wrap (bits .and .u8 c 127) * 2 ^ (7 * j))) = acc + c % 128 * 128 ^ j % 18446744073709551616 := by
  rw [and127 c hc0 hc1, wrapU, wrapU]
  have hm : c % 128 % 18446744073709551616 = c % 128 := by omega
  rw [hm]
  have hp : (2 : Int) ^ (7 * j) = 128 ^ j := by rw [Int.pow_mul]; rfl
  rw [hp]
  obtain ⟨a, rfl⟩ := Int.eq_ofNat_of_zero_le h0
  obtain ⟨d, rfl⟩ := Int.eq_ofNat_of_zero_le hc0
  have hX : ((d : Int) % 128 * 128 ^ j % 18446744073709551616) = ((d % 128 * 128 ^ j % 18446744073709551616 : Nat) : Int) := by
    rw [Int.natCast_emod, Int.natCast_mul, Int.natCast_emod, Int.natCast_pow]; rfl
  rw [hX]
  have hlt : d % 128 * 128 ^ j % 18446744073709551616 < 18446744073709551616 := Nat.mod_lt _ (by omega)
  rw [u64_or_nat _ _ (by omega) hlt, Nat.or_comm]
  have ha : a < 2 ^ (7 * j) := by
    have h2 : (2 : Nat) ^ (7 * j) = 128 ^ j := by rw [Nat.pow_mul]
    rw [h2]
    have h3 : ((128 : Int) ^ j) = ((128 ^ j : Nat) : Int) := by rw [Int.natCast_pow]; rfl
    rw [h3] at h1
    exact Int.ofNat_lt.1 h1
  have hz : d % 128 * 128 ^ j % 18446744073709551616 % 2 ^ (7 * j) = 0 := by
    have hd : (2 : Nat) ^ (7 * j) ∣ 18446744073709551616 := by
      have : (18446744073709551616 : Nat) = 2 ^ 64 := by decide
      rw [this]; exact Nat.pow_dvd_pow 2 (by omega)
    rw [Nat.mod_mod_of_dvd _ hd, show (128 : Nat) ^ j = 2 ^ (7 * j) from by rw [Nat.pow_mul]]
    exact Nat.mul_mod_left _ _
  rw [nat_join (7 * j) _ a hz ha, Int.natCast_add]
  omega
theorem shift_lt (acc c : Int) (j : Nat) (h0 : 0 ≤ acc) (h1 : acc < 128 ^ j) (hj : j ≤ 9) (hc0 : 0 ≤ c) :
    acc + c % 128 * 128 ^ j % 18446744073709551616 < 128 ^ (j + 1) ∧ acc + c % 128 * 128 ^ j % 18446744073709551616 < 18446744073709551616 ∧ 0 ≤ acc + c % 128 * 128 ^ j % 18446744073709551616 := by
  have hc1 : 0 ≤ c % 128 := by omega
  have hc2 : c % 128 < 128 := by omega
  generalize c % 128 = d at hc1 hc2
  have : j = 0 ∨ j = 1 ∨ j = 2 ∨ j = 3 ∨ j = 4 ∨ j = 5 ∨ j = 6 ∨ j = 7 ∨ j = 8 ∨ j = 9 := by omega
  rcases this with rfl | rfl | rfl | rfl | rfl | rfl | rfl | rfl | rfl | rfl <;> simp at h1 ⊢ <;> omega
end Go.Proofs.Ytogoejlbdbapoaa

/- Number: a range over the bytes of a number. -/
namespace Go.Proofs.Ytogoejlbdbapoaa
set_option maxRecDepth 100000
set_option maxHeartbeats 2000000
set_option linter.unusedVariables false
set_option linter.unusedSimpArgs false
open Go.RowKit Go.Shelf
attribute [local go_sem] Oper.semAt_some wide_fn wide_depth

def NumJ (w : World) (O N D L : Nat) (r : Loop) (pre : List Int) (m : Int) (W : World) : Prop :=
  W.heap[L]? = some (.loop r) ∧ W.heap[D]? = some (.deferred (some [])) ∧ (∃ v, Boxed W O 51 v ∧ W.ownsRow w.heap.size 5 1 v pre.length (pre.map (Value.int .u8))) ∧
    Boxed W N 93 (.int .u64 m) ∧ Below w.heap.size w W

theorem NumJ.put {w W : World} {O N D L : Nat} {r : Loop} {pre : List Int} {m : Int} (h : NumJ w O N D L r pre m W) (r' : Loop) (h1 : D < L) (h2 : w.heap.size ≤ L) : NumJ w O N D L r' pre m (W.putObj L (.loop r')) := by
  obtain ⟨a1, a2, ⟨v, a3, a4⟩, a5, a6⟩ := h
  have hL := (Array.getElem?_eq_some_iff.1 a1).1
  have hO : some O ≠ some L := by intro e; cases e; rw [Boxed, a1] at a3; cases a3
  have hN : some N ≠ some L := by intro e; cases e; rw [Boxed, a1] at a5; cases a5
  exact ⟨World.putObj_heap_same hL, (World.putObj_heap_other (by omega)).trans a2, ⟨v, a3.kept (grown_put _ _ _) hO, ownsRow_putObj a4 _ a1 rfl⟩, a5.kept (grown_put _ _ _) hN, below_put a6 h2 _⟩

theorem NumJ.set {w W : World} {O N D L : Nat} {r : Loop} {pre : List Int} {m : Int} (h : NumJ w O N D L r pre m W) (m' : Int) (hON : O ≠ N) (h2 : w.heap.size ≤ N) : NumJ w O N D L r pre m' (W.setCell ⟨N, 0, none⟩ (.int .u64 m')) := by
  obtain ⟨a1, a2, ⟨v, a3, a4⟩, a5, a6⟩ := h
  have hL : L ≠ N := by rintro rfl; rw [Boxed, a1] at a5; cases a5
  have hD : D ≠ N := by rintro rfl; rw [Boxed, a2] at a5; cases a5
  have hg := grownBy_setCell' W N (.int .u64 m')
  refine ⟨(hg.block L (Array.getElem?_eq_some_iff.1 a1).1 (by simpa using hL)).trans a1, (hg.block D (Array.getElem?_eq_some_iff.1 a2).1 (by simpa using hD)).trans a2,
    ⟨v, a3.kept hg (by simpa using hON), a4.kept hg (.inr (a5.not_row (by decide) a4).symm)⟩, a5.set _, a6.setCell (p := ⟨N, 0, none⟩) h2 _⟩

theorem num_bytes (n : Int) (w : World) : CallsIn Fence.wide 0 Try.prog 69 #[.int .u64 n] w fun e w' =>
    e = .returned (.func (.func 76) #[] #[.pointer (some ⟨w.heap.size, 0, none⟩)]) ∧ w' = w.alloc (.cells #[.int .u64 n] 93) := by
  refine callsIn_of_wp Try.func69 rfl trivial ?_
  simp only [Try.ntmps69, List.size_toArray, List.length_cons, List.length_nil, Nat.reduceAdd, Nat.reduceSub, Array.replicate_succ, Array.replicate_zero, List.push_toArray, List.append_toArray, List.nil_append, List.cons_append]
  gi_wp2
  go_ret
  exact ⟨rfl, rfl⟩

set_option maxHeartbeats 1000000 in
theorem number_in (n : Int) (w : World) (h0 : 0 ≤ n) (h1 : n < 18446744073709551616) :
    CallsIn Fence.wide 0 Try.prog 51 #[.int .u64 n] w fun e w' => ∃ u, e = .returned u ∧ Own w' w.heap.size 5 .u8 u (num 9 n) ∧ Ext w w' := by
  refine callsIn_of_wp_marks Try.func51 rfl trivial ?_
  simp only [Try.ntmps51, List.size_toArray, List.length_cons, List.length_nil, Nat.reduceAdd, Nat.reduceSub, Array.replicate_succ, Array.replicate_zero, List.push_toArray, List.append_toArray, List.nil_append, List.cons_append]
  gi_wp2_with (gi_at_call 69; refine (num_bytes _ _).mono ?_; rintro e w' ⟨rfl, rfl⟩)



  refine wp_range (gf := 76) (lb := #[.pointer (some ⟨w.heap.size + 1, 0, none⟩)]) rfl (enters_of Try.func76 (by kernel_rfl) rfl) (w.heap.size + 2) (w.heap.size + 3) (by simp) rfl _ rfl ?_
  intro fn W hW
  generalize hr : recOf fn _ _ _ _ _ _ _ = r at hW
  have hN : NumJ w w.heap.size (w.heap.size + 1) (w.heap.size + 2) (w.heap.size + 3) r [] n W := by
    have bO := Boxed.new w 51 (.slice none 0 0)
    have bN := Boxed.new (w.alloc (.cells #[.slice none 0 0] 51)) 93 (.int .u64 n)
    rw [World.size_alloc] at bN
    subst hW
    refine ⟨?_, ?_, ⟨_, ((bO.alloc _).alloc _).alloc _, World.ownsRow_nil _ _ _ _⟩, (bN.alloc _).alloc _, ?_⟩
    · have := World.alloc_heap_new (((w.alloc (.cells #[.slice none 0 0] 51)).alloc (.cells #[.int .u64 n] 93)).alloc (.deferred (some []))) (.loop r)
      simpa using this
    · have := World.alloc_heap_new ((w.alloc (.cells #[.slice none 0 0] 51)).alloc (.cells #[.int .u64 n] 93)) (.deferred (some []))
      rw [Below.heap_alloc _ _ _ (by simp)]
      simpa using this
    · exact ((((Below.refl _ _).alloc (Nat.le_refl _) _).alloc (by simp) _).alloc (by simp; omega) _).alloc (by simp; omega) _
  have hround : ∀ (pre : List Int) (m c : Int) (W : World), pre.length ≤ 10 → NumJ w w.heap.size (w.heap.size + 1) (w.heap.size + 2) (w.heap.size + 3) r pre m W →
      YieldAt Fence.wide 0 Try.prog (w.heap.size + 3) #[.int .u8 c] W fun e W' => e = .returned (.bool true) ∧ NumJ w w.heap.size (w.heap.size + 1) (w.heap.size + 2) (w.heap.size + 3) r (pre ++ [c]) m W' := by
    intro pre m c W hlen hJ
    refine yield_rec hr hJ.1 rfl ?_
    have hJ1 := hJ.put { r with state := .busy } (by omega) (by omega)
    have hL := hJ.1
    clear hJ
    gi_wp2
    refine ⟨hL, ?_⟩
    clear hL
    generalize W.putObj (w.heap.size + 3) (.loop { r with state := .busy }) = W2 at hJ1
    obtain ⟨a1, a2, ⟨v, a3, a4⟩, a5, a6⟩ := hJ1
    have hc := a3.cell
    gi_wp2_with (gi_at_builtin; refine wpListIn_append_sl _ rfl _ _ 51 rfl elB rfl (a4.alloc _) rfl (Sl.new _ _ _ 1 1 (Nat.le_refl _) ?_) rfl ?_ ?_ ?_ ?_ ?_)
    · unfold maxLen; omega
    · rfl
    · omega
    · unfold maxLen; omega
    · have := a6.size; simp; omega
    intro v1 w1 hown hb hg _
    obtain ⟨g', cap', rfl⟩ := ownsRow_succ hown
    obtain ⟨hv1, hv2, hr2, hk2, hb2⟩ := a3.appended (by decide) a4 a6.size (Nat.le_refl _) hown hg
    have hc1 := hv1.cell
    have hf1 := hv1.frozen
    have bN := ((a5.alloc _).kept hg (a5.not_row (by decide) a4)).kept (grownBy_setCell' w1 w.heap.size (.slice (some ⟨g', 0, none⟩) (pre.length + 1) cap')) (by simp)
    have bL := hk2.same _ _ a1 rfl
    have bD := hk2.same _ _ a2 rfl
    have hfin : NumJ w w.heap.size (w.heap.size + 1) (w.heap.size + 2) (w.heap.size + 3) { r with state := .busy } (pre ++ [c]) m (w1.setCell ⟨w.heap.size, 0, none⟩ (.slice (some ⟨g', 0, none⟩) (pre.length + 1) cap')) :=
      ⟨bL, bD, ⟨_, hv2, by simpa using hr2⟩, bN, a6.trans hb2⟩
    have Hfin := Lib.hid hfin
    clear hfin a1 a2 a3 a4 a5 hown hb hg hv1 hv2 hr2 hk2 hb2 bN bL bD hc
    gi_wp2
    have hJ2 := Hfin.out.put r (by omega) (by omega)
    exact ⟨Hfin.out.1, rfl, by rw [rec_ready hr]; exact hJ2⟩
  have hst : r.state = .ready := by rw [← hr]; rfl
  have hpe : r.pending = none := by rw [← hr]; rfl
  clear hr
  have hit : CallsIn Fence.wide 0 Try.prog 76 #[.func (.yield (w.heap.size + 3)) #[] #[], .pointer (some ⟨w.heap.size + 1, 0, none⟩)] W fun e W' =>
      (∃ v, e = .returned v) ∧ ∃ m, NumJ w w.heap.size (w.heap.size + 1) (w.heap.size + 2) (w.heap.size + 3) r (num 9 n) m W' := by
    refine callsIn_of_wp Try.func76 rfl trivial ?_
    simp only [Try.ntmps76, List.size_toArray, List.length_cons, List.length_nil, Nat.reduceAdd, Nat.reduceSub, Array.replicate_succ, Array.replicate_zero, List.push_toArray, List.append_toArray, List.nil_append, List.cons_append]
    clear hW
    gi_wp2
    gi_loopw [3] (fun _ wr => ∃ (f : Nat) (pre : List Int) (m : Int), num 9 n = pre ++ num f m ∧ 0 ≤ m ∧ m < 2 * 128 ^ f ∧ f + pre.length = 9 ∧ NumJ w w.heap.size (w.heap.size + 1) (w.heap.size + 2) (w.heap.size + 3) r pre m wr)
      (fun _ wr => (intOf ((wr.cell? ⟨w.heap.size + 1, 0, none⟩).getD undef)).toNat)
    case atStart => exact ⟨9, [], n, rfl, h0, by omega, rfl, hN⟩
    case round =>
      obtain ⟨f, pre, m, hnum, hm0, hmf, hfl, hJ⟩ := hrel
      have hc := hJ.2.2.2.1.cell
      by_cases hm : m < 128
      · have hd : decide (128 ≤ m) = false := by simp; omega
        obtain ⟨fn', tmps', assign', body', hy, hR⟩ := hround pre m m wr (by omega) hJ
        gi_wp2
        refine hR.mono ?_
        rintro e W3 ⟨rfl, hJ3⟩
        gi_wp2
        go_end0
        exact ⟨⟨_, rfl⟩, m, by rw [hnum, num_small f m hm]; exact hJ3⟩
      · have hd : decide (128 ≤ m) = true := by simp; omega
        obtain ⟨fn', tmps', assign', body', hy, hR⟩ := hround pre m (bits .or .u8 (m % 256) 128) wr (by omega) hJ
        gi_wp2
        refine hR.mono ?_
        rintro e W3 ⟨rfl, hJ3⟩
        have hc3 := hJ3.2.2.2.1.cell
        have hf3 := hJ3.2.2.2.1.frozen
        have hf' : ∃ f', f = f' + 1 := ⟨f - 1, by
          rcases Nat.eq_zero_or_pos f with h | h
          · subst h; simp at hmf; omega
          · omega⟩
        obtain ⟨f', rfl⟩ := hf'
        gi_wp2
        have hJ4 := hJ3.set (m / 128) (by omega) (by omega)
        refine ⟨⟨f', pre ++ [bits .or .u8 (m % 256) 128], m / 128, ?_, by omega, ?_, by simp; omega, hJ4⟩, ?_⟩
        · rw [hnum, num_big f' m (by omega), or128]; simp
        · have h2 : (128 : Int) ^ (f' + 1) = 128 ^ f' * 128 := Int.pow_succ _ _
          rw [h2] at hmf; omega
        · have e1 := hJ4.2.2.2.1.cell
          rw [e1, hc]; simp [intOf]; omega
  refine CallsIn.mono (n := 0) hit ?_
  rintro e W' ⟨⟨v, rfl⟩, m, hJ⟩
  refine ⟨v, rfl, r, hJ.1, by rw [hst]; decide, fun r' => ?_⟩
  rw [hpe]
  simp only []
  have hJ2 := hJ.put r' (by omega) (by omega)
  generalize W'.putObj (w.heap.size + 3) (.loop r') = W2 at hJ2
  obtain ⟨_, a2, ⟨v, a3, a4⟩, _, a6⟩ := hJ2
  have hc := a3.cell
  gi_wp2
  refine ⟨by simp, .inl ⟨_, _, rfl, run_takeDeferred a2, ?_⟩⟩
  exact ⟨_, results_tmp rfl _ _ _, v, rfl, ownsRow_putObj a4 _ a2 rfl, below_put a6 (by omega) _⟩

theorem number_any (n : Int) (w : World) (h0 : 0 ≤ n) (h1 : n < 18446744073709551616) :
    Calls Try.prog 51 #[.int .u64 n] w fun e w' => ∃ u, e = .returned u ∧ Own w' w.heap.size 5 .u8 u (num 9 n) ∧ Ext w w' :=
  callsIn_wide.1 (number_in n w h0 h1)
end Go.Proofs.Ytogoejlbdbapoaa

/- The reference's Number; rows and texts, both. -/
namespace Go.Proofs.Ytogoejlbdbapoaa
set_option maxRecDepth 100000
set_option maxHeartbeats 2000000
set_option linter.unusedVariables false
set_option linter.unusedSimpArgs false
open Go.RowKit

/-- A text's bytes. -/
def sb (s : ByteArray) : List Int := s.data.toList.map fun b => (b.toNat : Int)
theorem sb_len (s : ByteArray) : (sb s).length = s.size := by simp [sb]
theorem sb_cells (s : ByteArray) : Lib.strCells s = (sb s).map (Value.int .u8) := by simp [Lib.strCells, sb]
theorem sb_byt (s : ByteArray) : Byt (sb s) := by
  intro c hc
  simp only [sb, List.mem_map] at hc
  obtain ⟨b, _, rfl⟩ := hc
  have := b.toNat_lt
  omega

set_option maxHeartbeats 1000000 in
theorem refNumber_any (n : Int) (w : World) (h0 : 0 ≤ n) (h1 : n < 18446744073709551616) :
    Calls Try.prog 53 #[.int .u64 n] w fun e w' => ∃ u, e = .returned u ∧ Own w' w.heap.size 5 .u8 u (num 9 n) ∧ Ext w w' := by
  go_enter Try.func53, Try.ntmps53
  go_wp2
  go_loopw [0, 3] (fun x v wr => ∃ (f : Nat) (pre : List Int) (m : Int), num 9 n = pre ++ num f m ∧ 0 ≤ m ∧ m < 2 * 128 ^ f ∧ m ≤ n ∧ f + pre.length = 9 ∧ x = .int .u64 m ∧ Own wr w.heap.size 5 .u8 v pre ∧ Below w.heap.size w wr)
    (fun x _ _ => (intOf x).toNat)
  case atStart => exact ⟨9, [], n, rfl, h0, by omega, Int.le_refl _, rfl, rfl, World.ownsRow_nil _ _ _ _, Below.refl _ _⟩
  case round =>
    obtain ⟨f, pre, m, hnum, hm0, hmf, hmn, hfl, rfl, hown, hB⟩ := hrel
    by_cases hm : m < 128
    · have hd : decide (128 ≤ m) = false := by simp; omega
      go_wp2_with (at_builtin; refine wpList_append_sl _ rfl _ _ 51 rfl elB rfl (hown.alloc _) rfl (Sl.new _ _ _ 1 1 (Nat.le_refl _) ?_) rfl ?_ ?_ ?_ ?_ ?_)
      · unfold maxLen; omega
      · rfl
      · omega
      · unfold maxLen; omega
      · have := hB.size; simp; omega
      intro v1 w1 hown1 hb _ _
      go_wp2
      go_ret
      refine ⟨_, rfl, ?_, hB.trans (Below.trans ((Below.refl _ _).alloc hB.size _) hb)⟩
      rw [hnum, num_small f m hm]
      simpa [Own] using hown1
    · have hd : decide (128 ≤ m) = true := by simp; omega
      have hf' : ∃ f', f = f' + 1 := ⟨f - 1, by
        rcases Nat.eq_zero_or_pos f with h | h
        · subst h; simp at hmf; omega
        · omega⟩
      obtain ⟨f', rfl⟩ := hf'
      go_wp2_with (at_builtin; refine wpList_append_sl _ rfl _ _ 51 rfl elB rfl (hown.alloc _) rfl (Sl.new _ _ _ 1 1 (Nat.le_refl _) ?_) rfl ?_ ?_ ?_ ?_ ?_)
      · unfold maxLen; omega
      · rfl
      · omega
      · unfold maxLen; omega
      · have := hB.size; simp; omega
      intro v1 w1 hown1 hb _ _
      go_wp2
      refine ⟨⟨f', pre ++ [m % 128 + 128], m / 128, ?_, by omega, ?_, by omega, by simp; omega, rfl, ?_, hB.trans (Below.trans ((Below.refl _ _).alloc hB.size _) hb)⟩, by simp [intOf]; omega⟩
      · rw [hnum, num_big f' m (by omega)]; simp
      · have h2 : (128 : Int) ^ (f' + 1) = 128 ^ f' * 128 := Int.pow_succ _ _
        rw [h2] at hmf; omega
      · simpa [Own] using hown1

/-- A row's bytes. -/
def rowB (l : List Int) : List Int := num 9 l.length ++ l.flatMap (num 9)
/-- A text's bytes, with its length ahead. -/
def textB (l : List Int) : List Int := num 9 l.length ++ l
theorem flat_snoc (l : List Int) (k : Nat) (h : k < l.length) : (l.take (k + 1)).flatMap (num 9) = (l.take k).flatMap (num 9) ++ num 9 l[k] := by
  rw [take_snoc l k h, List.flatMap_append, List.flatMap_cons, List.flatMap_nil, List.append_nil]
theorem flat_len (l : List Int) : (l.flatMap (num 9)).length ≤ 10 * l.length := by
  induction l with
  | nil => simp
  | cons x l ih => have := num_len 9 x; rw [List.flatMap_cons, List.length_append, List.length_cons]; omega
/-- Numbers that fit. -/
def U64 (l : List Int) : Prop := ∀ c ∈ l, 0 ≤ c ∧ c < 18446744073709551616
theorem U64.get {l : List Int} (h : U64 l) {k : Nat} (hk : k < l.length) : 0 ≤ l[k] ∧ l[k] < 18446744073709551616 := h _ (List.getElem_mem hk)

theorem wpList_append_str {P : Program} (w : World) {ops : Array Oper} {rest : List Oper} {o : Oper} {a : Act} {Q : Exit → Act → World → Prop} (hgd : o.guard = none) (sl x : Operand) (t u : TypeId)
    (ho : o.op = .call { callee := .builtin .append, args := #[sl, x], argTypes := #[t, u] })
    {base : Nat} {e : TypeId} (T : ElT P t e (.int .u8 0) 1 1) (hu : P.underlying u = some .string) {v : Value} {n : Nat} {xs : List Value} (hs : a.eval sl = v) (hown : w.ownsRow base e 1 v n xs) {s : ByteArray} (hx : a.eval x = .string s)
    (h63 : n + s.size ≤ maxLen) (hbytes : n + s.size ≤ 140737488355328) (hbase : base ≤ w.heap.size)
    (h : ∀ v' w', w'.ownsRow base e 1 v' (n + s.size) (xs ++ Lib.strCells s) → Below base w w' → w.grownBy w' v.ownBlock → wpList P ops Q rest (a.put o.dst v') w') : wpList P ops Q (o :: rest) a w := by
  obtain ⟨i, hi, hz, hsz, hby⟩ := T.info
  exact Lib.wpList_append_own_string w hgd sl x t u ho base e i T.under hu hi hz hsz hby v n xs hs hown s hx h63 hbytes hbase
    fun v' w' h2 h3 _ => h v' w' h2 ((Below.refl _ _).grown h3 hbase (own_ge hown)) h3

theorem text_own {w : World} {base : Nat} {e : TypeId} {v : Value} {l : List Int} {s : ByteArray} (h : w.ownsRow base e 1 v (l.length + s.size) (l.map (Value.int .u8) ++ Lib.strCells s)) : Own w base e .u8 v (l ++ sb s) := by
  unfold Own
  rw [List.length_append, List.map_append, sb_len, ← sb_cells]
  exact h

set_option maxHeartbeats 1000000 in
theorem text_ok (s : ByteArray) (w : World) (hs : s.size ≤ 4000) :
    Calls Try.prog 52 #[.string s] w fun e w' => ∃ u, e = .returned (.tuple #[u, .int .i64 0]) ∧ Own w' w.heap.size 5 .u8 u (textB (sb s)) ∧ Ext w w' := by
  have hnl := num_len 9 (s.size : Int)
  have hu : Try.prog.underlying 9 = some .string := Try.underlying9
  go_enter Try.func52, Try.ntmps52
  go_wp2_with (first | (go_at_call 51; refine (number_any _ _ (by omega) (by omega)).mono ?_; rintro e w0 ⟨u0, rfl, ho0, hx0⟩) | (at_builtin; refine wpList_append_str _ rfl _ _ 51 9 rfl elB hu rfl ho0 rfl ?_ ?_ ?_ ?_))
  · unfold maxLen; omega
  · omega
  · exact hx0.size
  intro v1 w1 hown1 hb _
  have hfin := text_own hown1
  have Hfin := Lib.hid hfin
  clear hown1 hfin
  go_wp2
  go_ret2
  exact ⟨_, rfl, by have := Hfin.out; unfold textB; rw [sb_len]; exact this, Below.trans hx0 hb⟩

theorem text_long (s : ByteArray) (w : World) (hs : 4000 < s.size) (hm : s.size ≤ 9223372036854775807) :
    Calls Try.prog 52 #[.string s] w fun e w' => e = .returned (.tuple #[.slice none 0 0, .int .i64 3]) ∧ w = w' := by
  go_enter Try.func52, Try.ntmps52
  go_wp2
  go_ret2
  exact ⟨rfl, rfl⟩

set_option maxHeartbeats 1000000 in
theorem refText_any (s : ByteArray) (w : World) (hs : s.size ≤ 1000000) :
    Calls Try.prog 54 #[.string s] w fun e w' => ∃ u, e = .returned u ∧ Own w' w.heap.size 5 .u8 u (textB (sb s)) ∧ Ext w w' := by
  have hnl := num_len 9 (s.size : Int)
  have hu : Try.prog.underlying 9 = some .string := Try.underlying9
  go_enter Try.func54, Try.ntmps54
  go_wp2_with (first | (go_at_call 53; refine (refNumber_any _ _ (by omega) (by omega)).mono ?_; rintro e w0 ⟨u0, rfl, ho0, hx0⟩) | (at_builtin; refine wpList_append_str _ rfl _ _ 51 9 rfl elB hu rfl ho0 rfl ?_ ?_ ?_ ?_))
  · unfold maxLen; omega
  · omega
  · exact hx0.size
  intro v1 w1 hown1 hb _
  have hfin := text_own hown1
  have Hfin := Lib.hid hfin
  clear hown1 hfin
  go_wp2
  go_ret
  exact ⟨_, rfl, by have := Hfin.out; unfold textB; rw [sb_len]; exact this, Below.trans hx0 hb⟩
end Go.Proofs.Ytogoejlbdbapoaa

/- The reader: number. -/
namespace Go.Proofs.Ytogoejlbdbapoaa
set_option maxRecDepth 100000
set_option maxHeartbeats 2000000
set_option linter.unusedVariables false
set_option linter.unusedSimpArgs false
open Go.RowKit

/-- Only block R, and what is new, has changed. -/
def Only (R : Nat) (w w' : World) : Prop := w.grownBy w' (some R)
theorem Only.refl (R : Nat) (w : World) : Only R w w := ⟨rfl, rfl, rfl, Nat.le_refl _, fun _ _ _ => rfl⟩
theorem Only.trans {R : Nat} {a b c : World} (h : Only R a b) (k : Only R b c) : Only R a c :=
  ⟨k.os.trans h.os, k.tape.trans h.tape, k.output.trans h.output, Nat.le_trans h.size k.size, fun i hi hne => (k.block i (Nat.lt_of_lt_of_le hi h.size) hne).trans (h.block i hi hne)⟩
theorem Only.of_ext {R : Nat} {a b : World} (h : Ext a b) : Only R a b := ⟨h.os, h.tape, h.output, h.size, fun i hi _ => h.block i hi⟩
theorem Only.drewN (R : Nat) (w : World) (n : Nat) : Only R w (w.drewN n) := Only.of_ext (Ext.drewN _ _)
theorem Only.set (R o : Nat) (w : World) (u : Value) : Only R w (w.setCell ⟨R, o, none⟩ u) :=
  ⟨rfl, rfl, rfl, by simp [World.setCell], fun k _ hk => Below.heap_setCell _ _ _ k (fun e => hk (by rw [e]))⟩
theorem Only.below {R B : Nat} {w0 w w' : World} (h : Only R w w') (hB : Below B w0 w) (h1 : B ≤ w.heap.size) (h2 : B ≤ R) : Below B w0 w' := hB.grown h h1 (by simpa using h2)

/-- The reader's struct lies in block R. -/
def RdAt (w : World) (R : Nat) (v : Value) (at_ : Int) : Prop := w.heap[R]? = some (.cells #[v, .int .i64 at_] 136 (0, 0))
theorem RdAt.cell0 {w : World} {R : Nat} {v : Value} {k : Int} (h : RdAt w R v k) : w.cell? ⟨R, 0, none⟩ = some v := by simp [World.cell?, show w.heap[R]? = _ from h]
theorem RdAt.cell1 {w : World} {R : Nat} {v : Value} {k : Int} (h : RdAt w R v k) : w.cell? ⟨R, 1, none⟩ = some (.int .i64 k) := by simp [World.cell?, show w.heap[R]? = _ from h]
theorem RdAt.frozen {w : World} {R : Nat} {v : Value} {k : Int} (h : RdAt w R v k) (i : Nat) : w.frozen? ⟨R, i, none⟩ = false := by simp [World.frozen?, show w.heap[R]? = _ from h]
theorem RdAt.drewN {w : World} {R : Nat} {v : Value} {k : Int} (h : RdAt w R v k) (n : Nat) : RdAt (w.drewN n) R v k := h
theorem RdAt.set {w : World} {R : Nat} {v : Value} {k : Int} (h : RdAt w R v k) (k' : Int) : RdAt (w.setCell ⟨R, 1, none⟩ (.int .i64 k')) R v k' := by
  unfold RdAt at h ⊢
  simp [World.setCell, Array.getElem?_modify, h]

theorem need_okq (c : Int) (w : World) : Calls Try.prog 88 #[.bool true, .int .i64 c] w fun e w' => e = .returned (.tuple #[]) ∧ w' = w := (need_ok c w).mono fun _ _ h => ⟨h.1, h.2.symm⟩

/-- What reading a number comes to. -/
inductive Rd (α : Type) where
  | ok (x : α) (used : Nat)
  | no (e : Int)
def rdn : List Int → Nat → Int → Rd Int
  | [], i, _ => if i < 10 then .no 120 else .no 121
  | c :: l, i, acc =>
    if 10 ≤ i then .no 121
    else if 128 ≤ c then rdn l (i + 1) (acc + c % 128 * 128 ^ i % 18446744073709551616)
    else if (i = 0 ∨ 0 < c) ∧ (i < 9 ∨ c = 1) then .ok (acc + c % 128 * 128 ^ i % 18446744073709551616) (i + 1)
    else .no 121

theorem rdn_more (c : Int) (l : List Int) (i : Nat) (acc : Int) (h : i < 10) (hc : 128 ≤ c) : rdn (c :: l) i acc = rdn l (i + 1) (acc + c % 128 * 128 ^ i % 18446744073709551616) := by
  rw [rdn, if_neg (by omega), if_pos hc]
theorem rdn_yes (c : Int) (l : List Int) (i : Nat) (acc : Int) (h : i < 10) (hc : ¬ 128 ≤ c) (ht : (i = 0 ∨ 0 < c) ∧ (i < 9 ∨ c = 1)) : rdn (c :: l) i acc = .ok (acc + c % 128 * 128 ^ i % 18446744073709551616) (i + 1) := by
  rw [rdn, if_neg (by omega), if_neg hc, if_pos ht]
theorem rdn_no (c : Int) (l : List Int) (i : Nat) (acc : Int) (h : i < 10) (hc : ¬ 128 ≤ c) (ht : ¬ ((i = 0 ∨ 0 < c) ∧ (i < 9 ∨ c = 1))) : rdn (c :: l) i acc = .no 121 := by
  rw [rdn, if_neg (by omega), if_neg hc, if_neg ht]
theorem rdn_ten (l : List Int) (acc : Int) : rdn l 10 acc = .no 121 := by cases l <;> simp [rdn]
theorem rdn_end (i : Nat) (acc : Int) (h : i < 10) : rdn [] i acc = .no 120 := by simp [rdn, h]

/-- A panic of need. -/
def pan (c : Int) : Ending := .panicked [{ v := .iface 32 (.int .i64 c), recovered := false }]

/-- What a method of the reader leaves: a value that V says reads as x, the reader moved on; or the panic. -/
def RdPost {α : Type} (w0 w : World) (R : Nat) (v : Value) (k : Nat) (r : Rd α) (V : Nat → World → Value → α → Prop) (e : Ending) (w' : World) : Prop :=
  Below w0.heap.size w0 w' ∧ Only R w w' ∧
  match r with
  | .ok x used => (∃ u, e = .returned u ∧ V w.heap.size w' u x) ∧ RdAt w' R v (k + used : Nat)
  | .no c => e = pan c ∧ ∃ k', RdAt w' R v k'
def VNum (_ : Nat) (_ : World) (u : Value) (x : Int) : Prop := u = .int .u64 x

set_option maxHeartbeats 2000000 in
theorem rnumber (w0 w : World) (R : Nat) (v : Value) (l : List Int) (k : Nat) (hl : Byt l) (hv : Ints w0 .u8 v l) (hB : Below w0.heap.size w0 w) (hR : w0.heap.size ≤ R) (hr : RdAt w R v k) (hk : k ≤ l.length) :
    Calls Try.prog 79 #[.pointer (some ⟨R, 0, none⟩)] w (RdPost w0 w R v k (rdn (l.drop k) 0 0) VNum) := by
  obtain ⟨a, cap, rfl, hcap, hmax, _⟩ := hv.open_
  go_enter Try.func79, Try.ntmps79
  go_wp2_with fail
  go_step3
  go_wp2_with fail
  go_step3
  go_wp2_with fail
  go_loopw [3, 4, 5] (fun n i _ wr => ∃ (j p : Nat) (acc : Int), p = k + j ∧ j ≤ 10 ∧ p ≤ l.length ∧ i = .int .i64 j ∧ n = .int .u64 acc ∧ 0 ≤ acc ∧ acc < 128 ^ j ∧ acc < 18446744073709551616 ∧ rdn (l.drop k) 0 0 = rdn (l.drop p) j acc ∧
      Below w0.heap.size w0 wr ∧ Only R w wr ∧ RdAt wr R (.slice a l.length cap) p) (fun _ i _ _ => 11 - (intOf i).toNat)
  case atStart => exact ⟨0, k, 0, rfl, by omega, hk, rfl, rfl, by omega, by omega, by omega, rfl, hB, Only.refl _ _, hr⟩
  case round =>
    obtain ⟨j, p, acc, hp, hj, hpl, rfl, rfl, h0, h1, h1', heq, hB', hO, hr'⟩ := hrel
    have Heq := Lib.hid heq
    have Hp := Lib.hid hp
    have H1 := Lib.hid h1
    clear heq hp h1
    by_cases hj10 : j < 10
    · have hd : decide ((j : Int) < 10) = true := by simp; omega
      by_cases hlt : p < l.length
      · have hvr := hv.below hB' (Nat.le_refl _)
        obtain ⟨_, _, e1, _, _, hc⟩ := hvr.open_
        simp only [Value.slice.injEq] at e1
        obtain ⟨rfl, _, rfl⟩ := e1
        obtain ⟨b, o, rfl, hcell⟩ := hc p hlt
        have hck := hcell p hlt
        have hcb := hl.get hlt
        generalize hce : l[p] = c at hck hcb
        have Hce := Lib.hid hce
        have c0 := hr'.cell0
        have c1 := hr'.cell1
        have f1 := hr'.frozen 1
        have hd2 : decide ((p : Int) < (l.length : Int)) = true := by simp; omega
        have hdrop : l.drop p = c :: l.drop (p + 1) := by rw [← Hce.out]; exact List.drop_eq_getElem_cons hlt
        have Hdrop := Lib.hid hdrop
        clear hcell hc hvr hce hdrop
        by_cases hbig : 128 ≤ c
        · have hd3 : decide (c < 128) = false := by simp; omega
          go_wp2_with (go_at_call 88; refine (need_ok _ _).mono ?_; rintro e w' ⟨rfl, rfl⟩)
          go_quiet ((go_at_call 88; exact Calls.quiet_of_same (need_okq _ _)))
          go_wp2_with fail
          go_quiet (fail)
          go_wp2_with fail
          have hsl := shift_lt acc c j h0 H1.out (by omega) hcb.1
          have hos := or_shift acc c j h0 H1.out h1' (by omega) hcb.1 hcb.2
          have hpp := Hp.out
          refine ⟨⟨j + 1, p + 1, _, by omega, by omega, by omega, by go_num, int_congr hos, hsl.2.2, hsl.1, hsl.2.1, ?_,
            (Only.below ((Only.drewN R wr _).trans (Only.set R 1 _ _)) hB' hB'.size hR), hO.trans ((Only.drewN R wr _).trans (Only.set R 1 _ _)), by exact hr'.set (p + 1)⟩, by simp [intOf]; omega⟩
          rw [Heq.out, Hdrop.out, rdn_more _ _ _ _ (by omega) hbig]
        · have hd3 : decide (c < 128) = true := by simp; omega
          have hcases : j = 0 ∨ (j ≠ 0 ∧ 0 < c ∧ j < 9) ∨ (j ≠ 0 ∧ 0 < c ∧ ¬ j < 9 ∧ c = 1) ∨ (j ≠ 0 ∧ 0 < c ∧ ¬ j < 9 ∧ c ≠ 1) ∨ (j ≠ 0 ∧ ¬ 0 < c) := by omega
          rcases hcases with h | ⟨ha, hb, hc⟩ | ⟨ha, hb, hc, he⟩ | ⟨ha, hb, hc, he⟩ | ⟨ha, hb⟩
          · have t1 : ((j : Int) == 0) = true := by simp; omega
            have t2 : decide ((j : Int) < 9) = true := by simp; omega
            have Htst := Lib.hid (show (j = 0 ∨ 0 < c) ∧ (j < 9 ∨ c = 1) by omega)
            clear h
            go_wp2_with (go_at_call 88; refine (need_ok _ _).mono ?_; rintro e w' ⟨rfl, rfl⟩)
            go_quiet ((go_at_call 88; exact Calls.quiet_of_same (need_okq _ _)))
            go_wp2_with fail
            go_quiet (fail)
            go_wp2_with fail
            refine (need_ok _ _).mono ?_
            rintro e w' ⟨rfl, rfl⟩
            go_wp2
            rw [Exit.noGoto_ret]
            go_ret
            refine ⟨(Only.below ((Only.drewN R wr _).trans (Only.set R 1 _ _)) hB' hB'.size hR), hO.trans ((Only.drewN R wr _).trans (Only.set R 1 _ _)), ?_⟩
            rw [Heq.out, Hdrop.out, rdn_yes _ _ _ _ (by omega) (by omega) Htst.out]
            exact ⟨⟨_, rfl, int_congr (or_shift acc c j h0 H1.out h1' (by omega) hcb.1 hcb.2)⟩, by have := hr'.set (p + 1); have hpp := Hp.out; rw [show ((k + (j + 1) : Nat) : Int) = (p : Int) + 1 from by omega]; exact this⟩
          · have t1 : ((j : Int) == 0) = false := by simp; omega
            have t2 : decide ((j : Int) < 9) = true := by simp; omega
            have t3 : decide (0 < c) = true := by simp; omega
            have Htst := Lib.hid (show (j = 0 ∨ 0 < c) ∧ (j < 9 ∨ c = 1) by omega)
            clear ha
            go_wp2_with (go_at_call 88; refine (need_ok _ _).mono ?_; rintro e w' ⟨rfl, rfl⟩)
            go_quiet ((go_at_call 88; exact Calls.quiet_of_same (need_okq _ _)))
            go_wp2_with fail
            go_quiet (fail)
            go_wp2_with fail
            refine (need_ok _ _).mono ?_
            rintro e w' ⟨rfl, rfl⟩
            go_wp2
            rw [Exit.noGoto_ret]
            go_ret
            refine ⟨(Only.below ((Only.drewN R wr _).trans (Only.set R 1 _ _)) hB' hB'.size hR), hO.trans ((Only.drewN R wr _).trans (Only.set R 1 _ _)), ?_⟩
            rw [Heq.out, Hdrop.out, rdn_yes _ _ _ _ (by omega) (by omega) Htst.out]
            exact ⟨⟨_, rfl, int_congr (or_shift acc c j h0 H1.out h1' (by omega) hcb.1 hcb.2)⟩, by have := hr'.set (p + 1); have hpp := Hp.out; rw [show ((k + (j + 1) : Nat) : Int) = (p : Int) + 1 from by omega]; exact this⟩
          · have t1 : ((j : Int) == 0) = false := by simp; omega
            have t2 : decide ((j : Int) < 9) = false := by simp; omega
            have t3 : decide (0 < c) = true := by simp; omega
            have t4 : (c == 1) = true := by simp; omega
            have Htst := Lib.hid (show (j = 0 ∨ 0 < c) ∧ (j < 9 ∨ c = 1) by omega)
            clear ha he
            go_wp2_with (go_at_call 88; refine (need_ok _ _).mono ?_; rintro e w' ⟨rfl, rfl⟩)
            go_quiet ((go_at_call 88; exact Calls.quiet_of_same (need_okq _ _)))
            go_wp2_with fail
            go_quiet (fail)
            go_wp2_with fail
            refine (need_ok _ _).mono ?_
            rintro e w' ⟨rfl, rfl⟩
            go_wp2
            rw [Exit.noGoto_ret]
            go_ret
            refine ⟨(Only.below ((Only.drewN R wr _).trans (Only.set R 1 _ _)) hB' hB'.size hR), hO.trans ((Only.drewN R wr _).trans (Only.set R 1 _ _)), ?_⟩
            rw [Heq.out, Hdrop.out, rdn_yes _ _ _ _ (by omega) (by omega) Htst.out]
            exact ⟨⟨_, rfl, int_congr (or_shift acc c j h0 H1.out h1' (by omega) hcb.1 hcb.2)⟩, by have := hr'.set (p + 1); have hpp := Hp.out; rw [show ((k + (j + 1) : Nat) : Int) = (p : Int) + 1 from by omega]; exact this⟩
          · have t1 : ((j : Int) == 0) = false := by simp; omega
            have t2 : decide ((j : Int) < 9) = false := by simp; omega
            have t3 : decide (0 < c) = true := by simp; omega
            have t4 : (c == 1) = false := by simp; omega
            have Htst := Lib.hid (show ¬ ((j = 0 ∨ 0 < c) ∧ (j < 9 ∨ c = 1)) by omega)
            clear ha he
            go_wp2_with (go_at_call 88; refine (need_ok _ _).mono ?_; rintro e w' ⟨rfl, rfl⟩)
            go_quiet ((go_at_call 88; exact Calls.quiet_of_same (need_okq _ _)))
            go_wp2_with fail
            go_quiet (fail)
            go_wp2_with fail
            refine (need_no _ _).mono ?_
            rintro e w' ⟨rfl, rfl⟩
            go_wp2
            refine ⟨rfl, (Only.below ((Only.drewN R wr _).trans (Only.set R 1 _ _)) hB' hB'.size hR), hO.trans ((Only.drewN R wr _).trans (Only.set R 1 _ _)), ?_⟩
            rw [Heq.out, Hdrop.out, rdn_no _ _ _ _ (by omega) (by omega) Htst.out]
            exact ⟨rfl, _, hr'.set (p + 1)⟩
          · have t1 : ((j : Int) == 0) = false := by simp; omega
            have t3 : decide (0 < c) = false := by simp; omega
            have Htst := Lib.hid (show ¬ ((j = 0 ∨ 0 < c) ∧ (j < 9 ∨ c = 1)) by omega)
            clear ha
            go_wp2_with (go_at_call 88; refine (need_ok _ _).mono ?_; rintro e w' ⟨rfl, rfl⟩)
            go_quiet ((go_at_call 88; exact Calls.quiet_of_same (need_okq _ _)))
            go_wp2_with fail
            go_quiet (fail)
            go_wp2_with fail
            refine (need_no _ _).mono ?_
            rintro e w' ⟨rfl, rfl⟩
            go_wp2
            refine ⟨rfl, (Only.below ((Only.drewN R wr _).trans (Only.set R 1 _ _)) hB' hB'.size hR), hO.trans ((Only.drewN R wr _).trans (Only.set R 1 _ _)), ?_⟩
            rw [Heq.out, Hdrop.out, rdn_no _ _ _ _ (by omega) (by omega) Htst.out]
            exact ⟨rfl, _, hr'.set (p + 1)⟩
      · have c0 := hr'.cell0
        have c1 := hr'.cell1
        have hd2 : decide ((p : Int) < (l.length : Int)) = false := by simp; omega
        go_wp2_with (go_at_call 88; refine (need_ok _ _).mono ?_; rintro e w' ⟨rfl, rfl⟩)
        go_still_tail 10, (by kernel_rfl)
        change wpList _ _ _ _ _ wr.drew
        go_wp2_with fail
        refine (need_no _ _).mono ?_
        rintro e w' ⟨rfl, rfl⟩
        go_wp2
        refine ⟨rfl, Only.below (Only.drewN R wr 1) hB' hB'.size hR, hO.trans (Only.drewN R wr 1), ?_⟩
        rw [Heq.out, List.drop_eq_nil_of_le (by omega), rdn_end _ _ hj10]
        exact ⟨rfl, _, hr'⟩
    · have hd : decide ((j : Int) < 10) = false := by simp; omega
      go_wp2_with fail
      refine (need_no _ _).mono ?_
      rintro e w' ⟨rfl, rfl⟩
      go_wp2
      refine ⟨rfl, hB', hO, ?_⟩
      have hj' : j = 10 := by omega
      rw [Heq.out, hj', rdn_ten]
      exact ⟨rfl, _, hr'⟩
end Go.Proofs.Ytogoejlbdbapoaa

/- read: what all its instances share. -/
namespace Go.Proofs.Ytogoejlbdbapoaa
set_option maxRecDepth 100000
set_option maxHeartbeats 2000000
set_option linter.unusedVariables false
set_option linter.unusedSimpArgs false
open Go.RowKit

theorem assertErr (c : Int) (w : World) : (Instr.typeAssert (.iface 32 (.int .i64 c)) 20 32 true).run Try.prog w = .ok (.tuple #[.int .i64 c, .bool true]) w := by kernel_rfl

theorem box3 {W : World} {A B C : Nat} {tA tB tC : TypeId} {x y z : Value} (bA : Boxed W A tA x) (bB : Boxed W B tB y) (bC : Boxed W C tC z) (hAB : A ≠ B) (hAC : A ≠ C) (hBC : B ≠ C) (x' y' z' : Value) :
    Boxed (((W.setCell ⟨A, 0, none⟩ x').setCell ⟨B, 0, none⟩ y').setCell ⟨C, 0, none⟩ z') A tA x' ∧ Boxed (((W.setCell ⟨A, 0, none⟩ x').setCell ⟨B, 0, none⟩ y').setCell ⟨C, 0, none⟩ z') B tB y' ∧
      Boxed (((W.setCell ⟨A, 0, none⟩ x').setCell ⟨B, 0, none⟩ y').setCell ⟨C, 0, none⟩ z') C tC z' := by
  have sA := bA.set x'
  have sB := bB.kept (grownBy_setCell' W A x') (by simpa using hAB.symm)
  have sC := bC.kept (grownBy_setCell' W A x') (by simpa using hAC.symm)
  have tA' := sA.kept (grownBy_setCell' _ B y') (by simpa using hAB)
  have tB' := sB.set y'
  have tC' := sC.kept (grownBy_setCell' _ B y') (by simpa using hBC.symm)
  exact ⟨tA'.kept (grownBy_setCell' _ C z') (by simpa using hAC), tB'.kept (grownBy_setCell' _ C z') (by simpa using hBC), tC'.set z'⟩
theorem below_box3 {B0 : Nat} {w W : World} (h : Below B0 w W) {A B C : Nat} (hA : B0 ≤ A) (hB : B0 ≤ B) (hC : B0 ≤ C) (x y z : Value) :
    Below B0 w (((W.setCell ⟨A, 0, none⟩ x).setCell ⟨B, 0, none⟩ y).setCell ⟨C, 0, none⟩ z) :=
  ((h.setCell (p := ⟨A, 0, none⟩) hA x).setCell (p := ⟨B, 0, none⟩) hB y).setCell (p := ⟨C, 0, none⟩) hC z

/-- What is said of a result is kept where blocks ahead of it turn. -/
def VOk {α : Type} (V : Nat → World → Value → α → Prop) : Prop :=
  (∀ B B' w u x, B' ≤ B → V B w u x → V B' w u x) ∧ (∀ B w w' row u x, V B w u x → Only row w w' → row < B → V B w' u x)
theorem vnum_ok : VOk VNum := ⟨fun _ _ _ _ _ _ h => h, fun _ _ _ _ _ _ h _ _ => h⟩
theorem vnum_shape {B : Nat} {w : World} {u : Value} {x : Int} (h : VNum B w u x) : u = .int .u64 x := h

def rdNum (l : List Int) : Rd Int := rdn l 0 0
theorem rnumberN (w0 w : World) (R : Nat) (v : Value) (l : List Int) (k : Nat) (hl : Byt l) (hv : Ints w0 .u8 v l) (hB : Below w0.heap.size w0 w) (hR : w0.heap.size ≤ R) (hr : RdAt w R v k) (hk : k ≤ l.length) :
    Calls Try.prog 79 #[.pointer (some ⟨R, 0, none⟩)] w (RdPost w0 w R v k (rdNum (l.drop k)) VNum) := rnumber w0 w R v l k hl hv hB hR hr hk
theorem rdn_ok (l : List Int) (i : Nat) (acc x : Int) (u : Nat) (hl : Byt l) (h0 : 0 ≤ acc) (h1 : acc < 128 ^ i) (h : rdn l i acc = .ok x u) : i < u ∧ u ≤ i + l.length ∧ u ≤ 10 ∧ 0 ≤ x ∧ x < 18446744073709551616 := by
  induction l generalizing i acc with
  | nil => unfold rdn at h; split at h <;> cases h
  | cons c l ih =>
    unfold rdn at h
    have hc := hl c (by simp)
    by_cases h10 : 10 ≤ i
    · rw [if_pos h10] at h; cases h
    · have hs := shift_lt acc c i h0 h1 (by omega) hc.1
      rw [if_neg h10] at h
      by_cases hb : 128 ≤ c
      · rw [if_pos hb] at h
        have := ih (i + 1) _ (fun d hd => hl d (by simp [hd])) hs.2.2 hs.1 h
        simp only [List.length_cons]; omega
      · rw [if_neg hb] at h
        split at h
        · cases h
          simp only [List.length_cons]
          exact ⟨by omega, by omega, by omega, hs.2.2, hs.2.1⟩
        · cases h
theorem rdNum_ok {l : List Int} {x : Int} {u : Nat} (hl : Byt l) (h : rdNum l = .ok x u) : 0 < u ∧ u ≤ l.length ∧ 0 ≤ x ∧ x < 18446744073709551616 := by
  have := rdn_ok l 0 0 x u hl (by omega) (by simp) h
  omega
theorem Byt.drop {l : List Int} (h : Byt l) (k : Nat) : Byt (l.drop k) := fun c hc => h c (List.mem_of_mem_drop hc)
theorem Byt.take {l : List Int} (h : Byt l) (k : Nat) : Byt (l.take k) := fun c hc => h c (List.mem_of_mem_take hc)
/-- What read leaves: the value, the place behind it, no error; or nothing, and the error. -/
def ReadPost {α : Type} (w : World) (k : Int) (r : Rd α) (V : Nat → World → Value → α → Prop) (zero : Value) (e : Ending) (w' : World) : Prop :=
  Ext w w' ∧
  match r with
  | .ok x used => ∃ u, e = .returned (.tuple #[u, .int .i64 (k + used), .int .i64 0]) ∧ V w.heap.size w' u x
  | .no c => e = .returned (.tuple #[zero, .int .i64 0, .int .i64 c])
/-- What stands at a place, if there is such a place. -/
def rdAt {α : Type} (k : Int) (l : List Int) (f : List Int → Rd α) : Rd α := if k < 0 ∨ (l.length : Int) < k then .no 2 else f (l.drop k.toNat)

end Go.Proofs.Ytogoejlbdbapoaa

/- read, at uint64. Written by genread.py out of read.in. -/
namespace Go.Proofs.Ytogoejlbdbapoaa
set_option maxRecDepth 100000
set_option maxHeartbeats 2000000
set_option linter.unusedVariables false
set_option linter.unusedSimpArgs false
open Go.RowKit

theorem u_catch_idle (p q r : Addr) (w : World) :
    CallsD Try.prog 87 #[.pointer (some p), .pointer (some q), .pointer (some r)] .returning w fun e u' w' => e = .returned (.tuple #[]) ∧ u' = .returning ∧ w' = w := by
  refine callsD_of_wpS Try.func87 rfl fun c₀ cs hu => ?_
  simp only [Try.ntmps87, List.size_toArray, List.length_cons, List.length_nil, Nat.reduceAdd, Nat.reduceSub, Array.replicate_succ, Array.replicate_zero, List.push_toArray, List.append_toArray, List.nil_append, List.cons_append]
  apply wpS_seq
  apply wpS_region
  simp [wpOpsS, go_sem, recoverD, hu, Exit.thenS]
  refine wpS_of_wp ?_
  go_wp2
  refine ⟨rfl, .returning, ?_, .tuple #[], results_none rfl _ _ _, rfl, rfl, rfl⟩
  cases c₀
  simp_all

theorem u_catch_pan (p q r : Addr) (w : World) (c : Int) (pe : List PanicEntry) (x y z : Value) (hp : w.cell? p = some x) (hq : w.cell? q = some y) (hr : w.cell? r = some z) (fp : w.frozen? p = false) (fq : w.frozen? q = false) (fr : w.frozen? r = false) (hpq : p ≠ q) (hpr : p ≠ r) (hqr : q ≠ r) :
    CallsD Try.prog 87 #[.pointer (some p), .pointer (some q), .pointer (some r)] (.panicking ({ v := .iface 32 (.int .i64 c), recovered := false } :: pe)) w fun e u' w' =>
      e = .returned (.tuple #[]) ∧ u' = .panicking ({ v := .iface 32 (.int .i64 c), recovered := true } :: pe) ∧ w' = ((w.setCell p (.int .u64 0)).setCell q (.int .i64 0)).setCell r (.int .i64 c) := by
  refine callsD_of_wpS Try.func87 rfl fun c₀ cs hu => ?_
  simp only [Try.ntmps87, List.size_toArray, List.length_cons, List.length_nil, Nat.reduceAdd, Nat.reduceSub, Array.replicate_succ, Array.replicate_zero, List.push_toArray, List.append_toArray, List.nil_append, List.cons_append]
  apply wpS_seq
  apply wpS_region
  simp [wpOpsS, go_sem, recoverD, hu, Exit.thenS]
  refine wpS_of_wp ?_
  have ha := assertErr
  go_wp2
  refine ⟨rfl, _, rfl, .tuple #[], results_none rfl _ _ _, rfl, rfl, rfl⟩

theorem uby (p : Value) (w : World) : Calls Try.prog 78 #[p] w fun e w' => e = .returned (.func (.func 79) #[p] #[]) ∧ w = w' := by
  go_enter Try.func78, Try.ntmps78
  go_wp2
  go_ret
  exact ⟨rfl, rfl⟩

theorem u_results {W : World} {A B C : Nat} {x y z : Value} {T : Array Value} (h6 : T.getD 6 undef = .pointer (some ⟨A, 0, none⟩)) (h7 : T.getD 7 undef = .pointer (some ⟨B, 0, none⟩)) (h8 : T.getD 8 undef = .pointer (some ⟨C, 0, none⟩))
    (bA : W.cell? ⟨A, 0, none⟩ = some x) (bB : W.cell? ⟨B, 0, none⟩ = some y) (bC : W.cell? ⟨C, 0, none⟩ = some z) :
    (results Try.f77 T).run Try.prog W = .ok (.tuple #[x, y, z]) W := by
  simp only [Array.getD_eq_getD_getElem?] at h6 h7 h8
  simp [results, Try.results77, go_sem, h6, h7, h8, bA, bB, bC]

theorem u_leave_pan {R : Ending → World → Prop} {W : World} {A B C : Nat} {x y z : Value} {T : Array Value} {c : Int} (h6 : T.getD 6 undef = .pointer (some ⟨A, 0, none⟩)) (h7 : T.getD 7 undef = .pointer (some ⟨B, 0, none⟩)) (h8 : T.getD 8 undef = .pointer (some ⟨C, 0, none⟩))
    (bA : Boxed W A 93 x) (bB : Boxed W B 3 y) (bC : Boxed W C 32 z) (hAB : A ≠ B) (hAC : A ≠ C) (hBC : B ≠ C)
    (hR : R (.returned (.tuple #[.int .u64 0, .int .i64 0, .int .i64 c])) (((W.setCell ⟨A, 0, none⟩ (.int .u64 0)).setCell ⟨B, 0, none⟩ (.int .i64 0)).setCell ⟨C, 0, none⟩ (.int .i64 c))) :
    Leaves Try.prog Try.f77 T R [{ target := .fn (.func 87) #[.pointer (some ⟨A, 0, none⟩), .pointer (some ⟨B, 0, none⟩), .pointer (some ⟨C, 0, none⟩)], args := #[] }] (.panicking [{ v := .iface 32 (.int .i64 c), recovered := false }]) W := by
  refine leaves_cons (f := 87) (args := #[.pointer (some ⟨A, 0, none⟩), .pointer (some ⟨B, 0, none⟩), .pointer (some ⟨C, 0, none⟩)]) (by simp) (by simp [go_sem]) ?_
  refine (u_catch_pan _ _ _ W c [] _ _ _ bA.cell bB.cell bC.cell bA.frozen bB.frozen bC.frozen (fun e => hAB (by cases e; rfl)) (fun e => hAC (by cases e; rfl)) (fun e => hBC (by cases e; rfl))).mono ?_
  rintro e u' w'' ⟨rfl, rfl, rfl⟩
  obtain ⟨b1, b2, b3⟩ := box3 bA bB bC hAB hAC hBC (.int .u64 0) (.int .i64 0) (.int .i64 c)
  exact ⟨_, u_results h6 h7 h8 b1.cell b2.cell b3.cell, hR⟩

theorem u_leave_ret {R : Ending → World → Prop} {W : World} {A B C : Nat} {x y z : Value} {T : Array Value} (h6 : T.getD 6 undef = .pointer (some ⟨A, 0, none⟩)) (h7 : T.getD 7 undef = .pointer (some ⟨B, 0, none⟩)) (h8 : T.getD 8 undef = .pointer (some ⟨C, 0, none⟩))
    (bA : W.cell? ⟨A, 0, none⟩ = some x) (bB : W.cell? ⟨B, 0, none⟩ = some y) (bC : W.cell? ⟨C, 0, none⟩ = some z) (hR : R (.returned (.tuple #[x, y, z])) W) :
    Leaves Try.prog Try.f77 T R [{ target := .fn (.func 87) #[.pointer (some ⟨A, 0, none⟩), .pointer (some ⟨B, 0, none⟩), .pointer (some ⟨C, 0, none⟩)], args := #[] }] .returning W := by
  refine leaves_cons (f := 87) (args := #[.pointer (some ⟨A, 0, none⟩), .pointer (some ⟨B, 0, none⟩), .pointer (some ⟨C, 0, none⟩)]) (by simp) (by simp [go_sem]) ?_
  refine (u_catch_idle _ _ _ W).mono ?_
  rintro e u' w'' ⟨rfl, rfl, rfl⟩
  exact ⟨_, u_results h6 h7 h8 bA bB bC, hR⟩
set_option maxHeartbeats 800000 in
theorem uread_any (v : Value) (l : List Int) (k : Int) (w : World) (hl : Byt l) (hv : Ints w .u8 v l) :
    Calls Try.prog 77 #[v, .int .i64 k, .func (.func 78) #[] #[]] w (ReadPost w k (rdAt k l rdNum) VNum (.int .u64 0)) := by
  have hmf : ∀ (fn : Fn) (first cap : Array Value) (w : World), (Instr.makeFunc fn first cap).run Try.prog w = .ok (.func fn first cap) w := fun _ _ _ _ => rfl
  have hv' := hv
  obtain ⟨a, cap, rfl, hcap, hmax, _⟩ := hv'.open_
  have bA := ((Boxed.new w 93 (.int .u64 0)).alloc (.cells #[.int .i64 0] 3)).alloc (.cells #[.int .i64 0] 32)
  have bB := (Boxed.new (w.alloc (.cells #[.int .u64 0] 93)) 3 (.int .i64 0)).alloc (.cells #[.int .i64 0] 32)
  have bC := Boxed.new ((w.alloc (.cells #[.int .u64 0] 93)).alloc (.cells #[.int .i64 0] 3)) 32 (.int .i64 0)
  simp only [World.size_alloc] at bB bC
  have hW : ∃ W, W = ((w.alloc (.cells #[.int .u64 0] 93)).alloc (.cells #[.int .i64 0] 3)).alloc (.cells #[.int .i64 0] 32) := ⟨_, rfl⟩
  have hBW : Below w.heap.size w (((w.alloc (.cells #[.int .u64 0] 93)).alloc (.cells #[.int .i64 0] 3)).alloc (.cells #[.int .i64 0] 32)) :=
    (((Below.refl _ _).alloc (Nat.le_refl _) _).alloc (by simp) _).alloc (by simp <;> omega) _
  have HA := Lib.hid bA
  have HB := Lib.hid bB
  have HC := Lib.hid bC
  have HW := Lib.hid hBW
  clear bA bB bC hBW hW
  by_cases hk : k < 0 ∨ (l.length : Int) < k
  · have hrd : rdAt k l rdNum = .no 2 := by unfold rdAt; rw [if_pos hk]
    rw [hrd]
    by_cases hk0 : k < 0
    · have hd : decide (0 ≤ k) = false := by simp; omega
      go_enter_defers Try.func77, Try.ntmps77
      go_wp2_with fail
      refine (need_no _ _).mono ?_
      rintro e w' ⟨rfl, rfl⟩
      go_wp2
      exact u_leave_pan rfl rfl rfl HA.out HB.out HC.out (by omega) (by omega) (by omega) ⟨below_box3 HW.out (by omega) (by omega) (by omega) _ _ _, rfl⟩
    · have hd : decide (0 ≤ k) = true := by simp; omega
      have hd1 : decide (k ≤ (l.length : Int)) = false := by simp; omega
      go_enter_defers Try.func77, Try.ntmps77
      go_wp2_with fail
      refine (need_no _ _).mono ?_
      rintro e w' ⟨rfl, rfl⟩
      go_wp2
      exact u_leave_pan rfl rfl rfl HA.out HB.out HC.out (by omega) (by omega) (by omega) ⟨below_box3 HW.out (by omega) (by omega) (by omega) _ _ _, rfl⟩
  · have hrd : rdAt k l rdNum = rdNum (l.drop k.toNat) := by unfold rdAt; rw [if_neg hk]
    rw [hrd]
    have hd : decide (0 ≤ k) = true := by simp; omega
    obtain ⟨n, rfl⟩ := Int.eq_ofNat_of_zero_le (show 0 ≤ k by omega)
    have hd1 : decide (n ≤ l.length) = true := by simp; omega
    clear hrd
    rw [Int.toNat_natCast]
    generalize hrr : rdNum (l.drop n) = r
    have Hrr := Lib.hid hrr
    clear hrr
    go_enter_defers Try.func77, Try.ntmps77
    go_wp2_with fail
    refine (need_ok _ _).mono ?_
    rintro e w' ⟨rfl, rfl⟩
    go_wp2_with fail
    refine (uby _ _).mono ?_
    rintro e w' ⟨rfl, rfl⟩
    go_wp2_with fail
    have hrd : RdAt ((((w.alloc (.cells #[.int .u64 0] 93)).alloc (.cells #[.int .i64 0] 3)).alloc (.cells #[.int .i64 0] 32)).alloc (.cells #[.slice a l.length cap, .int .i64 n] 136)) (w.heap.size + 1 + 1 + 1) (.slice a l.length cap) n := by
      have := World.alloc_heap_new (((w.alloc (.cells #[.int .u64 0] 93)).alloc (.cells #[.int .i64 0] 3)).alloc (.cells #[.int .i64 0] 32)) (.cells #[.slice a l.length cap, .int .i64 n] 136)
      simpa [RdAt] using this
    refine (rnumberN w _ (w.heap.size + 1 + 1 + 1) _ l n hl hv (HW.out.alloc (by simp <;> omega) _) (by omega) hrd (by omega)).mono ?_
    clear hrd
    rintro e w' ⟨hB', hO, hm⟩
    have bA := (HA.out.alloc (.cells #[.slice a l.length cap, .int .i64 n] 136)).kept hO (by simp <;> omega)
    have bB := (HB.out.alloc (.cells #[.slice a l.length cap, .int .i64 n] 136)).kept hO (by simp)
    have bC := (HC.out.alloc (.cells #[.slice a l.length cap, .int .i64 n] 136)).kept hO (by simp)
    rw [Hrr.out] at hm
    cases r with
    | no c =>
      obtain ⟨rfl, _⟩ := hm
      unfold pan
      go_wp2_with fail
      exact u_leave_pan rfl rfl rfl bA bB bC (by omega) (by omega) (by omega) ⟨below_box3 hB' (by omega) (by omega) (by omega) _ _ _, rfl⟩
    | ok x used =>
      obtain ⟨⟨u, rfl, hu⟩, hr'⟩ := hm
      obtain rfl : u = .int .u64 x := vnum_shape hu
      have c0 := bA.cell
      have f0 := bA.frozen
      go_wp2_with fail
      have bA2 := bA.set (.int .u64 x)
      have bB2 := bB.kept (grownBy_setCell' w' w.heap.size (.int .u64 x)) (by simp)
      have bC2 := bC.kept (grownBy_setCell' w' w.heap.size (.int .u64 x)) (by simp <;> omega)
      have hr2 : RdAt (w'.setCell ⟨w.heap.size, 0, none⟩ (.int .u64 x)) (w.heap.size + 1 + 1 + 1) (.slice a l.length cap) (n + used : Nat) := by
        unfold RdAt at hr' ⊢
        rw [Below.heap_setCell _ _ _ _ (by simp <;> omega)]; exact hr'
      have hB2 := hB'.setCell (p := ⟨w.heap.size, 0, none⟩) (Nat.le_refl _) (.int .u64 x)
      have hu3 := vnum_ok.2 _ _ _ w.heap.size _ _ hu (Only.set w.heap.size 0 w' (.int .u64 x)) (by simp <;> omega)
      clear bA bB bC hr' hB' hO c0 f0 hu
      generalize w'.setCell ⟨w.heap.size, 0, none⟩ (.int .u64 x) = W2 at bA2 bB2 bC2 hr2 hB2 hu3 ⊢
      have c0 := bA2.cell
      have c1 := bB2.cell
      have c2 := bC2.cell
      have c3 := hr2.cell1
      have f0 := bA2.frozen
      have f1 := bB2.frozen
      have f2 := bC2.frozen
      go_region
      all_goals go_wp2
      obtain ⟨b1, b2, b3⟩ := box3 bA2 bB2 bC2 (by omega) (by omega) (by omega) (.int .u64 x) (.int .i64 (n + used)) (.int .i64 0)
      have hu4 : VNum w.heap.size _ (.int .u64 x) x := vnum_ok.1 _ _ _ _ _ (Nat.le_of_lt (by simp <;> omega)) (vnum_ok.2 _ _ _ (w.heap.size + 1 + 1) _ _ (vnum_ok.2 _ _ _ (w.heap.size + 1) _ _ (vnum_ok.2 _ _ _ w.heap.size _ _ hu3 (Only.set w.heap.size 0 W2 (.int .u64 x)) (by simp <;> omega)) (Only.set (w.heap.size + 1) 0 _ (.int .i64 (n + used))) (by simp <;> omega)) ((Only.set (w.heap.size + 1 + 1) 0 _ (.int .i64 0)).trans (Only.drewN _ _ 1)) (by simp <;> omega))
      exact u_leave_ret rfl rfl rfl b1.cell b2.cell b3.cell ⟨below_drewN (below_box3 hB2 (by omega) (by omega) (by omega) _ _ _) 1, _, rfl, hu4⟩
end Go.Proofs.Ytogoejlbdbapoaa

/- The reader: row. -/
namespace Go.Proofs.Ytogoejlbdbapoaa
set_option maxRecDepth 100000
set_option maxHeartbeats 2000000
set_option linter.unusedVariables false
set_option linter.unusedSimpArgs false
open Go.RowKit

theorem own_shape {w : World} {B : Nat} {e : TypeId} {k : IntKind} {v : Value} {l : List Int} (h : Own w B e k v l) : ∃ a n c, v = .slice a n c := by
  rcases h.2 with ⟨rfl, _⟩ | ⟨g, cap, cur, rfl, _⟩
  · exact ⟨_, _, _, rfl⟩
  · exact ⟨_, _, _, rfl⟩
theorem own_only {w w' : World} {B row : Nat} {e : TypeId} {k : IntKind} {v : Value} {l : List Int} (h : Own w B e k v l) (ho : Only row w w') (hr : row < B) : Own w' B e k v l := by
  refine World.ownsRow.kept h ho ?_
  cases hv : v.ownBlock with
  | none => exact .inl rfl
  | some g => right; intro e; cases e; have := own_ge h _ hv; omega
theorem Only.then_below {R : Nat} {a b c : World} (h : Only R a b) (k : Below a.heap.size b c) : Only R a c :=
  ⟨k.os.trans h.os, k.tape.trans h.tape, k.output.trans h.output, Nat.le_trans h.size k.size, fun i hi hne => (k.block i hi).trans (h.block i hi hne)⟩
def VRow (B : Nat) (w : World) (u : Value) (x : List Int) : Prop := Own w B 93 .u64 u x
theorem vrow_ok : VOk VRow := ⟨fun _ _ _ _ _ hB h => own_base h hB, fun _ _ _ _ _ _ h ho hr => own_only h ho hr⟩

def rdRows : Nat → List Int → Nat → List Int → Rd (List Int)
  | 0, _, used, acc => .ok acc used
  | m + 1, l, used, acc => match rdNum l with
    | .no e => .no e
    | .ok x u => rdRows m (l.drop u) (used + u) (acc ++ [x])
theorem rdRows_succ (m : Nat) (l : List Int) (used : Nat) (acc : List Int) : rdRows (m + 1) l used acc = match rdNum l with
    | .no e => .no e
    | .ok x u => rdRows m (l.drop u) (used + u) (acc ++ [x]) := rfl
def rdRow (l : List Int) : Rd (List Int) :=
  match rdNum l with
  | .no e => .no e
  | .ok many used => if many ≤ (l.length : Int) - used then rdRows many.toNat (l.drop used) used [] else .no 120

end Go.Proofs.Ytogoejlbdbapoaa

/- The reader: some, text; sums as bytes; Grow and Concat. -/
namespace Go.Proofs.Ytogoejlbdbapoaa
set_option maxRecDepth 100000
set_option maxHeartbeats 2000000
set_option linter.unusedVariables false
set_option linter.unusedSimpArgs false
open Go.RowKit

/-- append of so many zeros onto nil. -/
theorem run_append_zeros {P : Program} (w : World) {t ti ty e : TypeId} {z : Value} {size bytes : Nat} (T : ElT P t e z size bytes) (hti : P.underlying ti = some (.int .i64)) (n : Nat) (h0 : 0 < n) (hb : n * bytes ≤ 140737488355328) (h63 : n ≤ 1099511627776) :
    (Builtin.append_ #[t, ti] ty #[.slice none 0 0, .int .i64 n]).run P w =
      .ok (.slice (some ⟨w.heap.size, 0, none⟩) n (grownCap w n 0 e)) (w.drew.alloc (.cells (Builtin.zeroCells z.cells n ++ Builtin.zeroCells z.cells (grownCap w n 0 e - n)) e)) := by
  obtain ⟨i, hi, hz, hsz, hby⟩ := T.info
  have hn : n ≠ 0 := by omega
  have h63' : ¬ (9223372036854775807 < (n : Int)) := by omega
  have hw : IntKind.i64.wrap (n : Int) = n := by rw [IntKind.wrap_i64]; omega
  have hneg : ¬ ((n : Int) < 0) := by omega
  have hp := T.pos
  have h48 : ¬ (281474976710656 < (n : Int) * (bytes : Int)) := by
    have : ((n * bytes : Nat) : Int) ≤ 140737488355328 := by omega
    rw [Int.natCast_mul] at this; omega
  have h48' : ¬ (281474976710656 < Builtin.nextslicecap n 0 * bytes) := by rw [nextslicecap_zero h0]; omega
  have hns : n * size ≠ 0 := by have := Nat.mul_pos h0 hp; omega
  subst hsz hby
  simp [Builtin.append_, run_underlying T.under, run_underlying hti, sizeOf, typeInfo, zeroValue, hi, hz, asInt, asIntOf, hw, hneg, h48, hn, h63', h48', hns, Question.forced, run_firstCells_none, newRow, grownCap]

theorem Ints.sub {w : World} {kd : IntKind} {a : Option Addr} {len cap : Nat} {l : List Int} (h : Ints w kd (.slice a len cap) l) (k n c : Nat) (hn : 0 < n) (hk : k + n ≤ l.length) (hc : n ≤ c) (hm : c ≤ maxLen) :
    Ints w kd (.slice (a.map (fun x => x.add k)) n c) ((l.drop k).take n) := by
  obtain ⟨a', cap', e, h1, h2, h3⟩ := h
  simp only [Value.slice.injEq] at e
  obtain ⟨rfl, rfl, rfl⟩ := e
  have hlen : ((l.drop k).take n).length = n := by simp; omega
  obtain ⟨b, o, rfl, hcell⟩ := h3 (by simp; omega)
  refine ⟨_, c, by rw [hlen], by rw [hlen]; exact hc, hm, fun _ => ⟨b, o + k, by simp [addr_add], fun i u hu => ?_⟩⟩
  rw [List.getElem?_map, List.getElem?_take] at hu
  split at hu
  · rw [List.getElem?_drop] at hu
    rw [Nat.add_assoc]
    exact hcell (k + i) u (by rw [List.getElem?_map]; exact hu)
  · simp at hu
theorem ints_zero {w : World} (kd : IntKind) (a : Option Addr) (c : Nat) (h : c ≤ maxLen) : Ints w kd (.slice a 0 c) [] := ⟨a, c, rfl, Nat.zero_le _, h, fun h => by simp at h⟩

set_option maxHeartbeats 1000000 in
theorem rsome (w0 w : World) (R : Nat) (v : Value) (l : List Int) (k n : Nat) (hv : Ints w0 .u8 v l) (hB : Below w0.heap.size w0 w) (hR : w0.heap.size ≤ R) (hr : RdAt w R v k) (hk : k ≤ l.length) (hn : n ≤ 1099511627776) :
    Calls Try.prog 90 #[.pointer (some ⟨R, 0, none⟩), .int .i64 n] w (RdPost w0 w R v k (if n ≤ l.length - k then .ok ((l.drop k).take n) n else .no 120) (fun _ _ u x => Ints w0 .u8 u x)) := by
  obtain ⟨a, cap, rfl, hcap, hmax, _⟩ := hv.open_
  have c0 := hr.cell0
  have c1 := hr.cell1
  have f1 := hr.frozen 1
  by_cases hnk : n ≤ l.length - k
  · have hd : decide ((n : Int) ≤ (l.length : Int) - (k : Int)) = true := by simp; omega
    rw [if_pos hnk]
    go_enter Try.func90, Try.ntmps90
    go_wp2_with fail
    go_quiet ((go_at_call 88; exact Calls.quiet_of_same (need_okq _ _)))
    go_wp2_with fail
    go_quiet (fail)
    go_wp2_with fail
    all_goals go_ret
    · have hn0 : n = 0 := by first | assumption | omega
      refine ⟨Only.below ((Only.drewN R w _).trans (Only.set R 1 _ _)) hB hB.size hR, (Only.drewN R w _).trans (Only.set R 1 _ _), ⟨_, rfl, ?_⟩, hr.set _⟩
      rw [hn0]; simp only [List.take_zero]
      exact ints_zero _ _ _ (by unfold maxLen; omega)
    · have hn0 : ¬ n = 0 := by first | assumption | omega
      refine ⟨Only.below ((Only.drewN R w _).trans (Only.set R 1 _ _)) hB hB.size hR, (Only.drewN R w _).trans (Only.set R 1 _ _), ⟨_, rfl, ?_⟩, hr.set _⟩
      exact hv.sub k n n (by omega) (by omega) (Nat.le_refl _) (by unfold maxLen; omega)
  · have hd : decide ((n : Int) ≤ (l.length : Int) - (k : Int)) = false := by simp; omega
    rw [if_neg hnk]
    go_enter Try.func90, Try.ntmps90
    go_wp2_with fail
    go_still_tail 12, (by kernel_rfl)
    change wpList _ _ _ _ _ w.drew
    go_wp2_with fail
    rw [hd]
    refine (need_no _ _).mono ?_
    rintro e w' ⟨rfl, rfl⟩
    go_wp2
    exact ⟨rfl, Only.below (Only.drewN R w 1) hB hB.size hR, Only.drewN R w 1, rfl, _, hr⟩

/-- Bytes turned into a text. -/
theorem run_conv_str {w : World} {v : Value} {l : List Int} (hv : Ints w .u8 v l) : (convert 51 9 v).run Try.prog w = .ok (.string (strOfNums l)) w := by
  obtain ⟨a, cap, rfl, h1, h2, h3⟩ := hv
  cases l with
  | nil =>
    cases a with
    | none => exact run_convert_bytes_nil w _ 5 Try.underlying51 Try.underlying5 _ _ _ Try.underlying9
    | some ad =>
      obtain ⟨b, o, sp⟩ := ad
      rw [run_convert_bytes_string w _ _ 5 _ _ _ Try.underlying51 Try.underlying5 Try.underlying9]
      show Sem.run Try.prog (Conv.bytesToString (.slice (some ⟨b, o, sp⟩) 0 cap)) w = _
      rw [run_bytesToString w ⟨b, o, sp⟩ 0 cap [] (by simp [loadCells, loadCellsFrom])]
      rfl
  | cons c l =>
    obtain ⟨b, o, rfl, hc⟩ := h3 (by simp)
    refine run_convert_bytes_arg w _ 5 Try.underlying51 Try.underlying5 b o _ cap (c :: l) rfl (fun i hi => ?_) _ Try.underlying9
    refine hc i _ ?_
    rw [List.getElem?_map, List.getElem?_eq_getElem hi]
    simp [List.getD, List.getElem?_eq_getElem hi]
theorem sb_str {l : List Int} (h : Byt l) : sb (strOfNums l) = l := by
  unfold sb
  rw [strOfNums_data, List.map_map]
  conv => rhs; rw [← List.map_id l]
  refine List.map_congr_left fun c hc => ?_
  have := h c hc
  simp
  omega

def VText (_ : Nat) (_ : World) (u : Value) (x : List Int) : Prop := ∃ s, u = .string s ∧ sb s = x
theorem vtext_ok : VOk VText := ⟨fun _ _ _ _ _ _ h => h, fun _ _ _ _ _ _ h _ _ => h⟩
def rdText (l : List Int) : Rd (List Int) :=
  match rdNum l with
  | .no e => .no e
  | .ok n used => if n ≤ 4000 then (if n ≤ (l.length : Int) - used then .ok ((l.drop used).take n.toNat) (used + n.toNat) else .no 120) else .no 3

set_option maxHeartbeats 1000000 in
theorem rtext (w0 w : World) (R : Nat) (v : Value) (l : List Int) (k : Nat) (hl : Byt l) (hv : Ints w0 .u8 v l) (hB : Below w0.heap.size w0 w) (hR : w0.heap.size ≤ R) (hr : RdAt w R v k) (hk : k ≤ l.length) (_hn : l.length ≤ 10000000) (_hRw : R < w.heap.size) :
    Calls Try.prog 82 #[.pointer (some ⟨R, 0, none⟩)] w (RdPost w0 w R v k (rdText (l.drop k)) VText) := by
  obtain ⟨a, cap, rfl, hcap, hmax, _⟩ := hv.open_
  generalize hrr : rdText (l.drop k) = r
  unfold rdText at hrr
  go_enter Try.func82, Try.ntmps82
  have Hrr := Lib.hid hrr
  clear hrr
  go_wp2_with fail
  refine (rnumberN w0 w R _ l k hl hv hB hR hr hk).mono ?_
  rintro e w1 ⟨hB1, hO1, hm⟩
  have hrr := Hrr.out
  generalize hnn : rdNum (l.drop k) = n1 at hm hrr
  cases n1 with
  | no c =>
    obtain ⟨rfl, hm⟩ := hm
    unfold pan
    go_wp2_with fail
    refine ⟨rfl, hB1, hO1, ?_⟩
    obtain rfl := hrr
    exact ⟨rfl, hm⟩
  | ok many used =>
    obtain ⟨⟨u, rfl, hu⟩, hr1⟩ := hm
    obtain rfl : u = .int .u64 many := hu
    have hok := rdNum_ok (hl.drop k) hnn
    rw [List.length_drop] at hok
    simp only [List.length_drop] at hrr
    obtain ⟨m, rfl⟩ := Int.eq_ofNat_of_zero_le hok.2.2.1
    rw [Int.toNat_natCast, List.drop_drop] at hrr
    have hmlt := hok.2.2.2
    have Hrr := Lib.hid hrr
    clear hrr hnn
    generalize hp : k + used = p at hr1
    have Hp := Lib.hid hp
    have hpl : p ≤ l.length := by omega
    clear hp hok
    by_cases hmany : m ≤ 4000
    · have hd : decide ((m : Int) ≤ 4000) = true := by simp; omega
      go_wp2_with fail
      refine (need_ok _ _).mono ?_
      rintro e w' ⟨rfl, rfl⟩
      go_wp2_with fail
      refine (rsome w0 w1 R _ l p m hv hB1 hR hr1 hpl (by omega)).mono ?_
      rintro e w2 ⟨hB2, hO2, hm2⟩
      by_cases hml : m ≤ l.length - p
      · rw [if_pos hml] at hm2
        obtain ⟨⟨u, rfl, hu⟩, hr2⟩ := hm2
        have hcv := run_conv_str (hu.below hB2 (Nat.le_refl _))
        have Hl := Lib.hid hr2
        go_wp2_with fail
        go_ret
        refine ⟨hB2, hO1.trans hO2, ?_⟩
        have hrr := Hrr.out
        have hpp := Hp.out
        rw [if_pos (by omega), if_pos (by omega), hpp] at hrr
        obtain rfl := hrr
        exact ⟨⟨_, rfl, _, rfl, sb_str ((hl.drop p).take m)⟩, by rw [show k + (used + m) = p + m from by omega]; exact hr2⟩
      · rw [if_neg hml] at hm2
        obtain ⟨rfl, hm2⟩ := hm2
        unfold pan
        go_wp2_with fail
        refine ⟨rfl, hB2, hO1.trans hO2, ?_⟩
        have hrr := Hrr.out
        have hpp := Hp.out
        rw [if_pos (by omega), if_neg (by omega)] at hrr
        obtain rfl := hrr
        exact ⟨rfl, hm2⟩
    · have hd : decide ((m : Int) ≤ 4000) = false := by simp; omega
      go_wp2_with fail
      refine (need_no _ _).mono ?_
      rintro e w' ⟨rfl, rfl⟩
      go_wp2
      refine ⟨rfl, hB1, hO1, ?_⟩
      have hrr := Hrr.out
      rw [if_neg (by omega)] at hrr
      obtain rfl := hrr
      exact ⟨rfl, _, hr1⟩

/-- The four bytes of a sum. -/
def fourB (n : Int) : List Int := [n % 256, n / 256 % 256, n / 65536 % 256, n / 16777216 % 256]
def fourC (n : Int) (k : Nat) : List Value := ((fourB n).take k ++ (([0, 0, 0, 0] : List Int).drop k)).map (Value.int .u8)

end Go.Proofs.Ytogoejlbdbapoaa

/- read, at string. Written by genread.py out of read.in. -/
namespace Go.Proofs.Ytogoejlbdbapoaa
set_option maxRecDepth 100000
set_option maxHeartbeats 2000000
set_option linter.unusedVariables false
set_option linter.unusedSimpArgs false
open Go.RowKit

theorem s_catch_idle (p q r : Addr) (w : World) :
    CallsD Try.prog 89 #[.pointer (some p), .pointer (some q), .pointer (some r)] .returning w fun e u' w' => e = .returned (.tuple #[]) ∧ u' = .returning ∧ w' = w := by
  refine callsD_of_wpS Try.func89 rfl fun c₀ cs hu => ?_
  simp only [Try.ntmps89, List.size_toArray, List.length_cons, List.length_nil, Nat.reduceAdd, Nat.reduceSub, Array.replicate_succ, Array.replicate_zero, List.push_toArray, List.append_toArray, List.nil_append, List.cons_append]
  apply wpS_seq
  apply wpS_region
  simp [wpOpsS, go_sem, recoverD, hu, Exit.thenS]
  refine wpS_of_wp ?_
  go_wp2
  refine ⟨rfl, .returning, ?_, .tuple #[], results_none rfl _ _ _, rfl, rfl, rfl⟩
  cases c₀
  simp_all

theorem s_catch_pan (p q r : Addr) (w : World) (c : Int) (pe : List PanicEntry) (x y z : Value) (hp : w.cell? p = some x) (hq : w.cell? q = some y) (hr : w.cell? r = some z) (fp : w.frozen? p = false) (fq : w.frozen? q = false) (fr : w.frozen? r = false) (hpq : p ≠ q) (hpr : p ≠ r) (hqr : q ≠ r) :
    CallsD Try.prog 89 #[.pointer (some p), .pointer (some q), .pointer (some r)] (.panicking ({ v := .iface 32 (.int .i64 c), recovered := false } :: pe)) w fun e u' w' =>
      e = .returned (.tuple #[]) ∧ u' = .panicking ({ v := .iface 32 (.int .i64 c), recovered := true } :: pe) ∧ w' = ((w.setCell p (.string ⟨#[]⟩)).setCell q (.int .i64 0)).setCell r (.int .i64 c) := by
  refine callsD_of_wpS Try.func89 rfl fun c₀ cs hu => ?_
  simp only [Try.ntmps89, List.size_toArray, List.length_cons, List.length_nil, Nat.reduceAdd, Nat.reduceSub, Array.replicate_succ, Array.replicate_zero, List.push_toArray, List.append_toArray, List.nil_append, List.cons_append]
  apply wpS_seq
  apply wpS_region
  simp [wpOpsS, go_sem, recoverD, hu, Exit.thenS]
  refine wpS_of_wp ?_
  have ha := assertErr
  go_wp2
  refine ⟨rfl, _, rfl, .tuple #[], results_none rfl _ _ _, rfl, rfl, rfl⟩

theorem sby (p : Value) (w : World) : Calls Try.prog 81 #[p] w fun e w' => e = .returned (.func (.func 82) #[p] #[]) ∧ w = w' := by
  go_enter Try.func81, Try.ntmps81
  go_wp2
  go_ret
  exact ⟨rfl, rfl⟩

theorem s_results {W : World} {A B C : Nat} {x y z : Value} {T : Array Value} (h6 : T.getD 6 undef = .pointer (some ⟨A, 0, none⟩)) (h7 : T.getD 7 undef = .pointer (some ⟨B, 0, none⟩)) (h8 : T.getD 8 undef = .pointer (some ⟨C, 0, none⟩))
    (bA : W.cell? ⟨A, 0, none⟩ = some x) (bB : W.cell? ⟨B, 0, none⟩ = some y) (bC : W.cell? ⟨C, 0, none⟩ = some z) :
    (results Try.f80 T).run Try.prog W = .ok (.tuple #[x, y, z]) W := by
  simp only [Array.getD_eq_getD_getElem?] at h6 h7 h8
  simp [results, Try.results80, go_sem, h6, h7, h8, bA, bB, bC]

theorem s_leave_pan {R : Ending → World → Prop} {W : World} {A B C : Nat} {x y z : Value} {T : Array Value} {c : Int} (h6 : T.getD 6 undef = .pointer (some ⟨A, 0, none⟩)) (h7 : T.getD 7 undef = .pointer (some ⟨B, 0, none⟩)) (h8 : T.getD 8 undef = .pointer (some ⟨C, 0, none⟩))
    (bA : Boxed W A 9 x) (bB : Boxed W B 3 y) (bC : Boxed W C 32 z) (hAB : A ≠ B) (hAC : A ≠ C) (hBC : B ≠ C)
    (hR : R (.returned (.tuple #[.string ⟨#[]⟩, .int .i64 0, .int .i64 c])) (((W.setCell ⟨A, 0, none⟩ (.string ⟨#[]⟩)).setCell ⟨B, 0, none⟩ (.int .i64 0)).setCell ⟨C, 0, none⟩ (.int .i64 c))) :
    Leaves Try.prog Try.f80 T R [{ target := .fn (.func 89) #[.pointer (some ⟨A, 0, none⟩), .pointer (some ⟨B, 0, none⟩), .pointer (some ⟨C, 0, none⟩)], args := #[] }] (.panicking [{ v := .iface 32 (.int .i64 c), recovered := false }]) W := by
  refine leaves_cons (f := 89) (args := #[.pointer (some ⟨A, 0, none⟩), .pointer (some ⟨B, 0, none⟩), .pointer (some ⟨C, 0, none⟩)]) (by simp) (by simp [go_sem]) ?_
  refine (s_catch_pan _ _ _ W c [] _ _ _ bA.cell bB.cell bC.cell bA.frozen bB.frozen bC.frozen (fun e => hAB (by cases e; rfl)) (fun e => hAC (by cases e; rfl)) (fun e => hBC (by cases e; rfl))).mono ?_
  rintro e u' w'' ⟨rfl, rfl, rfl⟩
  obtain ⟨b1, b2, b3⟩ := box3 bA bB bC hAB hAC hBC (.string ⟨#[]⟩) (.int .i64 0) (.int .i64 c)
  exact ⟨_, s_results h6 h7 h8 b1.cell b2.cell b3.cell, hR⟩

theorem s_leave_ret {R : Ending → World → Prop} {W : World} {A B C : Nat} {x y z : Value} {T : Array Value} (h6 : T.getD 6 undef = .pointer (some ⟨A, 0, none⟩)) (h7 : T.getD 7 undef = .pointer (some ⟨B, 0, none⟩)) (h8 : T.getD 8 undef = .pointer (some ⟨C, 0, none⟩))
    (bA : W.cell? ⟨A, 0, none⟩ = some x) (bB : W.cell? ⟨B, 0, none⟩ = some y) (bC : W.cell? ⟨C, 0, none⟩ = some z) (hR : R (.returned (.tuple #[x, y, z])) W) :
    Leaves Try.prog Try.f80 T R [{ target := .fn (.func 89) #[.pointer (some ⟨A, 0, none⟩), .pointer (some ⟨B, 0, none⟩), .pointer (some ⟨C, 0, none⟩)], args := #[] }] .returning W := by
  refine leaves_cons (f := 89) (args := #[.pointer (some ⟨A, 0, none⟩), .pointer (some ⟨B, 0, none⟩), .pointer (some ⟨C, 0, none⟩)]) (by simp) (by simp [go_sem]) ?_
  refine (s_catch_idle _ _ _ W).mono ?_
  rintro e u' w'' ⟨rfl, rfl, rfl⟩
  exact ⟨_, s_results h6 h7 h8 bA bB bC, hR⟩
set_option maxHeartbeats 800000 in
theorem sread_any (v : Value) (l : List Int) (k : Int) (w : World) (hl : Byt l) (hv : Ints w .u8 v l) (hlen : l.length ≤ 10000000) :
    Calls Try.prog 80 #[v, .int .i64 k, .func (.func 81) #[] #[]] w (ReadPost w k (rdAt k l rdText) VText (.string ⟨#[]⟩)) := by
  have hmf : ∀ (fn : Fn) (first cap : Array Value) (w : World), (Instr.makeFunc fn first cap).run Try.prog w = .ok (.func fn first cap) w := fun _ _ _ _ => rfl
  have hv' := hv
  obtain ⟨a, cap, rfl, hcap, hmax, _⟩ := hv'.open_
  have bA := ((Boxed.new w 9 (.string ⟨#[]⟩)).alloc (.cells #[.int .i64 0] 3)).alloc (.cells #[.int .i64 0] 32)
  have bB := (Boxed.new (w.alloc (.cells #[.string ⟨#[]⟩] 9)) 3 (.int .i64 0)).alloc (.cells #[.int .i64 0] 32)
  have bC := Boxed.new ((w.alloc (.cells #[.string ⟨#[]⟩] 9)).alloc (.cells #[.int .i64 0] 3)) 32 (.int .i64 0)
  simp only [World.size_alloc] at bB bC
  have hW : ∃ W, W = ((w.alloc (.cells #[.string ⟨#[]⟩] 9)).alloc (.cells #[.int .i64 0] 3)).alloc (.cells #[.int .i64 0] 32) := ⟨_, rfl⟩
  have hBW : Below w.heap.size w (((w.alloc (.cells #[.string ⟨#[]⟩] 9)).alloc (.cells #[.int .i64 0] 3)).alloc (.cells #[.int .i64 0] 32)) :=
    (((Below.refl _ _).alloc (Nat.le_refl _) _).alloc (by simp) _).alloc (by simp <;> omega) _
  have HA := Lib.hid bA
  have HB := Lib.hid bB
  have HC := Lib.hid bC
  have HW := Lib.hid hBW
  clear bA bB bC hBW hW
  by_cases hk : k < 0 ∨ (l.length : Int) < k
  · have hrd : rdAt k l rdText = .no 2 := by unfold rdAt; rw [if_pos hk]
    rw [hrd]
    by_cases hk0 : k < 0
    · have hd : decide (0 ≤ k) = false := by simp; omega
      go_enter_defers Try.func80, Try.ntmps80
      go_wp2_with fail
      refine (need_no _ _).mono ?_
      rintro e w' ⟨rfl, rfl⟩
      go_wp2
      exact s_leave_pan rfl rfl rfl HA.out HB.out HC.out (by omega) (by omega) (by omega) ⟨below_box3 HW.out (by omega) (by omega) (by omega) _ _ _, rfl⟩
    · have hd : decide (0 ≤ k) = true := by simp; omega
      have hd1 : decide (k ≤ (l.length : Int)) = false := by simp; omega
      go_enter_defers Try.func80, Try.ntmps80
      go_wp2_with fail
      refine (need_no _ _).mono ?_
      rintro e w' ⟨rfl, rfl⟩
      go_wp2
      exact s_leave_pan rfl rfl rfl HA.out HB.out HC.out (by omega) (by omega) (by omega) ⟨below_box3 HW.out (by omega) (by omega) (by omega) _ _ _, rfl⟩
  · have hrd : rdAt k l rdText = rdText (l.drop k.toNat) := by unfold rdAt; rw [if_neg hk]
    rw [hrd]
    have hd : decide (0 ≤ k) = true := by simp; omega
    obtain ⟨n, rfl⟩ := Int.eq_ofNat_of_zero_le (show 0 ≤ k by omega)
    have hd1 : decide (n ≤ l.length) = true := by simp; omega
    clear hrd
    rw [Int.toNat_natCast]
    generalize hrr : rdText (l.drop n) = r
    have Hrr := Lib.hid hrr
    clear hrr
    go_enter_defers Try.func80, Try.ntmps80
    go_wp2_with fail
    refine (need_ok _ _).mono ?_
    rintro e w' ⟨rfl, rfl⟩
    go_wp2_with fail
    refine (sby _ _).mono ?_
    rintro e w' ⟨rfl, rfl⟩
    go_wp2_with fail
    have hrd : RdAt ((((w.alloc (.cells #[.string ⟨#[]⟩] 9)).alloc (.cells #[.int .i64 0] 3)).alloc (.cells #[.int .i64 0] 32)).alloc (.cells #[.slice a l.length cap, .int .i64 n] 136)) (w.heap.size + 1 + 1 + 1) (.slice a l.length cap) n := by
      have := World.alloc_heap_new (((w.alloc (.cells #[.string ⟨#[]⟩] 9)).alloc (.cells #[.int .i64 0] 3)).alloc (.cells #[.int .i64 0] 32)) (.cells #[.slice a l.length cap, .int .i64 n] 136)
      simpa [RdAt] using this
    refine (rtext w _ (w.heap.size + 1 + 1 + 1) _ l n hl hv (HW.out.alloc (by simp <;> omega) _) (by omega) hrd (by omega) hlen (by simp)).mono ?_
    clear hrd
    rintro e w' ⟨hB', hO, hm⟩
    have bA := (HA.out.alloc (.cells #[.slice a l.length cap, .int .i64 n] 136)).kept hO (by simp <;> omega)
    have bB := (HB.out.alloc (.cells #[.slice a l.length cap, .int .i64 n] 136)).kept hO (by simp)
    have bC := (HC.out.alloc (.cells #[.slice a l.length cap, .int .i64 n] 136)).kept hO (by simp)
    rw [Hrr.out] at hm
    cases r with
    | no c =>
      obtain ⟨rfl, _⟩ := hm
      unfold pan
      go_wp2_with fail
      exact s_leave_pan rfl rfl rfl bA bB bC (by omega) (by omega) (by omega) ⟨below_box3 hB' (by omega) (by omega) (by omega) _ _ _, rfl⟩
    | ok x used =>
      obtain ⟨⟨u, rfl, hu⟩, hr'⟩ := hm
      obtain ⟨s', rfl, _⟩ := id hu
      have c0 := bA.cell
      have f0 := bA.frozen
      go_wp2_with fail
      have bA2 := bA.set (.string s')
      have bB2 := bB.kept (grownBy_setCell' w' w.heap.size (.string s')) (by simp)
      have bC2 := bC.kept (grownBy_setCell' w' w.heap.size (.string s')) (by simp <;> omega)
      have hr2 : RdAt (w'.setCell ⟨w.heap.size, 0, none⟩ (.string s')) (w.heap.size + 1 + 1 + 1) (.slice a l.length cap) (n + used : Nat) := by
        unfold RdAt at hr' ⊢
        rw [Below.heap_setCell _ _ _ _ (by simp <;> omega)]; exact hr'
      have hB2 := hB'.setCell (p := ⟨w.heap.size, 0, none⟩) (Nat.le_refl _) (.string s')
      have hu3 := vtext_ok.2 _ _ _ w.heap.size _ _ hu (Only.set w.heap.size 0 w' (.string s')) (by simp <;> omega)
      clear bA bB bC hr' hB' hO c0 f0 hu
      generalize w'.setCell ⟨w.heap.size, 0, none⟩ (.string s') = W2 at bA2 bB2 bC2 hr2 hB2 hu3 ⊢
      have c0 := bA2.cell
      have c1 := bB2.cell
      have c2 := bC2.cell
      have c3 := hr2.cell1
      have f0 := bA2.frozen
      have f1 := bB2.frozen
      have f2 := bC2.frozen
      go_region
      all_goals go_wp2
      obtain ⟨b1, b2, b3⟩ := box3 bA2 bB2 bC2 (by omega) (by omega) (by omega) (.string s') (.int .i64 (n + used)) (.int .i64 0)
      have hu4 : VText w.heap.size _ (.string s') x := vtext_ok.1 _ _ _ _ _ (Nat.le_of_lt (by simp <;> omega)) (vtext_ok.2 _ _ _ (w.heap.size + 1 + 1) _ _ (vtext_ok.2 _ _ _ (w.heap.size + 1) _ _ (vtext_ok.2 _ _ _ w.heap.size _ _ hu3 (Only.set w.heap.size 0 W2 (.string s')) (by simp <;> omega)) (Only.set (w.heap.size + 1) 0 _ (.int .i64 (n + used))) (by simp <;> omega)) ((Only.set (w.heap.size + 1 + 1) 0 _ (.int .i64 0)).trans (Only.drewN _ _ 1)) (by simp <;> omega))
      exact s_leave_ret rfl rfl rfl b1.cell b2.cell b3.cell ⟨below_drewN (below_box3 hB2 (by omega) (by omega) (by omega) _ _ _) 1, _, rfl, hu4⟩
end Go.Proofs.Ytogoejlbdbapoaa

/- Grow, Concat, frames. -/
namespace Go.Proofs.Ytogoejlbdbapoaa
set_option maxRecDepth 100000
set_option maxHeartbeats 2000000
set_option linter.unusedVariables false
set_option linter.unusedSimpArgs false
open Go.RowKit

theorem wpList_append_zeros {P : Program} (w : World) {ops : Array Oper} {rest : List Oper} {o : Oper} {a : Act} {Q : Exit → Act → World → Prop} (hgd : o.guard = none) (sl x : Operand) (t ti : TypeId)
    (ho : o.op = .call { callee := .builtin .append, args := #[sl, x], argTypes := #[t, ti] })
    {e : TypeId} {z : Value} {size bytes : Nat} (T : ElT P t e z size bytes) (hti : P.underlying ti = some (.int .i64)) (hs : a.eval sl = .slice none 0 0) (n : Nat) (hx : a.eval x = .int .i64 n)
    (h0 : 0 < n) (hb : n * bytes ≤ 140737488355328) (h63 : n ≤ 1099511627776)
    (h : ∀ (cap : Nat) (cur : Array Value), n ≤ cap → cap ≤ 9223372036854775807 → Hid (cur.size = cap * size) → wpList P ops Q rest (a.put o.dst (.slice (some ⟨w.heap.size, 0, none⟩) n cap)) (w.drew.alloc (.cells cur e))) : wpList P ops Q (o :: rest) a w := by
  refine wpList_plain hgd fun K hK => ?_
  have hr := run_append_zeros (P := P) w (ty := o.type) T hti n h0 hb h63
  have hge := grownCap_ge w n 0 e
  have hcm := grownCap_le_maxLen w n 0 e (by unfold maxLen; omega)
  unfold Oper.wp execOp
  simp only [ho, resolve, invoke, builtin, Sem.run_bind, Sem.run_pure, Result.andThen_ok, List.map_toArray, List.map_cons, List.map_nil, hs, hx, hr]
  refine hK _ _ (h _ _ hge (by unfold maxLen at hcm; exact hcm) ?_)
  show _ = _
  rw [Array.size_append, size_zeroCells, size_zeroCells, T.cells, ← Nat.add_mul]
  congr 1; omega

set_option maxHeartbeats 1000000 in
theorem grow_nil (n : Nat) (w : World) (hn : n ≤ 1000000000) :
    Calls Try.prog 61 #[.slice none 0 0, .int .i64 n] w fun e w' => ∃ u, e = .returned u ∧ w'.ownsRow w.heap.size 5 1 u 0 [] ∧ Ext w w' := by
  by_cases h0 : 0 < n
  · have hd : decide ((0 : Int) < (n : Int)) = true := by simp; omega
    go_enter Try.func61, Try.ntmps61
    go_wp2_with (at_builtin; refine wpList_append_zeros _ rfl _ _ 51 3 rfl elB Try.underlying3 rfl n rfl h0 ?_ ?_ ?_)
    · omega
    · omega
    intro cap cur hnc hcm Hcur
    go_wp2_with fail
    go_ret
    exact ⟨_, rfl, ⟨rfl, .inr ⟨w.heap.size, cap, cur, rfl, Nat.le_refl _, heap_alloc_new w.drew _, Nat.zero_le _, by unfold maxLen; omega, by simpa using Hcur.out, by simp⟩⟩, (Ext.drewN w 1).trans (Ext.alloc _ _)⟩
  · have h0 : n = 0 := by omega
    subst h0
    go_enter Try.func61, Try.ntmps61
    go_wp2_with fail
    go_ret
    exact ⟨_, rfl, World.ownsRow_nil _ _ _ _, Ext.refl _⟩

/-- Rows of bytes, one behind the other. -/
def Blocks (w : World) (xs : List (Value × List Int)) : Prop := ∀ x ∈ xs, Ints w .u8 x.1 x.2
theorem Blocks.below {B : Nat} {w w' : World} {xs : List (Value × List Int)} (h : Blocks w xs) (hb : Below B w w') (hB : w.heap.size ≤ B) : Blocks w' xs := fun x hx => (h x hx).below hb hB
def total (xs : List (Value × List Int)) : Nat := (xs.flatMap Prod.snd).length
theorem total_take (xs : List (Value × List Int)) (k : Nat) : total (xs.take k) ≤ total xs := by
  unfold total
  conv => rhs; rw [← List.take_append_drop k xs, List.flatMap_append, List.length_append]
  omega
theorem total_snoc (xs : List (Value × List Int)) (k : Nat) (h : k < xs.length) : total (xs.take (k + 1)) = total (xs.take k) + xs[k].2.length := by
  unfold total
  rw [take_snoc xs k h, List.flatMap_append, List.flatMap_cons, List.flatMap_nil, List.append_nil, List.length_append]
theorem blocks_snoc (xs : List (Value × List Int)) (k : Nat) (h : k < xs.length) : (xs.take (k + 1)).flatMap Prod.snd = (xs.take k).flatMap Prod.snd ++ xs[k].2 := by
  rw [take_snoc xs k h, List.flatMap_append, List.flatMap_cons, List.flatMap_nil, List.append_nil]

set_option maxHeartbeats 2000000 in
theorem concat_any (v : Value) (xs : List (Value × List Int)) (w : World) (hv : Sl w v xs.length (xs.map Prod.fst)) (hx : Blocks w xs) (ht : total xs ≤ 1000000000) :
    Calls Try.prog 36 #[v] w fun e w' => ∃ u, e = .returned u ∧ Own w' w.heap.size 5 .u8 u (xs.flatMap Prod.snd) ∧ Ext w w' := by
  have hv' := hv
  obtain ⟨a, cap, rfl, hcap, hmax, hc⟩ := hv'.open_
  simp only [List.length_map] at hc
  go_enter Try.func36, Try.ntmps36
  go_wp2_with fail
  go_loop [3, 5, 11] (fun n _ i => ∃ k : Nat, k ≤ xs.length ∧ i = .int .i64 k ∧ n = .int .i64 (total (xs.take k))) (fun _ _ i => xs.length - (intOf i).toNat)
  case atStart => exact ⟨0, Nat.zero_le _, rfl, rfl⟩
  case round =>
    obtain ⟨k, hk, rfl, rfl⟩ := hrel
    have htk := total_take xs k
    by_cases hlt : k < xs.length
    · obtain ⟨b, o, rfl, hcell⟩ := hc k hlt
      have hck := hcell k xs[k].1 (by simp [hlt])
      obtain ⟨a', cap', e1, _, _, _⟩ := (hx xs[k] (List.getElem_mem hlt)).open_
      rw [e1] at hck
      have hts := total_snoc xs k hlt
      have htk1 := total_take xs (k + 1)
      have hle : xs[k].2.length ≤ 1000000000 := by omega
      have Hts := Lib.hid hts
      have hsum : total (xs.take k) + xs[k].2.length ≤ 1000000000 := by omega
      clear hts hcell hc htk1 e1
      have hd : decide (((total (xs.take k) : Nat) : Int) + ((xs[k].2.length : Nat) : Int) < 0) = false := by simp; omega
      go_wp2_with fail
      go_round
      case rel => exact ⟨k + 1, by omega, by go_num, int_congr (by rw [Hts.out]; omega)⟩
      case measure => simp [intOf]; omega
    · have hk' : k = xs.length := by omega
      have Hk := Lib.hid hk'
      clear hk'
      go_wp2_with fail
      refine (grow_nil _ _ (by omega)).mono ?_
      rintro e w1 ⟨u1, rfl, ho1, hx1⟩
      go_wp2_with fail
      clear htk hk
      go_loopw [6, 8, 27] (fun v _ i wr => ∃ k : Nat, k ≤ xs.length ∧ i = .int .i64 k ∧ Own wr w.heap.size 5 .u8 v ((xs.take k).flatMap Prod.snd) ∧ Below w.heap.size w wr) (fun _ _ i _ => xs.length - (intOf i).toNat)
      case atStart => exact ⟨0, Nat.zero_le _, rfl, ho1, hx1⟩
      case round =>
        obtain ⟨k, hk, rfl, hown, hB⟩ := hrel
        have htk : ((xs.take k).flatMap Prod.snd).length ≤ total xs := total_take xs k
        by_cases hlt : k < xs.length
        · have hvr := hv.below hB (Nat.le_refl _)
          obtain ⟨_, _, e1, _, _, hc2⟩ := hvr.open_
          simp only [Value.slice.injEq] at e1
          obtain ⟨rfl, _, rfl⟩ := e1
          obtain ⟨b, o, rfl, hcell⟩ := hc2 k (by simpa using hlt)
          have hck := hcell k xs[k].1 (by simp [hlt])
          have hi := (hx xs[k] (List.getElem_mem hlt)).below hB (Nat.le_refl _)
          have hi2 := hi
          obtain ⟨a', cap', e1, _, _, _⟩ := hi2.open_
          rw [e1] at hck hi
          have Hbs := Lib.hid (blocks_snoc xs k hlt)
          have hts : ((xs.take (k + 1)).flatMap Prod.snd).length ≤ total xs := total_take xs (k + 1)
          rw [Hbs.out, List.length_append] at hts
          generalize hacc : (xs.take k).flatMap Prod.snd = acc at hown htk hts
          have Hacc := Lib.hid hacc
          have Hi := Lib.hid hi
          clear hcell hc2 hacc e1 hi hi2
          go_wp2_with (at_builtin; refine wpList_append_sl _ rfl _ _ 51 rfl elB rfl hown rfl Hi.out ?_ (ints_one _ _) ?_ ?_ ?_ ?_)
          · simp
          · omega
          · unfold maxLen; omega
          · exact hB.size
          intro v1 w1 hown1 hb _ _
          have hfin : Own w1 w.heap.size 5 .u8 v1 ((xs.take (k + 1)).flatMap Prod.snd) := by
            rw [Hbs.out, Hacc.out]
            unfold Own
            rw [List.length_append, List.map_append]
            exact hown1
          have Hfin := Lib.hid hfin
          clear hfin hown1 hown
          go_wp2_with fail
          go_roundw
          case rel => exact ⟨k + 1, by omega, by go_num, Hfin.out, hB.trans hb⟩
          case measure => simp [intOf]; omega
        · go_wp2_with fail
          go_ret
          exact ⟨_, rfl, by rw [List.take_of_length_le (by omega)] at hown; exact hown, hB⟩

theorem Blocks.nil {w : World} : Blocks w [] := fun x hx => by simp at hx
theorem Blocks.cons {w : World} {v : Value} {l : List Int} {xs : List (Value × List Int)} (h : Ints w .u8 v l) (hs : Blocks w xs) : Blocks w ((v, l) :: xs) := fun x hx => (List.mem_cons.1 hx).elim (fun e => e ▸ h) (hs x)
theorem total_nil : total [] = 0 := rfl
theorem total_cons (v : Value) (l : List Int) (xs : List (Value × List Int)) : total ((v, l) :: xs) = l.length + total xs := by simp [total]

/-- A frame's bytes. -/
def frameB (l : List Int) : List Int := num 9 l.length ++ (l ++ fourB (sumL 1 l))

theorem sl_at (w : World) (vs : List Value) (t : TypeId) (b n : Nat) (hb : w.heap.size = b) (hn : vs.length = n) (h : n ≤ maxLen) : Sl (w.alloc (.cells vs.toArray t)) (.slice (some ⟨b, 0, none⟩) n n) n vs := by
  subst hb hn
  simpa using Sl.new w vs.toArray t vs.length vs.length (Nat.le_refl _) h

end Go.Proofs.Ytogoejlbdbapoaa

/- The reader: frame. -/
namespace Go.Proofs.Ytogoejlbdbapoaa
set_option maxRecDepth 100000
set_option maxHeartbeats 2000000
set_option linter.unusedVariables false
set_option linter.unusedSimpArgs false
open Go.RowKit

theorem run_make_el {P : Program} {t e : TypeId} {z : Value} {size bytes : Nat} (T : ElT P t e z size bytes) (n : Nat) (hb : bytes * n ≤ 281474976710656) (h63 : n ≤ 9223372036854775807) (w : World) :
    (Instr.makeSlice t (.int .i64 n) (.int .i64 n)).run P w = .ok (.slice (some ⟨w.heap.size, 0, none⟩) n n) (w.alloc (.cells (madeCells z.cells (n * size)) e)) := by
  obtain ⟨i, hi, hz, hsz, hby⟩ := T.info
  subst hsz hby
  have h1 : (i.bytes : Int) * (n : Int) ≤ 281474976710656 := by
    have : ((i.bytes * n : Nat) : Int) ≤ 281474976710656 := by omega
    rwa [Int.natCast_mul] at this
  have hr := run_make (P := P) w t e i z T.under hi hz .i64 .i64 (n : Int) (n : Int) (by omega) (by omega) h1 (by omega)
  simpa using hr

theorem wpList_copy_all {P : Program} {w : World} {ops : Array Oper} {rest : List Oper} {o : Oper} {a : Act} {Q : Exit → Act → World → Prop} (hgd : o.guard = none) (d s : Operand) (dT sT : TypeId)
    (ho : o.op = .call { callee := .builtin .copy, args := #[d, s], argTypes := #[dT, sT] }) {e : TypeId} {z : Value} {bytes : Nat} (T : ElT P dT e z 1 bytes)
    {n : Nat} {g : Nat} {cap : Nat} (hd : a.eval d = .slice (some ⟨g, 0, none⟩) n cap) {u : Value} (hs : a.eval s = u) {xs : List Value} (hu : Sl w u n xs) (hxs : xs.length = n) (h1 : ∀ x ∈ xs, x.oneCell' = true)
    {cur : Array Value} {t : TypeId} (hg : w.heap[g]? = some (.cells cur t (0, 0))) (hcur : cur.size = n) (B : Nat) (hB : B ≤ g)
    (h : ∀ w', Hid (w'.heap[g]? = some (.cells xs.toArray t (0, 0))) → Below B w w' → wpList P ops Q rest (a.put o.dst (goInt xs.length)) w') : wpList P ops Q (o :: rest) a w := by
  obtain ⟨sp, sc, rfl, h2, h3, hc⟩ := hu
  obtain ⟨i, hi, hz, hsz, hby⟩ := T.info
  have hlen : cur.toList.length = n := by simpa using hcur
  refine wpList_copy_splice hgd d s dT sT ho e T.under (by rw [hi]; simp [hsz]) (some ⟨g, 0, none⟩) sp n cap n sc hd hs g 0 cur.toList t (by simpa using hg) xs (by simp [hxs]) ?_ (by omega) h1 B w (Below.refl _ _) hB ?_
  · intro hp
    obtain ⟨b, o, rfl, hcell⟩ := hc hp
    exact ⟨rfl, _, rfl, fun j v hj => by rw [addr_add]; exact hcell j v hj⟩
  · intro w' hw' hb
    refine h w' ?_ hb
    have h5 : splice cur.toList 0 xs = xs := by
      unfold splice
      rw [List.take_zero, List.nil_append, List.drop_eq_nil_of_le (by omega), List.append_nil]
    rw [h5] at hw'
    exact hw'

def VByt (B : Nat) (w : World) (u : Value) (x : List Int) : Prop := Own w B 5 .u8 u x
theorem vbyt_ok : VOk VByt := ⟨fun _ _ _ _ _ hB h => own_base h hB, fun _ _ _ _ _ _ h ho hr => own_only h ho hr⟩
def rdFrame (l : List Int) : Rd (List Int) :=
  match rdNum l with
  | .no e => .no e
  | .ok n used =>
    if n ≤ 1048576 then
      if n + 4 ≤ (l.length : Int) - used then
        if (l.drop (used + n.toNat)).take 4 = fourB (sumL 1 ((l.drop used).take n.toNat)) then .ok ((l.drop used).take n.toNat) (used + n.toNat + 4)
        else .no 122
      else .no 120
    else .no 3

end Go.Proofs.Ytogoejlbdbapoaa

/- What is written is read again; what is read is written as it stood there: plain. -/
namespace Go.Proofs.Ytogoejlbdbapoaa
set_option maxRecDepth 100000
set_option maxHeartbeats 2000000
set_option linter.unusedVariables false
set_option linter.unusedSimpArgs false

theorem small_mul (d : Int) (i : Nat) (h0 : 0 ≤ d) (h1 : d < 128) (hi : i ≤ 8) : d * 128 ^ i % 18446744073709551616 = d * 128 ^ i := by
  have : i = 0 ∨ i = 1 ∨ i = 2 ∨ i = 3 ∨ i = 4 ∨ i = 5 ∨ i = 6 ∨ i = 7 ∨ i = 8 := by omega
  rcases this with rfl | rfl | rfl | rfl | rfl | rfl | rfl | rfl | rfl <;> simp <;> omega

theorem rdn_num (f : Nat) (m : Int) (i : Nat) (acc : Int) (rest : List Int) (hif : i + f = 9) (h0 : 0 ≤ m) (hm : m < 2 * 128 ^ f) (hpos : i = 0 ∨ 0 < m) :
    rdn (num f m ++ rest) i acc = .ok (acc + m * 128 ^ i) (i + (num f m).length) := by
  induction f generalizing m i acc with
  | zero =>
    simp at hm
    obtain rfl : i = 9 := by omega
    obtain rfl : m = 1 := by omega
    simp only [num, List.cons_append, List.nil_append]
    rw [rdn_yes _ _ _ _ (by omega) (by omega) (by omega)]
    simp
  | succ f ih =>
    by_cases hs : m < 128
    · rw [num_small _ m hs, List.cons_append, List.nil_append, rdn_yes _ _ _ _ (by omega) (by omega) (by omega)]
      rw [show m % 128 = m from by omega, small_mul m i h0 hs (by omega)]
      rfl
    · rw [num_big _ m hs, List.cons_append, rdn_more _ _ _ _ (by omega) (by omega)]
      rw [show (m % 128 + 128) % 128 = m % 128 from by omega, small_mul (m % 128) i (by omega) (by omega) (by omega)]
      rw [ih (m / 128) (i + 1) _ (by omega) (by omega) (by rw [Int.pow_succ] at hm; omega) (by omega)]
      have hmd : m = m % 128 + 128 * (m / 128) := by omega
      congr 1
      · rw [Int.pow_succ]
        conv => rhs; rw [hmd]
        rw [Int.add_mul, Int.mul_comm (128 ^ i : Int) 128, ← Int.mul_assoc, Int.mul_comm (m / 128) 128]
        omega
      · simp; omega
theorem rdNum_num (n : Int) (rest : List Int) (h0 : 0 ≤ n) (h1 : n < 18446744073709551616) : rdNum (num 9 n ++ rest) = .ok n (num 9 n).length := by
  unfold rdNum
  rw [rdn_num 9 n 0 0 rest rfl h0 (by omega) (.inl rfl)]
  simp

theorem rdn_inv (l : List Int) (i f : Nat) (acc n : Int) (u : Nat) (hif : i + f = 9) (hl : Byt l) (h : rdn l i acc = .ok n u) :
    ∃ m, n = acc + m * 128 ^ i ∧ i ≤ u ∧ l.take (u - i) = num f m ∧ 0 ≤ m ∧ (i = 0 ∨ 0 < m) ∧ u - i ≤ l.length := by
  induction l generalizing i f acc with
  | nil => unfold rdn at h; split at h <;> cases h
  | cons c l ih =>
    have hc := hl c (by simp)
    by_cases hb : 128 ≤ c
    · rw [rdn_more _ _ _ _ (by omega) hb] at h
      rcases Nat.lt_or_ge i 9 with hi | hi
      · obtain ⟨f', rfl⟩ : ∃ f', f = f' + 1 := ⟨f - 1, by omega⟩
        obtain ⟨m', h1, h2, h3, h4, h5, h6⟩ := ih (i + 1) f' _ (by omega) (fun d hd => hl d (by simp [hd])) h
        refine ⟨c % 128 + 128 * m', ?_, by omega, ?_, by omega, .inr (by omega), by simp; omega⟩
        · rw [h1, small_mul _ i (by omega) (by omega) (by omega), Int.pow_succ, Int.add_mul, Int.mul_comm (128 ^ i : Int) 128, ← Int.mul_assoc, Int.mul_comm m' 128]
          omega
        · rw [num_big f' _ (by omega), show (c % 128 + 128 * m') / 128 = m' from by omega, show (c % 128 + 128 * m') % 128 + 128 = c from by omega]
          obtain ⟨t, ht⟩ : ∃ t, u - i = t + 1 := ⟨u - i - 1, by omega⟩
          rw [ht, List.take_succ_cons, ← h3]
          congr 2; omega
      · obtain rfl : i = 9 := by omega
        rw [rdn_ten] at h; cases h
    · by_cases ht : (i = 0 ∨ 0 < c) ∧ (i < 9 ∨ c = 1)
      · rw [rdn_yes _ _ _ _ (by omega) hb ht] at h
        cases h
        refine ⟨c, ?_, by omega, ?_, hc.1, ht.1, by simp⟩
        · rw [show c % 128 = c from by omega]
          rcases Nat.lt_or_ge i 9 with hi | hi
          · rw [small_mul c i hc.1 (by omega) (by omega)]
          · obtain rfl : i = 9 := by omega
            obtain rfl : c = 1 := by omega
            simp
        · rw [show i + 1 - i = 1 from by omega, num_small f c (by omega)]; rfl
      · rw [rdn_no _ _ _ _ (by omega) hb ht] at h; cases h
theorem rdNum_inv {l : List Int} {n : Int} {u : Nat} (hl : Byt l) (h : rdNum l = .ok n u) : l.take u = num 9 n ∧ u ≤ l.length := by
  obtain ⟨m, h1, _, h3, _, _, h6⟩ := rdn_inv l 0 9 0 n u rfl hl h
  simp at h1 h3 h6
  subst h1
  exact ⟨h3, h6⟩

theorem rdRows_num (xs : List Int) (used : Nat) (acc rest : List Int) (hx : U64 xs) :
    rdRows xs.length (xs.flatMap (num 9) ++ rest) used acc = .ok (acc ++ xs) (used + (xs.flatMap (num 9)).length) := by
  induction xs generalizing used acc with
  | nil => simp [rdRows]
  | cons x xs ih =>
    have h := hx x (by simp)
    rw [List.length_cons, rdRows_succ, List.flatMap_cons, List.append_assoc, rdNum_num x _ h.1 h.2]
    simp only [List.drop_left]
    rw [ih _ _ (fun c hc => hx c (by simp [hc]))]
    simp; omega
theorem flat_ge (xs : List Int) : xs.length ≤ (xs.flatMap (num 9)).length := by
  induction xs with
  | nil => simp
  | cons x xs ih => have := num_len 9 x; rw [List.flatMap_cons, List.length_append, List.length_cons]; omega
theorem rdRow_row (xs rest : List Int) (hx : U64 xs) (hn : xs.length ≤ 1000000) : rdRow (rowB xs ++ rest) = .ok xs (rowB xs).length := by
  unfold rdRow rowB
  rw [List.append_assoc, rdNum_num _ _ (by omega) (by omega)]
  have := flat_ge xs
  simp only [List.drop_left]
  rw [if_pos (by simp only [List.length_append]; omega), Int.toNat_natCast, rdRows_num xs _ [] rest hx]
  simp
theorem rdRows_inv (m : Nat) (l : List Int) (used u : Nat) (acc xs : List Int) (hl : Byt l) (h : rdRows m l used acc = .ok xs u) :
    ∃ ys, xs = acc ++ ys ∧ ys.length = m ∧ U64 ys ∧ used ≤ u ∧ l.take (u - used) = ys.flatMap (num 9) ∧ u - used ≤ l.length := by
  induction m generalizing l used acc with
  | zero =>
    unfold rdRows at h
    cases h
    exact ⟨[], by simp, rfl, fun c hc => by simp at hc, Nat.le_refl _, by simp, by omega⟩
  | succ m ih =>
    rw [rdRows_succ] at h
    generalize hnn : rdNum l = r at h
    cases r with
    | no e => cases h
    | ok x w =>
      have hi := rdNum_inv hl hnn
      have hok := rdNum_ok hl hnn
      obtain ⟨ys, h1, h2, h3, h4, h5, h6⟩ := ih (l.drop w) (used + w) (acc ++ [x]) (hl.drop w) h
      rw [List.length_drop] at h6
      refine ⟨x :: ys, by rw [h1]; simp, by simp [h2], ?_, by omega, ?_, by omega⟩
      · intro c hc
        rcases List.mem_cons.1 hc with rfl | hc
        · exact ⟨hok.2.2.1, hok.2.2.2⟩
        · exact h3 c hc
      · rw [List.flatMap_cons, ← h5, ← hi.1, ← List.take_add]
        congr 1; omega
theorem rdRow_inv {l xs : List Int} {u : Nat} (hl : Byt l) (h : rdRow l = .ok xs u) : l.take u = rowB xs ∧ u ≤ l.length ∧ U64 xs ∧ xs.length ≤ l.length := by
  unfold rdRow at h
  generalize hnn : rdNum l = r at h
  cases r with
  | no e => cases h
  | ok n w =>
    have hi := rdNum_inv hl hnn
    have hok := rdNum_ok hl hnn
    simp only [] at h
    split at h
    · rename_i hle
      obtain ⟨ys, h1, h2, h3, h4, h5, h6⟩ := rdRows_inv _ _ _ _ _ _ (hl.drop w) h
      rw [List.nil_append] at h1
      subst h1
      rw [List.length_drop] at h6
      refine ⟨?_, by omega, h3, by omega⟩
      have e1 : (xs.length : Int) = n := by omega
      unfold rowB
      rw [e1, ← h5, ← hi.1, ← List.take_add]
      congr 1; omega
    · cases h

theorem rdText_text (s rest : List Int) (hn : s.length ≤ 4000) : rdText (textB s ++ rest) = .ok s (textB s).length := by
  unfold rdText textB
  rw [List.append_assoc, rdNum_num _ _ (by omega) (by omega)]
  simp only [List.drop_left]
  rw [if_pos (by omega), if_pos (by simp only [List.length_append]; omega), Int.toNat_natCast, List.take_left, List.length_append]
theorem rdText_inv {l s : List Int} {u : Nat} (hl : Byt l) (h : rdText l = .ok s u) : l.take u = textB s ∧ u ≤ l.length ∧ s.length ≤ 4000 ∧ Byt s := by
  unfold rdText at h
  generalize hnn : rdNum l = r at h
  cases r with
  | no e => cases h
  | ok n w =>
    have hi := rdNum_inv hl hnn
    have hok := rdNum_ok hl hnn
    simp only [] at h
    split at h
    · split at h
      · cases h
        have hlen : ((l.drop w).take n.toNat).length = n.toNat := by simp; omega
        refine ⟨?_, by omega, by omega, (hl.drop w).take _⟩
        unfold textB
        rw [hlen, show ((n.toNat : Nat) : Int) = n from by omega, ← hi.1, ← List.take_add]
      · cases h
    · cases h
theorem fourB_len (n : Int) : (fourB n).length = 4 := rfl
theorem rdFrame_at (s y rest : List Int) (hn : s.length ≤ 1048576) (hy : y.length = 4) :
    rdFrame (num 9 s.length ++ (s ++ (y ++ rest))) = if y = fourB (sumL 1 s) then .ok s ((num 9 s.length).length + s.length + 4) else .no 122 := by
  unfold rdFrame
  rw [rdNum_num _ _ (by omega) (by omega)]
  simp only [List.drop_left, Int.toNat_natCast]
  rw [if_pos (by omega), if_pos (by simp only [List.length_append]; omega), List.take_left, ← List.drop_drop, List.drop_left, List.drop_left, ← hy, List.take_left]
theorem rdFrame_frame (s rest : List Int) (hn : s.length ≤ 1048576) : rdFrame (frameB s ++ rest) = .ok s (frameB s).length := by
  unfold frameB
  rw [List.append_assoc, List.append_assoc, rdFrame_at s _ rest hn rfl, if_pos rfl]
  simp only [List.length_append, fourB_len]
  exact congrArg (Rd.ok s) (by omega)
theorem rdFrame_inv {l s : List Int} {u : Nat} (hl : Byt l) (h : rdFrame l = .ok s u) : l.take u = frameB s ∧ u ≤ l.length ∧ s.length ≤ 1048576 ∧ Byt s := by
  unfold rdFrame at h
  generalize hnn : rdNum l = r at h
  cases r with
  | no e => cases h
  | ok n w =>
    have hi := rdNum_inv hl hnn
    have hok := rdNum_ok hl hnn
    simp only [] at h
    split at h
    · split at h
      · split at h
        · rename_i hf
          cases h
          have hlen : ((l.drop w).take n.toNat).length = n.toNat := by simp; omega
          refine ⟨?_, by omega, by omega, (hl.drop w).take _⟩
          unfold frameB
          rw [hlen, show ((n.toNat : Nat) : Int) = n from by omega, ← hf, ← hi.1, ← List.append_assoc, ← List.take_add, ← List.take_add]
        · cases h
      · cases h
    · cases h

theorem sum_step_inj (n n' c : Int) (h0 : 0 ≤ n) (h1 : n < 4294967296) (h0' : 0 ≤ n') (h1' : n' < 4294967296) (h : (31 * n + c + 1) % 4294967296 = (31 * n' + c + 1) % 4294967296) : n = n' := by omega
theorem sumL_inj (l : List Int) (n n' : Int) (h0 : 0 ≤ n) (h1 : n < 4294967296) (h0' : 0 ≤ n') (h1' : n' < 4294967296) (h : sumL n l = sumL n' l) : n = n' := by
  induction l generalizing n n' with
  | nil => exact h
  | cons c l ih =>
    refine sum_step_inj n n' c h0 h1 h0' h1' (ih _ _ ?_ ?_ ?_ ?_ h) <;> omega
theorem sumL_set (l : List Int) (k : Nat) (hk : k < l.length) (c n : Int) (hl : Byt l) (hc : 0 ≤ c ∧ c < 256) (h0 : 0 ≤ n) (h1 : n < 4294967296) : sumL n (l.set k c) = sumL n l ↔ l[k] = c := by
  induction l generalizing k n with
  | nil => simp at hk
  | cons x l ih =>
    have hx := hl x (by simp)
    cases k with
    | zero =>
      simp only [List.set_cons_zero, sumL, List.getElem_cons_zero]
      constructor
      · intro h
        have := sumL_inj l _ _ (by omega) (by omega) (by omega) (by omega) h
        omega
      · intro h; rw [h]
    | succ k =>
      simp only [List.set_cons_succ, sumL, List.getElem_cons_succ]
      exact ih k (by simpa using hk) _ (fun d hd => hl d (by simp [hd])) (by omega) (by omega)
theorem fourB_inj (a b : Int) (ha : 0 ≤ a ∧ a < 4294967296) (hb : 0 ≤ b ∧ b < 4294967296) : fourB a = fourB b ↔ a = b := by
  constructor
  · intro h
    simp only [fourB, List.cons.injEq, and_true] at h
    omega
  · intro h; rw [h]
end Go.Proofs.Ytogoejlbdbapoaa
