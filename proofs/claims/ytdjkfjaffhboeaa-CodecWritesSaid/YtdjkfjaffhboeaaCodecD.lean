/- The reference's Number; rows and texts, both. -/
import Derived.Test.YtdjkfjaffhboeaaCodecC
import Derived.Lib.AppendStr
namespace Go.Proofs.Ytdjkfjaffhboeaa
open Go.RowKit

/-- A text's bytes. -/
def sb (s : ByteArray) : List Int := s.data.toList.map fun b => (b.toNat : Int)
theorem sb_len (s : ByteArray) : (sb s).length = s.size := by simp [sb]
theorem sb_cells (s : ByteArray) : Lib.strCells s = (sb s).map (Value.int .u8) := by simp [Lib.strCells, sb]
theorem sb_byt (s : ByteArray) : Byt (sb s) := by
  intro c hc
  simp only [sb, List.mem_map] at hc
  obtain ⟨b, _, rfl⟩ := hc
  have := b.toNat_lt
  omega

set_option maxHeartbeats 1000000 in
theorem refNumber_any (n : Int) (w : World) (h0 : 0 ≤ n) (h1 : n < 18446744073709551616) :
    Calls Try.prog 11 #[.int .u64 n] w fun e w' => ∃ u, e = .returned u ∧ Own w' w.heap.size 5 .u8 u (num 9 n) ∧ Ext w w' := by
  go_enter Try.func11, Try.ntmps11
  go_wp2
  go_loopw [0, 3] (fun x v wr => ∃ (f : Nat) (pre : List Int) (m : Int), num 9 n = pre ++ num f m ∧ 0 ≤ m ∧ m < 2 * 128 ^ f ∧ m ≤ n ∧ f + pre.length = 9 ∧ x = .int .u64 m ∧ Own wr w.heap.size 5 .u8 v pre ∧ Below w.heap.size w wr)
    (fun x _ _ => (intOf x).toNat)
  case atStart => exact ⟨9, [], n, rfl, h0, by omega, Int.le_refl _, rfl, rfl, World.ownsRow_nil _ _ _ _, Below.refl _ _⟩
  case round =>
    obtain ⟨f, pre, m, hnum, hm0, hmf, hmn, hfl, rfl, hown, hB⟩ := hrel
    by_cases hm : m < 128
    · have hd : decide (128 ≤ m) = false := by simp; omega
      go_wp2_with (at_builtin; refine wpList_append_sl _ rfl _ _ 24 rfl elB rfl (hown.alloc _) rfl (Sl.new _ _ _ 1 1 (Nat.le_refl _) ?_) rfl ?_ ?_ ?_ ?_ ?_)
      · unfold maxLen; omega
      · rfl
      · omega
      · unfold maxLen; omega
      · have := hB.size; simp; omega
      intro v1 w1 hown1 hb _ _
      go_wp2
      go_ret
      refine ⟨_, rfl, ?_, hB.trans (Below.trans ((Below.refl _ _).alloc hB.size _) hb)⟩
      rw [hnum, num_small f m hm]
      simpa [Own] using hown1
    · have hd : decide (128 ≤ m) = true := by simp; omega
      have hf' : ∃ f', f = f' + 1 := ⟨f - 1, by
        rcases Nat.eq_zero_or_pos f with h | h
        · subst h; simp at hmf; omega
        · omega⟩
      obtain ⟨f', rfl⟩ := hf'
      go_wp2_with (at_builtin; refine wpList_append_sl _ rfl _ _ 24 rfl elB rfl (hown.alloc _) rfl (Sl.new _ _ _ 1 1 (Nat.le_refl _) ?_) rfl ?_ ?_ ?_ ?_ ?_)
      · unfold maxLen; omega
      · rfl
      · omega
      · unfold maxLen; omega
      · have := hB.size; simp; omega
      intro v1 w1 hown1 hb _ _
      go_wp2
      refine ⟨⟨f', pre ++ [m % 128 + 128], m / 128, ?_, by omega, ?_, by omega, by simp; omega, rfl, ?_, hB.trans (Below.trans ((Below.refl _ _).alloc hB.size _) hb)⟩, by simp [intOf]; omega⟩
      · rw [hnum, num_big f' m (by omega)]; simp
      · have h2 : (128 : Int) ^ (f' + 1) = 128 ^ f' * 128 := Int.pow_succ _ _
        rw [h2] at hmf; omega
      · simpa [Own] using hown1

/-- A row's bytes. -/
def rowB (l : List Int) : List Int := num 9 l.length ++ l.flatMap (num 9)
/-- A text's bytes, with its length ahead. -/
def textB (l : List Int) : List Int := num 9 l.length ++ l
theorem flat_snoc (l : List Int) (k : Nat) (h : k < l.length) : (l.take (k + 1)).flatMap (num 9) = (l.take k).flatMap (num 9) ++ num 9 l[k] := by
  rw [take_snoc l k h, List.flatMap_append, List.flatMap_cons, List.flatMap_nil, List.append_nil]
theorem flat_len (l : List Int) : (l.flatMap (num 9)).length ≤ 10 * l.length := by
  induction l with
  | nil => simp
  | cons x l ih => have := num_len 9 x; rw [List.flatMap_cons, List.length_append, List.length_cons]; omega
/-- Numbers that fit. -/
def U64 (l : List Int) : Prop := ∀ c ∈ l, 0 ≤ c ∧ c < 18446744073709551616
theorem U64.get {l : List Int} (h : U64 l) {k : Nat} (hk : k < l.length) : 0 ≤ l[k] ∧ l[k] < 18446744073709551616 := h _ (List.getElem_mem hk)

set_option maxHeartbeats 1000000 in
theorem row_any (v : Value) (l : List Int) (w : World) (hl : U64 l) (hn : l.length ≤ 1000000) (hv : Ints w .u64 v l) :
    Calls Try.prog 15 #[v] w fun e w' => ∃ u, e = .returned u ∧ Own w' w.heap.size 5 .u8 u (rowB l) ∧ Ext w w' := by
  have hv' := hv
  obtain ⟨a, cap, rfl, hcap, hmax, hc⟩ := hv'.open_
  clear hv' hc
  go_enter Try.func15, Try.ntmps15
  go_wp2_with (go_at_call 9; refine (number_any _ _ (by omega) (by omega)).mono ?_; rintro e w0 ⟨u0, rfl, ho0, hx0⟩)
  go_loopw [3, 5, 12] (fun v _ i wr => ∃ k : Nat, k ≤ l.length ∧ i = .int .i64 k ∧ Own wr w.heap.size 5 .u8 v (num 9 l.length ++ (l.take k).flatMap (num 9)) ∧ Below w.heap.size w wr) (fun _ _ i _ => l.length - (intOf i).toNat)
  case atStart => exact ⟨0, Nat.zero_le _, rfl, by simpa using ho0, hx0⟩
  case round =>
    obtain ⟨k, hk, rfl, hown, hB⟩ := hrel
    have hvr := hv.below hB (Nat.le_refl _)
    obtain ⟨_, _, e1, _, _, hc⟩ := hvr.open_
    simp only [Value.slice.injEq] at e1
    obtain ⟨rfl, _, rfl⟩ := e1
    have hlen : (num 9 l.length ++ (l.take k).flatMap (num 9)).length ≤ 10 + 10 * k := by
      have h1 := flat_len (l.take k)
      have h2 := num_len 9 l.length
      have h3 : (l.take k).length ≤ k := List.length_take_le _ _
      rw [List.length_append]; omega
    by_cases hlt : k < l.length
    · obtain ⟨b, o, rfl, hcell⟩ := hc k hlt
      have hck := hcell k hlt
      obtain ⟨g0, g1⟩ := hl.get hlt
      have hnl := num_len 9 l[k]
      have hfs := Lib.hid (flat_snoc l k hlt)
      generalize hacc : num 9 l.length ++ (l.take k).flatMap (num 9) = acc at hown hlen
      have Hacc := Lib.hid hacc
      clear hcell hc hacc
      go_wp2_with (first | (go_at_call 9; refine (number_any _ _ g0 g1).mono ?_; rintro e w2 ⟨u2, rfl, ho2, hx2⟩) | (at_builtin; refine wpList_append_sl _ rfl _ _ 24 rfl elB rfl (own_ext hown hx2) rfl (Sl.of_own ho2) ?_ (ints_one _ _) ?_ ?_ ?_ ?_))
      · simp
      · omega
      · unfold maxLen; omega
      · have := hB.size; have := hx2.size; omega
      intro v1 w1 hown1 hb _ _
      have hfin : Own w1 w.heap.size 5 .u8 v1 (num 9 l.length ++ (l.take (k + 1)).flatMap (num 9)) := by
        rw [hfs.out, ← List.append_assoc, Hacc.out]
        unfold Own
        rw [List.length_append, List.map_append]
        exact hown1
      have Hfin := Lib.hid hfin
      clear hfin hown1 hown
      go_wp2
      go_roundw
      case rel => exact ⟨k + 1, by omega, by go_num, Hfin.out, (Below.ext hB hx2 hB.size).trans hb⟩
      case measure => simp [intOf]; omega
    · go_wp2
      go_ret
      exact ⟨_, rfl, by rw [List.take_of_length_le (by omega)] at hown; exact hown, hB⟩
set_option maxHeartbeats 1000000 in
theorem refRow_any (v : Value) (l : List Int) (w : World) (hl : U64 l) (hn : l.length ≤ 1000000) (hv : Ints w .u64 v l) :
    Calls Try.prog 16 #[v] w fun e w' => ∃ u, e = .returned u ∧ Own w' w.heap.size 5 .u8 u (rowB l) ∧ Ext w w' := by
  have hv' := hv
  obtain ⟨a, cap, rfl, hcap, hmax, hc⟩ := hv'.open_
  clear hv' hc
  go_enter Try.func16, Try.ntmps16
  go_wp2_with (go_at_call 11; refine (refNumber_any _ _ (by omega) (by omega)).mono ?_; rintro e w0 ⟨u0, rfl, ho0, hx0⟩)
  go_loopw [3, 5, 12] (fun v _ i wr => ∃ k : Nat, k ≤ l.length ∧ i = .int .i64 k ∧ Own wr w.heap.size 5 .u8 v (num 9 l.length ++ (l.take k).flatMap (num 9)) ∧ Below w.heap.size w wr) (fun _ _ i _ => l.length - (intOf i).toNat)
  case atStart => exact ⟨0, Nat.zero_le _, rfl, by simpa using ho0, hx0⟩
  case round =>
    obtain ⟨k, hk, rfl, hown, hB⟩ := hrel
    have hvr := hv.below hB (Nat.le_refl _)
    obtain ⟨_, _, e1, _, _, hc⟩ := hvr.open_
    simp only [Value.slice.injEq] at e1
    obtain ⟨rfl, _, rfl⟩ := e1
    have hlen : (num 9 l.length ++ (l.take k).flatMap (num 9)).length ≤ 10 + 10 * k := by
      have h1 := flat_len (l.take k)
      have h2 := num_len 9 l.length
      have h3 : (l.take k).length ≤ k := List.length_take_le _ _
      rw [List.length_append]; omega
    by_cases hlt : k < l.length
    · obtain ⟨b, o, rfl, hcell⟩ := hc k hlt
      have hck := hcell k hlt
      obtain ⟨g0, g1⟩ := hl.get hlt
      have hnl := num_len 9 l[k]
      have hfs := Lib.hid (flat_snoc l k hlt)
      generalize hacc : num 9 l.length ++ (l.take k).flatMap (num 9) = acc at hown hlen
      have Hacc := Lib.hid hacc
      clear hcell hc hacc
      go_wp2_with (first | (go_at_call 11; refine (refNumber_any _ _ g0 g1).mono ?_; rintro e w2 ⟨u2, rfl, ho2, hx2⟩) | (at_builtin; refine wpList_append_sl _ rfl _ _ 24 rfl elB rfl (own_ext hown hx2) rfl (Sl.of_own ho2) ?_ (ints_one _ _) ?_ ?_ ?_ ?_))
      · simp
      · omega
      · unfold maxLen; omega
      · have := hB.size; have := hx2.size; omega
      intro v1 w1 hown1 hb _ _
      have hfin : Own w1 w.heap.size 5 .u8 v1 (num 9 l.length ++ (l.take (k + 1)).flatMap (num 9)) := by
        rw [hfs.out, ← List.append_assoc, Hacc.out]
        unfold Own
        rw [List.length_append, List.map_append]
        exact hown1
      have Hfin := Lib.hid hfin
      clear hfin hown1 hown
      go_wp2
      go_roundw
      case rel => exact ⟨k + 1, by omega, by go_num, Hfin.out, (Below.ext hB hx2 hB.size).trans hb⟩
      case measure => simp [intOf]; omega
    · go_wp2
      go_ret
      exact ⟨_, rfl, by rw [List.take_of_length_le (by omega)] at hown; exact hown, hB⟩

theorem wpList_append_str {P : Program} (w : World) {ops : Array Oper} {rest : List Oper} {o : Oper} {a : Act} {Q : Exit → Act → World → Prop} (hgd : o.guard = none) (sl x : Operand) (t u : TypeId)
    (ho : o.op = .call { callee := .builtin .append, args := #[sl, x], argTypes := #[t, u] })
    {base : Nat} {e : TypeId} (T : ElT P t e (.int .u8 0) 1 1) (hu : P.underlying u = some .string) {v : Value} {n : Nat} {xs : List Value} (hs : a.eval sl = v) (hown : w.ownsRow base e 1 v n xs) {s : ByteArray} (hx : a.eval x = .string s)
    (h63 : n + s.size ≤ maxLen) (hbytes : n + s.size ≤ 140737488355328) (hbase : base ≤ w.heap.size)
    (h : ∀ v' w', w'.ownsRow base e 1 v' (n + s.size) (xs ++ Lib.strCells s) → Below base w w' → w.grownBy w' v.ownBlock → wpList P ops Q rest (a.put o.dst v') w') : wpList P ops Q (o :: rest) a w := by
  obtain ⟨i, hi, hz, hsz, hby⟩ := T.info
  exact Lib.wpList_append_own_string w hgd sl x t u ho base e i T.under hu hi hz hsz hby v n xs hs hown s hx h63 hbytes hbase
    fun v' w' h2 h3 _ => h v' w' h2 ((Below.refl _ _).grown h3 hbase (own_ge hown)) h3

theorem text_own {w : World} {base : Nat} {e : TypeId} {v : Value} {l : List Int} {s : ByteArray} (h : w.ownsRow base e 1 v (l.length + s.size) (l.map (Value.int .u8) ++ Lib.strCells s)) : Own w base e .u8 v (l ++ sb s) := by
  unfold Own
  rw [List.length_append, List.map_append, sb_len, ← sb_cells]
  exact h

set_option maxHeartbeats 1000000 in
theorem text_ok (s : ByteArray) (w : World) (hs : s.size ≤ 4000) :
    Calls Try.prog 12 #[.string s] w fun e w' => ∃ u, e = .returned (.tuple #[u, .int .i64 0]) ∧ Own w' w.heap.size 5 .u8 u (textB (sb s)) ∧ Ext w w' := by
  have hnl := num_len 9 (s.size : Int)
  have hu : Try.prog.underlying 9 = some .string := Try.underlying9
  go_enter Try.func12, Try.ntmps12
  go_wp2_with (first | (go_at_call 9; refine (number_any _ _ (by omega) (by omega)).mono ?_; rintro e w0 ⟨u0, rfl, ho0, hx0⟩) | (at_builtin; refine wpList_append_str _ rfl _ _ 24 9 rfl elB hu rfl ho0 rfl ?_ ?_ ?_ ?_))
  · unfold maxLen; omega
  · omega
  · exact hx0.size
  intro v1 w1 hown1 hb _
  have hfin := text_own hown1
  have Hfin := Lib.hid hfin
  clear hown1 hfin
  go_wp2
  go_ret2
  exact ⟨_, rfl, by have := Hfin.out; unfold textB; rw [sb_len]; exact this, Below.trans hx0 hb⟩

theorem text_long (s : ByteArray) (w : World) (hs : 4000 < s.size) (hm : s.size ≤ 9223372036854775807) :
    Calls Try.prog 12 #[.string s] w fun e w' => e = .returned (.tuple #[.slice none 0 0, .int .i64 3]) ∧ w = w' := by
  go_enter Try.func12, Try.ntmps12
  go_wp2
  go_ret2
  exact ⟨rfl, rfl⟩

set_option maxHeartbeats 1000000 in
theorem refText_any (s : ByteArray) (w : World) (hs : s.size ≤ 1000000) :
    Calls Try.prog 13 #[.string s] w fun e w' => ∃ u, e = .returned u ∧ Own w' w.heap.size 5 .u8 u (textB (sb s)) ∧ Ext w w' := by
  have hnl := num_len 9 (s.size : Int)
  have hu : Try.prog.underlying 9 = some .string := Try.underlying9
  go_enter Try.func13, Try.ntmps13
  go_wp2_with (first | (go_at_call 11; refine (refNumber_any _ _ (by omega) (by omega)).mono ?_; rintro e w0 ⟨u0, rfl, ho0, hx0⟩) | (at_builtin; refine wpList_append_str _ rfl _ _ 24 9 rfl elB hu rfl ho0 rfl ?_ ?_ ?_ ?_))
  · unfold maxLen; omega
  · omega
  · exact hx0.size
  intro v1 w1 hown1 hb _
  have hfin := text_own hown1
  have Hfin := Lib.hid hfin
  clear hown1 hfin
  go_wp2
  go_ret
  exact ⟨_, rfl, by have := Hfin.out; unfold textB; rw [sb_len]; exact this, Below.trans hx0 hb⟩
end Go.Proofs.Ytdjkfjaffhboeaa
