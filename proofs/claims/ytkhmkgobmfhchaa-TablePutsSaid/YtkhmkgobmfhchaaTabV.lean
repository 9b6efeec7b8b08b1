/- Grow, Concat of rows of numbers. -/
import Derived.Test.YtkhmkgobmfhchaaTabM
namespace Go.Proofs.Ytkhmkgobmfhchaa
set_option linter.unusedVariables false
set_option linter.unusedSimpArgs false
open Go.RowKit

/-- A result that is owned, a slice of integers of base block B on. -/
def Own (w : World) (B : Nat) (e : TypeId) (k : IntKind) (v : Value) (l : List Int) : Prop := w.ownsRow B e 1 v l.length (l.map (Value.int k))
theorem run_append_zeros {P : Program} (w : World) {t ti ty e : TypeId} {z : Value} {size bytes : Nat} (T : ElT P t e z size bytes) (hti : P.underlying ti = some (.int .i64)) (n : Nat) (h0 : 0 < n) (hb : n * bytes ≤ 140737488355328) (h63 : n ≤ 1099511627776) :
    (Builtin.append_ #[t, ti] ty #[.slice none 0 0, .int .i64 n]).run P w =
      .ok (.slice (some ⟨w.heap.size, 0, none⟩) n (grownCap w n 0 e)) (w.drew.alloc (.cells (Builtin.zeroCells z.cells n ++ Builtin.zeroCells z.cells (grownCap w n 0 e - n)) e)) := by
  obtain ⟨i, hi, hz, hsz, hby⟩ := T.info
  have hn : n ≠ 0 := by omega
  have h63' : ¬ (9223372036854775807 < (n : Int)) := by omega
  have hw : IntKind.i64.wrap (n : Int) = n := by rw [IntKind.wrap_i64]; omega
  have hneg : ¬ ((n : Int) < 0) := by omega
  have hp := T.pos
  have h48 : ¬ (281474976710656 < (n : Int) * (bytes : Int)) := by
    have : ((n * bytes : Nat) : Int) ≤ 140737488355328 := by omega
    rw [Int.natCast_mul] at this; omega
  have h48' : ¬ (281474976710656 < Builtin.nextslicecap n 0 * bytes) := by rw [nextslicecap_zero h0]; omega
  have hns : n * size ≠ 0 := by have := Nat.mul_pos h0 hp; omega
  subst hsz hby
  simp [Builtin.append_, run_underlying T.under, run_underlying hti, sizeOf, typeInfo, zeroValue, hi, hz, asInt, asIntOf, hw, hneg, h48, hn, h63', h48', hns, Question.forced, run_firstCells_none, newRow, grownCap]

theorem wpList_append_zeros {P : Program} (w : World) {ops : Array Oper} {rest : List Oper} {o : Oper} {a : Act} {Q : Exit → Act → World → Prop} (hgd : o.guard = none) (sl x : Operand) (t ti : TypeId)
    (ho : o.op = .call { callee := .builtin .append, args := #[sl, x], argTypes := #[t, ti] })
    {e : TypeId} {z : Value} {size bytes : Nat} (T : ElT P t e z size bytes) (hti : P.underlying ti = some (.int .i64)) (hs : a.eval sl = .slice none 0 0) (n : Nat) (hx : a.eval x = .int .i64 n)
    (h0 : 0 < n) (hb : n * bytes ≤ 140737488355328) (h63 : n ≤ 1099511627776)
    (h : ∀ (cap : Nat) (cur : Array Value), n ≤ cap → cap ≤ 9223372036854775807 → Hid (cur.size = cap * size) → wpList P ops Q rest (a.put o.dst (.slice (some ⟨w.heap.size, 0, none⟩) n cap)) (w.drew.alloc (.cells cur e))) : wpList P ops Q (o :: rest) a w := by
  refine wpList_plain hgd fun K hK => ?_
  have hr := run_append_zeros (P := P) w (ty := o.type) T hti n h0 hb h63
  have hge := grownCap_ge w n 0 e
  have hcm := grownCap_le_maxLen w n 0 e (by unfold maxLen; omega)
  unfold Oper.wp execOp
  simp only [ho, resolve, invoke, builtin, Sem.run_bind, Sem.run_pure, Result.andThen_ok, List.map_toArray, List.map_cons, List.map_nil, hs, hx, hr]
  refine hK _ _ (h _ _ hge (by unfold maxLen at hcm; exact hcm) ?_)
  show _ = _
  rw [Array.size_append, size_zeroCells, size_zeroCells, T.cells, ← Nat.add_mul]
  congr 1; omega

set_option maxHeartbeats 1000000 in
theorem grow_nil (n : Nat) (w : World) (hn : n ≤ 1000000000) :
    Calls Try.prog 33 #[.slice none 0 0, .int .i64 n] w fun e w' => ∃ u, e = .returned u ∧ w'.ownsRow w.heap.size 3 1 u 0 [] ∧ Ext w w' := by
  by_cases h0 : 0 < n
  · have hd : decide ((0 : Int) < (n : Int)) = true := by simp; omega
    go_enter Try.func33, Try.ntmps33
    go_wp2_with (at_builtin; refine wpList_append_zeros _ rfl _ _ 23 3 rfl elI Try.underlying3 rfl n rfl h0 ?_ ?_ ?_)
    · omega
    · omega
    intro cap cur hnc hcm Hcur
    go_wp2_with fail
    go_ret
    exact ⟨_, rfl, ⟨rfl, .inr ⟨w.heap.size, cap, cur, rfl, Nat.le_refl _, heap_alloc_new w.drew _, Nat.zero_le _, by unfold maxLen; omega, by simpa using Hcur.out, by simp⟩⟩, (Ext.drewN w 1).trans (Ext.alloc _ _)⟩
  · have h0 : n = 0 := by omega
    subst h0
    go_enter Try.func33, Try.ntmps33
    go_wp2_with fail
    go_ret
    exact ⟨_, rfl, World.ownsRow_nil _ _ _ _, Ext.refl _⟩

/-- Rows of bytes, one behind the other. -/
def Blocks (w : World) (xs : List (Value × List Int)) : Prop := ∀ x ∈ xs, Ints w .i64 x.1 x.2
theorem Blocks.below {B : Nat} {w w' : World} {xs : List (Value × List Int)} (h : Blocks w xs) (hb : Below B w w') (hB : w.heap.size ≤ B) : Blocks w' xs := fun x hx => (h x hx).below hb hB
def total (xs : List (Value × List Int)) : Nat := (xs.flatMap Prod.snd).length
theorem total_take (xs : List (Value × List Int)) (k : Nat) : total (xs.take k) ≤ total xs := by
  unfold total
  conv => rhs; rw [← List.take_append_drop k xs, List.flatMap_append, List.length_append]
  omega
theorem total_snoc (xs : List (Value × List Int)) (k : Nat) (h : k < xs.length) : total (xs.take (k + 1)) = total (xs.take k) + xs[k].2.length := by
  unfold total
  rw [take_snoc xs k h, List.flatMap_append, List.flatMap_cons, List.flatMap_nil, List.append_nil, List.length_append]
theorem blocks_snoc (xs : List (Value × List Int)) (k : Nat) (h : k < xs.length) : (xs.take (k + 1)).flatMap Prod.snd = (xs.take k).flatMap Prod.snd ++ xs[k].2 := by
  rw [take_snoc xs k h, List.flatMap_append, List.flatMap_cons, List.flatMap_nil, List.append_nil]

set_option maxHeartbeats 2000000 in
theorem concat_any (v : Value) (xs : List (Value × List Int)) (w : World) (hv : Sl w v xs.length (xs.map Prod.fst)) (hx : Blocks w xs) (ht : total xs ≤ 1000000000) :
    Calls Try.prog 26 #[v] w fun e w' => ∃ u, e = .returned u ∧ Own w' w.heap.size 3 .i64 u (xs.flatMap Prod.snd) ∧ Ext w w' := by
  have hv' := hv
  obtain ⟨a, cap, rfl, hcap, hmax, hc⟩ := hv'.open_
  simp only [List.length_map] at hc
  go_enter Try.func26, Try.ntmps26
  go_wp2_with fail
  go_loop [3, 5, 11] (fun n _ i => ∃ k : Nat, k ≤ xs.length ∧ i = .int .i64 k ∧ n = .int .i64 (total (xs.take k))) (fun _ _ i => xs.length - (intOf i).toNat)
  case atStart => exact ⟨0, Nat.zero_le _, rfl, rfl⟩
  case round =>
    obtain ⟨k, hk, rfl, rfl⟩ := hrel
    have htk := total_take xs k
    by_cases hlt : k < xs.length
    · obtain ⟨b, o, rfl, hcell⟩ := hc k hlt
      have hck := hcell k xs[k].1 (by simp [hlt])
      obtain ⟨a', cap', e1, _, _, _⟩ := (hx xs[k] (List.getElem_mem hlt)).open_
      rw [e1] at hck
      have hts := total_snoc xs k hlt
      have htk1 := total_take xs (k + 1)
      have hle : xs[k].2.length ≤ 1000000000 := by omega
      have Hts := Lib.hid hts
      have hsum : total (xs.take k) + xs[k].2.length ≤ 1000000000 := by omega
      clear hts hcell hc htk1 e1
      have hd : decide (((total (xs.take k) : Nat) : Int) + ((xs[k].2.length : Nat) : Int) < 0) = false := by simp; omega
      go_wp2_with fail
      go_round
      case rel => exact ⟨k + 1, by omega, by go_num, int_congr (by rw [Hts.out]; omega)⟩
      case measure => simp [intOf]; omega
    · have hk' : k = xs.length := by omega
      have Hk := Lib.hid hk'
      clear hk'
      go_wp2_with fail
      refine (grow_nil _ _ (by omega)).mono ?_
      rintro e w1 ⟨u1, rfl, ho1, hx1⟩
      go_wp2_with fail
      clear htk hk
      go_loopw [6, 8, 27] (fun v _ i wr => ∃ k : Nat, k ≤ xs.length ∧ i = .int .i64 k ∧ Own wr w.heap.size 3 .i64 v ((xs.take k).flatMap Prod.snd) ∧ Below w.heap.size w wr) (fun _ _ i _ => xs.length - (intOf i).toNat)
      case atStart => exact ⟨0, Nat.zero_le _, rfl, ho1, hx1⟩
      case round =>
        obtain ⟨k, hk, rfl, hown, hB⟩ := hrel
        have htk : ((xs.take k).flatMap Prod.snd).length ≤ total xs := total_take xs k
        by_cases hlt : k < xs.length
        · have hvr := hv.below hB (Nat.le_refl _)
          obtain ⟨_, _, e1, _, _, hc2⟩ := hvr.open_
          simp only [Value.slice.injEq] at e1
          obtain ⟨rfl, _, rfl⟩ := e1
          obtain ⟨b, o, rfl, hcell⟩ := hc2 k (by simpa using hlt)
          have hck := hcell k xs[k].1 (by simp [hlt])
          have hi := (hx xs[k] (List.getElem_mem hlt)).below hB (Nat.le_refl _)
          have hi2 := hi
          obtain ⟨a', cap', e1, _, _, _⟩ := hi2.open_
          rw [e1] at hck hi
          have Hbs := Lib.hid (blocks_snoc xs k hlt)
          have hts : ((xs.take (k + 1)).flatMap Prod.snd).length ≤ total xs := total_take xs (k + 1)
          rw [Hbs.out, List.length_append] at hts
          generalize hacc : (xs.take k).flatMap Prod.snd = acc at hown htk hts
          have Hacc := Lib.hid hacc
          have Hi := Lib.hid hi
          clear hcell hc2 hacc e1 hi hi2
          go_wp2_with (at_builtin; refine wpList_append_sl _ rfl _ _ 23 rfl elI rfl hown rfl Hi.out ?_ (ints_one _ _) ?_ ?_ ?_ ?_)
          · simp
          · omega
          · unfold maxLen; omega
          · exact hB.size
          intro v1 w1 hown1 hb _ _
          have hfin : Own w1 w.heap.size 3 .i64 v1 ((xs.take (k + 1)).flatMap Prod.snd) := by
            rw [Hbs.out, Hacc.out]
            unfold Own
            rw [List.length_append, List.map_append]
            exact hown1
          have Hfin := Lib.hid hfin
          clear hfin hown1 hown
          go_wp2_with fail
          go_roundw
          case rel => exact ⟨k + 1, by omega, by go_num, Hfin.out, hB.trans hb⟩
          case measure => simp [intOf]; omega
        · go_wp2_with fail
          go_ret
          exact ⟨_, rfl, by rw [List.take_of_length_le (by omega)] at hown; exact hown, hB⟩

theorem Blocks.nil {w : World} : Blocks w [] := fun x hx => by simp at hx
theorem Blocks.cons {w : World} {v : Value} {l : List Int} {xs : List (Value × List Int)} (h : Ints w .i64 v l) (hs : Blocks w xs) : Blocks w ((v, l) :: xs) := fun x hx => (List.mem_cons.1 hx).elim (fun e => e ▸ h) (hs x)
theorem total_nil : total [] = 0 := rfl
theorem total_cons (v : Value) (l : List Int) (xs : List (Value × List Int)) : total ((v, l) :: xs) = l.length + total xs := by simp [total]
end Go.Proofs.Ytkhmkgobmfhchaa
