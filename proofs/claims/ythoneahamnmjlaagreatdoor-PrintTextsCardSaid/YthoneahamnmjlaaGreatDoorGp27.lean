/- What things come to, one by one: the three instances of made. -/
import Derived.Test.YthoneahamnmjlaaGreatDoorGp26
import Derived.Test.YthoneahamnmjlaaGreatDoorGp11
namespace Go.Proofs.YthoneahamnmjlaaGreatDoor
set_option maxRecDepth 100000
set_option maxHeartbeats 2000000
set_option linter.unusedSimpArgs false
open Go.RowKit Go.Shelf Go.Sort
attribute [local go_sem] Oper.semAt_some wide_fn wide_depth
set_option linter.unusedVariables false

set_option maxHeartbeats 1000000 in
theorem madeAS_any (v : Value) (l : List Atm) (g : Atm → ByteArray) (F : Nat) (bs : Array Value) (w : World) (hv : Ats w v l) (hl : l.length ≤ 100000)
    (eF : ∀ args w, (callFunc F args).run Tryz.prog w = .ok (.enter F args) w)
    (hf : ∀ x ∈ l, ∀ w', Ext w w' → Calls Tryz.prog F (#[(.agg #[.int .i64 x.kind, .bool x.fk, .string x.fn, .string x.name, .string x.value, .bool x.tk, .string x.tn])] ++ bs) w' fun e w'' => e = .returned (.string (g x)) ∧ Ext w' w'') :
    Calls Tryz.prog 67 #[v, .func (.func F) #[] bs] w fun e w' => ∃ u, e = .returned u ∧ w'.ownsRow w.heap.size 9 1 u l.length ((l.map g).map Value.string) ∧ Ext w w' := by
  obtain ⟨a, c, rfl, hc1, hc2⟩ := hv.shape
  have HV := Lib.hid hv
  have HF := Lib.hid hf
  have HE := Lib.hid eF
  clear hv hf eF
  go_enter Tryz.func67, Tryz.ntmps67
  go_wp2_with fail
  go_loopg [5, 10] l.length (fun g' v i wr => ∃ k : Nat, k ≤ l.length ∧ g' = l.length - k ∧ i = .int .i64 k ∧ wr.ownsRow w.heap.size 9 1 v k (((l.take k).map g).map Value.string) ∧ Ext w wr)
  case atStart => exact ⟨0, Nat.zero_le _, rfl, rfl, World.ownsRow_nil _ _ _ _, Ext.refl _⟩
  case round =>
    obtain ⟨k, hk, hg, rfl, ho, hx⟩ := hrel
    have Hg := Lib.hid hg
    have HO := Lib.hid ho
    clear hg ho
    by_cases hlt : k < l.length
    · obtain ⟨b, o, rfl, c0, c1, c2, c3, c4, c5, c6⟩ := (HV.out.ext hx).at_ hlt
      have hbl := cell_lt c0
      have Hll := Lib.hid (show ((l.take (k + 1)).map g).map Value.string = ((l.take k).map g).map Value.string ++ [Value.string (g l[k])] from by rw [List.take_succ_eq_append_getElem hlt, List.map_append, List.map_append]; simp only [List.map_cons, List.map_nil, List.flatMap_cons, List.flatMap_nil, List.append_nil])
      have hc := HF.out _ (List.getElem_mem hlt)
      obtain ⟨t, hte⟩ : ∃ t, t = l[k] := ⟨_, rfl⟩
      rw [← hte] at c0 c1 c2 c3 c4 c5 c6 Hll hc
      clear hte
      have HC := Lib.hid hc
      clear hc
      have hmo : Tryz.prog.follows .mixedOrders = true := by kernel_rfl
      have heF := HE.out
      have ho0 := HO.out
      have hl0 := Hll.out
      obtain ⟨X, hX⟩ : ∃ X, ((l.take k).map g).map Value.string = X := ⟨_, rfl⟩
      rw [hX] at ho0 hl0
      clear hX Hll HO
      have Hll := Lib.hid hl0
      have HO := Lib.hid ho0
      clear hl0 ho0
      have HX1 := Lib.hid (show Ext w (wr.alloc (.cells #[.int .i64 t.kind, .bool t.fk, .string t.fn, .string t.name, .string t.value, .bool t.tk, .string t.tn] 40)) from hx.trans (Ext.alloc _ _))
      have HB1 := Lib.hid (RowAt.new wr 40 [.int .i64 t.kind, .bool t.fk, .string t.fn, .string t.name, .string t.value, .bool t.tk, .string t.tn])
      have HO1 := Lib.hid (own_ext HO.out (Ext.alloc wr (.cells #[.int .i64 t.kind, .bool t.fk, .string t.fn, .string t.name, .string t.value, .bool t.tk, .string t.tn] 40)))
      go_upto_region 5 with fail
      clear c0 c1 c2 c3 c4 c5 c6 HO
      generalize wr.alloc (.cells #[.int .i64 t.kind, .bool t.fk, .string t.fn, .string t.name, .string t.value, .bool t.tk, .string t.tn] 40) = w1 at *
      obtain ⟨y, hy⟩ : ∃ y, wr.heap.size = y := ⟨_, rfl⟩
      rw [hy] at HB1
      try simp only [hy]
      clear hy
      have c0 := HB1.out.cell (i := 0) rfl
      have c1 := HB1.out.cell (i := 1) rfl
      have c2 := HB1.out.cell (i := 2) rfl
      have c3 := HB1.out.cell (i := 3) rfl
      have c4 := HB1.out.cell (i := 4) rfl
      have c5 := HB1.out.cell (i := 5) rfl
      have c6 := HB1.out.cell (i := 6) rfl
      go_wp2_with fail
      refine (HC.out _ HX1.out).mono ?_
      rintro e w2 ⟨rfl, hx2⟩
      have ho2 := own_ext HO1.out hx2
      have hBx : Ext w w2 := HX1.out.trans hx2
      have hB2 := hBx.size
      go_wp2_with (at_builtin; refine wpList_append_sl _ rfl _ _ 23 rfl elStr rfl (own_ext ho2 (Ext.alloc _ _)) rfl (Sl.new _ _ _ 1 1 (Nat.le_refl _) ?_) rfl ?_ ?_ ?_ ?_ ?_)
      · unfold maxLen; omega
      · first | rfl | exact ⟨rfl, rfl, rfl, rfl, rfl, rfl, rfl⟩
      · omega
      · unfold maxLen; omega
      · simp; omega
      intro v4 w4 hown4 hB4 _ _
      have HO4 := Lib.hid hown4
      have HX4 : Hid (Ext w w4) := Lib.hid ((below_step hBx (Ext.alloc _ _)).trans hB4)
      clear hown4 hB4 ho2
      go_wp2_with fail
      go_roundg (l.length - (k + 1))
      case measure => have := Hg.out; omega
      case rel => exact ⟨k + 1, by omega, rfl, by go_num, by rw [Hll.out]; exact HO4.out, HX4.out⟩
    · have he : k = l.length := by omega
      have ho0 := HO.out
      subst he
      rw [List.take_length] at ho0
      clear HO
      have HO := Lib.hid ho0
      clear ho0
      go_wp2_with fail
      go_ret
      exact ⟨_, rfl, HO.out, hx⟩
set_option maxHeartbeats 1000000 in
theorem madeSS_any (v : Value) (l : List ByteArray) (g : ByteArray → ByteArray) (F : Nat) (bs : Array Value) (w : World) (hv : Strs w v l) (hl : l.length ≤ 100000)
    (eF : ∀ args w, (callFunc F args).run Tryz.prog w = .ok (.enter F args) w)
    (hf : ∀ x ∈ l, ∀ w', Ext w w' → Calls Tryz.prog F (#[(.string x)] ++ bs) w' fun e w'' => e = .returned (.string (g x)) ∧ Ext w' w'') :
    Calls Tryz.prog 62 #[v, .func (.func F) #[] bs] w fun e w' => ∃ u, e = .returned u ∧ w'.ownsRow w.heap.size 9 1 u l.length ((l.map g).map Value.string) ∧ Ext w w' := by
  obtain ⟨a, c, rfl, hc1, hc2⟩ := Sl.shape hv
  have HV := Lib.hid hv
  have HF := Lib.hid hf
  have HE := Lib.hid eF
  clear hv hf eF
  go_enter Tryz.func62, Tryz.ntmps62
  go_wp2_with fail
  go_loopg [5, 10] l.length (fun g' v i wr => ∃ k : Nat, k ≤ l.length ∧ g' = l.length - k ∧ i = .int .i64 k ∧ wr.ownsRow w.heap.size 9 1 v k (((l.take k).map g).map Value.string) ∧ Ext w wr)
  case atStart => exact ⟨0, Nat.zero_le _, rfl, rfl, World.ownsRow_nil _ _ _ _, Ext.refl _⟩
  case round =>
    obtain ⟨k, hk, hg, rfl, ho, hx⟩ := hrel
    have Hg := Lib.hid hg
    have HO := Lib.hid ho
    clear hg ho
    by_cases hlt : k < l.length
    · obtain ⟨b, o, rfl, c0⟩ := Strs.at_ (Strs.ext HV.out hx) hlt
      have hbl := cell_lt c0
      have Hll := Lib.hid (show ((l.take (k + 1)).map g).map Value.string = ((l.take k).map g).map Value.string ++ [Value.string (g l[k])] from by rw [List.take_succ_eq_append_getElem hlt, List.map_append, List.map_append]; simp only [List.map_cons, List.map_nil, List.flatMap_cons, List.flatMap_nil, List.append_nil])
      have hc := HF.out _ (List.getElem_mem hlt)
      obtain ⟨t, hte⟩ : ∃ t, t = l[k] := ⟨_, rfl⟩
      rw [← hte] at c0 Hll hc
      clear hte
      have HC := Lib.hid hc
      clear hc
      have hmo : Tryz.prog.follows .mixedOrders = true := by kernel_rfl
      have heF := HE.out
      have ho0 := HO.out
      have hl0 := Hll.out
      obtain ⟨X, hX⟩ : ∃ X, ((l.take k).map g).map Value.string = X := ⟨_, rfl⟩
      rw [hX] at ho0 hl0
      clear hX Hll HO
      have Hll := Lib.hid hl0
      have HO := Lib.hid ho0
      clear hl0 ho0
      have HX1 := Lib.hid hx
      have HO1 := HO
      go_wp2_with fail
      refine (HC.out _ HX1.out).mono ?_
      rintro e w2 ⟨rfl, hx2⟩
      have ho2 := own_ext HO1.out hx2
      have hBx : Ext w w2 := HX1.out.trans hx2
      have hB2 := hBx.size
      go_wp2_with (at_builtin; refine wpList_append_sl _ rfl _ _ 23 rfl elStr rfl (own_ext ho2 (Ext.alloc _ _)) rfl (Sl.new _ _ _ 1 1 (Nat.le_refl _) ?_) rfl ?_ ?_ ?_ ?_ ?_)
      · unfold maxLen; omega
      · first | rfl | exact ⟨rfl, rfl, rfl, rfl, rfl, rfl, rfl⟩
      · omega
      · unfold maxLen; omega
      · simp; omega
      intro v4 w4 hown4 hB4 _ _
      have HO4 := Lib.hid hown4
      have HX4 : Hid (Ext w w4) := Lib.hid ((below_step hBx (Ext.alloc _ _)).trans hB4)
      clear hown4 hB4 ho2
      go_wp2_with fail
      go_roundg (l.length - (k + 1))
      case measure => have := Hg.out; omega
      case rel => exact ⟨k + 1, by omega, rfl, by go_num, by rw [Hll.out]; exact HO4.out, HX4.out⟩
    · have he : k = l.length := by omega
      have ho0 := HO.out
      subst he
      rw [List.take_length] at ho0
      clear HO
      have HO := Lib.hid ho0
      clear ho0
      go_wp2_with fail
      go_ret
      exact ⟨_, rfl, HO.out, hx⟩
set_option maxHeartbeats 1000000 in
theorem madeAA_any (v : Value) (l : List Atm) (g : Atm → Atm) (F : Nat) (bs : Array Value) (w : World) (hv : Ats w v l) (hl : l.length ≤ 100000)
    (eF : ∀ args w, (callFunc F args).run Tryz.prog w = .ok (.enter F args) w)
    (hf : ∀ x ∈ l, ∀ w', Ext w w' → Calls Tryz.prog F (#[(.agg #[.int .i64 x.kind, .bool x.fk, .string x.fn, .string x.name, .string x.value, .bool x.tk, .string x.tn])] ++ bs) w' fun e w'' => e = .returned (.agg #[.int .i64 (g x).kind, .bool (g x).fk, .string (g x).fn, .string (g x).name, .string (g x).value, .bool (g x).tk, .string (g x).tn]) ∧ Ext w' w'') :
    Calls Tryz.prog 60 #[v, .func (.func F) #[] bs] w fun e w' => ∃ u, e = .returned u ∧ w'.ownsRow w.heap.size 40 7 u l.length ((l.map g).flatMap atCells) ∧ Ext w w' := by
  obtain ⟨a, c, rfl, hc1, hc2⟩ := hv.shape
  have HV := Lib.hid hv
  have HF := Lib.hid hf
  have HE := Lib.hid eF
  clear hv hf eF
  go_enter Tryz.func60, Tryz.ntmps60
  go_wp2_with fail
  go_loopg [5, 10] l.length (fun g' v i wr => ∃ k : Nat, k ≤ l.length ∧ g' = l.length - k ∧ i = .int .i64 k ∧ wr.ownsRow w.heap.size 40 7 v k (((l.take k).map g).flatMap atCells) ∧ Ext w wr)
  case atStart => exact ⟨0, Nat.zero_le _, rfl, rfl, World.ownsRow_nil _ _ _ _, Ext.refl _⟩
  case round =>
    obtain ⟨k, hk, hg, rfl, ho, hx⟩ := hrel
    have Hg := Lib.hid hg
    have HO := Lib.hid ho
    clear hg ho
    by_cases hlt : k < l.length
    · obtain ⟨b, o, rfl, c0, c1, c2, c3, c4, c5, c6⟩ := (HV.out.ext hx).at_ hlt
      have hbl := cell_lt c0
      have Hll := Lib.hid (show ((l.take (k + 1)).map g).flatMap atCells = ((l.take k).map g).flatMap atCells ++ atCells (g l[k]) from by rw [List.take_succ_eq_append_getElem hlt, List.map_append, List.flatMap_append]; simp only [List.map_cons, List.map_nil, List.flatMap_cons, List.flatMap_nil, List.append_nil])
      have hc := HF.out _ (List.getElem_mem hlt)
      obtain ⟨t, hte⟩ : ∃ t, t = l[k] := ⟨_, rfl⟩
      rw [← hte] at c0 c1 c2 c3 c4 c5 c6 Hll hc
      clear hte
      have HC := Lib.hid hc
      clear hc
      have hmo : Tryz.prog.follows .mixedOrders = true := by kernel_rfl
      have heF := HE.out
      have ho0 := HO.out
      have hl0 := Hll.out
      obtain ⟨X, hX⟩ : ∃ X, ((l.take k).map g).flatMap atCells = X := ⟨_, rfl⟩
      rw [hX] at ho0 hl0
      clear hX Hll HO
      have Hll := Lib.hid hl0
      have HO := Lib.hid ho0
      clear hl0 ho0
      have HX1 := Lib.hid (show Ext w (wr.alloc (.cells #[.int .i64 t.kind, .bool t.fk, .string t.fn, .string t.name, .string t.value, .bool t.tk, .string t.tn] 40)) from hx.trans (Ext.alloc _ _))
      have HB1 := Lib.hid (RowAt.new wr 40 [.int .i64 t.kind, .bool t.fk, .string t.fn, .string t.name, .string t.value, .bool t.tk, .string t.tn])
      have HO1 := Lib.hid (own_ext HO.out (Ext.alloc wr (.cells #[.int .i64 t.kind, .bool t.fk, .string t.fn, .string t.name, .string t.value, .bool t.tk, .string t.tn] 40)))
      go_upto_region 5 with fail
      clear c0 c1 c2 c3 c4 c5 c6 HO
      generalize wr.alloc (.cells #[.int .i64 t.kind, .bool t.fk, .string t.fn, .string t.name, .string t.value, .bool t.tk, .string t.tn] 40) = w1 at *
      obtain ⟨y, hy⟩ : ∃ y, wr.heap.size = y := ⟨_, rfl⟩
      rw [hy] at HB1
      try simp only [hy]
      clear hy
      have c0 := HB1.out.cell (i := 0) rfl
      have c1 := HB1.out.cell (i := 1) rfl
      have c2 := HB1.out.cell (i := 2) rfl
      have c3 := HB1.out.cell (i := 3) rfl
      have c4 := HB1.out.cell (i := 4) rfl
      have c5 := HB1.out.cell (i := 5) rfl
      have c6 := HB1.out.cell (i := 6) rfl
      go_wp2_with fail
      refine (HC.out _ HX1.out).mono ?_
      rintro e w2 ⟨rfl, hx2⟩
      have ho2 := own_ext HO1.out hx2
      have hBx : Ext w w2 := HX1.out.trans hx2
      have hB2 := hBx.size
      go_wp2_with (at_builtin; refine wpList_append_sl _ rfl _ _ 22 rfl elAt rfl (own_ext ho2 (Ext.alloc _ _)) rfl (Sl.new _ _ _ 1 1 (Nat.le_refl _) ?_) rfl ?_ ?_ ?_ ?_ ?_)
      · unfold maxLen; omega
      · first | rfl | exact ⟨rfl, rfl, rfl, rfl, rfl, rfl, rfl⟩
      · omega
      · unfold maxLen; omega
      · simp; omega
      intro v4 w4 hown4 hB4 _ _
      have HO4 := Lib.hid hown4
      have HX4 : Hid (Ext w w4) := Lib.hid ((below_step hBx (Ext.alloc _ _)).trans hB4)
      clear hown4 hB4 ho2
      go_wp2_with fail
      go_roundg (l.length - (k + 1))
      case measure => have := Hg.out; omega
      case rel => exact ⟨k + 1, by omega, rfl, by go_num, by rw [Hll.out]; exact HO4.out, HX4.out⟩
    · have he : k = l.length := by omega
      have ho0 := HO.out
      subst he
      rw [List.take_length] at ho0
      clear HO
      have HO := Lib.hid ho0
      clear ho0
      go_wp2_with fail
      go_ret
      exact ⟨_, rfl, HO.out, hx⟩
end Go.Proofs.YthoneahamnmjlaaGreatDoor
