/- What things come to, one by one: the three instances of made. -/
import Derived.Test.YthoneahamnmjlaaGreatDoorGp22
import Derived.Test.YthoneahamnmjlaaGreatDoorGp10
import Derived.Test.YthoneahamnmjlaaGreatDoorGp03
namespace Go.Proofs.YthoneahamnmjlaaGreatDoor
set_option maxRecDepth 100000
set_option maxHeartbeats 2000000
set_option linter.unusedSimpArgs false
open Go.RowKit Go.Shelf Go.Sort
attribute [local go_sem] Oper.semAt_some wide_fn wide_depth
set_option linter.unusedVariables false

set_option maxHeartbeats 1000000 in
theorem madeAS_any (v : Value) (l : List Atm) (g : Atm → ByteArray) (F : Nat) (bs : Array Value) (w : World) (hv : Ats w v l) (hl : l.length ≤ 100000)
    (eF : ∀ args w, (callFunc F args).run Tryz.prog w = .ok (.enter F args) w)
    (hf : ∀ x ∈ l, ∀ w', Ext w w' → Calls Tryz.prog F (#[(.agg #[.int .i64 x.kind, .bool x.fk, .string x.fn, .string x.name, .string x.value, .bool x.tk, .string x.tn])] ++ bs) w' fun e w'' => e = .returned (.string (g x)) ∧ Ext w' w'') :
    Calls Tryz.prog 67 #[v, .func (.func F) #[] bs] w fun e w' => ∃ u, e = .returned u ∧ w'.ownsRow w.heap.size 9 1 u l.length ((l.map g).map Value.string) ∧ Ext w w' := by
  obtain ⟨a, c, rfl, hc1, hc2⟩ := hv.shape
  have HV := Lib.hid hv
  have HF := Lib.hid hf
  have HE := Lib.hid eF
  clear hv hf eF
  go_enter Tryz.func67, Tryz.ntmps67
  go_wp2_with fail
  go_loopg [5, 10] l.length (fun g' v i wr => ∃ k : Nat, k ≤ l.length ∧ g' = l.length - k ∧ i = .int .i64 k ∧ wr.ownsRow w.heap.size 9 1 v k (((l.take k).map g).map Value.string) ∧ Ext w wr)
  case atStart => exact ⟨0, Nat.zero_le _, rfl, rfl, World.ownsRow_nil _ _ _ _, Ext.refl _⟩
  case round =>
    obtain ⟨k, hk, hg, rfl, ho, hx⟩ := hrel
    have Hg := Lib.hid hg
    have HO := Lib.hid ho
    clear hg ho
    by_cases hlt : k < l.length
    · obtain ⟨b, o, rfl, c0, c1, c2, c3, c4, c5, c6⟩ := (HV.out.ext hx).at_ hlt
      have hbl := cell_lt c0
      have Hll := Lib.hid (show ((l.take (k + 1)).map g).map Value.string = ((l.take k).map g).map Value.string ++ [Value.string (g l[k])] from by rw [List.take_succ_eq_append_getElem hlt, List.map_append, List.map_append]; simp only [List.map_cons, List.map_nil, List.flatMap_cons, List.flatMap_nil, List.append_nil])
      have hc := HF.out _ (List.getElem_mem hlt)
      obtain ⟨t, hte⟩ : ∃ t, t = l[k] := ⟨_, rfl⟩
      rw [← hte] at c0 c1 c2 c3 c4 c5 c6 Hll hc
      clear hte
      have HC := Lib.hid hc
      clear hc
      have hmo : Tryz.prog.follows .mixedOrders = true := by kernel_rfl
      have heF := HE.out
      have ho0 := HO.out
      have hl0 := Hll.out
      obtain ⟨X, hX⟩ : ∃ X, ((l.take k).map g).map Value.string = X := ⟨_, rfl⟩
      rw [hX] at ho0 hl0
      clear hX Hll HO
      have Hll := Lib.hid hl0
      have HO := Lib.hid ho0
      clear hl0 ho0
      have HX1 := Lib.hid (show Ext w (wr.alloc (.cells #[.int .i64 t.kind, .bool t.fk, .string t.fn, .string t.name, .string t.value, .bool t.tk, .string t.tn] 40)) from hx.trans (Ext.alloc _ _))
      have HB1 := Lib.hid (RowAt.new wr 40 [.int .i64 t.kind, .bool t.fk, .string t.fn, .string t.name, .string t.value, .bool t.tk, .string t.tn])
      have HO1 := Lib.hid (own_ext HO.out (Ext.alloc wr (.cells #[.int .i64 t.kind, .bool t.fk, .string t.fn, .string t.name, .string t.value, .bool t.tk, .string t.tn] 40)))
      go_upto_region 5 with fail
      clear c0 c1 c2 c3 c4 c5 c6 HO
      generalize wr.alloc (.cells #[.int .i64 t.kind, .bool t.fk, .string t.fn, .string t.name, .string t.value, .bool t.tk, .string t.tn] 40) = w1 at *
      obtain ⟨y, hy⟩ : ∃ y, wr.heap.size = y := ⟨_, rfl⟩
      rw [hy] at HB1
      try simp only [hy]
      clear hy
      have c0 := HB1.out.cell (i := 0) rfl
      have c1 := HB1.out.cell (i := 1) rfl
      have c2 := HB1.out.cell (i := 2) rfl
      have c3 := HB1.out.cell (i := 3) rfl
      have c4 := HB1.out.cell (i := 4) rfl
      have c5 := HB1.out.cell (i := 5) rfl
      have c6 := HB1.out.cell (i := 6) rfl
      go_wp2_with fail
      refine (HC.out _ HX1.out).mono ?_
      rintro e w2 ⟨rfl, hx2⟩
      have ho2 := own_ext HO1.out hx2
      have hBx : Ext w w2 := HX1.out.trans hx2
      have hB2 := hBx.size
      go_wp2_with (at_builtin; refine wpList_append_sl _ rfl _ _ 23 rfl elStr rfl (own_ext ho2 (Ext.alloc _ _)) rfl (Sl.new _ _ _ 1 1 (Nat.le_refl _) ?_) rfl ?_ ?_ ?_ ?_ ?_)
      · unfold maxLen; omega
      · first | rfl | exact ⟨rfl, rfl, rfl, rfl, rfl, rfl, rfl⟩
      · omega
      · unfold maxLen; omega
      · simp; omega
      intro v4 w4 hown4 hB4 _ _
      have HO4 := Lib.hid hown4
      have HX4 : Hid (Ext w w4) := Lib.hid ((below_step hBx (Ext.alloc _ _)).trans hB4)
      clear hown4 hB4 ho2
      go_wp2_with fail
      go_roundg (l.length - (k + 1))
      case measure => have := Hg.out; omega
      case rel => exact ⟨k + 1, by omega, rfl, by go_num, by rw [Hll.out]; exact HO4.out, HX4.out⟩
    · have he : k = l.length := by omega
      have ho0 := HO.out
      subst he
      rw [List.take_length] at ho0
      clear HO
      have HO := Lib.hid ho0
      clear ho0
      go_wp2_with fail
      go_ret
      exact ⟨_, rfl, HO.out, hx⟩
set_option maxHeartbeats 1000000 in
theorem madeSS_any (v : Value) (l : List ByteArray) (g : ByteArray → ByteArray) (F : Nat) (bs : Array Value) (w : World) (hv : Strs w v l) (hl : l.length ≤ 100000)
    (eF : ∀ args w, (callFunc F args).run Tryz.prog w = .ok (.enter F args) w)
    (hf : ∀ x ∈ l, ∀ w', Ext w w' → Calls Tryz.prog F (#[(.string x)] ++ bs) w' fun e w'' => e = .returned (.string (g x)) ∧ Ext w' w'') :
    Calls Tryz.prog 62 #[v, .func (.func F) #[] bs] w fun e w' => ∃ u, e = .returned u ∧ w'.ownsRow w.heap.size 9 1 u l.length ((l.map g).map Value.string) ∧ Ext w w' := by
  obtain ⟨a, c, rfl, hc1, hc2⟩ := Sl.shape hv
  have HV := Lib.hid hv
  have HF := Lib.hid hf
  have HE := Lib.hid eF
  clear hv hf eF
  go_enter Tryz.func62, Tryz.ntmps62
  go_wp2_with fail
  go_loopg [5, 10] l.length (fun g' v i wr => ∃ k : Nat, k ≤ l.length ∧ g' = l.length - k ∧ i = .int .i64 k ∧ wr.ownsRow w.heap.size 9 1 v k (((l.take k).map g).map Value.string) ∧ Ext w wr)
  case atStart => exact ⟨0, Nat.zero_le _, rfl, rfl, World.ownsRow_nil _ _ _ _, Ext.refl _⟩
  case round =>
    obtain ⟨k, hk, hg, rfl, ho, hx⟩ := hrel
    have Hg := Lib.hid hg
    have HO := Lib.hid ho
    clear hg ho
    by_cases hlt : k < l.length
    · obtain ⟨b, o, rfl, c0⟩ := Strs.at_ (Strs.ext HV.out hx) hlt
      have hbl := cell_lt c0
      have Hll := Lib.hid (show ((l.take (k + 1)).map g).map Value.string = ((l.take k).map g).map Value.string ++ [Value.string (g l[k])] from by rw [List.take_succ_eq_append_getElem hlt, List.map_append, List.map_append]; simp only [List.map_cons, List.map_nil, List.flatMap_cons, List.flatMap_nil, List.append_nil])
      have hc := HF.out _ (List.getElem_mem hlt)
      obtain ⟨t, hte⟩ : ∃ t, t = l[k] := ⟨_, rfl⟩
      rw [← hte] at c0 Hll hc
      clear hte
      have HC := Lib.hid hc
      clear hc
      have hmo : Tryz.prog.follows .mixedOrders = true := by kernel_rfl
      have heF := HE.out
      have ho0 := HO.out
      have hl0 := Hll.out
      obtain ⟨X, hX⟩ : ∃ X, ((l.take k).map g).map Value.string = X := ⟨_, rfl⟩
      rw [hX] at ho0 hl0
      clear hX Hll HO
      have Hll := Lib.hid hl0
      have HO := Lib.hid ho0
      clear hl0 ho0
      have HX1 := Lib.hid hx
      have HO1 := HO
      go_wp2_with fail
      refine (HC.out _ HX1.out).mono ?_
      rintro e w2 ⟨rfl, hx2⟩
      have ho2 := own_ext HO1.out hx2
      have hBx : Ext w w2 := HX1.out.trans hx2
      have hB2 := hBx.size
      go_wp2_with (at_builtin; refine wpList_append_sl _ rfl _ _ 23 rfl elStr rfl (own_ext ho2 (Ext.alloc _ _)) rfl (Sl.new _ _ _ 1 1 (Nat.le_refl _) ?_) rfl ?_ ?_ ?_ ?_ ?_)
      · unfold maxLen; omega
      · first | rfl | exact ⟨rfl, rfl, rfl, rfl, rfl, rfl, rfl⟩
      · omega
      · unfold maxLen; omega
      · simp; omega
      intro v4 w4 hown4 hB4 _ _
      have HO4 := Lib.hid hown4
      have HX4 : Hid (Ext w w4) := Lib.hid ((below_step hBx (Ext.alloc _ _)).trans hB4)
      clear hown4 hB4 ho2
      go_wp2_with fail
      go_roundg (l.length - (k + 1))
      case measure => have := Hg.out; omega
      case rel => exact ⟨k + 1, by omega, rfl, by go_num, by rw [Hll.out]; exact HO4.out, HX4.out⟩
    · have he : k = l.length := by omega
      have ho0 := HO.out
      subst he
      rw [List.take_length] at ho0
      clear HO
      have HO := Lib.hid ho0
      clear ho0
      go_wp2_with fail
      go_ret
      exact ⟨_, rfl, HO.out, hx⟩
set_option maxHeartbeats 1000000 in
theorem madeAA_any (v : Value) (l : List Atm) (g : Atm → Atm) (F : Nat) (bs : Array Value) (w : World) (hv : Ats w v l) (hl : l.length ≤ 100000)
    (eF : ∀ args w, (callFunc F args).run Tryz.prog w = .ok (.enter F args) w)
    (hf : ∀ x ∈ l, ∀ w', Ext w w' → Calls Tryz.prog F (#[(.agg #[.int .i64 x.kind, .bool x.fk, .string x.fn, .string x.name, .string x.value, .bool x.tk, .string x.tn])] ++ bs) w' fun e w'' => e = .returned (.agg #[.int .i64 (g x).kind, .bool (g x).fk, .string (g x).fn, .string (g x).name, .string (g x).value, .bool (g x).tk, .string (g x).tn]) ∧ Ext w' w'') :
    Calls Tryz.prog 60 #[v, .func (.func F) #[] bs] w fun e w' => ∃ u, e = .returned u ∧ w'.ownsRow w.heap.size 40 7 u l.length ((l.map g).flatMap atCells) ∧ Ext w w' := by
  obtain ⟨a, c, rfl, hc1, hc2⟩ := hv.shape
  have HV := Lib.hid hv
  have HF := Lib.hid hf
  have HE := Lib.hid eF
  clear hv hf eF
  go_enter Tryz.func60, Tryz.ntmps60
  go_wp2_with fail
  go_loopg [5, 10] l.length (fun g' v i wr => ∃ k : Nat, k ≤ l.length ∧ g' = l.length - k ∧ i = .int .i64 k ∧ wr.ownsRow w.heap.size 40 7 v k (((l.take k).map g).flatMap atCells) ∧ Ext w wr)
  case atStart => exact ⟨0, Nat.zero_le _, rfl, rfl, World.ownsRow_nil _ _ _ _, Ext.refl _⟩
  case round =>
    obtain ⟨k, hk, hg, rfl, ho, hx⟩ := hrel
    have Hg := Lib.hid hg
    have HO := Lib.hid ho
    clear hg ho
    by_cases hlt : k < l.length
    · obtain ⟨b, o, rfl, c0, c1, c2, c3, c4, c5, c6⟩ := (HV.out.ext hx).at_ hlt
      have hbl := cell_lt c0
      have Hll := Lib.hid (show ((l.take (k + 1)).map g).flatMap atCells = ((l.take k).map g).flatMap atCells ++ atCells (g l[k]) from by rw [List.take_succ_eq_append_getElem hlt, List.map_append, List.flatMap_append]; simp only [List.map_cons, List.map_nil, List.flatMap_cons, List.flatMap_nil, List.append_nil])
      have hc := HF.out _ (List.getElem_mem hlt)
      obtain ⟨t, hte⟩ : ∃ t, t = l[k] := ⟨_, rfl⟩
      rw [← hte] at c0 c1 c2 c3 c4 c5 c6 Hll hc
      clear hte
      have HC := Lib.hid hc
      clear hc
      have hmo : Tryz.prog.follows .mixedOrders = true := by kernel_rfl
      have heF := HE.out
      have ho0 := HO.out
      have hl0 := Hll.out
      obtain ⟨X, hX⟩ : ∃ X, ((l.take k).map g).flatMap atCells = X := ⟨_, rfl⟩
      rw [hX] at ho0 hl0
      clear hX Hll HO
      have Hll := Lib.hid hl0
      have HO := Lib.hid ho0
      clear hl0 ho0
      have HX1 := Lib.hid (show Ext w (wr.alloc (.cells #[.int .i64 t.kind, .bool t.fk, .string t.fn, .string t.name, .string t.value, .bool t.tk, .string t.tn] 40)) from hx.trans (Ext.alloc _ _))
      have HB1 := Lib.hid (RowAt.new wr 40 [.int .i64 t.kind, .bool t.fk, .string t.fn, .string t.name, .string t.value, .bool t.tk, .string t.tn])
      have HO1 := Lib.hid (own_ext HO.out (Ext.alloc wr (.cells #[.int .i64 t.kind, .bool t.fk, .string t.fn, .string t.name, .string t.value, .bool t.tk, .string t.tn] 40)))
      go_upto_region 5 with fail
      clear c0 c1 c2 c3 c4 c5 c6 HO
      generalize wr.alloc (.cells #[.int .i64 t.kind, .bool t.fk, .string t.fn, .string t.name, .string t.value, .bool t.tk, .string t.tn] 40) = w1 at *
      obtain ⟨y, hy⟩ : ∃ y, wr.heap.size = y := ⟨_, rfl⟩
      rw [hy] at HB1
      try simp only [hy]
      clear hy
      have c0 := HB1.out.cell (i := 0) rfl
      have c1 := HB1.out.cell (i := 1) rfl
      have c2 := HB1.out.cell (i := 2) rfl
      have c3 := HB1.out.cell (i := 3) rfl
      have c4 := HB1.out.cell (i := 4) rfl
      have c5 := HB1.out.cell (i := 5) rfl
      have c6 := HB1.out.cell (i := 6) rfl
      go_wp2_with fail
      refine (HC.out _ HX1.out).mono ?_
      rintro e w2 ⟨rfl, hx2⟩
      have ho2 := own_ext HO1.out hx2
      have hBx : Ext w w2 := HX1.out.trans hx2
      have hB2 := hBx.size
      go_wp2_with (at_builtin; refine wpList_append_sl _ rfl _ _ 22 rfl elAt rfl (own_ext ho2 (Ext.alloc _ _)) rfl (Sl.new _ _ _ 1 1 (Nat.le_refl _) ?_) rfl ?_ ?_ ?_ ?_ ?_)
      · unfold maxLen; omega
      · first | rfl | exact ⟨rfl, rfl, rfl, rfl, rfl, rfl, rfl⟩
      · omega
      · unfold maxLen; omega
      · simp; omega
      intro v4 w4 hown4 hB4 _ _
      have HO4 := Lib.hid hown4
      have HX4 : Hid (Ext w w4) := Lib.hid ((below_step hBx (Ext.alloc _ _)).trans hB4)
      clear hown4 hB4 ho2
      go_wp2_with fail
      go_roundg (l.length - (k + 1))
      case measure => have := Hg.out; omega
      case rel => exact ⟨k + 1, by omega, rfl, by go_num, by rw [Hll.out]; exact HO4.out, HX4.out⟩
    · have he : k = l.length := by omega
      have ho0 := HO.out
      subst he
      rw [List.take_length] at ho0
      clear HO
      have HO := Lib.hid ho0
      clear ho0
      go_wp2_with fail
      go_ret
      exact ⟨_, rfl, HO.out, hx⟩
end Go.Proofs.YthoneahamnmjlaaGreatDoor

/- The text of an atom, by its kind. -/
namespace Go.Proofs.YthoneahamnmjlaaGreatDoor
set_option maxRecDepth 100000
set_option maxHeartbeats 2000000
set_option linter.unusedSimpArgs false
open Go.RowKit Go.Shelf Go.Sort
attribute [local go_sem] Oper.semAt_some wide_fn wide_depth
set_option linter.unusedVariables false

theorem texts_any (w : World) : Calls Tryz.prog 48 #[] w fun e w' => e = .returned (.agg #[.nilFunc, .func (.func 76) #[] #[], .func (.func 77) #[] #[], .func (.func 78) #[] #[], .func (.func 79) #[] #[]]) ∧ Ext w w' := by
  go_enter Tryz.func48, Tryz.ntmps48
  go_wp2
  exact bodyPost_ret (results_row0 rfl rfl (RowAt.new w 74 [.nilFunc, .func (.func 76) #[] #[], .func (.func 77) #[] #[], .func (.func 78) #[] #[], .func (.func 79) #[] #[]]) Tryz.underlying74 rfl (by kernel_rfl)) rfl ⟨rfl, Ext.alloc _ _⟩
theorem Atm.size_of {a : Atm} (h : atomB a = true) : a.fn.size ≤ 40 ∧ a.name.size ≤ 40 ∧ a.value.size ≤ 40 ∧ a.tn.size ≤ 40 := by
  have hw : ∀ s : ByteArray, wordB s = true → s.size ≤ 40 := fun s hs => by
    rw [← wordB_all] at hs
    have := (allB_iff.1 hs).2.2
    rw [bts_len] at this; omega
  have hv : ∀ s : ByteArray, worthB s = true → s.size ≤ 40 := fun s hs => by
    rw [← worthB_all] at hs
    have := (allB_iff.1 hs).2.2
    rw [bts_len] at this; omega
  have hn : nilB.size ≤ 40 := by decide
  obtain ⟨hf, h | h | h | h⟩ := atom_facts h
  · exact ⟨hw _ hf, by rw [h.2.1]; exact hn, by rw [h.2.2.1]; exact hn, by rw [h.2.2.2.2]; exact hn⟩
  · exact ⟨hw _ hf, hw _ h.2.2.2.2, by rw [h.2.1]; exact hn, by rw [h.2.2.2.1]; exact hn⟩
  · exact ⟨hw _ hf, hw _ h.2.2.2.1, hv _ h.2.2.2.2, by rw [h.2.2.1]; exact hn⟩
  · exact ⟨hw _ hf, hw _ h.2.2.1, by rw [h.2.1]; exact hn, hw _ h.2.2.2⟩
def prG5 : Nat → Gro
  | 0 => .grow
  | 2 => .read
  | 4 => .read
  | 6 => .grow
  | _ => .pure

theorem partT1 (fk : Bool) (fn nm va : ByteArray) (tk : Bool) (tn : ByteArray) (w : World) (h1 : fn.size ≤ 40) (h2 : nm.size ≤ 40) (h3 : va.size ≤ 40) (h4 : tn.size ≤ 40) :
    Calls Tryz.prog 68 #[.agg #[.int .i64 1, .bool fk, .string fn, .string nm, .string va, .bool tk, .string tn]] w fun e w' => e = .returned (.string (txt (atomX ⟨1, fk, fn, nm, va, tk, tn⟩))) ∧ Ext w w' := by
  rw [atomX_from _ (show (1 : Int) ≠ 2 by decide) (show (1 : Int) ≠ 3 by decide) (show (1 : Int) ≠ 4 by decide)]
  dsimp only
  have hmo : Tryz.prog.follows .mixedOrders = true := by kernel_rfl
  have hat := fun w' => from_any 1 fk fn nm va tk tn w' (by omega)
  have HX := Lib.hid (Ext.alloc w (.cells #[.int .i64 1, .bool fk, .string fn, .string nm, .string va, .bool tk, .string tn] 40))
  have HB := Lib.hid (RowAt.new w 40 [.int .i64 1, .bool fk, .string fn, .string nm, .string va, .bool tk, .string tn])
  have HA := Lib.hid hat
  have HTX := Lib.hid texts_any
  clear hat
  go_enter Tryz.func68, Tryz.ntmps68
  go_upto_region 1 with fail
  generalize w.alloc (.cells #[.int .i64 1, .bool fk, .string fn, .string nm, .string va, .bool tk, .string tn] 40) = w1 at *
  obtain ⟨y, hy⟩ : ∃ y, w.heap.size = y := ⟨_, rfl⟩
  rw [hy] at HB
  try simp only [hy]
  clear hy
  refine wp_region_gro prG5 [1, 2, 4, 5, 0, 3, 6, 7] hmo (by kernel_rfl) rfl (by kernel_rfl) (fun _ _ _ _ _ h => h) ?_
  have hxd := Ext.drewN w1 1
  have hb := HB.out.ext hxd
  replace HX := Lib.hid (HX.out.trans hxd)
  change GroW _ _ _ _ _ _ w1.drew
  replace hb : RowAt w1.drew y 40 [.int .i64 1, .bool fk, .string fn, .string nm, .string va, .bool tk, .string tn] := hb
  replace HX : Hid (Ext w w1.drew) := HX
  clear hxd HB
  generalize w1.drew = w2 at *
  have d0 := hb.cell (i := 0) rfl
  have d1 := hb.cell (i := 1) rfl
  have d2 := hb.cell (i := 2) rfl
  have d3 := hb.cell (i := 3) rfl
  have d4 := hb.cell (i := 4) rfl
  have d5 := hb.cell (i := 5) rfl
  have d6 := hb.cell (i := 6) rfl
  clear hb
  repeat (first
    | (refine groL_pure rfl rfl ?_; intro K hK; go_simp; refine hK _ ?_; clear hK K)
    | (refine groL_read rfl rfl ?_; intro K S hS hK; go_simp; refine hK _ ?_; clear hK K hS S)
    | (refine groL_read rfl rfl ?_; intro K S hS hK; go_simp; refine ⟨hS _ ?_, hK _ ?_⟩; (clear hK K hS S; intro w' hx'; have hce := ext_some hx'; go_simp); clear hK K hS S)
    | (refine groL_write rfl rfl ?_; intro K hK; go_simp; refine hK _ _ ?_; clear hK K))
  refine groL_grow rfl rfl ?_
  intro K hK
  go_simp
  (refine (HTX.out _).mono ?_; rintro e w3 ⟨rfl, hx3⟩)
  go_simp
  refine hK _ _ ⟨hx3, ?_⟩
  clear hK K
  have hix : ∀ w', (Instr.index 74 (.agg #[.nilFunc, .func (.func 76) #[] #[], .func (.func 77) #[] #[], .func (.func 78) #[] #[], .func (.func 79) #[] #[]]) (.int .i64 1)).run Tryz.prog w' = .ok (.func (.func 76) #[] #[]) w' := fun w' => by kernel_rfl
  repeat (first
    | (refine groL_pure rfl rfl ?_; intro K hK; go_simp; refine hK _ ?_; clear hK K)
    | (refine groL_read rfl rfl ?_; intro K S hS hK; go_simp; refine hK _ ?_; clear hK K hS S)
    | (refine groL_read rfl rfl ?_; intro K S hS hK; go_simp; refine ⟨hS _ ?_, hK _ ?_⟩; (clear hK K hS S; intro w' hx'; have hce := ext_some hx'; go_simp); clear hK K hS S)
    | (refine groL_write rfl rfl ?_; intro K hK; go_simp; refine hK _ _ ?_; clear hK K))
  refine groL_grow rfl rfl ?_
  intro K hK
  go_simp
  (refine (HA.out _).mono ?_; rintro e w4 ⟨rfl, hx4⟩)
  go_simp
  refine hK _ _ ⟨hx4, ?_⟩
  clear hK K
  repeat (first
    | (refine groL_pure rfl rfl ?_; intro K hK; go_simp; refine hK _ ?_; clear hK K)
    | (refine groL_read rfl rfl ?_; intro K S hS hK; go_simp; refine hK _ ?_; clear hK K hS S)
    | (refine groL_read rfl rfl ?_; intro K S hS hK; go_simp; refine ⟨hS _ ?_, hK _ ?_⟩; (clear hK K hS S; intro w' hx'; have hce := ext_some hx'; go_simp); clear hK K hS S)
    | (refine groL_write rfl rfl ?_; intro K hK; go_simp; refine hK _ _ ?_; clear hK K))
  refine groL_nil ?_
  go_wp2_with fail
  go_ret
  exact ⟨by first | rfl | (simp; done) | (simp; rfl), HX.out.trans (hx3.trans hx4)⟩
theorem partT2 (fk : Bool) (fn nm va : ByteArray) (tk : Bool) (tn : ByteArray) (w : World) (h1 : fn.size ≤ 40) (h2 : nm.size ≤ 40) (h3 : va.size ≤ 40) (h4 : tn.size ≤ 40) :
    Calls Tryz.prog 68 #[.agg #[.int .i64 2, .bool fk, .string fn, .string nm, .string va, .bool tk, .string tn]] w fun e w' => e = .returned (.string (txt (atomX ⟨2, fk, fn, nm, va, tk, tn⟩))) ∧ Ext w w' := by
  rw [atomX_label _ rfl]
  dsimp only
  have hmo : Tryz.prog.follows .mixedOrders = true := by kernel_rfl
  have hat := fun w' => label_any 2 fk fn nm va tk tn w' (by omega) (by omega)
  have HX := Lib.hid (Ext.alloc w (.cells #[.int .i64 2, .bool fk, .string fn, .string nm, .string va, .bool tk, .string tn] 40))
  have HB := Lib.hid (RowAt.new w 40 [.int .i64 2, .bool fk, .string fn, .string nm, .string va, .bool tk, .string tn])
  have HA := Lib.hid hat
  have HTX := Lib.hid texts_any
  clear hat
  go_enter Tryz.func68, Tryz.ntmps68
  go_upto_region 1 with fail
  generalize w.alloc (.cells #[.int .i64 2, .bool fk, .string fn, .string nm, .string va, .bool tk, .string tn] 40) = w1 at *
  obtain ⟨y, hy⟩ : ∃ y, w.heap.size = y := ⟨_, rfl⟩
  rw [hy] at HB
  try simp only [hy]
  clear hy
  refine wp_region_gro prG5 [1, 2, 4, 5, 0, 3, 6, 7] hmo (by kernel_rfl) rfl (by kernel_rfl) (fun _ _ _ _ _ h => h) ?_
  have hxd := Ext.drewN w1 1
  have hb := HB.out.ext hxd
  replace HX := Lib.hid (HX.out.trans hxd)
  change GroW _ _ _ _ _ _ w1.drew
  replace hb : RowAt w1.drew y 40 [.int .i64 2, .bool fk, .string fn, .string nm, .string va, .bool tk, .string tn] := hb
  replace HX : Hid (Ext w w1.drew) := HX
  clear hxd HB
  generalize w1.drew = w2 at *
  have d0 := hb.cell (i := 0) rfl
  have d1 := hb.cell (i := 1) rfl
  have d2 := hb.cell (i := 2) rfl
  have d3 := hb.cell (i := 3) rfl
  have d4 := hb.cell (i := 4) rfl
  have d5 := hb.cell (i := 5) rfl
  have d6 := hb.cell (i := 6) rfl
  clear hb
  repeat (first
    | (refine groL_pure rfl rfl ?_; intro K hK; go_simp; refine hK _ ?_; clear hK K)
    | (refine groL_read rfl rfl ?_; intro K S hS hK; go_simp; refine hK _ ?_; clear hK K hS S)
    | (refine groL_read rfl rfl ?_; intro K S hS hK; go_simp; refine ⟨hS _ ?_, hK _ ?_⟩; (clear hK K hS S; intro w' hx'; have hce := ext_some hx'; go_simp); clear hK K hS S)
    | (refine groL_write rfl rfl ?_; intro K hK; go_simp; refine hK _ _ ?_; clear hK K))
  refine groL_grow rfl rfl ?_
  intro K hK
  go_simp
  (refine (HTX.out _).mono ?_; rintro e w3 ⟨rfl, hx3⟩)
  go_simp
  refine hK _ _ ⟨hx3, ?_⟩
  clear hK K
  have hix : ∀ w', (Instr.index 74 (.agg #[.nilFunc, .func (.func 76) #[] #[], .func (.func 77) #[] #[], .func (.func 78) #[] #[], .func (.func 79) #[] #[]]) (.int .i64 2)).run Tryz.prog w' = .ok (.func (.func 77) #[] #[]) w' := fun w' => by kernel_rfl
  repeat (first
    | (refine groL_pure rfl rfl ?_; intro K hK; go_simp; refine hK _ ?_; clear hK K)
    | (refine groL_read rfl rfl ?_; intro K S hS hK; go_simp; refine hK _ ?_; clear hK K hS S)
    | (refine groL_read rfl rfl ?_; intro K S hS hK; go_simp; refine ⟨hS _ ?_, hK _ ?_⟩; (clear hK K hS S; intro w' hx'; have hce := ext_some hx'; go_simp); clear hK K hS S)
    | (refine groL_write rfl rfl ?_; intro K hK; go_simp; refine hK _ _ ?_; clear hK K))
  refine groL_grow rfl rfl ?_
  intro K hK
  go_simp
  (refine (HA.out _).mono ?_; rintro e w4 ⟨rfl, hx4⟩)
  go_simp
  refine hK _ _ ⟨hx4, ?_⟩
  clear hK K
  repeat (first
    | (refine groL_pure rfl rfl ?_; intro K hK; go_simp; refine hK _ ?_; clear hK K)
    | (refine groL_read rfl rfl ?_; intro K S hS hK; go_simp; refine hK _ ?_; clear hK K hS S)
    | (refine groL_read rfl rfl ?_; intro K S hS hK; go_simp; refine ⟨hS _ ?_, hK _ ?_⟩; (clear hK K hS S; intro w' hx'; have hce := ext_some hx'; go_simp); clear hK K hS S)
    | (refine groL_write rfl rfl ?_; intro K hK; go_simp; refine hK _ _ ?_; clear hK K))
  refine groL_nil ?_
  go_wp2_with fail
  go_ret
  exact ⟨by first | rfl | (simp; done) | (simp; rfl), HX.out.trans (hx3.trans hx4)⟩
theorem partT3 (fk : Bool) (fn nm va : ByteArray) (tk : Bool) (tn : ByteArray) (w : World) (h1 : fn.size ≤ 40) (h2 : nm.size ≤ 40) (h3 : va.size ≤ 40) (h4 : tn.size ≤ 40) :
    Calls Tryz.prog 68 #[.agg #[.int .i64 3, .bool fk, .string fn, .string nm, .string va, .bool tk, .string tn]] w fun e w' => e = .returned (.string (txt (atomX ⟨3, fk, fn, nm, va, tk, tn⟩))) ∧ Ext w w' := by
  rw [atomX_prop _ rfl]
  dsimp only
  have hmo : Tryz.prog.follows .mixedOrders = true := by kernel_rfl
  have hat := fun w' => prop_any 3 fk fn nm va tk tn w' (by omega) (by omega) (by omega)
  have HX := Lib.hid (Ext.alloc w (.cells #[.int .i64 3, .bool fk, .string fn, .string nm, .string va, .bool tk, .string tn] 40))
  have HB := Lib.hid (RowAt.new w 40 [.int .i64 3, .bool fk, .string fn, .string nm, .string va, .bool tk, .string tn])
  have HA := Lib.hid hat
  have HTX := Lib.hid texts_any
  clear hat
  go_enter Tryz.func68, Tryz.ntmps68
  go_upto_region 1 with fail
  generalize w.alloc (.cells #[.int .i64 3, .bool fk, .string fn, .string nm, .string va, .bool tk, .string tn] 40) = w1 at *
  obtain ⟨y, hy⟩ : ∃ y, w.heap.size = y := ⟨_, rfl⟩
  rw [hy] at HB
  try simp only [hy]
  clear hy
  refine wp_region_gro prG5 [1, 2, 4, 5, 0, 3, 6, 7] hmo (by kernel_rfl) rfl (by kernel_rfl) (fun _ _ _ _ _ h => h) ?_
  have hxd := Ext.drewN w1 1
  have hb := HB.out.ext hxd
  replace HX := Lib.hid (HX.out.trans hxd)
  change GroW _ _ _ _ _ _ w1.drew
  replace hb : RowAt w1.drew y 40 [.int .i64 3, .bool fk, .string fn, .string nm, .string va, .bool tk, .string tn] := hb
  replace HX : Hid (Ext w w1.drew) := HX
  clear hxd HB
  generalize w1.drew = w2 at *
  have d0 := hb.cell (i := 0) rfl
  have d1 := hb.cell (i := 1) rfl
  have d2 := hb.cell (i := 2) rfl
  have d3 := hb.cell (i := 3) rfl
  have d4 := hb.cell (i := 4) rfl
  have d5 := hb.cell (i := 5) rfl
  have d6 := hb.cell (i := 6) rfl
  clear hb
  repeat (first
    | (refine groL_pure rfl rfl ?_; intro K hK; go_simp; refine hK _ ?_; clear hK K)
    | (refine groL_read rfl rfl ?_; intro K S hS hK; go_simp; refine hK _ ?_; clear hK K hS S)
    | (refine groL_read rfl rfl ?_; intro K S hS hK; go_simp; refine ⟨hS _ ?_, hK _ ?_⟩; (clear hK K hS S; intro w' hx'; have hce := ext_some hx'; go_simp); clear hK K hS S)
    | (refine groL_write rfl rfl ?_; intro K hK; go_simp; refine hK _ _ ?_; clear hK K))
  refine groL_grow rfl rfl ?_
  intro K hK
  go_simp
  (refine (HTX.out _).mono ?_; rintro e w3 ⟨rfl, hx3⟩)
  go_simp
  refine hK _ _ ⟨hx3, ?_⟩
  clear hK K
  have hix : ∀ w', (Instr.index 74 (.agg #[.nilFunc, .func (.func 76) #[] #[], .func (.func 77) #[] #[], .func (.func 78) #[] #[], .func (.func 79) #[] #[]]) (.int .i64 3)).run Tryz.prog w' = .ok (.func (.func 78) #[] #[]) w' := fun w' => by kernel_rfl
  repeat (first
    | (refine groL_pure rfl rfl ?_; intro K hK; go_simp; refine hK _ ?_; clear hK K)
    | (refine groL_read rfl rfl ?_; intro K S hS hK; go_simp; refine hK _ ?_; clear hK K hS S)
    | (refine groL_read rfl rfl ?_; intro K S hS hK; go_simp; refine ⟨hS _ ?_, hK _ ?_⟩; (clear hK K hS S; intro w' hx'; have hce := ext_some hx'; go_simp); clear hK K hS S)
    | (refine groL_write rfl rfl ?_; intro K hK; go_simp; refine hK _ _ ?_; clear hK K))
  refine groL_grow rfl rfl ?_
  intro K hK
  go_simp
  (refine (HA.out _).mono ?_; rintro e w4 ⟨rfl, hx4⟩)
  go_simp
  refine hK _ _ ⟨hx4, ?_⟩
  clear hK K
  repeat (first
    | (refine groL_pure rfl rfl ?_; intro K hK; go_simp; refine hK _ ?_; clear hK K)
    | (refine groL_read rfl rfl ?_; intro K S hS hK; go_simp; refine hK _ ?_; clear hK K hS S)
    | (refine groL_read rfl rfl ?_; intro K S hS hK; go_simp; refine ⟨hS _ ?_, hK _ ?_⟩; (clear hK K hS S; intro w' hx'; have hce := ext_some hx'; go_simp); clear hK K hS S)
    | (refine groL_write rfl rfl ?_; intro K hK; go_simp; refine hK _ _ ?_; clear hK K))
  refine groL_nil ?_
  go_wp2_with fail
  go_ret
  exact ⟨by first | rfl | (simp; done) | (simp; rfl), HX.out.trans (hx3.trans hx4)⟩
theorem partT4 (fk : Bool) (fn nm va : ByteArray) (tk : Bool) (tn : ByteArray) (w : World) (h1 : fn.size ≤ 40) (h2 : nm.size ≤ 40) (h3 : va.size ≤ 40) (h4 : tn.size ≤ 40) :
    Calls Tryz.prog 68 #[.agg #[.int .i64 4, .bool fk, .string fn, .string nm, .string va, .bool tk, .string tn]] w fun e w' => e = .returned (.string (txt (atomX ⟨4, fk, fn, nm, va, tk, tn⟩))) ∧ Ext w w' := by
  rw [atomX_edge _ rfl]
  dsimp only
  have hmo : Tryz.prog.follows .mixedOrders = true := by kernel_rfl
  have hat := fun w' => edge_any 4 fk fn nm va tk tn w' (by omega) (by omega) (by omega)
  have HX := Lib.hid (Ext.alloc w (.cells #[.int .i64 4, .bool fk, .string fn, .string nm, .string va, .bool tk, .string tn] 40))
  have HB := Lib.hid (RowAt.new w 40 [.int .i64 4, .bool fk, .string fn, .string nm, .string va, .bool tk, .string tn])
  have HA := Lib.hid hat
  have HTX := Lib.hid texts_any
  clear hat
  go_enter Tryz.func68, Tryz.ntmps68
  go_upto_region 1 with fail
  generalize w.alloc (.cells #[.int .i64 4, .bool fk, .string fn, .string nm, .string va, .bool tk, .string tn] 40) = w1 at *
  obtain ⟨y, hy⟩ : ∃ y, w.heap.size = y := ⟨_, rfl⟩
  rw [hy] at HB
  try simp only [hy]
  clear hy
  refine wp_region_gro prG5 [1, 2, 4, 5, 0, 3, 6, 7] hmo (by kernel_rfl) rfl (by kernel_rfl) (fun _ _ _ _ _ h => h) ?_
  have hxd := Ext.drewN w1 1
  have hb := HB.out.ext hxd
  replace HX := Lib.hid (HX.out.trans hxd)
  change GroW _ _ _ _ _ _ w1.drew
  replace hb : RowAt w1.drew y 40 [.int .i64 4, .bool fk, .string fn, .string nm, .string va, .bool tk, .string tn] := hb
  replace HX : Hid (Ext w w1.drew) := HX
  clear hxd HB
  generalize w1.drew = w2 at *
  have d0 := hb.cell (i := 0) rfl
  have d1 := hb.cell (i := 1) rfl
  have d2 := hb.cell (i := 2) rfl
  have d3 := hb.cell (i := 3) rfl
  have d4 := hb.cell (i := 4) rfl
  have d5 := hb.cell (i := 5) rfl
  have d6 := hb.cell (i := 6) rfl
  clear hb
  repeat (first
    | (refine groL_pure rfl rfl ?_; intro K hK; go_simp; refine hK _ ?_; clear hK K)
    | (refine groL_read rfl rfl ?_; intro K S hS hK; go_simp; refine hK _ ?_; clear hK K hS S)
    | (refine groL_read rfl rfl ?_; intro K S hS hK; go_simp; refine ⟨hS _ ?_, hK _ ?_⟩; (clear hK K hS S; intro w' hx'; have hce := ext_some hx'; go_simp); clear hK K hS S)
    | (refine groL_write rfl rfl ?_; intro K hK; go_simp; refine hK _ _ ?_; clear hK K))
  refine groL_grow rfl rfl ?_
  intro K hK
  go_simp
  (refine (HTX.out _).mono ?_; rintro e w3 ⟨rfl, hx3⟩)
  go_simp
  refine hK _ _ ⟨hx3, ?_⟩
  clear hK K
  have hix : ∀ w', (Instr.index 74 (.agg #[.nilFunc, .func (.func 76) #[] #[], .func (.func 77) #[] #[], .func (.func 78) #[] #[], .func (.func 79) #[] #[]]) (.int .i64 4)).run Tryz.prog w' = .ok (.func (.func 79) #[] #[]) w' := fun w' => by kernel_rfl
  repeat (first
    | (refine groL_pure rfl rfl ?_; intro K hK; go_simp; refine hK _ ?_; clear hK K)
    | (refine groL_read rfl rfl ?_; intro K S hS hK; go_simp; refine hK _ ?_; clear hK K hS S)
    | (refine groL_read rfl rfl ?_; intro K S hS hK; go_simp; refine ⟨hS _ ?_, hK _ ?_⟩; (clear hK K hS S; intro w' hx'; have hce := ext_some hx'; go_simp); clear hK K hS S)
    | (refine groL_write rfl rfl ?_; intro K hK; go_simp; refine hK _ _ ?_; clear hK K))
  refine groL_grow rfl rfl ?_
  intro K hK
  go_simp
  (refine (HA.out _).mono ?_; rintro e w4 ⟨rfl, hx4⟩)
  go_simp
  refine hK _ _ ⟨hx4, ?_⟩
  clear hK K
  repeat (first
    | (refine groL_pure rfl rfl ?_; intro K hK; go_simp; refine hK _ ?_; clear hK K)
    | (refine groL_read rfl rfl ?_; intro K S hS hK; go_simp; refine hK _ ?_; clear hK K hS S)
    | (refine groL_read rfl rfl ?_; intro K S hS hK; go_simp; refine ⟨hS _ ?_, hK _ ?_⟩; (clear hK K hS S; intro w' hx'; have hce := ext_some hx'; go_simp); clear hK K hS S)
    | (refine groL_write rfl rfl ?_; intro K hK; go_simp; refine hK _ _ ?_; clear hK K))
  refine groL_nil ?_
  go_wp2_with fail
  go_ret
  exact ⟨by first | rfl | (simp; done) | (simp; rfl), HX.out.trans (hx3.trans hx4)⟩
theorem partT_any (a : Atm) (w : World) (h : atomB a = true) :
    Calls Tryz.prog 68 #[.agg #[.int .i64 a.kind, .bool a.fk, .string a.fn, .string a.name, .string a.value, .bool a.tk, .string a.tn]] w fun e w' => e = .returned (.string (txt (atomX a))) ∧ Ext w w' := by
  obtain ⟨h1, h2, h3, h4⟩ := Atm.size_of h
  have hk : a.kind = 1 ∨ a.kind = 2 ∨ a.kind = 3 ∨ a.kind = 4 := by
    rcases (atom_facts h).2 with h | h | h | h
    · exact .inl h.1
    · exact .inr (.inl h.1)
    · exact .inr (.inr (.inl h.1))
    · exact .inr (.inr (.inr h.1))
  obtain ⟨k, fk, fn, nm, va, tk, tn⟩ := a
  dsimp only at *
  rcases hk with rfl | rfl | rfl | rfl
  · exact partT1 fk fn nm va tk tn w h1 h2 h3 h4
  · exact partT2 fk fn nm va tk tn w h1 h2 h3 h4
  · exact partT3 fk fn nm va tk tn w h1 h2 h3 h4
  · exact partT4 fk fn nm va tk tn w h1 h2 h3 h4
end Go.Proofs.YthoneahamnmjlaaGreatDoor
