/- DictKeeps: the walk. -/
import Derived.Test.YtogoejlbdbapoaaDicPd
namespace Go.Proofs.Ytogoejlbdbapoaa
set_option maxRecDepth 100000
set_option maxHeartbeats 2000000
set_option linter.unusedSimpArgs false
open Go.RowKit Go.Shelf Go.Sort
attribute [local go_sem] Oper.semAt_some wide_fn wide_depth
set_option linter.unusedVariables false

/-- What has become of the dictionary: what was stands ahead. -/
structure KeI (w2 : World) (y z : Nat) (B : Heads) (r : Bool) (D : Dic) (kind : Int) (C : Heads) (E : Dic) (W : World) : Prop where
  ext : Ext w2 W
  was : RowAt W z 28 (dcells (hv B))
  cur : RowAt W y 28 (dcells (hv C))
  view : DicV W (hv C) E
  ok : r = true ↔ DicOK E
  s : DicS E
  sz : r = true → ∀ i, i < 5 → (E i).2.length ≤ 4096
  pre : ∀ k : Nat, k < 5 → ∃ l, allN (seenN r E) (k : Int) = allN (seenN r D) (k : Int) ++ l ∧ ((k : Int) ≠ kind → l = [])
theorem KeI.grow {w2 : World} {y z : Nat} {B : Heads} {r : Bool} {D : Dic} {kind : Int} {C : Heads} {E : Dic} {W W' : World} (h : KeI w2 y z B r D kind C E W) (hx : Ext W W') : KeI w2 y z B r D kind C E W' :=
  ⟨h.ext.trans hx, h.was.ext hx, h.cur.ext hx, h.view.ext hx, h.ok, h.s, h.sz, h.pre⟩
theorem allN_true (E : Dic) {k : Nat} (hk : k < 5) : allN (seenN true E) (k : Int) = (E k).1 := by unfold allN seenN; rw [if_pos (by omega)]; rfl
theorem allN_false (E : Dic) (k : Int) : allN (seenN false E) k = [] := by unfold allN seenN; split <;> rfl
theorem KeI.put {w2 : World} {y z : Nat} {B : Heads} {D : Dic} {kind : Int} {C : Heads} {E : Dic} {W W' : World} {A : Heads} {E' : Dic} {n : Int} {s : ByteArray} {k m b : Nat} (h : KeI w2 y z B true D kind C E W) (hp : Put1 E E' kind n s k m)
    (hx : Ext W W') (hyz : y ≠ z) (hy : w2.heap.size ≤ y) (hb : y < b) (ho : DicOwn b W' (hv A) E') : KeI w2 y z B true D kind A E' (setL W' y 0 (dcells (hv A))) :=
  ⟨below_setL hy (dcells (hv A)) 0 (h.ext.trans hx), row_setL_ne hyz _ _ (h.was.ext hx), row_set10 (vs := hv C) (hv A) (h.cur.ext hx), DicOwn.view (B := b) fun i hi => (ho i hi).setL hb _ _, ⟨fun _ => hp.ok, fun _ => rfl⟩, hp.ok.sizes hp.sz, fun _ => hp.sz, fun i hi => by
    obtain ⟨l, h1, h2⟩ := h.pre i hi
    rw [allN_true _ hi, allN_true _ hi] at h1
    rw [allN_true _ hi, allN_true _ hi]
    by_cases e : i = k
    · subst e
      obtain ⟨l', e'⟩ := hp.ext
      exact ⟨l ++ l', by rw [e', h1, List.append_assoc], fun hne => absurd hp.hkind.symm hne⟩
    · rw [hp.rest i e]
      exact ⟨l, h1, h2⟩⟩
def groK21 : Nat → Gro
  | 0 => .read
  | 2 => .grow
  | 3 => .read
  | 5 => .grow
  | _ => .pure
set_option maxRecDepth 100000 in
set_option maxHeartbeats 4000000 in
theorem dkeeps_walk (v0 : Value) (D : Dic) (kind : Int) (v2 : Value) (L : List ByteArray) (w : World)
    (h0 : ∃ vs, v0 = dv vs ∧ DicV w vs D ∧ ∀ i, i < 5 → ∀ s ∈ (D i).1, s.size ≤ 9223372036854775807) (hkd : -9223372036854775808 ≤ kind ∧ kind ≤ 9223372036854775807) (h2 : Strs w v2 L ∧ ∀ s ∈ L, s.size ≤ 9223372036854775807) :
    Calls Try.prog 8 #[v0, .int .i64 kind, v2] w fun e w' => e = .returned (.bool true) ∧ Ext w w' := by
  have hmo : Try.prog.follows .mixedOrders = true := by kernel_rfl
  obtain ⟨hL, hLs⟩ := h2
  obtain ⟨aL, cL, rfl, hcL, hmL⟩ := Sl.shape hL
  have H1 := Lib.hid hL
  have HLS := Lib.hid hLs
  clear hL hLs
  obtain ⟨vs, rfl, hV0, hs0⟩ := h0
  obtain ⟨A, hA1, hA2⟩ := heads hV0.shape
  rw [show dv vs = dv (hv A) from by unfold dv; rw [hA2]]
  have hV : DicV w (hv A) D := fun i hi => by rw [← hA1 i hi]; exact hV0 i hi
  clear hA1 hA2 hV0
  have hbx : RowAt (w.alloc (.cells #[Value.slice (A 0).1 (A 0).2.1 (A 0).2.2.1, .slice (A 0).2.2.2.1 (A 0).2.2.2.2.1 (A 0).2.2.2.2.2, Value.slice (A 1).1 (A 1).2.1 (A 1).2.2.1, .slice (A 1).2.2.2.1 (A 1).2.2.2.2.1 (A 1).2.2.2.2.2, Value.slice (A 2).1 (A 2).2.1 (A 2).2.2.1, .slice (A 2).2.2.2.1 (A 2).2.2.2.2.1 (A 2).2.2.2.2.2, Value.slice (A 3).1 (A 3).2.1 (A 3).2.2.1, .slice (A 3).2.2.2.1 (A 3).2.2.2.2.1 (A 3).2.2.2.2.2, Value.slice (A 4).1 (A 4).2.1 (A 4).2.2.1, .slice (A 4).2.2.2.1 (A 4).2.2.2.2.1 (A 4).2.2.2.2.2] 28)) w.heap.size 28 (dcells (hv A)) := RowAt.new _ _ _
  have hx0 := Ext.alloc w (.cells #[Value.slice (A 0).1 (A 0).2.1 (A 0).2.2.1, .slice (A 0).2.2.2.1 (A 0).2.2.2.2.1 (A 0).2.2.2.2.2, Value.slice (A 1).1 (A 1).2.1 (A 1).2.2.1, .slice (A 1).2.2.2.1 (A 1).2.2.2.2.1 (A 1).2.2.2.2.2, Value.slice (A 2).1 (A 2).2.1 (A 2).2.2.1, .slice (A 2).2.2.2.1 (A 2).2.2.2.2.1 (A 2).2.2.2.2.2, Value.slice (A 3).1 (A 3).2.1 (A 3).2.2.1, .slice (A 3).2.2.2.1 (A 3).2.2.2.2.1 (A 3).2.2.2.2.2, Value.slice (A 4).1 (A 4).2.1 (A 4).2.2.1, .slice (A 4).2.2.2.1 (A 4).2.2.2.2.1 (A 4).2.2.2.2.2] 28)
  have HV := Lib.hid hV
  have HB := Lib.hid hbx
  have HX := Lib.hid hx0
  have HSZ := Lib.hid (cutD_s hs0)
  clear hV hbx hx0 hs0
  unfold dv dcells hv
  dsimp only
  go_enter Try.func8, Try.ntmps8
  go_upto_region 1 with fail
  generalize w.alloc (.cells #[Value.slice (A 0).1 (A 0).2.1 (A 0).2.2.1, .slice (A 0).2.2.2.1 (A 0).2.2.2.2.1 (A 0).2.2.2.2.2, Value.slice (A 1).1 (A 1).2.1 (A 1).2.2.1, .slice (A 1).2.2.2.1 (A 1).2.2.2.2.1 (A 1).2.2.2.2.2, Value.slice (A 2).1 (A 2).2.1 (A 2).2.2.1, .slice (A 2).2.2.2.1 (A 2).2.2.2.2.1 (A 2).2.2.2.2.2, Value.slice (A 3).1 (A 3).2.1 (A 3).2.2.1, .slice (A 3).2.2.2.1 (A 3).2.2.2.2.1 (A 3).2.2.2.2.2, Value.slice (A 4).1 (A 4).2.1 (A 4).2.2.1, .slice (A 4).2.2.2.1 (A 4).2.2.2.2.1 (A 4).2.2.2.2.2] 28) = wa at *
  go_wp2_with fail
  refine (dwakes_any _).mono ?_
  rintro e w1 ⟨rfl, hx1⟩
  replace HB := Lib.hid (HB.out.ext hx1)
  replace HX := Lib.hid (HX.out.trans hx1)
  clear hx1
  obtain ⟨c0, c1, c2, c3, c4, c5, c6, c7, c8, c9⟩ := RowAt.facts10 (vs := hv A) (HB.out)
  unfold hv at c0 c1 c2 c3 c4 c5 c6 c7 c8 c9
  dsimp only at c0 c1 c2 c3 c4 c5 c6 c7 c8 c9
  have hcon := lawOwn_hv A D w1 (HV.out.ext HX.out)
  try unfold dv at hcon
  try unfold nv at hcon
  try unfold dcells at hcon
  try unfold ncells at hcon
  try unfold nsA at hcon
  try unfold ofV at hcon
  try unfold noV at hcon
  try unfold noN at hcon
  try unfold hv at hcon
  try dsimp only at hcon
  have HOW := Lib.hid hcon
  clear hcon
  go_wp2_with fail
  refine HOW.out.mono ?_
  rintro e w2 ⟨B, rfl, hown2, hx2⟩
  clear c0 c1 c2 c3 c4 c5 c6 c7 c8 c9
  have hx3 := Ext.alloc w2 (.cells #[Value.slice (B 0).1 (B 0).2.1 (B 0).2.2.1, .slice (B 0).2.2.2.1 (B 0).2.2.2.2.1 (B 0).2.2.2.2.2, Value.slice (B 1).1 (B 1).2.1 (B 1).2.2.1, .slice (B 1).2.2.2.1 (B 1).2.2.2.2.1 (B 1).2.2.2.2.2, Value.slice (B 2).1 (B 2).2.1 (B 2).2.2.1, .slice (B 2).2.2.2.1 (B 2).2.2.2.2.1 (B 2).2.2.2.2.2, Value.slice (B 3).1 (B 3).2.1 (B 3).2.2.1, .slice (B 3).2.2.2.1 (B 3).2.2.2.2.1 (B 3).2.2.2.2.2, Value.slice (B 4).1 (B 4).2.1 (B 4).2.2.1, .slice (B 4).2.2.2.1 (B 4).2.2.2.2.1 (B 4).2.2.2.2.2] 28)
  have hx4 := hx3.trans (Ext.alloc (w2.alloc (.cells #[Value.slice (B 0).1 (B 0).2.1 (B 0).2.2.1, .slice (B 0).2.2.2.1 (B 0).2.2.2.2.1 (B 0).2.2.2.2.2, Value.slice (B 1).1 (B 1).2.1 (B 1).2.2.1, .slice (B 1).2.2.2.1 (B 1).2.2.2.2.1 (B 1).2.2.2.2.2, Value.slice (B 2).1 (B 2).2.1 (B 2).2.2.1, .slice (B 2).2.2.2.1 (B 2).2.2.2.2.1 (B 2).2.2.2.2.2, Value.slice (B 3).1 (B 3).2.1 (B 3).2.2.1, .slice (B 3).2.2.2.1 (B 3).2.2.2.2.1 (B 3).2.2.2.2.2, Value.slice (B 4).1 (B 4).2.1 (B 4).2.2.1, .slice (B 4).2.2.2.1 (B 4).2.2.2.2.1 (B 4).2.2.2.2.2] 28)) (.cells #[Value.slice (B 0).1 (B 0).2.1 (B 0).2.2.1, .slice (B 0).2.2.2.1 (B 0).2.2.2.2.1 (B 0).2.2.2.2.2, Value.slice (B 1).1 (B 1).2.1 (B 1).2.2.1, .slice (B 1).2.2.2.1 (B 1).2.2.2.2.1 (B 1).2.2.2.2.2, Value.slice (B 2).1 (B 2).2.1 (B 2).2.2.1, .slice (B 2).2.2.2.1 (B 2).2.2.2.2.1 (B 2).2.2.2.2.2, Value.slice (B 3).1 (B 3).2.1 (B 3).2.2.1, .slice (B 3).2.2.2.1 (B 3).2.2.2.2.1 (B 3).2.2.2.2.2, Value.slice (B 4).1 (B 4).2.1 (B 4).2.2.1, .slice (B 4).2.2.2.1 (B 4).2.2.2.2.1 (B 4).2.2.2.2.2] 28))
  have hz1 : w2.heap.size + 1 = (w2.alloc (.cells #[Value.slice (B 0).1 (B 0).2.1 (B 0).2.2.1, .slice (B 0).2.2.2.1 (B 0).2.2.2.2.1 (B 0).2.2.2.2.2, Value.slice (B 1).1 (B 1).2.1 (B 1).2.2.1, .slice (B 1).2.2.2.1 (B 1).2.2.2.2.1 (B 1).2.2.2.2.2, Value.slice (B 2).1 (B 2).2.1 (B 2).2.2.1, .slice (B 2).2.2.2.1 (B 2).2.2.2.2.1 (B 2).2.2.2.2.2, Value.slice (B 3).1 (B 3).2.1 (B 3).2.2.1, .slice (B 3).2.2.2.1 (B 3).2.2.2.2.1 (B 3).2.2.2.2.2, Value.slice (B 4).1 (B 4).2.1 (B 4).2.2.1, .slice (B 4).2.2.2.1 (B 4).2.2.2.2.1 (B 4).2.2.2.2.2] 28)).heap.size := by simp
  have hb3 : RowAt (w2.alloc (.cells #[Value.slice (B 0).1 (B 0).2.1 (B 0).2.2.1, .slice (B 0).2.2.2.1 (B 0).2.2.2.2.1 (B 0).2.2.2.2.2, Value.slice (B 1).1 (B 1).2.1 (B 1).2.2.1, .slice (B 1).2.2.2.1 (B 1).2.2.2.2.1 (B 1).2.2.2.2.2, Value.slice (B 2).1 (B 2).2.1 (B 2).2.2.1, .slice (B 2).2.2.2.1 (B 2).2.2.2.2.1 (B 2).2.2.2.2.2, Value.slice (B 3).1 (B 3).2.1 (B 3).2.2.1, .slice (B 3).2.2.2.1 (B 3).2.2.2.2.1 (B 3).2.2.2.2.2, Value.slice (B 4).1 (B 4).2.1 (B 4).2.2.1, .slice (B 4).2.2.2.1 (B 4).2.2.2.2.1 (B 4).2.2.2.2.2] 28)) w2.heap.size 28 (dcells (hv B)) := RowAt.new _ _ _
  have HB3 := Lib.hid hb3
  have HB4 : Hid (RowAt ((w2.alloc (.cells #[Value.slice (B 0).1 (B 0).2.1 (B 0).2.2.1, .slice (B 0).2.2.2.1 (B 0).2.2.2.2.1 (B 0).2.2.2.2.2, Value.slice (B 1).1 (B 1).2.1 (B 1).2.2.1, .slice (B 1).2.2.2.1 (B 1).2.2.2.2.1 (B 1).2.2.2.2.2, Value.slice (B 2).1 (B 2).2.1 (B 2).2.2.1, .slice (B 2).2.2.2.1 (B 2).2.2.2.2.1 (B 2).2.2.2.2.2, Value.slice (B 3).1 (B 3).2.1 (B 3).2.2.1, .slice (B 3).2.2.2.1 (B 3).2.2.2.2.1 (B 3).2.2.2.2.2, Value.slice (B 4).1 (B 4).2.1 (B 4).2.2.1, .slice (B 4).2.2.2.1 (B 4).2.2.2.2.1 (B 4).2.2.2.2.2] 28)).alloc (.cells #[Value.slice (B 0).1 (B 0).2.1 (B 0).2.2.1, .slice (B 0).2.2.2.1 (B 0).2.2.2.2.1 (B 0).2.2.2.2.2, Value.slice (B 1).1 (B 1).2.1 (B 1).2.2.1, .slice (B 1).2.2.2.1 (B 1).2.2.2.2.1 (B 1).2.2.2.2.2, Value.slice (B 2).1 (B 2).2.1 (B 2).2.2.1, .slice (B 2).2.2.2.1 (B 2).2.2.2.2.1 (B 2).2.2.2.2.2, Value.slice (B 3).1 (B 3).2.1 (B 3).2.2.1, .slice (B 3).2.2.2.1 (B 3).2.2.2.2.1 (B 3).2.2.2.2.2, Value.slice (B 4).1 (B 4).2.1 (B 4).2.2.1, .slice (B 4).2.2.2.1 (B 4).2.2.2.2.1 (B 4).2.2.2.2.2] 28)) w2.heap.size 28 (dcells (hv B))) := Lib.hid (hb3.ext (Ext.alloc _ _))
  have HZ4 : Hid (RowAt ((w2.alloc (.cells #[Value.slice (B 0).1 (B 0).2.1 (B 0).2.2.1, .slice (B 0).2.2.2.1 (B 0).2.2.2.2.1 (B 0).2.2.2.2.2, Value.slice (B 1).1 (B 1).2.1 (B 1).2.2.1, .slice (B 1).2.2.2.1 (B 1).2.2.2.2.1 (B 1).2.2.2.2.2, Value.slice (B 2).1 (B 2).2.1 (B 2).2.2.1, .slice (B 2).2.2.2.1 (B 2).2.2.2.2.1 (B 2).2.2.2.2.2, Value.slice (B 3).1 (B 3).2.1 (B 3).2.2.1, .slice (B 3).2.2.2.1 (B 3).2.2.2.2.1 (B 3).2.2.2.2.2, Value.slice (B 4).1 (B 4).2.1 (B 4).2.2.1, .slice (B 4).2.2.2.1 (B 4).2.2.2.2.1 (B 4).2.2.2.2.2] 28)).alloc (.cells #[Value.slice (B 0).1 (B 0).2.1 (B 0).2.2.1, .slice (B 0).2.2.2.1 (B 0).2.2.2.2.1 (B 0).2.2.2.2.2, Value.slice (B 1).1 (B 1).2.1 (B 1).2.2.1, .slice (B 1).2.2.2.1 (B 1).2.2.2.2.1 (B 1).2.2.2.2.2, Value.slice (B 2).1 (B 2).2.1 (B 2).2.2.1, .slice (B 2).2.2.2.1 (B 2).2.2.2.2.1 (B 2).2.2.2.2.2, Value.slice (B 3).1 (B 3).2.1 (B 3).2.2.1, .slice (B 3).2.2.2.1 (B 3).2.2.2.2.1 (B 3).2.2.2.2.2, Value.slice (B 4).1 (B 4).2.1 (B 4).2.2.1, .slice (B 4).2.2.2.1 (B 4).2.2.2.2.1 (B 4).2.2.2.2.2] 28)) (w2.heap.size + 1) 28 (dcells (hv B))) := Lib.hid (row_at (xs := dcells (hv B)) hz1.symm)
  have HV4 := Lib.hid (hown2.view.ext hx4)
  have HV2 := Lib.hid hown2.view
  have HX4 := Lib.hid hx4
  have HXW := Lib.hid (HX.out.trans hx2)
  have H1W := Lib.hid (H1.out.ext HXW.out)
  obtain ⟨y, hy⟩ : ∃ y, w2.heap.size = y := ⟨_, rfl⟩
  clear hx2 hx3 hx4 hz1 hb3 hown2 HOW HX H1
  go_upto_region 4 with fail
  obtain ⟨c0, c1, c2, c3, c4, c5, c6, c7, c8, c9⟩ := RowAt.facts10 (vs := hv B) (HB3.out)
  unfold hv at c0 c1 c2 c3 c4 c5 c6 c7 c8 c9
  dsimp only at c0 c1 c2 c3 c4 c5 c6 c7 c8 c9
  go_upto_region 5 with fail
  clear c0 c1 c2 c3 c4 c5 c6 c7 c8 c9
  clear HB3
  generalize (w2.alloc (.cells #[Value.slice (B 0).1 (B 0).2.1 (B 0).2.2.1, .slice (B 0).2.2.2.1 (B 0).2.2.2.2.1 (B 0).2.2.2.2.2, Value.slice (B 1).1 (B 1).2.1 (B 1).2.2.1, .slice (B 1).2.2.2.1 (B 1).2.2.2.2.1 (B 1).2.2.2.2.2, Value.slice (B 2).1 (B 2).2.1 (B 2).2.2.1, .slice (B 2).2.2.2.1 (B 2).2.2.2.2.1 (B 2).2.2.2.2.2, Value.slice (B 3).1 (B 3).2.1 (B 3).2.2.1, .slice (B 3).2.2.2.1 (B 3).2.2.2.2.1 (B 3).2.2.2.2.2, Value.slice (B 4).1 (B 4).2.1 (B 4).2.2.1, .slice (B 4).2.2.2.1 (B 4).2.2.2.2.1 (B 4).2.2.2.2.2] 28)).alloc (.cells #[Value.slice (B 0).1 (B 0).2.1 (B 0).2.2.1, .slice (B 0).2.2.2.1 (B 0).2.2.2.2.1 (B 0).2.2.2.2.2, Value.slice (B 1).1 (B 1).2.1 (B 1).2.2.1, .slice (B 1).2.2.2.1 (B 1).2.2.2.2.1 (B 1).2.2.2.2.2, Value.slice (B 2).1 (B 2).2.1 (B 2).2.2.1, .slice (B 2).2.2.2.1 (B 2).2.2.2.2.1 (B 2).2.2.2.2.2, Value.slice (B 3).1 (B 3).2.1 (B 3).2.2.1, .slice (B 3).2.2.2.1 (B 3).2.2.2.2.1 (B 3).2.2.2.2.2, Value.slice (B 4).1 (B 4).2.1 (B 4).2.2.1, .slice (B 4).2.2.2.1 (B 4).2.2.2.2.1 (B 4).2.2.2.2.2] 28) = w4 at *
  rw [hy] at HB4 HZ4
  try simp only [hy]
  have HY := Lib.hid hy
  clear hy
  obtain ⟨r, hr⟩ : ∃ r : Bool, r = true ↔ DicOK (cutD D) := by
    by_cases h : DicOK (cutD D)
    · exact ⟨true, fun _ => h, fun _ => rfl⟩
    · exact ⟨false, fun h => (by cases h), fun h2 => absurd h2 h⟩
  have hsz : ∀ i, i < 5 → (cutD D i).2.length ≤ 4096 := fun i hi => by unfold cutD; simp; omega
  have hki : KeI w2 y (y + 1) B r (cutD D) kind B (cutD D) w4 := ⟨HX4.out, HZ4.out, HB4.out, HV4.out, hr, HSZ.out, fun _ => hsz, fun k hk => ⟨[], by simp, fun _ => rfl⟩⟩
  have HKI := Lib.hid hki
  have HR := Lib.hid hr
  clear hr hsz hki HB4 HZ4 HX4
  go_wp2_with fail
  go_loopg [9, 10, 35] L.length (fun g s9 s10 i wi => ∃ j : Nat, j ≤ L.length ∧ g = L.length - j ∧ i = .int .i64 j ∧ Hid (∃ C E, KeI w2 y (y + 1) B r (cutD D) kind C E wi))
  case atStart => exact ⟨0, Nat.zero_le _, rfl, rfl, Lib.hid ⟨_, _, HKI.out⟩⟩
  case round =>
    obtain ⟨j, hj, hg, rfl, hk⟩ := hrel
    obtain ⟨C, E, hk⟩ := hk.out
    have Hg := Lib.hid hg
    have HK := Lib.hid hk
    clear hg hk HKI
    by_cases hl : j < L.length
    · obtain ⟨b3, o3, rfl, hc3⟩ := (H1W.out.ext HK.out.ext).at_ hl
      by_cases h6 : j = 6
      · have he6 : ((j : Int) == 6) = true := by simp [h6]
        clear h6
        go_wp2_with fail
        obtain ⟨wm, hwn⟩ : ∃ x, x = wr := ⟨_, rfl⟩
        subst hwn
        have HXm := Lib.hid (HXW.out.trans HK.out.ext)
        clear Hg HLS H1W
        go_loopg [113] 5 (fun g i wi => ∃ k : Nat, k ≤ 5 ∧ g = 5 - k ∧ i = .int .i64 k ∧ Ext wm wi)
        case atStart => exact ⟨0, Nat.zero_le _, rfl, rfl, Ext.refl _⟩
        case round =>
          obtain ⟨k, hk5, hg, rfl, hxr⟩ := hrel
          have Hg2 := Lib.hid hg
          have HKr := Lib.hid (HK.out.grow hxr)
          have HXr := Lib.hid hxr
          clear hg hxr HK
          by_cases hlk : k < 5
          · obtain ⟨l2, hp1, hp2⟩ := HKr.out.pre k hlk
            have HP1 := Lib.hid hp1
            have HP2 := Lib.hid hp2
            clear hp1 hp2
            go_upto_region 21 with fail
            refine wp_region_gro groK21 [0, 1, 3, 4, 2, 5, 6, 7] hmo (by kernel_rfl) rfl (by kernel_rfl) (fun _ _ _ _ _ h => h) ?_
            have hdr : Ext wr wr.drew := Ext.drewN wr 1
            have HKG := Lib.hid (HKr.out.grow hdr)
            have HXG := Lib.hid (HXr.out.trans hdr)
            clear hdr HKr HXr
            generalize wr.drew = wg at *
            obtain ⟨c0, c1, c2, c3, c4, c5, c6, c7, c8, c9⟩ := RowAt.facts10 (vs := hv B) (HKG.out.was)
            unfold hv at c0 c1 c2 c3 c4 c5 c6 c7 c8 c9
            dsimp only at c0 c1 c2 c3 c4 c5 c6 c7 c8 c9
            obtain ⟨e0, e1, e2, e3, e4, e5, e6, e7, e8, e9⟩ := RowAt.facts10 (vs := hv C) (HKG.out.cur)
            unfold hv at e0 e1 e2 e3 e4 e5 e6 e7 e8 e9
            dsimp only at e0 e1 e2 e3 e4 e5 e6 e7 e8 e9
            have hcon := tellNames r (hv B) (cutD D) wg (HV2.out.ext HKG.out.ext) HSZ.out HR.out (k : Int)
            try unfold dv at hcon
            try unfold nv at hcon
            try unfold dcells at hcon
            try unfold ncells at hcon
            try unfold nsA at hcon
            try unfold ofV at hcon
            try unfold noV at hcon
            try unfold noN at hcon
            try unfold hv at hcon
            try dsimp only at hcon
            have HN1 := Lib.hid hcon
            clear hcon
            repeat (first
              | (refine groL_pure rfl rfl ?_; intro K hK; go_simp; refine hK _ ?_; clear hK K)
              | (refine groL_read rfl rfl ?_; intro K S hS hK; go_simp; refine hK _ ?_; clear hK K hS S)
              | (refine groL_read rfl rfl ?_; intro K S hS hK; go_simp; refine ⟨hS _ ?_, hK _ ?_⟩; (clear hK K hS S; intro w' hx'; have hce := ext_some hx'; go_simp); clear hK K hS S)
              | (refine groL_write rfl rfl ?_; intro K hK; go_simp; refine hK _ _ ?_; clear hK K))
            refine groL_grow rfl rfl ?_
            intro K hK
            go_simp
            (refine HN1.out.mono ?_; rintro e wa ⟨u1, rfl, hu1, hxa⟩)
            go_simp
            refine hK _ _ ⟨hxa, ?_⟩
            clear hK K
            clear c0 c1 c2 c3 c4 c5 c6 c7 c8 c9
            clear e0 e1 e2 e3 e4 e5 e6 e7 e8 e9
            have hcon := tellNames r (hv C) E wa (HKG.out.view.ext hxa) HKG.out.s HKG.out.ok (k : Int)
            try unfold dv at hcon
            try unfold nv at hcon
            try unfold dcells at hcon
            try unfold ncells at hcon
            try unfold nsA at hcon
            try unfold ofV at hcon
            try unfold noV at hcon
            try unfold noN at hcon
            try unfold hv at hcon
            try dsimp only at hcon
            have HN2 := Lib.hid hcon
            clear hcon
            repeat (first
              | (refine groL_pure rfl rfl ?_; intro K hK; go_simp; refine hK _ ?_; clear hK K)
              | (refine groL_read rfl rfl ?_; intro K S hS hK; go_simp; refine hK _ ?_; clear hK K hS S)
              | (refine groL_read rfl rfl ?_; intro K S hS hK; go_simp; refine ⟨hS _ ?_, hK _ ?_⟩; (clear hK K hS S; intro w' hx'; have hce := ext_some hx'; go_simp); clear hK K hS S)
              | (refine groL_write rfl rfl ?_; intro K hK; go_simp; refine hK _ _ ?_; clear hK K))
            refine groL_grow rfl rfl ?_
            intro K hK
            go_simp
            (refine HN2.out.mono ?_; rintro e wb ⟨u2, rfl, hu2, hxb⟩)
            go_simp
            refine hK _ _ ⟨hxb, ?_⟩
            clear hK K
            repeat (first
              | (refine groL_pure rfl rfl ?_; intro K hK; go_simp; refine hK _ ?_; clear hK K)
              | (refine groL_read rfl rfl ?_; intro K S hS hK; go_simp; refine hK _ ?_; clear hK K hS S)
              | (refine groL_read rfl rfl ?_; intro K S hS hK; go_simp; refine ⟨hS _ ?_, hK _ ?_⟩; (clear hK K hS S; intro w' hx'; have hce := ext_some hx'; go_simp); clear hK K hS S)
              | (refine groL_write rfl rfl ?_; intro K hK; go_simp; refine hK _ _ ?_; clear hK K))
            refine groL_nil ?_
            have HKB := Lib.hid (HKG.out.grow (hxa.trans hxb))
            have HXB := Lib.hid (HXG.out.trans (hxa.trans hxb))
            have hu1' := own_ext hu1 hxb
            obtain ⟨au1, cu1, rfl⟩ := own_sl hu1'
            obtain ⟨au2, cu2, rfl⟩ := own_sl hu2
            have HS1 := Lib.hid (show Strs wb _ (allN (seenN r (cutD D)) (k : Int)) from Sl.of_own hu1')
            have HS2 := Lib.hid (show Strs wb _ (allN (seenN r E) (k : Int)) from Sl.of_own hu2)
            clear hu1 hu1' hu2 hxa hxb HN1 HN2 HKG HXG
            have HIDS := Lib.hid (fun m hm w' (hx : Ext wb w') => keepIds r (hv C) E w' (HKB.out.view.ext hx) HKB.out.s HKB.out.ok hlk m hm)
            have hlen := keepLen r HKB.out.ok.1 hlk
            have hcu2 : (allN (seenN r E) (k : Int)).length ≤ cu2 ∧ cu2 ≤ 9223372036854775807 := by obtain ⟨_, _, e, h1, h2⟩ := Sl.shape HS2.out; simp only [Value.slice.injEq] at e; omega
            generalize allN (seenN r E) (k : Int) = T2 at *
            generalize allN (seenN r (cutD D)) (k : Int) = T1 at *
            have hle : T1.length ≤ T2.length := by have := congrArg List.length HP1.out; simp at this; omega
            have HSt : Hid (Strs wb (.slice au2 T1.length cu2) T1) := Lib.hid (by
              have h := Strs.take HS2.out T1.length hle
              rw [show T2.take T1.length = T1 from by rw [HP1.out]; simp] at h
              exact h)
            have HEQ := Lib.hid (ext_of_drew (equalS_yes _ _ _ _ wb HSt.out HS1.out rfl))
            have HNE : Hid ((k : Int) ≠ kind → T1.length = T2.length) := Lib.hid (fun h => by have := congrArg List.length HP1.out; rw [HP2.out h] at this; simpa using this.symm)
            obtain ⟨t1, ht1⟩ : ∃ x, T1.length = x := ⟨_, rfl⟩
            obtain ⟨t2, ht2⟩ : ∃ x, T2.length = x := ⟨_, rfl⟩
            rw [ht1] at HEQ HSt hle HNE ⊢
            rw [ht2] at hle hlen hcu2 HNE ⊢
            have HT2 := Lib.hid ht2
            clear ht1 ht2
            obtain ⟨hcu3, hcu4⟩ := hcu2
            have hnl : ¬ (t2 < t1) := by omega
            have hnm : ¬ (128 < t2) := by omega
            clear HSt HS1 HP1 HP2
            by_cases hkk : (k : Int) = kind
            · subst hkk
              clear HNE
              go_wp2_with fail
              refine HEQ.out.mono ?_
              rintro e wc ⟨rfl, hxc⟩
              have HXC := Lib.hid hxc
              clear hxc HEQ
              go_wp2_with fail
              go_loopg [24, 25, 155] T2.length (fun g s24 s25 i wi => ∃ m : Nat, m ≤ T2.length ∧ g = T2.length - m ∧ i = .int .i64 m ∧ Ext wb wi)
              case atStart => exact ⟨0, Nat.zero_le _, rfl, rfl, HXC.out⟩
              case round =>
                obtain ⟨m, hm, hgm, rfl, hxm⟩ := hrel
                have Hgm := Lib.hid hgm
                have HXm2 := Lib.hid hxm
                clear hgm hxm
                by_cases hlm : m < T2.length
                · obtain ⟨b5, o5, rfl, hc5⟩ := (HS2.out.ext HXm2.out).at_ hlm
                  have hmt : m < t2 := by have := HT2.out; omega
                  obtain ⟨c0, c1, c2, c3, c4, c5, c6, c7, c8, c9⟩ := RowAt.facts10 (vs := hv C) ((HKB.out.cur.ext HXm2.out))
                  unfold hv at c0 c1 c2 c3 c4 c5 c6 c7 c8 c9
                  dsimp only at c0 c1 c2 c3 c4 c5 c6 c7 c8 c9
                  have hcon := HIDS.out m hlm wr HXm2.out
                  try unfold dv at hcon
                  try unfold nv at hcon
                  try unfold dcells at hcon
                  try unfold ncells at hcon
                  try unfold nsA at hcon
                  try unfold ofV at hcon
                  try unfold noV at hcon
                  try unfold noN at hcon
                  try unfold hv at hcon
                  try dsimp only at hcon
                  have HID := Lib.hid hcon
                  clear hcon
                  generalize T2[m] = s5 at *
                  go_wp2_with fail
                  refine HID.out.mono ?_
                  rintro e wd ⟨rfl, hxd⟩
                  clear c0 c1 c2 c3 c4 c5 c6 c7 c8 c9
                  go_wp2_with fail
                  go_roundg (T2.length - (m + 1))
                  case measure => have := Hgm.out; omega
                  case rel => exact ⟨m + 1, by omega, rfl, by go_num, HXm2.out.trans hxd⟩
                · have hmt : ¬ m < t2 := by have := HT2.out; omega
                  go_wp2_with fail
                  go_roundg (5 - (k + 1))
                  case measure => have := Hg2.out; omega
                  case rel => exact ⟨k + 1, by omega, rfl, by go_num, HXB.out.trans HXm2.out⟩
            · obtain rfl : t2 = t1 := (HNE.out hkk).symm
              have hkb : ((k : Int) == kind) = false := by simp; exact hkk
              have hkc : ((k : Int) != kind) = true := by simp; exact hkk
              clear hkk
              clear HNE
              go_wp2_with fail
              refine HEQ.out.mono ?_
              rintro e wc ⟨rfl, hxc⟩
              have HXC := Lib.hid hxc
              clear hxc HEQ
              go_wp2_with fail
              go_loopg [24, 25, 155] T2.length (fun g s24 s25 i wi => ∃ m : Nat, m ≤ T2.length ∧ g = T2.length - m ∧ i = .int .i64 m ∧ Ext wb wi)
              case atStart => exact ⟨0, Nat.zero_le _, rfl, rfl, HXC.out⟩
              case round =>
                obtain ⟨m, hm, hgm, rfl, hxm⟩ := hrel
                have Hgm := Lib.hid hgm
                have HXm2 := Lib.hid hxm
                clear hgm hxm
                by_cases hlm : m < T2.length
                · obtain ⟨b5, o5, rfl, hc5⟩ := (HS2.out.ext HXm2.out).at_ hlm
                  have hmt : m < t2 := by have := HT2.out; omega
                  obtain ⟨c0, c1, c2, c3, c4, c5, c6, c7, c8, c9⟩ := RowAt.facts10 (vs := hv C) ((HKB.out.cur.ext HXm2.out))
                  unfold hv at c0 c1 c2 c3 c4 c5 c6 c7 c8 c9
                  dsimp only at c0 c1 c2 c3 c4 c5 c6 c7 c8 c9
                  have hcon := HIDS.out m hlm wr HXm2.out
                  try unfold dv at hcon
                  try unfold nv at hcon
                  try unfold dcells at hcon
                  try unfold ncells at hcon
                  try unfold nsA at hcon
                  try unfold ofV at hcon
                  try unfold noV at hcon
                  try unfold noN at hcon
                  try unfold hv at hcon
                  try dsimp only at hcon
                  have HID := Lib.hid hcon
                  clear hcon
                  generalize T2[m] = s5 at *
                  go_wp2_with fail
                  refine HID.out.mono ?_
                  rintro e wd ⟨rfl, hxd⟩
                  clear c0 c1 c2 c3 c4 c5 c6 c7 c8 c9
                  go_wp2_with fail
                  go_roundg (T2.length - (m + 1))
                  case measure => have := Hgm.out; omega
                  case rel => exact ⟨m + 1, by omega, rfl, by go_num, HXm2.out.trans hxd⟩
                · have hmt : ¬ m < t2 := by have := HT2.out; omega
                  go_wp2_with fail
                  go_roundg (5 - (k + 1))
                  case measure => have := Hg2.out; omega
                  case rel => exact ⟨k + 1, by omega, rfl, by go_num, HXB.out.trans HXm2.out⟩
          · go_wp2_with fail
            go_ret
            exact ⟨rfl, HXm.out.trans HXr.out⟩
      · have hne : ((j : Int) == 6) = false := by simp; omega
        have hs3 := HLS.out _ (List.getElem_mem hl)
        generalize L[j] = s at *
        obtain ⟨c0, c1, c2, c3, c4, c5, c6, c7, c8, c9⟩ := RowAt.facts10 (vs := hv C) (HK.out.cur)
        unfold hv at c0 c1 c2 c3 c4 c5 c6 c7 c8 c9
        dsimp only at c0 c1 c2 c3 c4 c5 c6 c7 c8 c9
        cases r with
        | false =>
          have hcon := dPut_no (hv C) kind s wr HK.out.view HK.out.s hs3 (fun h => by have := HK.out.ok.2 h; cases this)
          try unfold dv at hcon
          try unfold nv at hcon
          try unfold dcells at hcon
          try unfold ncells at hcon
          try unfold nsA at hcon
          try unfold ofV at hcon
          try unfold noV at hcon
          try unfold noN at hcon
          try unfold hv at hcon
          try dsimp only at hcon
          have HPT := Lib.hid hcon
          clear hcon
          go_wp2_with fail
          refine HPT.out.mono ?_
          rintro e w5 ⟨rfl, hx5⟩
          clear c0 c1 c2 c3 c4 c5 c6 c7 c8 c9
          have hxx := hx5.trans (Ext.alloc w5 (.cells #[.slice none 0 0, .slice none 0 0, .slice none 0 0, .slice none 0 0, .slice none 0 0, .slice none 0 0, .slice none 0 0, .slice none 0 0, .slice none 0 0, .slice none 0 0] 28))
          have HKN := Lib.hid (HK.out.grow hxx)
          clear hx5 hxx
          go_wp2_with fail
          go_roundg (L.length - (j + 1))
          case measure => have := Hg.out; omega
          case rel => exact ⟨j + 1, by omega, rfl, by go_num, Lib.hid ⟨_, _, HKN.out⟩⟩
        | true =>
          cases hpt : putD E kind s with
          | error c =>
            have hcon := dPut_err hpt (hv C) wr HK.out.view HK.out.s hs3 (HK.out.ok.1 rfl)
            try unfold dv at hcon
            try unfold nv at hcon
            try unfold dcells at hcon
            try unfold ncells at hcon
            try unfold nsA at hcon
            try unfold ofV at hcon
            try unfold noV at hcon
            try unfold noN at hcon
            try unfold hv at hcon
            try dsimp only at hcon
            have HPT := Lib.hid hcon
            clear hcon
            rcases putD_err hpt with rfl | rfl
            all_goals
              clear hpt
              go_wp2_with fail
              refine HPT.out.mono ?_
              rintro e w5 ⟨rfl, hx5⟩
              clear c0 c1 c2 c3 c4 c5 c6 c7 c8 c9
              have hxx := hx5.trans (Ext.alloc w5 (.cells #[.slice none 0 0, .slice none 0 0, .slice none 0 0, .slice none 0 0, .slice none 0 0, .slice none 0 0, .slice none 0 0, .slice none 0 0, .slice none 0 0, .slice none 0 0] 28))
              have HKN := Lib.hid (HK.out.grow hxx)
              clear hx5 hxx
              go_wp2_with fail
              go_roundg (L.length - (j + 1))
              case measure => have := Hg.out; omega
              case rel => exact ⟨j + 1, by omega, rfl, by go_num, Lib.hid ⟨_, _, HKN.out⟩⟩
          | ok q =>
            obtain ⟨E', n⟩ := q
            obtain ⟨k, m, hp1⟩ := putD_is (HK.out.ok.1 rfl) (HK.out.sz rfl) hpt
            have HP := Lib.hid hp1
            have hn0 : 0 ≤ n := by have := hp1.id; omega
            have hcon := dPut_ok hpt (hv C) wr HK.out.view HK.out.s hs3 (HK.out.ok.1 rfl)
            try unfold dv at hcon
            try unfold nv at hcon
            try unfold dcells at hcon
            try unfold ncells at hcon
            try unfold nsA at hcon
            try unfold ofV at hcon
            try unfold noV at hcon
            try unfold noN at hcon
            try unfold hv at hcon
            try dsimp only at hcon
            have HPT := Lib.hid hcon
            clear hcon
            clear hpt hp1
            go_wp2_with fail
            refine HPT.out.mono ?_
            rintro e w5 ⟨F, rfl, ho5, hx5⟩
            clear c0 c1 c2 c3 c4 c5 c6 c7 c8 c9
            have hyw : y < wr.heap.size := HK.out.cur.lt
            have hx5' := Ext.alloc w5 (.cells #[Value.slice (F 0).1 (F 0).2.1 (F 0).2.2.1, .slice (F 0).2.2.2.1 (F 0).2.2.2.2.1 (F 0).2.2.2.2.2, Value.slice (F 1).1 (F 1).2.1 (F 1).2.2.1, .slice (F 1).2.2.2.1 (F 1).2.2.2.2.1 (F 1).2.2.2.2.2, Value.slice (F 2).1 (F 2).2.1 (F 2).2.2.1, .slice (F 2).2.2.2.1 (F 2).2.2.2.2.1 (F 2).2.2.2.2.2, Value.slice (F 3).1 (F 3).2.1 (F 3).2.2.1, .slice (F 3).2.2.2.1 (F 3).2.2.2.2.1 (F 3).2.2.2.2.2, Value.slice (F 4).1 (F 4).2.1 (F 4).2.2.1, .slice (F 4).2.2.2.1 (F 4).2.2.2.2.1 (F 4).2.2.2.2.2] 28)
            have HF : Hid (RowAt (w5.alloc (.cells #[Value.slice (F 0).1 (F 0).2.1 (F 0).2.2.1, .slice (F 0).2.2.2.1 (F 0).2.2.2.2.1 (F 0).2.2.2.2.2, Value.slice (F 1).1 (F 1).2.1 (F 1).2.2.1, .slice (F 1).2.2.2.1 (F 1).2.2.2.2.1 (F 1).2.2.2.2.2, Value.slice (F 2).1 (F 2).2.1 (F 2).2.2.1, .slice (F 2).2.2.2.1 (F 2).2.2.2.2.1 (F 2).2.2.2.2.2, Value.slice (F 3).1 (F 3).2.1 (F 3).2.2.1, .slice (F 3).2.2.2.1 (F 3).2.2.2.2.1 (F 3).2.2.2.2.2, Value.slice (F 4).1 (F 4).2.1 (F 4).2.2.1, .slice (F 4).2.2.2.1 (F 4).2.2.2.2.1 (F 4).2.2.2.2.2] 28)) w5.heap.size 28 (dcells (hv F))) := Lib.hid (RowAt.new _ _ _)
            have HO := Lib.hid (DicOwn.ext ho5 hx5')
            have HX6 := Lib.hid (hx5.trans hx5')
            obtain ⟨x, hx⟩ : ∃ x, w5.heap.size = x := ⟨_, rfl⟩
            have hyx : y < x := by have := hx5.size; omega
            clear ho5 hx5 hx5' HPT
            go_upto_region 11 with fail
            generalize w5.alloc (.cells #[Value.slice (F 0).1 (F 0).2.1 (F 0).2.2.1, .slice (F 0).2.2.2.1 (F 0).2.2.2.2.1 (F 0).2.2.2.2.2, Value.slice (F 1).1 (F 1).2.1 (F 1).2.2.1, .slice (F 1).2.2.2.1 (F 1).2.2.2.2.1 (F 1).2.2.2.2.2, Value.slice (F 2).1 (F 2).2.1 (F 2).2.2.1, .slice (F 2).2.2.2.1 (F 2).2.2.2.2.1 (F 2).2.2.2.2.2, Value.slice (F 3).1 (F 3).2.1 (F 3).2.2.1, .slice (F 3).2.2.2.1 (F 3).2.2.2.2.1 (F 3).2.2.2.2.2, Value.slice (F 4).1 (F 4).2.1 (F 4).2.2.1, .slice (F 4).2.2.2.1 (F 4).2.2.2.2.1 (F 4).2.2.2.2.2] 28) = w6 at *
            rw [hx] at HF
            try simp only [hx]
            clear hx
            have hnm := name_yes (hv F) E' w6 HO.out.view (HP.out.ok.sizes HP.out.sz) HP.out.ok kind n
            rw [HP.out.name] at hnm
            have hcon := hnm
            try unfold dv at hcon
            try unfold nv at hcon
            try unfold dcells at hcon
            try unfold ncells at hcon
            try unfold nsA at hcon
            try unfold ofV at hcon
            try unfold noV at hcon
            try unfold noN at hcon
            try unfold hv at hcon
            try dsimp only at hcon
            have HNM := Lib.hid hcon
            clear hcon
            clear hnm
            obtain ⟨c0, c1, c2, c3, c4, c5, c6, c7, c8, c9⟩ := RowAt.facts10 (vs := hv F) (HF.out)
            unfold hv at c0 c1 c2 c3 c4 c5 c6 c7 c8 c9
            dsimp only at c0 c1 c2 c3 c4 c5 c6 c7 c8 c9
            go_wp2_with fail
            refine HNM.out.mono ?_
            rintro e w7 ⟨rfl, hx7⟩
            clear c0 c1 c2 c3 c4 c5 c6 c7 c8 c9
            replace HF := Lib.hid (HF.out.ext hx7)
            replace HO := Lib.hid (DicOwn.ext HO.out hx7)
            replace HX6 := Lib.hid (HX6.out.trans hx7)
            have hcon := dPut_ok HP.out.again (hv F) w7 HO.out.view (HP.out.ok.sizes HP.out.sz) hs3 HP.out.ok
            try unfold dv at hcon
            try unfold nv at hcon
            try unfold dcells at hcon
            try unfold ncells at hcon
            try unfold nsA at hcon
            try unfold ofV at hcon
            try unfold noV at hcon
            try unfold noN at hcon
            try unfold hv at hcon
            try dsimp only at hcon
            have HPA := Lib.hid hcon
            clear hcon
            obtain ⟨c0, c1, c2, c3, c4, c5, c6, c7, c8, c9⟩ := RowAt.facts10 (vs := hv F) (HF.out)
            unfold hv at c0 c1 c2 c3 c4 c5 c6 c7 c8 c9
            dsimp only at c0 c1 c2 c3 c4 c5 c6 c7 c8 c9
            clear hx7 HNM
            go_wp2_with fail
            refine HPA.out.mono ?_
            rintro e w8 ⟨G, rfl, ho8, hx8⟩
            clear c0 c1 c2 c3 c4 c5 c6 c7 c8 c9
            have hx8' := Ext.alloc w8 (.cells #[Value.slice (G 0).1 (G 0).2.1 (G 0).2.2.1, .slice (G 0).2.2.2.1 (G 0).2.2.2.2.1 (G 0).2.2.2.2.2, Value.slice (G 1).1 (G 1).2.1 (G 1).2.2.1, .slice (G 1).2.2.2.1 (G 1).2.2.2.2.1 (G 1).2.2.2.2.2, Value.slice (G 2).1 (G 2).2.1 (G 2).2.2.1, .slice (G 2).2.2.2.1 (G 2).2.2.2.2.1 (G 2).2.2.2.2.2, Value.slice (G 3).1 (G 3).2.1 (G 3).2.2.1, .slice (G 3).2.2.2.1 (G 3).2.2.2.2.1 (G 3).2.2.2.2.2, Value.slice (G 4).1 (G 4).2.1 (G 4).2.2.1, .slice (G 4).2.2.2.1 (G 4).2.2.2.2.1 (G 4).2.2.2.2.2] 28)
            have HG : Hid (RowAt (w8.alloc (.cells #[Value.slice (G 0).1 (G 0).2.1 (G 0).2.2.1, .slice (G 0).2.2.2.1 (G 0).2.2.2.2.1 (G 0).2.2.2.2.2, Value.slice (G 1).1 (G 1).2.1 (G 1).2.2.1, .slice (G 1).2.2.2.1 (G 1).2.2.2.2.1 (G 1).2.2.2.2.2, Value.slice (G 2).1 (G 2).2.1 (G 2).2.2.1, .slice (G 2).2.2.2.1 (G 2).2.2.2.2.1 (G 2).2.2.2.2.2, Value.slice (G 3).1 (G 3).2.1 (G 3).2.2.1, .slice (G 3).2.2.2.1 (G 3).2.2.2.2.1 (G 3).2.2.2.2.2, Value.slice (G 4).1 (G 4).2.1 (G 4).2.2.1, .slice (G 4).2.2.2.1 (G 4).2.2.2.2.1 (G 4).2.2.2.2.2] 28)) w8.heap.size 28 (dcells (hv G))) := Lib.hid (RowAt.new _ _ _)
            have HGV := Lib.hid (ho8.view.ext hx8')
            have hx9 := hx8.trans hx8'
            replace HF := Lib.hid (HF.out.ext hx9)
            replace HO := Lib.hid (DicOwn.ext HO.out hx9)
            replace HX6 := Lib.hid (HX6.out.trans hx9)
            obtain ⟨x8, hx⟩ : ∃ x, w8.heap.size = x := ⟨_, rfl⟩
            clear ho8 hx8 hx8' HPA hx9
            go_upto_region 13 with fail
            generalize w8.alloc (.cells #[Value.slice (G 0).1 (G 0).2.1 (G 0).2.2.1, .slice (G 0).2.2.2.1 (G 0).2.2.2.2.1 (G 0).2.2.2.2.2, Value.slice (G 1).1 (G 1).2.1 (G 1).2.2.1, .slice (G 1).2.2.2.1 (G 1).2.2.2.2.1 (G 1).2.2.2.2.2, Value.slice (G 2).1 (G 2).2.1 (G 2).2.2.1, .slice (G 2).2.2.2.1 (G 2).2.2.2.2.1 (G 2).2.2.2.2.2, Value.slice (G 3).1 (G 3).2.1 (G 3).2.2.1, .slice (G 3).2.2.2.1 (G 3).2.2.2.2.1 (G 3).2.2.2.2.2, Value.slice (G 4).1 (G 4).2.1 (G 4).2.2.1, .slice (G 4).2.2.2.1 (G 4).2.2.2.2.1 (G 4).2.2.2.2.2] 28) = w9 at *
            rw [hx] at HG
            try simp only [hx]
            clear hx
            have hid := id_yes (hv F) E' w9 HO.out.view (HP.out.ok.sizes HP.out.sz) HP.out.ok kind s hs3
            rw [HP.out.idf, show idRes n = .returned (.tuple #[.int .i64 n, .bool true]) from by unfold idRes; rw [Int.max_eq_left hn0, decide_eq_true hn0]] at hid
            have hcon := hid
            try unfold dv at hcon
            try unfold nv at hcon
            try unfold dcells at hcon
            try unfold ncells at hcon
            try unfold nsA at hcon
            try unfold ofV at hcon
            try unfold noV at hcon
            try unfold noN at hcon
            try unfold hv at hcon
            try dsimp only at hcon
            have HID := Lib.hid hcon
            clear hcon
            clear hid
            obtain ⟨c0, c1, c2, c3, c4, c5, c6, c7, c8, c9⟩ := RowAt.facts10 (vs := hv F) (HF.out)
            unfold hv at c0 c1 c2 c3 c4 c5 c6 c7 c8 c9
            dsimp only at c0 c1 c2 c3 c4 c5 c6 c7 c8 c9
            go_wp2_with fail
            refine HID.out.mono ?_
            rintro e w10 ⟨rfl, hx10⟩
            clear c0 c1 c2 c3 c4 c5 c6 c7 c8 c9
            replace HF := Lib.hid (HF.out.ext hx10)
            replace HO := Lib.hid (DicOwn.ext HO.out hx10)
            replace HX6 := Lib.hid (HX6.out.trans hx10)
            replace HG := Lib.hid (HG.out.ext hx10)
            replace HGV := Lib.hid (HGV.out.ext hx10)
            have hsm := dsame_any (hv G) (hv F) (upd E' k (E' k)) E' w10 HGV.out HO.out.view
            rw [HP.out.same] at hsm
            have hcon := hsm
            try unfold dv at hcon
            try unfold nv at hcon
            try unfold dcells at hcon
            try unfold ncells at hcon
            try unfold nsA at hcon
            try unfold ofV at hcon
            try unfold noV at hcon
            try unfold noN at hcon
            try unfold hv at hcon
            try dsimp only at hcon
            have HSM := Lib.hid hcon
            clear hcon
            clear hsm hx10 HID
            have hmy := fun w' => may_any kind s w' hs3
            rw [HP.out.may] at hmy
            have HMY := Lib.hid hmy
            clear hmy
            obtain ⟨c0, c1, c2, c3, c4, c5, c6, c7, c8, c9⟩ := RowAt.facts10 (vs := hv G) (HG.out)
            unfold hv at c0 c1 c2 c3 c4 c5 c6 c7 c8 c9
            dsimp only at c0 c1 c2 c3 c4 c5 c6 c7 c8 c9
            obtain ⟨e0, e1, e2, e3, e4, e5, e6, e7, e8, e9⟩ := RowAt.facts10 (vs := hv F) (HF.out)
            unfold hv at e0 e1 e2 e3 e4 e5 e6 e7 e8 e9
            dsimp only at e0 e1 e2 e3 e4 e5 e6 e7 e8 e9
            go_wp2_with fail
            refine HSM.out.mono ?_
            rintro e w11 ⟨rfl, hx11⟩
            clear c0 c1 c2 c3 c4 c5 c6 c7 c8 c9
            clear e0 e1 e2 e3 e4 e5 e6 e7 e8 e9
            replace HF := Lib.hid (HF.out.ext hx11)
            replace HO := Lib.hid (DicOwn.ext HO.out hx11)
            replace HX6 := Lib.hid (HX6.out.trans hx11)
            clear hx11 HSM HG HGV
            go_wp2_with fail
            refine (HMY.out _).mono ?_
            rintro e w12 ⟨rfl, hx12⟩
            replace HF := Lib.hid (HF.out.ext hx12)
            replace HO := Lib.hid (DicOwn.ext HO.out hx12)
            replace HX6 := Lib.hid (HX6.out.trans hx12)
            clear hx12 HMY
            obtain ⟨e0, e1, e2, e3, e4, e5, e6, e7, e8, e9⟩ := RowAt.facts10 (vs := hv F) (HF.out)
            unfold hv at e0 e1 e2 e3 e4 e5 e6 e7 e8 e9
            dsimp only at e0 e1 e2 e3 e4 e5 e6 e7 e8 e9
            obtain ⟨c0, c1, c2, c3, c4, c5, c6, c7, c8, c9⟩ := RowAt.facts10 (vs := hv C) ((HK.out.cur.ext HX6.out))
            unfold hv at c0 c1 c2 c3 c4 c5 c6 c7 c8 c9
            dsimp only at c0 c1 c2 c3 c4 c5 c6 c7 c8 c9
            obtain ⟨g0, g1, g2, g3, g4, g5, g6, g7, g8, g9⟩ := (HK.out.cur.ext HX6.out).facts10f
            go_wp2_with fail
            rw [set10]
            clear c0 c1 c2 c3 c4 c5 c6 c7 c8 c9
            clear e0 e1 e2 e3 e4 e5 e6 e7 e8 e9
            clear g0 g1 g2 g3 g4 g5 g6 g7 g8 g9
            have HKN := Lib.hid (HK.out.put HP.out HX6.out (by omega) (by have := HY.out; omega) hyw HO.out)
            go_roundg (L.length - (j + 1))
            case measure => have := Hg.out; omega
            case rel => exact ⟨j + 1, by omega, rfl, by go_num, Lib.hid ⟨_, _, HKN.out⟩⟩
    · go_wp2_with fail
      obtain ⟨wm, hwn⟩ : ∃ x, x = wr := ⟨_, rfl⟩
      subst hwn
      have HXm := Lib.hid (HXW.out.trans HK.out.ext)
      clear Hg HLS H1W
      go_loopg [113] 5 (fun g i wi => ∃ k : Nat, k ≤ 5 ∧ g = 5 - k ∧ i = .int .i64 k ∧ Ext wm wi)
      case atStart => exact ⟨0, Nat.zero_le _, rfl, rfl, Ext.refl _⟩
      case round =>
        obtain ⟨k, hk5, hg, rfl, hxr⟩ := hrel
        have Hg2 := Lib.hid hg
        have HKr := Lib.hid (HK.out.grow hxr)
        have HXr := Lib.hid hxr
        clear hg hxr HK
        by_cases hlk : k < 5
        · obtain ⟨l2, hp1, hp2⟩ := HKr.out.pre k hlk
          have HP1 := Lib.hid hp1
          have HP2 := Lib.hid hp2
          clear hp1 hp2
          go_upto_region 21 with fail
          refine wp_region_gro groK21 [0, 1, 3, 4, 2, 5, 6, 7] hmo (by kernel_rfl) rfl (by kernel_rfl) (fun _ _ _ _ _ h => h) ?_
          have hdr : Ext wr wr.drew := Ext.drewN wr 1
          have HKG := Lib.hid (HKr.out.grow hdr)
          have HXG := Lib.hid (HXr.out.trans hdr)
          clear hdr HKr HXr
          generalize wr.drew = wg at *
          obtain ⟨c0, c1, c2, c3, c4, c5, c6, c7, c8, c9⟩ := RowAt.facts10 (vs := hv B) (HKG.out.was)
          unfold hv at c0 c1 c2 c3 c4 c5 c6 c7 c8 c9
          dsimp only at c0 c1 c2 c3 c4 c5 c6 c7 c8 c9
          obtain ⟨e0, e1, e2, e3, e4, e5, e6, e7, e8, e9⟩ := RowAt.facts10 (vs := hv C) (HKG.out.cur)
          unfold hv at e0 e1 e2 e3 e4 e5 e6 e7 e8 e9
          dsimp only at e0 e1 e2 e3 e4 e5 e6 e7 e8 e9
          have hcon := tellNames r (hv B) (cutD D) wg (HV2.out.ext HKG.out.ext) HSZ.out HR.out (k : Int)
          try unfold dv at hcon
          try unfold nv at hcon
          try unfold dcells at hcon
          try unfold ncells at hcon
          try unfold nsA at hcon
          try unfold ofV at hcon
          try unfold noV at hcon
          try unfold noN at hcon
          try unfold hv at hcon
          try dsimp only at hcon
          have HN1 := Lib.hid hcon
          clear hcon
          repeat (first
            | (refine groL_pure rfl rfl ?_; intro K hK; go_simp; refine hK _ ?_; clear hK K)
            | (refine groL_read rfl rfl ?_; intro K S hS hK; go_simp; refine hK _ ?_; clear hK K hS S)
            | (refine groL_read rfl rfl ?_; intro K S hS hK; go_simp; refine ⟨hS _ ?_, hK _ ?_⟩; (clear hK K hS S; intro w' hx'; have hce := ext_some hx'; go_simp); clear hK K hS S)
            | (refine groL_write rfl rfl ?_; intro K hK; go_simp; refine hK _ _ ?_; clear hK K))
          refine groL_grow rfl rfl ?_
          intro K hK
          go_simp
          (refine HN1.out.mono ?_; rintro e wa ⟨u1, rfl, hu1, hxa⟩)
          go_simp
          refine hK _ _ ⟨hxa, ?_⟩
          clear hK K
          clear c0 c1 c2 c3 c4 c5 c6 c7 c8 c9
          clear e0 e1 e2 e3 e4 e5 e6 e7 e8 e9
          have hcon := tellNames r (hv C) E wa (HKG.out.view.ext hxa) HKG.out.s HKG.out.ok (k : Int)
          try unfold dv at hcon
          try unfold nv at hcon
          try unfold dcells at hcon
          try unfold ncells at hcon
          try unfold nsA at hcon
          try unfold ofV at hcon
          try unfold noV at hcon
          try unfold noN at hcon
          try unfold hv at hcon
          try dsimp only at hcon
          have HN2 := Lib.hid hcon
          clear hcon
          repeat (first
            | (refine groL_pure rfl rfl ?_; intro K hK; go_simp; refine hK _ ?_; clear hK K)
            | (refine groL_read rfl rfl ?_; intro K S hS hK; go_simp; refine hK _ ?_; clear hK K hS S)
            | (refine groL_read rfl rfl ?_; intro K S hS hK; go_simp; refine ⟨hS _ ?_, hK _ ?_⟩; (clear hK K hS S; intro w' hx'; have hce := ext_some hx'; go_simp); clear hK K hS S)
            | (refine groL_write rfl rfl ?_; intro K hK; go_simp; refine hK _ _ ?_; clear hK K))
          refine groL_grow rfl rfl ?_
          intro K hK
          go_simp
          (refine HN2.out.mono ?_; rintro e wb ⟨u2, rfl, hu2, hxb⟩)
          go_simp
          refine hK _ _ ⟨hxb, ?_⟩
          clear hK K
          repeat (first
            | (refine groL_pure rfl rfl ?_; intro K hK; go_simp; refine hK _ ?_; clear hK K)
            | (refine groL_read rfl rfl ?_; intro K S hS hK; go_simp; refine hK _ ?_; clear hK K hS S)
            | (refine groL_read rfl rfl ?_; intro K S hS hK; go_simp; refine ⟨hS _ ?_, hK _ ?_⟩; (clear hK K hS S; intro w' hx'; have hce := ext_some hx'; go_simp); clear hK K hS S)
            | (refine groL_write rfl rfl ?_; intro K hK; go_simp; refine hK _ _ ?_; clear hK K))
          refine groL_nil ?_
          have HKB := Lib.hid (HKG.out.grow (hxa.trans hxb))
          have HXB := Lib.hid (HXG.out.trans (hxa.trans hxb))
          have hu1' := own_ext hu1 hxb
          obtain ⟨au1, cu1, rfl⟩ := own_sl hu1'
          obtain ⟨au2, cu2, rfl⟩ := own_sl hu2
          have HS1 := Lib.hid (show Strs wb _ (allN (seenN r (cutD D)) (k : Int)) from Sl.of_own hu1')
          have HS2 := Lib.hid (show Strs wb _ (allN (seenN r E) (k : Int)) from Sl.of_own hu2)
          clear hu1 hu1' hu2 hxa hxb HN1 HN2 HKG HXG
          have HIDS := Lib.hid (fun m hm w' (hx : Ext wb w') => keepIds r (hv C) E w' (HKB.out.view.ext hx) HKB.out.s HKB.out.ok hlk m hm)
          have hlen := keepLen r HKB.out.ok.1 hlk
          have hcu2 : (allN (seenN r E) (k : Int)).length ≤ cu2 ∧ cu2 ≤ 9223372036854775807 := by obtain ⟨_, _, e, h1, h2⟩ := Sl.shape HS2.out; simp only [Value.slice.injEq] at e; omega
          generalize allN (seenN r E) (k : Int) = T2 at *
          generalize allN (seenN r (cutD D)) (k : Int) = T1 at *
          have hle : T1.length ≤ T2.length := by have := congrArg List.length HP1.out; simp at this; omega
          have HSt : Hid (Strs wb (.slice au2 T1.length cu2) T1) := Lib.hid (by
            have h := Strs.take HS2.out T1.length hle
            rw [show T2.take T1.length = T1 from by rw [HP1.out]; simp] at h
            exact h)
          have HEQ := Lib.hid (ext_of_drew (equalS_yes _ _ _ _ wb HSt.out HS1.out rfl))
          have HNE : Hid ((k : Int) ≠ kind → T1.length = T2.length) := Lib.hid (fun h => by have := congrArg List.length HP1.out; rw [HP2.out h] at this; simpa using this.symm)
          obtain ⟨t1, ht1⟩ : ∃ x, T1.length = x := ⟨_, rfl⟩
          obtain ⟨t2, ht2⟩ : ∃ x, T2.length = x := ⟨_, rfl⟩
          rw [ht1] at HEQ HSt hle HNE ⊢
          rw [ht2] at hle hlen hcu2 HNE ⊢
          have HT2 := Lib.hid ht2
          clear ht1 ht2
          obtain ⟨hcu3, hcu4⟩ := hcu2
          have hnl : ¬ (t2 < t1) := by omega
          have hnm : ¬ (128 < t2) := by omega
          clear HSt HS1 HP1 HP2
          by_cases hkk : (k : Int) = kind
          · subst hkk
            clear HNE
            go_wp2_with fail
            refine HEQ.out.mono ?_
            rintro e wc ⟨rfl, hxc⟩
            have HXC := Lib.hid hxc
            clear hxc HEQ
            go_wp2_with fail
            go_loopg [24, 25, 155] T2.length (fun g s24 s25 i wi => ∃ m : Nat, m ≤ T2.length ∧ g = T2.length - m ∧ i = .int .i64 m ∧ Ext wb wi)
            case atStart => exact ⟨0, Nat.zero_le _, rfl, rfl, HXC.out⟩
            case round =>
              obtain ⟨m, hm, hgm, rfl, hxm⟩ := hrel
              have Hgm := Lib.hid hgm
              have HXm2 := Lib.hid hxm
              clear hgm hxm
              by_cases hlm : m < T2.length
              · obtain ⟨b5, o5, rfl, hc5⟩ := (HS2.out.ext HXm2.out).at_ hlm
                have hmt : m < t2 := by have := HT2.out; omega
                obtain ⟨c0, c1, c2, c3, c4, c5, c6, c7, c8, c9⟩ := RowAt.facts10 (vs := hv C) ((HKB.out.cur.ext HXm2.out))
                unfold hv at c0 c1 c2 c3 c4 c5 c6 c7 c8 c9
                dsimp only at c0 c1 c2 c3 c4 c5 c6 c7 c8 c9
                have hcon := HIDS.out m hlm wr HXm2.out
                try unfold dv at hcon
                try unfold nv at hcon
                try unfold dcells at hcon
                try unfold ncells at hcon
                try unfold nsA at hcon
                try unfold ofV at hcon
                try unfold noV at hcon
                try unfold noN at hcon
                try unfold hv at hcon
                try dsimp only at hcon
                have HID := Lib.hid hcon
                clear hcon
                generalize T2[m] = s5 at *
                go_wp2_with fail
                refine HID.out.mono ?_
                rintro e wd ⟨rfl, hxd⟩
                clear c0 c1 c2 c3 c4 c5 c6 c7 c8 c9
                go_wp2_with fail
                go_roundg (T2.length - (m + 1))
                case measure => have := Hgm.out; omega
                case rel => exact ⟨m + 1, by omega, rfl, by go_num, HXm2.out.trans hxd⟩
              · have hmt : ¬ m < t2 := by have := HT2.out; omega
                go_wp2_with fail
                go_roundg (5 - (k + 1))
                case measure => have := Hg2.out; omega
                case rel => exact ⟨k + 1, by omega, rfl, by go_num, HXB.out.trans HXm2.out⟩
          · obtain rfl : t2 = t1 := (HNE.out hkk).symm
            have hkb : ((k : Int) == kind) = false := by simp; exact hkk
            have hkc : ((k : Int) != kind) = true := by simp; exact hkk
            clear hkk
            clear HNE
            go_wp2_with fail
            refine HEQ.out.mono ?_
            rintro e wc ⟨rfl, hxc⟩
            have HXC := Lib.hid hxc
            clear hxc HEQ
            go_wp2_with fail
            go_loopg [24, 25, 155] T2.length (fun g s24 s25 i wi => ∃ m : Nat, m ≤ T2.length ∧ g = T2.length - m ∧ i = .int .i64 m ∧ Ext wb wi)
            case atStart => exact ⟨0, Nat.zero_le _, rfl, rfl, HXC.out⟩
            case round =>
              obtain ⟨m, hm, hgm, rfl, hxm⟩ := hrel
              have Hgm := Lib.hid hgm
              have HXm2 := Lib.hid hxm
              clear hgm hxm
              by_cases hlm : m < T2.length
              · obtain ⟨b5, o5, rfl, hc5⟩ := (HS2.out.ext HXm2.out).at_ hlm
                have hmt : m < t2 := by have := HT2.out; omega
                obtain ⟨c0, c1, c2, c3, c4, c5, c6, c7, c8, c9⟩ := RowAt.facts10 (vs := hv C) ((HKB.out.cur.ext HXm2.out))
                unfold hv at c0 c1 c2 c3 c4 c5 c6 c7 c8 c9
                dsimp only at c0 c1 c2 c3 c4 c5 c6 c7 c8 c9
                have hcon := HIDS.out m hlm wr HXm2.out
                try unfold dv at hcon
                try unfold nv at hcon
                try unfold dcells at hcon
                try unfold ncells at hcon
                try unfold nsA at hcon
                try unfold ofV at hcon
                try unfold noV at hcon
                try unfold noN at hcon
                try unfold hv at hcon
                try dsimp only at hcon
                have HID := Lib.hid hcon
                clear hcon
                generalize T2[m] = s5 at *
                go_wp2_with fail
                refine HID.out.mono ?_
                rintro e wd ⟨rfl, hxd⟩
                clear c0 c1 c2 c3 c4 c5 c6 c7 c8 c9
                go_wp2_with fail
                go_roundg (T2.length - (m + 1))
                case measure => have := Hgm.out; omega
                case rel => exact ⟨m + 1, by omega, rfl, by go_num, HXm2.out.trans hxd⟩
              · have hmt : ¬ m < t2 := by have := HT2.out; omega
                go_wp2_with fail
                go_roundg (5 - (k + 1))
                case measure => have := Hg2.out; omega
                case rel => exact ⟨k + 1, by omega, rfl, by go_num, HXB.out.trans HXm2.out⟩
        · go_wp2_with fail
          go_ret
          exact ⟨rfl, HXm.out.trans HXr.out⟩
end Go.Proofs.Ytogoejlbdbapoaa
