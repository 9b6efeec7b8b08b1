/- The law's own dictionaries: a copy in memory of its own. -/
import Derived.Test.YtogoejlbdbapoaaDicI
import Derived.Test.YtogoejlbdbapoaaDicM
namespace Go.Proofs.Ytogoejlbdbapoaa
set_option maxRecDepth 100000
set_option maxHeartbeats 2000000
set_option linter.unusedSimpArgs false
open Go.RowKit Go.Shelf Go.Sort
attribute [local go_sem] Oper.semAt_some wide_fn wide_depth
set_option linter.unusedVariables false

/-- A cut of a row of one-cell elements. -/
theorem Sl.take {w : World} {a : Option Addr} {n cap : Nat} {xs : List Value} (h : Sl w (.slice a n cap) n xs) (hx : xs.length = n) (m : Nat) (hm : m ≤ n) : Sl w (.slice a m cap) m (xs.take m) := by
  obtain ⟨a', cap', e, h1, h2, h3⟩ := h
  simp only [Value.slice.injEq] at e
  obtain ⟨rfl, _, rfl⟩ := e
  refine ⟨a, cap, rfl, by omega, h2, fun hp => ?_⟩
  obtain ⟨b, o, e, hc⟩ := h3 (by rw [List.length_take] at hp; omega)
  refine ⟨b, o, e, fun i u hu => hc i u ?_⟩
  rw [List.getElem?_take] at hu
  split at hu
  · exact hu
  · cases hu
theorem Strs.take {w : World} {a : Option Addr} {n cap : Nat} {l : List ByteArray} (h : Strs w (.slice a n cap) l) (m : Nat) (hm : m ≤ n) : Strs w (.slice a m cap) (l.take m) := by
  have hl := h.len
  unfold Strs at *
  rw [hl] at h
  have := Sl.take h (by simp [hl]) m hm
  rw [List.map_take, List.length_take, hl, Nat.min_eq_left hm]
  exact this
theorem Ints.take {w : World} {kd : IntKind} {a : Option Addr} {n cap : Nat} {l : List Int} (h : Ints w kd (.slice a n cap) l) (m : Nat) (hm : m ≤ n) : Ints w kd (.slice a m cap) (l.take m) := by
  have hl := h.len
  unfold Ints at *
  rw [hl] at h
  have := Sl.take h (by simp [hl]) m hm
  rw [List.map_take, List.length_take, hl, Nat.min_eq_left hm]
  exact this
/-- What the law keeps of a dictionary. -/
def cutD (D : Dic) : Dic := fun i => ((D i).1.take 129, (D i).2.take 512)
structure LoI (w : World) (D : Dic) (k : Nat) (ts : Nat → Value × Value) (W : World) : Prop where
  below : Ext w W
  out : RowAt W (w.heap.size + 1) 28 (dcells noV)
  d : RowAt W w.heap.size 28 (dcells ts)
  own : ∀ i, i < k → TabOwn (w.heap.size + 1 + 1) W (.agg #[(ts i).1, (ts i).2]) (cutD D i).1 (cutD D i).2
theorem LoI.ext {w : World} {D : Dic} {k : Nat} {ts : Nat → Value × Value} {W W' : World} (h : LoI w D k ts W) (hx : Ext W W') : LoI w D k ts W' :=
  ⟨h.below.trans hx, h.out.ext hx, h.d.ext hx, fun i hi => (h.own i hi).ext hx⟩
theorem LoI.next {w : World} {D : Dic} {k : Nat} {ts : Nat → Value × Value} {W : World} (h : LoI w D k ts W) (hk : k < 5) {T : List ByteArray} {S : List Int} (hT : (cutD D k).1 = T) (hS : (cutD D k).2 = S) {ua ub : Option Addr} {ca cb : Nat} {wa wb : World}
    (hxa : Ext W wa) (ha : wa.ownsRow W.heap.size 9 1 (.slice ua T.length ca) T.length (T.map Value.string)) (hxb : Ext wa wb) (hb : wb.ownsRow wa.heap.size 3 1 (.slice ub S.length cb) S.length (S.map (Value.int .i64))) :
    LoI w D (k + 1) (upd ts k (.slice ua T.length ca, .slice ub S.length cb)) ((wb.setCell ⟨w.heap.size, k * 2, none⟩ (.slice ua T.length ca)).setCell ⟨w.heap.size, k * 2 + 1, none⟩ (.slice ub S.length cb)) := by
  have hI := (h.ext hxa).ext hxb
  have hz := h.out.lt
  have h1 := hxa.size
  refine ⟨?_, ?_, row_upd hI.d hk _ _, ?_⟩
  · exact (hI.below.setCell (p := ⟨w.heap.size, k * 2, none⟩) (Nat.le_refl _) _).setCell (p := ⟨w.heap.size, k * 2 + 1, none⟩) (Nat.le_refl _) _
  · exact (RowAt.set_ne (RowAt.set_ne hI.out (by omega)) (by omega))
  · intro i hi
    by_cases e : i = k
    · subst e
      rw [upd_at, hT, hS]
      refine (TabOwn.setL (g := w.heap.size) ?_ (by omega) [_] _).setL (by omega) [_] _
      exact ⟨_, _, _, _, _, _, rfl, own_base (own_ext ha hxb) (by omega), own_base hb (by omega)⟩
    · rw [upd_ne _ _ e]
      exact ((hI.own i (by omega)).setL (by omega) [_] _).setL (by omega) [_] _
def groLaw : Nat → Gro
  | 3 => .read
  | 5 => .read
  | 11 => .read
  | 13 => .read
  | 9 => .grow
  | 17 => .grow
  | 21 => .write
  | 25 => .write
  | _ => .pure
set_option maxRecDepth 100000 in
set_option maxHeartbeats 2000000 in
theorem lawOwn_any (vs : Nat → Value × Value) (D : Dic) (w : World) (hV : DicV w vs D) :
    Calls Try.prog 11 #[dv vs] w fun e w' => ∃ us, e = .returned (dv us) ∧ DicOwn w.heap.size w' us (cutD D) ∧ Ext w w' := by
  have hmo : Try.prog.follows .mixedOrders = true := by kernel_rfl
  have hI0 : LoI w D 0 vs ((w.alloc (.cells (dcells vs).toArray 28)).alloc (.cells (dcells noV).toArray 28)) :=
    ⟨(Ext.alloc _ _).trans (Ext.alloc _ _), row_at (by simp), (RowAt.new w _ (dcells vs)).ext (Ext.alloc _ _), fun i h => by omega⟩
  have hdc : (dcells vs).toArray = #[(vs 0).1, (vs 0).2, (vs 1).1, (vs 1).2, (vs 2).1, (vs 2).2, (vs 3).1, (vs 3).2, (vs 4).1, (vs 4).2] := rfl
  have hdn : (dcells noV).toArray = #[.slice none 0 0, .slice none 0 0, .slice none 0 0, .slice none 0 0, .slice none 0 0, .slice none 0 0, .slice none 0 0, .slice none 0 0, .slice none 0 0, .slice none 0 0] := rfl
  unfold dv
  rw [hdc]
  simp only [hdc, hdn] at hI0
  have HIX := Lib.hid (ix_any vs)
  have HV := Lib.hid hV
  have HI0 := Lib.hid hI0
  clear hdc hdn hI0 hV
  go_enter Try.func11, Try.ntmps11
  go_upto_region 1 with fail
  replace HI0 := HI0.out
  generalize (w.alloc (.cells #[(vs 0).1, (vs 0).2, (vs 1).1, (vs 1).2, (vs 2).1, (vs 2).2, (vs 3).1, (vs 3).2, (vs 4).1, (vs 4).2] 28)).alloc (.cells #[.slice none 0 0, .slice none 0 0, .slice none 0 0, .slice none 0 0, .slice none 0 0, .slice none 0 0, .slice none 0 0, .slice none 0 0, .slice none 0 0, .slice none 0 0] 28) = w1 at *
  obtain ⟨c0, c1, c2, c3, c4, c5, c6, c7, c8, c9⟩ := HI0.d.facts10
  go_wp2_with fail
  clear c0 c1 c2 c3 c4 c5 c6 c7 c8 c9
  go_loopg [7] 5 (fun g i wr => ∃ (k : Nat) (ts : Nat → Value × Value), k ≤ 5 ∧ g = 5 - k ∧ i = .int .i64 k ∧ LoI w D k ts wr)
  case atStart => exact ⟨0, _, Nat.zero_le _, rfl, rfl, HI0⟩
  case round =>
    obtain ⟨k, ts, hk, hg, rfl, hI⟩ := hrel
    have HI := Lib.hid hI
    have Hg := Lib.hid hg
    clear hI hg HI0
    by_cases hlt : k < 5
    · obtain ⟨a, n, c, b, m, d, hv, hT, hSl⟩ := HV.out k hlt
      have hT := (hT.ext HI.out.below)
      have hSl := (hSl.ext HI.out.below)
      obtain ⟨_, _, e1, hc1, hc2⟩ := Sl.shape hT
      obtain ⟨_, _, e2, hd1, hd2⟩ := Sl.shape hSl
      simp only [Value.slice.injEq] at e1 e2
      obtain ⟨rfl, rfl, rfl⟩ := e1
      obtain ⟨rfl, rfl, rfl⟩ := e2
      have hix := HIX.out k hlt
      rw [hv] at hix
      dsimp only at hix
      obtain ⟨mt, hmt⟩ : ∃ x : Int, (if (129 : Int) < ((D k).1.length : Int) then (129 : Int) else ((D k).1.length : Int)) = x := ⟨_, rfl⟩
      obtain ⟨ms, hms⟩ : ∃ x : Int, (if (512 : Int) < ((D k).2.length : Int) then (512 : Int) else ((D k).2.length : Int)) = x := ⟨_, rfl⟩
      obtain ⟨m0, m1, m2⟩ : 0 ≤ mt ∧ mt ≤ (c : Int) ∧ mt.toNat = min (D k).1.length 129 := by rw [← hmt]; split <;> omega
      obtain ⟨s0, s1, s2⟩ : 0 ≤ ms ∧ ms ≤ (d : Int) ∧ ms.toNat = min (D k).2.length 512 := by rw [← hms]; split <;> omega
      have hbx : RowAt (wr.alloc (.cells #[.slice a (D k).1.length c, .slice b (D k).2.length d] 25)) wr.heap.size 25 [.slice a (D k).1.length c, .slice b (D k).2.length d] := RowAt.new _ _ _
      have HBX := Lib.hid hbx
      have HT := Lib.hid (((hT.take mt.toNat (by omega)).ext (Ext.alloc wr (.cells #[.slice a (D k).1.length c, .slice b (D k).2.length d] 25))))
      have HS := Lib.hid (((hSl.take ms.toNat (by omega)).ext (Ext.alloc wr (.cells #[.slice a (D k).1.length c, .slice b (D k).2.length d] 25))))
      have HI2 := Lib.hid (HI.out.ext (Ext.alloc wr (.cells #[.slice a (D k).1.length c, .slice b (D k).2.length d] 25)))
      obtain ⟨T, hTe⟩ : ∃ T, (cutD D k).1 = T := ⟨_, rfl⟩
      obtain ⟨S, hSe⟩ : ∃ S, (cutD D k).2 = S := ⟨_, rfl⟩
      rw [show (D k).1.take mt.toNat = T from by rw [← hTe, m2]; unfold cutD; simp; omega] at HT
      rw [show (D k).2.take ms.toNat = S from by rw [← hSe, s2]; unfold cutD; simp; omega] at HS
      have hTl : T.length ≤ 129 := by rw [← hTe]; unfold cutD; simp; omega
      have hSl' : S.length ≤ 512 := by rw [← hSe]; unfold cutD; simp; omega
      have HTe := Lib.hid hTe
      have HSe := Lib.hid hSe
      have hki : (k : Int) < 5 := by omega
      clear hT hSl hv hbx hTe hSe HIX m2 s2
      go_upto_region 4 with fail
      replace HBX := HBX.out
      replace HI2 := HI2.out
      replace HT := HT.out
      replace HS := HS.out
      generalize wr.alloc (.cells #[.slice a (D k).1.length c, .slice b (D k).2.length d] 25) = wq at *
      have hbx := HBX.ext (Ext.drewN wq 1)
      have p1 := hbx.facts2.1
      have p2 := hbx.facts2.2.1
      have HI3 := Lib.hid (HI2.ext (Ext.drewN wq 1))
      have HT3 := Lib.hid (HT.ext (Ext.drewN wq 1))
      have HS3 := Lib.hid (HS.ext (Ext.drewN wq 1))
      clear HBX HI2 HT HS hbx
      generalize (D k).1.length = n1 at *
      generalize (D k).2.length = m1 at *
      refine wp_region_gro groLaw [0, 1, 2, 3, 4, 5, 6, 7, 8, 10, 11, 12, 13, 14, 15, 16, 18, 22, 9, 19, 20, 17, 21, 23, 24, 25] hmo (by kernel_rfl) rfl (by kernel_rfl) (fun _ _ _ _ _ h => h) ?_
      replace p1 : wq.drew.cell? _ = _ := p1
      replace p2 : wq.drew.cell? _ = _ := p2
      repeat (first
        | (refine groL_pure rfl rfl ?_; intro K hK; go_simp; refine hK _ ?_; clear hK K)
        | (refine groL_read rfl rfl ?_; intro K S hS hK; go_simp; refine hK _ ?_; clear hK K hS S)
        | (refine groL_read rfl rfl ?_; intro K S hS hK; go_simp; refine ⟨hS _ ?_, hK _ ?_⟩; (clear hK K hS S; intro w' hx'; have hce := ext_some hx'; go_simp); clear hK K hS S)
        | (refine groL_write rfl rfl ?_; intro K hK; go_simp; refine hK _ _ ?_; clear hK K))
      refine groL_grow rfl rfl ?_
      intro K hK
      go_simp
      (refine (cloneS _ T _ HT3.out (by omega)).mono ?_; rintro e wa ⟨ua, ca, rfl, hoa, hxa⟩)
      go_simp
      refine hK _ _ ⟨hxa, ?_⟩
      clear hK K
      repeat (first
        | (refine groL_pure rfl rfl ?_; intro K hK; go_simp; refine hK _ ?_; clear hK K)
        | (refine groL_read rfl rfl ?_; intro K S hS hK; go_simp; refine hK _ ?_; clear hK K hS S)
        | (refine groL_read rfl rfl ?_; intro K S hS hK; go_simp; refine ⟨hS _ ?_, hK _ ?_⟩; (clear hK K hS S; intro w' hx'; have hce := ext_some hx'; go_simp); clear hK K hS S)
        | (refine groL_write rfl rfl ?_; intro K hK; go_simp; refine hK _ _ ?_; clear hK K))
      refine groL_grow rfl rfl ?_
      intro K hK
      go_simp
      (refine (cloneI _ S _ (HS3.out.ext hxa) (by omega)).mono ?_; rintro e wb ⟨ub, cb, rfl, hob, hxb⟩)
      go_simp
      refine hK _ _ ⟨hxb, ?_⟩
      clear hK K
      have hIb := (HI3.out.ext hxa).ext hxb
      have r0 := hIb.d.cell (i := k * 2) (dcells_at ts hlt).1
      have r1 := hIb.d.cell (i := k * 2 + 1) (dcells_at ts hlt).2
      have f0 := hIb.d.frozen (k * 2)
      have f1 := hIb.d.frozen (k * 2 + 1)
      clear hIb
      repeat (first
        | (refine groL_pure rfl rfl ?_; intro K hK; go_simp; refine hK _ ?_; clear hK K)
        | (refine groL_read rfl rfl ?_; intro K S hS hK; go_simp; refine hK _ ?_; clear hK K hS S)
        | (refine groL_read rfl rfl ?_; intro K S hS hK; go_simp; refine ⟨hS _ ?_, hK _ ?_⟩; (clear hK K hS S; intro w' hx'; have hce := ext_some hx'; go_simp); clear hK K hS S)
        | (refine groL_write rfl rfl ?_; intro K hK; go_simp; refine hK _ _ ?_; clear hK K))
      refine groL_nil ?_
      have HN := Lib.hid (HI3.out.next hlt HTe.out HSe.out hxa hoa hxb hob)
      go_wp2_with fail
      go_roundg (5 - (k + 1))
      case measure => have := Hg.out; omega
      case rel => exact ⟨k + 1, _, by omega, rfl, by go_num, HN.out⟩
    · obtain rfl : k = 5 := by omega
      obtain ⟨A, hA1, hA2⟩ := heads (vs := ts) (fun i hi => by obtain ⟨a, c, b, d, e, _⟩ := (HI.out.own i hi).pair; exact ⟨_, _, _, _, _, _, e⟩)
      have hd := HI.out.d
      rw [hA2] at hd
      obtain ⟨c0, c1, c2, c3, c4, c5, c6, c7, c8, c9⟩ := hd.facts10
      obtain ⟨d0, d1, d2, d3, d4, d5, d6, d7, d8, d9⟩ := RowAt.facts10 (vs := noV) HI.out.out
      obtain ⟨g0, g1, g2, g3, g4, g5, g6, g7, g8, g9⟩ := HI.out.out.facts10f
      simp only [noV] at d0 d1 d2 d3 d4 d5 d6 d7 d8 d9
      simp only [hv] at c0 c1 c2 c3 c4 c5 c6 c7 c8 c9
      clear hd
      go_wp2
      rw [set10]
      clear d0 d1 d2 d3 d4 d5 d6 d7 d8 d9 c0 c1 c2 c3 c4 c5 c6 c7 c8 c9 g0 g1 g2 g3 g4 g5 g6 g7 g8 g9
      have hro := row_set10 (hv A) HI.out.out
      have hz := HI.out.out.lt
      have hfin : DicOwn w.heap.size (setL wr (w.heap.size + 1) 0 (dcells (hv A))) (hv A) (cutD D) := fun i hi => by rw [← hA1 i hi]; exact (((HI.out.own i hi).setL (by omega) _ 0).base (by omega))
      have hbf := below_setL (Nat.le_succ w.heap.size) (dcells (hv A)) 0 HI.out.below
      obtain ⟨q0, q1, q2, q3, q4, q5, q6, q7, q8, q9⟩ := RowAt.facts10 hro
      refine bodyPost_ret (v := dv (hv A)) ?_ rfl ⟨_, rfl, hfin, hbf⟩
      unfold dv dcells hv at *
      simp [results, Try.results11, go_sem, q0, q1, q2, q3, q4, q5, q6, q7, q8, q9]
end Go.Proofs.Ytogoejlbdbapoaa
