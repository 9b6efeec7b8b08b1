/- The law's own dictionaries and patterns: copies in memory of their own. -/
import Derived.Test.YtkmbnghghbfkdaaGreatGp40
import Derived.Test.YtkmbnghghbfkdaaGreatGp13
import Derived.Test.YtkmbnghghbfkdaaGreatGp24
import Derived.Test.YtkmbnghghbfkdaaGreatGp18
set_option linter.unusedSimpArgs false
set_option linter.unusedVariables false
set_option maxHeartbeats 2000000
set_option maxRecDepth 100000

namespace Go.Proofs.YtkmbnghghbfkdaaGreat
open Go.RowKit Go.Shelf Go.Sort
attribute [local go_sem] Oper.semAt_some wide_fn wide_depth
set_option maxRecDepth 100000 in
set_option maxHeartbeats 2000000 in
theorem ownDic18_any (vs : Nat → Value × Value) (D : Dic) (w : World) (hV : DicV w vs D) :
 Calls Tryz.prog 10 #[dv vs] w fun e w' => ∃ us, e = .returned (dv us) ∧ DicOwn w.heap.size w' us (cutD D) ∧ Ext w w' := by
 have hmo : Tryz.prog.follows .mixedOrders = true := by kernel_rfl
 have hI0 : LoI w D 0 vs ((w.alloc (.cells (dcells vs).toArray 28)).alloc (.cells (dcells noV).toArray 28)) :=
  ⟨(Ext.alloc _ _).trans (Ext.alloc _ _), row_at (by simp), (RowAt.new w _ (dcells vs)).ext (Ext.alloc _ _), fun i h => by omega⟩
 have hdc : (dcells vs).toArray = #[(vs 0).1, (vs 0).2, (vs 1).1, (vs 1).2, (vs 2).1, (vs 2).2, (vs 3).1, (vs 3).2, (vs 4).1, (vs 4).2] := rfl
 have hdn : (dcells noV).toArray = #[.slice none 0 0, .slice none 0 0, .slice none 0 0, .slice none 0 0, .slice none 0 0, .slice none 0 0, .slice none 0 0, .slice none 0 0, .slice none 0 0, .slice none 0 0] := rfl
 unfold dv
 rw [hdc]
 simp only [hdc, hdn] at hI0
 have HIX := Lib.hid (ix_any vs)
 have HV := Lib.hid hV
 have HI0 := Lib.hid hI0
 clear hdc hdn hI0 hV
 go_enter Tryz.func10, Tryz.ntmps10
 go_upto_region 1 with fail
 replace HI0 := HI0.out
 generalize (w.alloc (.cells #[(vs 0).1, (vs 0).2, (vs 1).1, (vs 1).2, (vs 2).1, (vs 2).2, (vs 3).1, (vs 3).2, (vs 4).1, (vs 4).2] 28)).alloc (.cells #[.slice none 0 0, .slice none 0 0, .slice none 0 0, .slice none 0 0, .slice none 0 0, .slice none 0 0, .slice none 0 0, .slice none 0 0, .slice none 0 0, .slice none 0 0] 28) = w1 at *
 obtain ⟨c0, c1, c2, c3, c4, c5, c6, c7, c8, c9⟩ := HI0.d.facts10
 go_wp2_with fail
 clear c0 c1 c2 c3 c4 c5 c6 c7 c8 c9
 go_loopg [7] 5 (fun g i wr => ∃ (k : Nat) (ts : Nat → Value × Value), k ≤ 5 ∧ g = 5 - k ∧ i = .int .i64 k ∧ LoI w D k ts wr)
 case atStart => exact ⟨0, _, Nat.zero_le _, rfl, rfl, HI0⟩
 case round =>
  obtain ⟨k, ts, hk, hg, rfl, hI⟩ := hrel
  have HI := Lib.hid hI
  have Hg := Lib.hid hg
  clear hI hg HI0
  by_cases hlt : k < 5
  ·obtain ⟨a, n, c, b, m, d, hv, hT, hSl⟩ := HV.out k hlt
   have hT := (hT.ext HI.out.below)
   have hSl := (hSl.ext HI.out.below)
   obtain ⟨_, _, e1, hc1, hc2⟩ := Sl.shape hT
   obtain ⟨_, _, e2, hd1, hd2⟩ := Sl.shape hSl
   simp only [Value.slice.injEq] at e1 e2
   obtain ⟨rfl, rfl, rfl⟩ := e1
   obtain ⟨rfl, rfl, rfl⟩ := e2
   have hix := HIX.out k hlt
   rw [hv] at hix
   dsimp only at hix
   obtain ⟨mt, hmt⟩ : ∃ x : Int, min ((D k).1.length : Int) 129 = x := ⟨_, rfl⟩
   obtain ⟨ms, hms⟩ : ∃ x : Int, min ((D k).2.length : Int) 512 = x := ⟨_, rfl⟩
   obtain ⟨m0, m1, m2⟩ : 0 ≤ mt ∧ mt ≤ (c : Int) ∧ mt.toNat = min (D k).1.length 129 := by rw [← hmt]; omega
   obtain ⟨s0, s1, s2⟩ : 0 ≤ ms ∧ ms ≤ (d : Int) ∧ ms.toNat = min (D k).2.length 512 := by rw [← hms]; omega
   have hbx : RowAt (wr.alloc (.cells #[.slice a (D k).1.length c, .slice b (D k).2.length d] 25)) wr.heap.size 25 [.slice a (D k).1.length c, .slice b (D k).2.length d] := RowAt.new _ _ _
   have HBX := Lib.hid hbx
   have HT := Lib.hid (((hT.take mt.toNat (by omega)).ext (Ext.alloc wr (.cells #[.slice a (D k).1.length c, .slice b (D k).2.length d] 25))))
   have HS := Lib.hid (((hSl.take ms.toNat (by omega)).ext (Ext.alloc wr (.cells #[.slice a (D k).1.length c, .slice b (D k).2.length d] 25))))
   have HI2 := Lib.hid (HI.out.ext (Ext.alloc wr (.cells #[.slice a (D k).1.length c, .slice b (D k).2.length d] 25)))
   obtain ⟨T, hTe⟩ : ∃ T, (cutD D k).1 = T := ⟨_, rfl⟩
   obtain ⟨S, hSe⟩ : ∃ S, (cutD D k).2 = S := ⟨_, rfl⟩
   rw [show (D k).1.take mt.toNat = T from by rw [← hTe, m2]; unfold cutD; simp; omega] at HT
   rw [show (D k).2.take ms.toNat = S from by rw [← hSe, s2]; unfold cutD; simp; omega] at HS
   have hTl : T.length ≤ 129 := by rw [← hTe]; unfold cutD; simp; omega
   have hSl' : S.length ≤ 512 := by rw [← hSe]; unfold cutD; simp; omega
   have HTe := Lib.hid hTe
   have HSe := Lib.hid hSe
   have hki : (k : Int) < 5 := by omega
   clear hT hSl hv hbx hTe hSe HIX m2 s2
   go_upto_region 4 with fail
   replace HBX := HBX.out
   replace HI2 := HI2.out
   replace HT := HT.out
   replace HS := HS.out
   generalize wr.alloc (.cells #[.slice a (D k).1.length c, .slice b (D k).2.length d] 25) = wq at *
   have hbx := HBX.ext (Ext.drewN wq 1)
   have p1 := hbx.facts2.1
   have p2 := hbx.facts2.2.1
   have HI3 := Lib.hid (HI2.ext (Ext.drewN wq 1))
   have HT3 := Lib.hid (HT.ext (Ext.drewN wq 1))
   have HS3 := Lib.hid (HS.ext (Ext.drewN wq 1))
   clear HBX HI2 HT HS hbx
   generalize (D k).1.length = n1 at *
   generalize (D k).2.length = m1 at *
   refine wp_region_gro groLaw [0, 1, 2, 3, 4, 5, 6, 7, 8, 10, 11, 12, 13, 14, 15, 16, 18, 22, 9, 19, 20, 17, 21, 23, 24, 25] hmo (by kernel_rfl) rfl (by kernel_rfl) (fun _ _ _ _ _ h => h) ?_
   replace p1 : wq.drew.cell? _ = _ := p1
   replace p2 : wq.drew.cell? _ = _ := p2
   repeat (first
    | (refine groL_pure rfl rfl ?_; intro K hK; go_simp; refine hK _ ?_; clear hK K)
    | (refine groL_read rfl rfl ?_; intro K S hS hK; go_simp; refine hK _ ?_; clear hK K hS S)
    | (refine groL_read rfl rfl ?_; intro K S hS hK; go_simp; refine ⟨hS _ ?_, hK _ ?_⟩; (clear hK K hS S; intro w' hx'; have hce := ext_some hx'; go_simp); clear hK K hS S)
    | (refine groL_write rfl rfl ?_; intro K hK; go_simp; refine hK _ _ ?_; clear hK K))
   refine groL_grow rfl rfl ?_
   intro K hK
   go_simp
   (refine (cloneS _ T _ HT3.out (by omega)).mono ?_; rintro e wa ⟨ua, ca, rfl, hoa, hxa⟩)
   go_simp
   refine hK _ _ ⟨hxa, ?_⟩
   clear hK K
   repeat (first
    | (refine groL_pure rfl rfl ?_; intro K hK; go_simp; refine hK _ ?_; clear hK K)
    | (refine groL_read rfl rfl ?_; intro K S hS hK; go_simp; refine hK _ ?_; clear hK K hS S)
    | (refine groL_read rfl rfl ?_; intro K S hS hK; go_simp; refine ⟨hS _ ?_, hK _ ?_⟩; (clear hK K hS S; intro w' hx'; have hce := ext_some hx'; go_simp); clear hK K hS S)
    | (refine groL_write rfl rfl ?_; intro K hK; go_simp; refine hK _ _ ?_; clear hK K))
   refine groL_grow rfl rfl ?_
   intro K hK
   go_simp
   (refine (cloneI _ S _ (HS3.out.ext hxa) (by omega)).mono ?_; rintro e wb ⟨ub, cb, rfl, hob, hxb⟩)
   go_simp
   refine hK _ _ ⟨hxb, ?_⟩
   clear hK K
   have hIb := (HI3.out.ext hxa).ext hxb
   have r0 := hIb.d.cell (i := k * 2) (dcells_at ts hlt).1
   have r1 := hIb.d.cell (i := k * 2 + 1) (dcells_at ts hlt).2
   have f0 := hIb.d.frozen (k * 2)
   have f1 := hIb.d.frozen (k * 2 + 1)
   clear hIb
   repeat (first
    | (refine groL_pure rfl rfl ?_; intro K hK; go_simp; refine hK _ ?_; clear hK K)
    | (refine groL_read rfl rfl ?_; intro K S hS hK; go_simp; refine hK _ ?_; clear hK K hS S)
    | (refine groL_read rfl rfl ?_; intro K S hS hK; go_simp; refine ⟨hS _ ?_, hK _ ?_⟩; (clear hK K hS S; intro w' hx'; have hce := ext_some hx'; go_simp); clear hK K hS S)
    | (refine groL_write rfl rfl ?_; intro K hK; go_simp; refine hK _ _ ?_; clear hK K))
   refine groL_nil ?_
   have HN := Lib.hid (HI3.out.next hlt HTe.out HSe.out hxa hoa hxb hob)
   go_wp2_with fail
   go_roundg (5 - (k + 1))
   case measure => have := Hg.out; omega
   case rel => exact ⟨k + 1, _, by omega, rfl, by go_num, HN.out⟩
  ·obtain rfl : k = 5 := by omega
   obtain ⟨A, hA1, hA2⟩ := heads (vs := ts) (fun i hi => by obtain ⟨a, c, b, d, e, _⟩ := (HI.out.own i hi).pair; exact ⟨_, _, _, _, _, _, e⟩)
   have hd := HI.out.d
   rw [hA2] at hd
   obtain ⟨c0, c1, c2, c3, c4, c5, c6, c7, c8, c9⟩ := hd.facts10
   obtain ⟨d0, d1, d2, d3, d4, d5, d6, d7, d8, d9⟩ := RowAt.facts10 (vs := noV) HI.out.out
   obtain ⟨g0, g1, g2, g3, g4, g5, g6, g7, g8, g9⟩ := HI.out.out.facts10f
   simp only [noV] at d0 d1 d2 d3 d4 d5 d6 d7 d8 d9
   simp only [hv] at c0 c1 c2 c3 c4 c5 c6 c7 c8 c9
   clear hd
   go_wp2
   rw [set10]
   clear d0 d1 d2 d3 d4 d5 d6 d7 d8 d9 c0 c1 c2 c3 c4 c5 c6 c7 c8 c9 g0 g1 g2 g3 g4 g5 g6 g7 g8 g9
   have hro := row_set10 (hv A) HI.out.out
   have hz := HI.out.out.lt
   have hfin : DicOwn w.heap.size (setL wr (w.heap.size + 1) 0 (dcells (hv A))) (hv A) (cutD D) := fun i hi => by rw [← hA1 i hi]; exact (((HI.out.own i hi).setL (by omega) _ 0).base (by omega))
   have hbf := below_setL (Nat.le_succ w.heap.size) (dcells (hv A)) 0 HI.out.below
   obtain ⟨q0, q1, q2, q3, q4, q5, q6, q7, q8, q9⟩ := RowAt.facts10 hro
   refine bodyPost_ret (v := dv (hv A)) ?_ rfl ⟨_, rfl, hfin, hbf⟩
   unfold dv dcells hv at *
   simp [results, Tryz.results10, go_sem, q0, q1, q2, q3, q4, q5, q6, q7, q8, q9]
theorem eqNil_cloneA0 (a : Option Addr) (n c n' c' : Nat) (w : World) : (binOp .eql 33 (.slice a n c) (.slice none n' c')).run Tryz.prog w = .ok (.bool a.isNone) w :=
 Lib.run_eql_slice_nil w _ _ a n c n' c' Tryz.underlying33
set_option maxHeartbeats 400000 in
theorem cloneA0 (v : Value) (n : Nat) (xs : List Value) (w : World) (hv : Sl w v n xs) (hl : xs.length = n * 7) (h1 : ∀ x ∈ xs, x.oneCell' = true) (hn : n ≤ 1048576) :
 Calls Tryz.prog 40 #[v] w fun e w' => ∃ u, e = .returned u ∧ w'.ownsRow w.heap.size 88 7 u n xs ∧ Ext w w' := by
 have hv' := hv
 obtain ⟨a, cap, rfl, hcap, hmax, hc⟩ := hv'.open_
 have hq := eqNil_cloneA0
 have H1 := Lib.hid h1
 have HL := Lib.hid hl
 cases a with
 | none =>
  have hl' : xs = [] := List.eq_nil_of_length_eq_zero (by rcases Nat.eq_zero_or_pos xs.length with h | h; exact h; obtain ⟨_, _, h, _⟩ := hc 0 h; cases h)
  clear hv' hc
  subst hl'
  obtain rfl : n = 0 := by simp at hl; omega
  clear h1 hl
  go_enter Tryz.func40, Tryz.ntmps40
  go_wp2
  go_ret
  exact ⟨_, rfl, World.ownsRow_nil _ _ _ _, Ext.refl _⟩
 | some ad =>
  have HV := Lib.hid hv
  clear hv' hc h1 hl hv
  go_enter Tryz.func40, Tryz.ntmps40
  go_wp2_with (at_builtin; refine wpList_append_sl _ rfl _ _ _ rfl elAtR rfl (own_new w w.heap.size #[] 88 7 0 (Nat.le_refl _) rfl (Nat.zero_le _)) rfl (HV.out.ext (Ext.alloc _ _)) ?_ H1.out ?_ ?_ ?_ ?_)
  ·rw [HL.out]
  ·omega
  ·unfold maxLen; omega
  ·simp
  intro v1 w1 hown hb _ _
  go_wp2
  go_ret
  exact ⟨_, rfl, by simpa using hown, Below.trans (Ext.alloc w _) hb⟩
theorem atCells_one (l : List Atm) : ∀ x ∈ l.flatMap atCells, x.oneCell' = true := by
 intro x hx
 obtain ⟨a, _, hx⟩ := List.mem_flatMap.1 hx
 unfold atCells at hx
 simp only [List.mem_cons, List.not_mem_nil, or_false] at hx
 rcases hx with rfl | rfl | rfl | rfl | rfl | rfl | rfl <;> rfl
theorem cloneAts_any (v : Value) (l : List Atm) (w : World) (hv : Ats w v l) (hn : l.length ≤ 1048576) :
 Calls Tryz.prog 40 #[v] w fun e w' => ∃ u, e = .returned u ∧ w'.ownsRow w.heap.size 88 7 u l.length (l.flatMap atCells) ∧ Ext w w' :=
 cloneA0 v l.length _ w hv (flatMap_len atCells 7 (fun _ => rfl) l) (atCells_one l) hn
theorem ats_take {w : World} {a : Option Addr} {n cap : Nat} {l : List Atm} (h : Ats w (.slice a n cap) l) (m : Nat) (hm : m ≤ l.length) : Ats w (.slice a m cap) (l.take m) := by
 obtain ⟨a', c', e, h1, h2, h3⟩ := h
 cases e
 unfold Ats
 rw [List.length_take, Nat.min_eq_left hm]
 refine ⟨a, cap, rfl, by omega, h2, fun hp => ?_⟩
 have hlen := flatMap_len atCells 7 (fun _ => rfl) l
 have hlen2 := flatMap_len atCells 7 (fun _ => rfl) (l.take m)
 have hlm : ((l.take m).flatMap atCells).length = m * 7 := by rw [hlen2, List.length_take, Nat.min_eq_left hm]
 have hpre : (l.take m).flatMap atCells = (l.flatMap atCells).take (m * 7) := by
  have e : l.flatMap atCells = (l.take m).flatMap atCells ++ (l.drop m).flatMap atCells := by rw [← List.flatMap_append, List.take_append_drop]
  rw [e, List.take_append_of_le_length (by omega)]
  exact (List.take_of_length_le (by omega)).symm
 obtain ⟨b, o, rfl, hc⟩ := h3 (by rw [hlen2, List.length_take] at hp; omega)
 refine ⟨b, o, rfl, fun i u hu => hc i u ?_⟩
 rw [hpre, List.getElem?_take] at hu
 split at hu
 ·exact hu
 ·cases hu
def cutP (P : Pat) : Pat := ⟨P.atoms.take 42, P.ret.take 34, P.count, P.distinct, P.limited, P.limit, P.offset, P.hint.take 34⟩
def groO1 : Nat → Gro
 | 1 => .read
 | 3 => .read
 | 7 => .grow
 | 9 => .read
 | 11 => .read
 | 15 => .grow
 | 17 => .read
 | 19 => .read
 | 23 => .grow
 | 25 => .write
 | 27 => .write
 | 29 => .write
 | _ => .pure
set_option maxRecDepth 100000 in
set_option maxHeartbeats 2000000 in
theorem ownP18_any (v : Value) (P : Pat) (w : World) (h : PatAt w v P) :
 Calls Tryz.prog 12 #[v] w fun e w' => ∃ u, e = .returned u ∧ PatOwn w.heap.size w' u (cutP P) ∧ Ext w w' := by
 have hmo : Tryz.prog.follows .mixedOrders = true := by kernel_rfl
 obtain ⟨av, rv, hv, rfl, ha, hr, hh⟩ := h
 obtain ⟨ava, avc, rfl, hac, _⟩ := ha.shape
 obtain ⟨rva, rvc, rfl, hrc, _⟩ := Sl.shape hr
 obtain ⟨hva, hvc, rfl, hhc, _⟩ := Sl.shape hh
 obtain ⟨atoms, ret, cn, ds, lm, li, off, hint⟩ := P
 unfold patV patL cutP
 dsimp only at *
 obtain ⟨na, hna⟩ : ∃ n, min atoms.length 42 = n := ⟨_, rfl⟩
 obtain ⟨nr, hnr⟩ : ∃ n, min ret.length 34 = n := ⟨_, rfl⟩
 obtain ⟨nh, hnh⟩ : ∃ n, min hint.length 34 = n := ⟨_, rfl⟩
 have ia : min (atoms.length : Int) 42 = na := by omega
 have ir : min (ret.length : Int) 34 = nr := by omega
 have ih : min (hint.length : Int) 34 = nh := by omega
 have la : na ≤ atoms.length := by omega
 have lr : nr ≤ ret.length := by omega
 have lh : nh ≤ hint.length := by omega
 have ka : na ≤ avc := by omega
 have kr : nr ≤ rvc := by omega
 have kh : nh ≤ hvc := by omega
 have ta : atoms.take 42 = atoms.take na := by rw [← hna, List.take_eq_take_min, Nat.min_comm]
 have tr : ret.take 34 = ret.take nr := by rw [← hnr, List.take_eq_take_min, Nat.min_comm]
 have th : hint.take 34 = hint.take nh := by rw [← hnh, List.take_eq_take_min, Nat.min_comm]
 rw [ta, tr, th]
 obtain ⟨A, eA⟩ : ∃ l, atoms.take na = l := ⟨_, rfl⟩
 obtain ⟨R, eR⟩ : ∃ l, ret.take nr = l := ⟨_, rfl⟩
 obtain ⟨H, eH⟩ : ∃ l, hint.take nh = l := ⟨_, rfl⟩
 have lA : A.length ≤ 1048576 := by rw [← eA, List.length_take]; omega
 have lR : R.length ≤ 1048576 := by rw [← eR, List.length_take]; omega
 have lH : H.length ≤ 1048576 := by rw [← eH, List.length_take]; omega
 rw [eA, eR, eH]
 have HA := Lib.hid (fun w' (hx : Ext w w') => cloneAts_any (.slice ava na avc) A w' (eA ▸ ats_take (ha.ext hx) na la) lA)
 have HR := Lib.hid (fun w' (hx : Ext w w') => cloneStrs_any (.slice rva nr rvc) R w' (eR ▸ strs_take (Strs.ext hr hx) nr lr) lR)
 have HH := Lib.hid (fun w' (hx : Ext w w') => cloneStrs_any (.slice hva nh hvc) H w' (eH ▸ strs_take (Strs.ext hh hx) nh lh) lH)
 clear eA eR eH
 have hx1 := Ext.alloc w (.cells #[.slice ava atoms.length avc, .slice rva ret.length rvc, .bool cn, .bool ds, .bool lm, .int .i64 li, .int .i64 off, .slice hva hint.length hvc] 35)
 have hx2 := Ext.alloc (w.alloc (.cells #[.slice ava atoms.length avc, .slice rva ret.length rvc, .bool cn, .bool ds, .bool lm, .int .i64 li, .int .i64 off, .slice hva hint.length hvc] 35)) (.cells #[.slice none 0 0, .slice none 0 0, .bool false, .bool false, .bool false, .int .i64 0, .int .i64 0, .slice none 0 0] 35)
 have HX := Lib.hid (hx1.trans hx2)
 have HB := Lib.hid ((RowAt.new w 35 [.slice ava atoms.length avc, .slice rva ret.length rvc, .bool cn, .bool ds, .bool lm, .int .i64 li, .int .i64 off, .slice hva hint.length hvc]).ext hx2)
 have HN := Lib.hid (show RowAt ((w.alloc (.cells #[.slice ava atoms.length avc, .slice rva ret.length rvc, .bool cn, .bool ds, .bool lm, .int .i64 li, .int .i64 off, .slice hva hint.length hvc] 35)).alloc (.cells #[.slice none 0 0, .slice none 0 0, .bool false, .bool false, .bool false, .int .i64 0, .int .i64 0, .slice none 0 0] 35)) (w.heap.size + 1) 35 [.slice none 0 0, .slice none 0 0, .bool false, .bool false, .bool false, .int .i64 0, .int .i64 0, .slice none 0 0] from row_at (by simp))
 clear hx1 hx2 ha hr hh hna hnr hnh ta tr th
 go_enter Tryz.func12, Tryz.ntmps12
 go_upto_region 1 with fail
 generalize ((w.alloc (.cells #[.slice ava atoms.length avc, .slice rva ret.length rvc, .bool cn, .bool ds, .bool lm, .int .i64 li, .int .i64 off, .slice hva hint.length hvc] 35)).alloc (.cells #[.slice none 0 0, .slice none 0 0, .bool false, .bool false, .bool false, .int .i64 0, .int .i64 0, .slice none 0 0] 35)) = w1 at *
 obtain ⟨x, hx⟩ : ∃ x, w.heap.size = x := ⟨_, rfl⟩
 obtain ⟨y, hy⟩ : ∃ y, x + 1 = y := ⟨_, rfl⟩
 rw [hx] at HB HN
 rw [hy] at HN
 simp only [hx, hy]
 have HWX := Lib.hid hx
 have HWY := Lib.hid (show w.heap.size ≤ y by omega)
 have hxy : x ≠ y := by omega
 clear hx hy
 refine wp_region_gro groO1 [0, 1, 2, 3, 4, 5, 6, 8, 9, 10, 11, 12, 13, 14, 16, 17, 18, 19, 20, 21, 22, 7, 24, 15, 23, 25, 26, 27, 28, 29] hmo (by kernel_rfl) rfl (by kernel_rfl) (fun _ _ _ _ _ h => h) ?_
 have hxd : Ext w1 w1.drew := Ext.drewN w1 1
 replace HX := Lib.hid (HX.out.trans hxd)
 replace HB := Lib.hid (HB.out.ext hxd)
 replace HN := Lib.hid (HN.out.ext hxd)
 clear hxd
 generalize w1.drew = w2 at *
 obtain ⟨d0, d1, d2, d3, d4, d5, d6, d7⟩ := row8_facts HB.out
 repeat (first
  | (refine groL_pure rfl rfl ?_; intro K hK; go_simp; refine hK _ ?_; clear hK K)
  | (refine groL_read rfl rfl ?_; intro K S hS hK; go_simp; refine hK _ ?_; clear hK K hS S)
  | (refine groL_read rfl rfl ?_; intro K S hS hK; go_simp; refine ⟨hS _ ?_, hK _ ?_⟩; (clear hK K hS S; intro w' hx'; have hce := ext_some hx'; go_simp); clear hK K hS S)
  | (refine groL_write rfl rfl ?_; intro K hK; go_simp; refine hK _ _ ?_; clear hK K))
 clear d0 d1 d2 d3 d4 d5 d6 d7
 have HA2 := Lib.hid (HA.out w2 HX.out)
 refine groL_grow rfl rfl ?_
 intro K hK
 go_simp
 (refine HA2.out.mono ?_; rintro e w3 ⟨u1, rfl, ho1, hx3⟩)
 go_simp
 refine hK _ _ ⟨hx3, ?_⟩
 clear hK K
 have HO1 := Lib.hid (own_base ho1 (show w.heap.size ≤ w2.heap.size from HX.out.size))
 have HX3 := Lib.hid (HX.out.trans hx3)
 have HB3 := Lib.hid (HB.out.ext hx3)
 have HN3 := Lib.hid (HN.out.ext hx3)
 have HR3 := Lib.hid (HR.out w3 HX3.out)
 clear ho1 hx3 HA2 HA HR HX HB HN
 repeat (first
  | (refine groL_pure rfl rfl ?_; intro K hK; go_simp; refine hK _ ?_; clear hK K)
  | (refine groL_read rfl rfl ?_; intro K S hS hK; go_simp; refine hK _ ?_; clear hK K hS S)
  | (refine groL_read rfl rfl ?_; intro K S hS hK; go_simp; refine ⟨hS _ ?_, hK _ ?_⟩; (clear hK K hS S; intro w' hx'; have hce := ext_some hx'; go_simp); clear hK K hS S)
  | (refine groL_write rfl rfl ?_; intro K hK; go_simp; refine hK _ _ ?_; clear hK K))
 refine groL_grow rfl rfl ?_
 intro K hK
 go_simp
 (refine HR3.out.mono ?_; rintro e w4 ⟨u2, rfl, ho2, hx4⟩)
 go_simp
 refine hK _ _ ⟨hx4, ?_⟩
 clear hK K
 have HO2 := Lib.hid (own_base ho2 (show w.heap.size ≤ w3.heap.size from HX3.out.size))
 have HX4 := Lib.hid (HX3.out.trans hx4)
 have HB4 := Lib.hid (HB3.out.ext hx4)
 have HN4 := Lib.hid (HN3.out.ext hx4)
 have HO14 := Lib.hid (own_ext HO1.out hx4)
 have HH4 := Lib.hid (HH.out w4 HX4.out)
 clear ho2 hx4 HR3 HH HX3 HB3 HN3 HO1
 repeat (first
  | (refine groL_pure rfl rfl ?_; intro K hK; go_simp; refine hK _ ?_; clear hK K)
  | (refine groL_read rfl rfl ?_; intro K S hS hK; go_simp; refine hK _ ?_; clear hK K hS S)
  | (refine groL_read rfl rfl ?_; intro K S hS hK; go_simp; refine ⟨hS _ ?_, hK _ ?_⟩; (clear hK K hS S; intro w' hx'; have hce := ext_some hx'; go_simp); clear hK K hS S)
  | (refine groL_write rfl rfl ?_; intro K hK; go_simp; refine hK _ _ ?_; clear hK K))
 refine groL_grow rfl rfl ?_
 intro K hK
 go_simp
 (refine HH4.out.mono ?_; rintro e w5 ⟨u3, rfl, ho3, hx5⟩)
 go_simp
 refine hK _ _ ⟨hx5, ?_⟩
 clear hK K
 have HO3 := Lib.hid (own_base ho3 (show w.heap.size ≤ w4.heap.size from HX4.out.size))
 have HX5 := Lib.hid (HX4.out.trans hx5)
 have HB5 := Lib.hid (HB4.out.ext hx5)
 have HN5 := Lib.hid (HN4.out.ext hx5)
 have HO15 := Lib.hid (own_ext HO14.out hx5)
 have HO25 := Lib.hid (own_ext HO2.out hx5)
 clear ho3 hx5 HH4 HX4 HB4 HN4 HO14 HO2
 obtain ⟨z1a, z1c, rfl⟩ := own_vw HO15.out
 obtain ⟨z2a, z2c, rfl⟩ := own_vw HO25.out
 obtain ⟨z3a, z3c, rfl⟩ := own_vw HO3.out
 have hgt : ∀ W i v, World.grownBy W (W.setCell ⟨x, i, none⟩ v) (some x) := fun W i v => grown_set W x i v
 have HW : Hid (RowAt (((w5.setCell ⟨x, 0, none⟩ (.slice z1a A.length z1c)).setCell ⟨x, 1, none⟩ (.slice z2a R.length z2c)).setCell ⟨x, 7, none⟩ (.slice z3a H.length z3c)) x 35 [.slice z1a A.length z1c, .slice z2a R.length z2c, .bool cn, .bool ds, .bool lm, .int .i64 li, .int .i64 off, .slice z3a H.length z3c]) := Lib.hid (((HB5.out.set 0 _).set 1 _).set 7 _)
 have HG1 := Lib.hid (HB5.out.set 0 (.slice z1a A.length z1c))
 have HG2 := Lib.hid (HG1.out.set 1 (.slice z2a R.length z2c))
 have HXF := Lib.hid (Ext.set_of (Ext.set_of (Ext.set_of HX5.out (Nat.le_of_eq HWX.out) (o := 0) (.slice z1a A.length z1c)) (Nat.le_of_eq HWX.out) (o := 1) (.slice z2a R.length z2c)) (Nat.le_of_eq HWX.out) (o := 7) (.slice z3a H.length z3c))
 have HNF := Lib.hid (((HN5.out.kept (hgt w5 0 (.slice z1a A.length z1c)) (fun e => hxy (Option.some.inj e))).kept (hgt _ 1 (.slice z2a R.length z2c)) (fun e => hxy (Option.some.inj e))).kept (hgt _ 7 (.slice z3a H.length z3c)) (fun e => hxy (Option.some.inj e)))
 have HP1 := Lib.hid (own_turn (own_turn (own_turn HO15.out HB5.out (by decide) (hgt w5 0 (.slice z1a A.length z1c))) HG1.out (by decide) (hgt _ 1 (.slice z2a R.length z2c))) HG2.out (by decide) (hgt _ 7 (.slice z3a H.length z3c)))
 have HP2 := Lib.hid (own_turn (own_turn (own_turn HO25.out HB5.out (by decide) (hgt w5 0 (.slice z1a A.length z1c))) HG1.out (by decide) (hgt _ 1 (.slice z2a R.length z2c))) HG2.out (by decide) (hgt _ 7 (.slice z3a H.length z3c)))
 have HP3 := Lib.hid (own_turn (own_turn (own_turn HO3.out HB5.out (by decide) (hgt w5 0 (.slice z1a A.length z1c))) HG1.out (by decide) (hgt _ 1 (.slice z2a R.length z2c))) HG2.out (by decide) (hgt _ 7 (.slice z3a H.length z3c)))
 have f0 := HB5.out.cell (i := 0) rfl
 have f1 := HB5.out.cell (i := 1) rfl
 have f7 := HB5.out.cell (i := 7) rfl
 have g0 := HB5.out.frozen 0
 have g1 := HB5.out.frozen 1
 have g7 := HB5.out.frozen 7
 clear hgt
 repeat (first
  | (refine groL_pure rfl rfl ?_; intro K hK; go_simp; refine hK _ ?_; clear hK K)
  | (refine groL_read rfl rfl ?_; intro K S hS hK; go_simp; refine hK _ ?_; clear hK K hS S)
  | (refine groL_read rfl rfl ?_; intro K S hS hK; go_simp; refine ⟨hS _ ?_, hK _ ?_⟩; (clear hK K hS S; intro w' hx'; have hce := ext_some hx'; go_simp); clear hK K hS S)
  | (refine groL_write rfl rfl ?_; intro K hK; go_simp; refine hK _ _ ?_; clear hK K))
 refine groL_nil ?_
 clear f0 f1 f7 g0 g1 g7 HB5 HG1 HG2 HX5 HN5 HO15 HO25 HO3
 generalize (((w5.setCell ⟨x, 0, none⟩ (.slice z1a A.length z1c)).setCell ⟨x, 1, none⟩ (.slice z2a R.length z2c)).setCell ⟨x, 7, none⟩ (.slice z3a H.length z3c)) = w6 at *
 go_upto_region 2 with fail
 apply wp_region_lit
 refine plain_load rfl _ _ rfl x rfl [.slice z1a A.length z1c, .slice z2a R.length z2c, .bool cn, .bool ds, .bool lm, .int .i64 li, .int .i64 off, .slice z3a H.length z3c] _ HW.out Tryz.underlying35 rfl (by kernel_rfl) ?_
 go_simp
 refine plain_store rfl _ _ _ rfl y [.slice z1a A.length z1c, .slice z2a R.length z2c, .bool cn, .bool ds, .bool lm, .int .i64 li, .int .i64 off, .slice z3a H.length z3c] rfl rfl HNF.out (by kernel_rfl) rfl (by simp [Value.oneCell']) ?_
 have HY := Lib.hid (HNF.out.setRow [.slice z1a A.length z1c, .slice z2a R.length z2c, .bool cn, .bool ds, .bool lm, .int .i64 li, .int .i64 off, .slice z3a H.length z3c])
 have HXY := Lib.hid (show Ext w (w6.setRow y #[.slice z1a A.length z1c, .slice z2a R.length z2c, .bool cn, .bool ds, .bool lm, .int .i64 li, .int .i64 off, .slice z3a H.length z3c]) from below_setRow HXF.out HWY.out _)
 have HQ1 := Lib.hid (own_turn HP1.out HNF.out (by decide) (setRow_grown w6 y #[.slice z1a A.length z1c, .slice z2a R.length z2c, .bool cn, .bool ds, .bool lm, .int .i64 li, .int .i64 off, .slice z3a H.length z3c]))
 have HQ2 := Lib.hid (own_turn HP2.out HNF.out (by decide) (setRow_grown w6 y #[.slice z1a A.length z1c, .slice z2a R.length z2c, .bool cn, .bool ds, .bool lm, .int .i64 li, .int .i64 off, .slice z3a H.length z3c]))
 have HQ3 := Lib.hid (own_turn HP3.out HNF.out (by decide) (setRow_grown w6 y #[.slice z1a A.length z1c, .slice z2a R.length z2c, .bool cn, .bool ds, .bool lm, .int .i64 li, .int .i64 off, .slice z3a H.length z3c]))
 clear HW HXF HNF HP1 HP2 HP3
 generalize w6.setRow y #[.slice z1a A.length z1c, .slice z2a R.length z2c, .bool cn, .bool ds, .bool lm, .int .i64 li, .int .i64 off, .slice z3a H.length z3c] = w7 at *
 go_simp
 apply wpList_nil
 go_wp2_with fail
 exact bodyPost_ret (results_row0 rfl rfl HY.out Tryz.underlying35 rfl (by kernel_rfl)) rfl ⟨_, rfl, ⟨_, _, _, rfl, HQ1.out, HQ2.out, HQ3.out⟩, HXY.out⟩
end Go.Proofs.YtkmbnghghbfkdaaGreat

/- The law's own goals: copies in memory of their own. -/
namespace Go.Proofs.YtkmbnghghbfkdaaGreat
open Go.RowKit Go.Shelf Go.Sort
attribute [local go_sem] Oper.semAt_some wide_fn wide_depth
end Go.Proofs.YtkmbnghghbfkdaaGreat
