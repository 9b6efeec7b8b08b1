/- The atom that comes to something. -/
import Derived.Test.YtkmbnghghbfkdaaGreatGp31
import Derived.Test.YtkmbnghghbfkdaaGreatGp27
import Derived.Test.YtkmbnghghbfkdaaGreatGp28
import Derived.Test.YtkmbnghghbfkdaaGreatGp29
import Derived.Test.YtkmbnghghbfkdaaGreatGp30
set_option linter.unusedSimpArgs false
set_option linter.unusedVariables false
set_option maxHeartbeats 2000000
set_option maxRecDepth 100000

namespace Go.Proofs.YtkmbnghghbfkdaaGreat
open Go.RowKit Go.Shelf Go.Sort
attribute [local go_sem] Oper.semAt_some wide_fn wide_depth
theorem ways_ix0 (w : World) : (Instr.index 148 waysV (.int .i64 0)).run Tryz.prog w = .ok (.agg #[.int .i64 1, .func (.func 115) #[] #[], .func (.func 117) #[] #[]]) w := rfl
theorem ways_ix1 (w : World) : (Instr.index 148 waysV (.int .i64 1)).run Tryz.prog w = .ok (.agg #[.int .i64 2, .func (.func 119) #[] #[], .func (.func 121) #[] #[]]) w := rfl
theorem ways_ix2 (w : World) : (Instr.index 148 waysV (.int .i64 2)).run Tryz.prog w = .ok (.agg #[.int .i64 3, .func (.func 123) #[] #[], .func (.func 124) #[] #[]]) w := rfl
theorem ways_ix3 (w : World) : (Instr.index 148 waysV (.int .i64 3)).run Tryz.prog w = .ok (.agg #[.int .i64 4, .func (.func 125) #[] #[], .func (.func 126) #[] #[]]) w := rfl
theorem natom_e {D : Dic} {V : List ByteArray} {k : Int} {kk : Int} (n : Int) (a b : Arg) (hk : kk = k + 1) (h4 : 0 ≤ k ∧ k < 4) :
 (∀ x, (atmF D V ⟨k, n, a, b⟩).map atm0 = some x → Ending.returned (.agg #[.int .i64 kk, .bool x.fk, .string x.fn, .string x.name, .string x.value, .bool x.tk, .string x.tn]) = outE (atmF D V ⟨k, n, a, b⟩) atV) ∧
  ((atmF D V ⟨k, n, a, b⟩).map atm0 = none → unknE = outE (atmF D V ⟨k, n, a, b⟩) atV) := by
 have hkd : ∀ x, atmF D V ⟨k, n, a, b⟩ = some x → x.kind = kk := by
  intro x hx
  subst hk
  have hc : k = 0 ∨ k = 1 ∨ k = 2 ∨ k = 3 := by omega
  rcases hc with rfl | rfl | rfl | rfl
  ·rw [atmF0] at hx
   obtain ⟨t, _, rfl⟩ := Option.map_eq_some_iff.1 hx
   rfl
  ·rw [atmF1] at hx
   obtain ⟨t, _, hx⟩ := Option.bind_eq_some_iff.1 hx
   obtain ⟨s, _, rfl⟩ := Option.map_eq_some_iff.1 hx
   rfl
  ·rw [atmF2] at hx
   obtain ⟨t, _, hx⟩ := Option.bind_eq_some_iff.1 hx
   obtain ⟨s, _, hx⟩ := Option.bind_eq_some_iff.1 hx
   obtain ⟨v, _, rfl⟩ := Option.map_eq_some_iff.1 hx
   rfl
  ·rw [atmF3] at hx
   obtain ⟨t, _, hx⟩ := Option.bind_eq_some_iff.1 hx
   obtain ⟨s, _, hx⟩ := Option.bind_eq_some_iff.1 hx
   obtain ⟨v, _, rfl⟩ := Option.map_eq_some_iff.1 hx
   rfl
 cases hb : atmF D V ⟨k, n, a, b⟩ with
 | none => exact ⟨fun b h => by simp at h, fun _ => rfl⟩
 | some x =>
  refine ⟨fun x' h => ?_, fun h => by simp at h⟩
  simp only [Option.map_some, Option.some.injEq] at h
  subst h
  rw [← hkd x hb]
  rfl
set_option maxRecDepth 100000 in
set_option maxHeartbeats 4000000 in
theorem natom0_any (vs : Nat → Value × Value) (m : Nat) (a0 : Option Addr) (c : Nat) (D : Dic) (V : List ByteArray) (w : World) (hV : DicV w vs D) (hS : DicS D) (h : DicOK D) (hA : Strs w (.slice a0 V.length c) V) (hl : V.length ≤ 1000000) (n : Int) (a b : Arg) :
 Calls Tryz.prog 61 #[nmV vs m (.slice a0 V.length c), bndV ⟨0, n, a, b⟩] w fun e w' => e = outE (atmF D V ⟨0, n, a, b⟩) atV ∧ Ext w w' := by
 have hmo : Tryz.prog.follows .mixedOrders = true := by kernel_rfl
 have hC := fun w' (hx : Ext w w') => way2_any vs m a0 c D V w' (hV.ext hx) hS h (Strs.ext hA hx) hl n a b
 have hXs := natom_e (D := D) (V := V) (k := 0) (kk := 1) n a b rfl (by omega)
 obtain ⟨X, hX⟩ : ∃ X, outE (atmF D V ⟨0, n, a, b⟩) atV = X := ⟨_, rfl⟩
 rw [hX] at hXs ⊢
 obtain ⟨r, hr⟩ : ∃ r, (atmF D V ⟨0, n, a, b⟩).map atm0 = r := ⟨_, rfl⟩
 rw [hr] at hC hXs
 have HX0 := Lib.hid hXs.1
 have HN0 := Lib.hid hXs.2
 have HC := Lib.hid hC
 clear hC hXs hr hX hV hS h hA hl
 unfold nmV bndV bndCells at *
 dsimp only at *
 generalize Value.slice a0 V.length c = av at *
 have hbx := boxes3 w (nmL vs m av) 98 ([.int .i64 0, .int .i64 n, .int .i64 a.var, .int .i64 a.id, .int .i64 b.var, .int .i64 b.id]) 75 ([.int .i64 0, .bool false, .string ⟨#[]⟩, .string ⟨#[]⟩, .string ⟨#[]⟩, .bool false, .string ⟨#[]⟩]) 88
 have HBX := Lib.hid hbx
 clear hbx
 go_enter Tryz.func61, Tryz.ntmps61
 go_upto_region 1 with fail
 generalize ((w.alloc (.cells (nmL vs m av).toArray 98)).alloc (.cells ([.int .i64 0, .int .i64 n, .int .i64 a.var, .int .i64 a.id, .int .i64 b.var, .int .i64 b.id]).toArray 75)).alloc (.cells ([.int .i64 0, .bool false, .string ⟨#[]⟩, .string ⟨#[]⟩, .string ⟨#[]⟩, .bool false, .string ⟨#[]⟩]).toArray 88) = w1 at *
 obtain ⟨y0, hy0⟩ : ∃ x, w.heap.size = x := ⟨_, rfl⟩
 obtain ⟨y1, hy1⟩ : ∃ x, y0 + 1 = x := ⟨_, rfl⟩
 obtain ⟨y2, hy2⟩ : ∃ x, y1 + 1 = x := ⟨_, rfl⟩
 rw [hy0, hy1, hy2] at HBX
 simp only [hy0, hy1, hy2]
 have HN := Lib.hid (show w.heap.size = y0 ∧ y0 + 1 = y1 ∧ y1 + 1 = y2 from ⟨hy0, hy1, hy2⟩)
 have HX := Lib.hid HBX.out.1
 have H0 := Lib.hid HBX.out.2.1
 have H1 := Lib.hid HBX.out.2.2.1
 have H2 := Lib.hid HBX.out.2.2.2
 clear hy0 hy1 hy2 HBX
 have HY := Lib.hid (show y0 ≠ y2 ∧ y1 ≠ y2 ∧ w.heap.size ≤ y2 by have := HN.out; omega)
 clear HN
 have c0 := H1.out.cell (i := 0) rfl
 go_wp2_with fail
 refine (need_yes _).mono ?_
 rintro e w5 ⟨rfl, rfl⟩
 clear c0
 go_upto_region 2 with fail
 refine wp_region_inv [18, 19, 20, 21, 22, 5] _ (fun i => ([[], [], [1], [2], [0, 3], [], [4, 5]] : List (List Nat)).getD i []) (fun S us W => ∃ z, PlF ((fun z al bb W => Ext w W ∧ RowAt W y0 98 (nmL vs m av) ∧ RowAt W y1 75 [.int .i64 0, .int .i64 n, .int .i64 a.var, .int .i64 a.id, .int .i64 b.var, .int .i64 b.id] ∧ RowAt W y2 88 [.int .i64 0, .bool false, .string ⟨#[]⟩, .string ⟨#[]⟩, .string ⟨#[]⟩, .bool false, .string ⟨#[]⟩] ∧ (bb = true → al = true) ∧ (al = true → y2 < z ∧ y0 < z ∧ y1 < z ∧ RowAt W z 147 (if bb = true then [.int .i64 1, .func (.func 115) #[] #[], .func (.func 117) #[] #[]] else [.int .i64 0, .nilFunc, .nilFunc]))) z (S 5)) [some (waysV), some (.pointer (some ⟨y1, 0, none⟩)), some (.pointer (some ⟨y1, 0, none⟩)), some (.int .i64 0), some (.agg #[.int .i64 1, .func (.func 115) #[] #[], .func (.func 117) #[] #[]]), some (.pointer (some ⟨z, 0, none⟩))] 6 S us W) hmo (by kernel_rfl) (by kernel_rfl) (puts_self _ _) ⟨0, PlF.start rfl (⟨HX.out.trans (Ext.drewN w1 1), H0.out.ext (Ext.drewN w1 1), H1.out.ext (Ext.drewN w1 1), H2.out.ext (Ext.drewN w1 1), nofun, nofun⟩)⟩ ?_ ?_
 ·refine ⟨?_, ?_, ?_, ?_, ?_, ?_, ?_, trivial⟩
  all_goals
   rintro S us wq hd hn ⟨z, hF⟩ K hK
   obtain ⟨u0, u1, u2, u3, u4, u5, rfl⟩ := len6 hF.len rfl
   have hI := hF.inv
   have HK := Lib.hid (fun us' w'' z' h => hK us' w'' ⟨z', h⟩)
   have HF := Lib.hid hF
   have HN := Lib.hid hn
   have HD := Lib.hid hd
   clear hK hF hn hd
   simp only [puts, Act.put, List.setIfInBounds_toArray, List.set_cons_succ, List.set_cons_zero]
  ·go_simp
   refine (ways_any wq).mono ?_
   rintro e w2 ⟨rfl, hx2⟩
   have hk := HK.out _ w2 z (HF.out.put (i := 0) (v := waysV) rfl (by decide) ⟨hI.1.trans hx2, hI.2.1.ext hx2, hI.2.2.1.ext hx2, hI.2.2.2.1.ext hx2, hI.2.2.2.2.1, fun e => by obtain ⟨a1, a2, a3, a4⟩ := hI.2.2.2.2.2 e; exact ⟨a1, a2, a3, a4.ext hx2⟩⟩)
   simp only [puts, Act.put, List.setIfInBounds_toArray, List.set_cons_succ, List.set_cons_zero] at hk
   go_simp
   exact hk
  ·have hk := HK.out _ wq z (HF.out.put (i := 1) (v := .pointer (some ⟨y1, 0, none⟩)) rfl (by decide) hI)
   simp only [puts, Act.put, List.setIfInBounds_toArray, List.set_cons_succ, List.set_cons_zero] at hk
   go_simp
   exact hk
  ·obtain rfl := HF.out.got (HD.out 1 (by decide)) (i := 1) rfl rfl
   have hk := HK.out _ wq z (HF.out.put (i := 2) (v := .pointer (some ⟨y1, 0, none⟩)) rfl (by decide) hI)
   simp only [puts, Act.put, List.setIfInBounds_toArray, List.set_cons_succ, List.set_cons_zero] at hk
   go_simp
   exact hk
  ·obtain rfl := HF.out.got (HD.out 2 (by decide)) (i := 2) rfl rfl
   have c := hI.2.2.1.cell (i := 0) rfl
   have hk := HK.out _ wq z (HF.out.put (i := 3) (v := .int .i64 0) rfl (by decide) hI)
   simp only [puts, Act.put, List.setIfInBounds_toArray, List.set_cons_succ, List.set_cons_zero] at hk
   go_simp
   exact hk
  ·obtain rfl := HF.out.got (HD.out 0 (by decide)) (i := 0) rfl rfl
   obtain rfl := HF.out.got (HD.out 3 (by decide)) (i := 3) rfl rfl
   have hix := fun w => ways_ix0 w
   have hk := HK.out _ wq z (HF.out.put (i := 4) (v := .agg #[.int .i64 1, .func (.func 115) #[] #[], .func (.func 117) #[] #[]]) rfl (by decide) hI)
   simp only [puts, Act.put, List.setIfInBounds_toArray, List.set_cons_succ, List.set_cons_zero] at hk
   go_simp
   exact hk
  ·have h6 : S 6 = false := by cases h : S 6; rfl; exact absurd (hI.2.2.2.2.1 h) (by rw [HN.out]; decide)
   have hx2 := Ext.alloc wq (.cells #[.int .i64 0, .nilFunc, .nilFunc] 147)
   have hr2 : RowAt (wq.alloc (.cells #[.int .i64 0, .nilFunc, .nilFunc] 147)) wq.heap.size 147 [.int .i64 0, .nilFunc, .nilFunc] := RowAt.new _ _ _
   have hk := HK.out _ _ wq.heap.size (HF.out.alloc (i := 5) (v := .pointer (some ⟨wq.heap.size, 0, none⟩)) HN.out (by show 5 < 6; decide) (by decide) (J := (fun z al bb W => Ext w W ∧ RowAt W y0 98 (nmL vs m av) ∧ RowAt W y1 75 [.int .i64 0, .int .i64 n, .int .i64 a.var, .int .i64 a.id, .int .i64 b.var, .int .i64 b.id] ∧ RowAt W y2 88 [.int .i64 0, .bool false, .string ⟨#[]⟩, .string ⟨#[]⟩, .string ⟨#[]⟩, .bool false, .string ⟨#[]⟩] ∧ (bb = true → al = true) ∧ (al = true → y2 < z ∧ y0 < z ∧ y1 < z ∧ RowAt W z 147 (if bb = true then [.int .i64 1, .func (.func 115) #[] #[], .func (.func 117) #[] #[]] else [.int .i64 0, .nilFunc, .nilFunc]))) wq.heap.size true) ⟨hI.1.trans hx2, hI.2.1.ext hx2, hI.2.2.1.ext hx2, hI.2.2.2.1.ext hx2, fun _ => rfl, fun _ => ⟨hI.2.2.2.1.lt, hI.2.1.lt, hI.2.2.1.lt, by rw [h6, if_neg (by decide)]; exact hr2⟩⟩)
   simp only [puts, Act.put, List.setIfInBounds_toArray, List.set_cons_succ, List.set_cons_zero] at hk
   go_simp
   exact hk
  ·obtain rfl := HF.out.got (HD.out 4 (by decide)) (i := 4) rfl rfl
   obtain rfl := HF.out.got (HD.out 5 (by decide)) (i := 5) rfl rfl
   have h5 := HD.out 5 (by decide)
   obtain ⟨a1, a2, a3, a4⟩ := hI.2.2.2.2.2 h5
   rw [HN.out, if_neg (by decide)] at a4
   rw [if_pos (show Region.wanted _ _ = true from rfl)]
   refine wp_store_row _ _ _ rfl z #[.int .i64 1, .func (.func 115) #[] #[], .func (.func 117) #[] #[]] rfl rfl _ _ a4 (by kernel_rfl) rfl (by simp [Value.oneCell']) ?_
   have hk := HK.out _ _ z (HF.out.fin (Nat.le_refl _) ⟨show Ext w (wq.setRow z #[.int .i64 1, .func (.func 115) #[] #[], .func (.func 117) #[] #[]]) from below_setRow hI.1 (by have := HY.out; omega) _, (setRow_other _ _ _ _ (by omega)).trans hI.2.1, (setRow_other _ _ _ _ (by omega)).trans hI.2.2.1, (setRow_other _ _ _ _ (by omega)).trans hI.2.2.2.1, fun _ => h5, fun _ => ⟨a1, a2, a3, by rw [if_pos rfl]; exact a4.setRow _⟩⟩)
   simp only [puts, Act.put, List.setIfInBounds_toArray, List.set_cons_succ, List.set_cons_zero] at hk
   exact hk
 ·rintro S us wq hS ⟨z, hF⟩
  obtain ⟨u0, u1, u2, u3, u4, u5, rfl⟩ := len6 hF.len rfl
  obtain rfl := hF.got (hS 0 (by decide)) (i := 0) rfl rfl
  obtain rfl := hF.got (hS 1 (by decide)) (i := 1) rfl rfl
  obtain rfl := hF.got (hS 2 (by decide)) (i := 2) rfl rfl
  obtain rfl := hF.got (hS 3 (by decide)) (i := 3) rfl rfl
  obtain rfl := hF.got (hS 4 (by decide)) (i := 4) rfl rfl
  obtain rfl := hF.got (hS 5 (by decide)) (i := 5) rfl rfl
  have hI := hF.inv
  rw [hS 6 (by decide), hS 5 (by decide)] at hI
  clear hF hS
  simp only [puts, Act.put, List.setIfInBounds_toArray, List.set_cons_succ, List.set_cons_zero]
  obtain ⟨hX5, h0, h1, h2, _, h5⟩ := hI
  obtain ⟨a1, _, _, a5⟩ := h5 rfl
  rw [if_pos rfl] at a5
  have HX5 := Lib.hid hX5
  have G0 := Lib.hid h0
  have G1 := Lib.hid h1
  have G2 := Lib.hid h2
  have HZZ := Lib.hid (show RowAt wq z 147 [.int .i64 1, .func (.func 115) #[] #[], .func (.func 117) #[] #[]] from a5)
  have HLT := Lib.hid a1
  clear hX5 h0 h1 h2 h5 a1 a5 HX H0 H1 H2
  have c2 := HZZ.out.cell (i := 2) rfl
  go_upto_region 3 with fail
  apply wp_region_lit
  refine wpList_plain rfl fun K1 hK1 => ?_
  go_simp
  refine hK1 _ _ ?_
  clear hK1 K1
  refine wpList_plain rfl fun K1 hK1 => ?_
  go_simp
  refine hK1 _ _ ?_
  clear hK1 K1
  refine plain_load rfl _ _ rfl y0 rfl _ _ (G0.out) Tryz.underlying98 rfl (by kernel_rfl) ?_
  go_simp
  refine plain_load rfl _ _ rfl y1 rfl _ _ (G1.out) Tryz.underlying75 rfl (by kernel_rfl) ?_
  go_simp
  refine wpList_plain rfl fun K1 hK1 => ?_
  go_simp
  refine (HC.out wq HX5.out).mono ?_
  rintro e w2 ⟨rfl, hxw2⟩
  rcases hrx : r with _ | x
  ·unfold outE unknE
   go_wp2_with fail
   exact ⟨rfl, HN0.out hrx, HX5.out.trans hxw2⟩
  unfold outE
  dsimp only
  go_simp
  refine hK1 _ _ ?_
  clear hK1 K1
  have HXw2 := Lib.hid (HX5.out.trans hxw2)
  have K2 := Lib.hid (G2.out.ext hxw2)
  have KZ := Lib.hid (HZZ.out.ext hxw2)
  clear hxw2 c2 HX5 G0 G1 G2 HZZ
  refine wpList_plain rfl fun K1 hK1 => ?_
  go_simp
  refine hK1 _ _ ?_
  clear hK1 K1
  have hax := Ext.alloc w2 (.cells #[.int .i64 0, .bool false, .string ⟨#[]⟩, .string ⟨#[]⟩, .string ⟨#[]⟩, .bool false, .string ⟨#[]⟩] 88)
  have har : RowAt (w2.alloc (.cells #[.int .i64 0, .bool false, .string ⟨#[]⟩, .string ⟨#[]⟩, .string ⟨#[]⟩, .bool false, .string ⟨#[]⟩] 88)) w2.heap.size 88 (#[.int .i64 0, .bool false, .string ⟨#[]⟩, .string ⟨#[]⟩, .string ⟨#[]⟩, .bool false, .string ⟨#[]⟩]).toList := RowAt.new _ _ _
  refine plain_store rfl _ _ _ rfl w2.heap.size (atCells x) rfl rfl har (by kernel_rfl) rfl ((by simp [atCells, Value.oneCell'])) ?_
  have hex : Ext w2 ((w2.alloc (.cells #[.int .i64 0, .bool false, .string ⟨#[]⟩, .string ⟨#[]⟩, .string ⟨#[]⟩, .bool false, .string ⟨#[]⟩] 88)).setRow w2.heap.size (atCells x).toArray) := below_setRow hax (Nat.le_refl _) _
  have HEw3 := Lib.hid hex
  have HRt := Lib.hid (har.setRow (atCells x))
  clear hax har hex
  go_simp
  generalize (w2.alloc (.cells #[.int .i64 0, .bool false, .string ⟨#[]⟩, .string ⟨#[]⟩, .string ⟨#[]⟩, .bool false, .string ⟨#[]⟩] 88)).setRow w2.heap.size (atCells x).toArray = w3 at *
  obtain ⟨t, hst⟩ : ∃ x, w2.heap.size = x := ⟨_, rfl⟩
  rw [hst] at HRt
  simp only [hst]
  have HSt := Lib.hid hst
  clear hst
  apply wpList_nil
  have HX3 := Lib.hid (HXw2.out.trans HEw3.out)
  have HTT := Lib.hid (show y2 < t by have := K2.out.lt; have := HSt.out; omega)
  replace K2 := Lib.hid (K2.out.ext HEw3.out)
  replace KZ := Lib.hid (KZ.out.ext HEw3.out)
  clear HXw2 HEw3 HSt
  have c0 := KZ.out.cell (i := 0) rfl
  have f0 := HRt.out.cell (i := 0) rfl
  have ff := HRt.out.frozen 0
  go_upto_region 5 with fail
  have HZ6 : Hid (RowAt (w3.setCell ⟨t, 0, none⟩ (.int .i64 1)) t 88 [.int .i64 1, .bool x.fk, .string x.fn, .string x.name, .string x.value, .bool x.tk, .string x.tn]) := Lib.hid (HRt.out.set 0 (.int .i64 1))
  have HY6 := Lib.hid (K2.out.kept (grown_set w3 t 0 (.int .i64 1)) (fun e => by have := Option.some.inj e; have := HTT.out; omega))
  have HX6 := Lib.hid (Ext.set_of HX3.out (show w.heap.size ≤ t by have := HTT.out; have := HY.out; omega) (o := 0) (.int .i64 1))
  clear c0 f0 ff KZ K2 HX3
  generalize w3.setCell ⟨t, 0, none⟩ (.int .i64 1) = w6 at *
  apply wp_region_lit
  refine plain_load rfl _ _ rfl t rfl _ _ (HZ6.out) Tryz.underlying88 rfl (by kernel_rfl) ?_
  go_simp
  refine plain_store rfl _ _ _ rfl y2 ([.int .i64 1, .bool x.fk, .string x.fn, .string x.name, .string x.value, .bool x.tk, .string x.tn]) rfl rfl (HY6.out) (by kernel_rfl) rfl ((by simp [Value.oneCell'])) ?_
  have HRR := Lib.hid ((HY6.out).setRow ([.int .i64 1, .bool x.fk, .string x.fn, .string x.name, .string x.value, .bool x.tk, .string x.tn]))
  have HXX := Lib.hid (show Ext w ((w6).setRow y2 ([.int .i64 1, .bool x.fk, .string x.fn, .string x.name, .string x.value, .bool x.tk, .string x.tn]).toArray) from below_setRow (HX6.out) ((by have := HY.out; omega)) _)
  go_simp
  apply wpList_nil
  go_wp2_with fail
  exact bodyPost_ret (results_row0 rfl rfl HRR.out Tryz.underlying88 rfl (by kernel_rfl)) rfl (⟨HX0.out x hrx, HXX.out⟩)
set_option maxRecDepth 100000 in
set_option maxHeartbeats 4000000 in
theorem natom1_any (vs : Nat → Value × Value) (m : Nat) (a0 : Option Addr) (c : Nat) (D : Dic) (V : List ByteArray) (w : World) (hV : DicV w vs D) (hS : DicS D) (h : DicOK D) (hA : Strs w (.slice a0 V.length c) V) (hl : V.length ≤ 1000000) (n : Int) (a b : Arg) :
 Calls Tryz.prog 61 #[nmV vs m (.slice a0 V.length c), bndV ⟨1, n, a, b⟩] w fun e w' => e = outE (atmF D V ⟨1, n, a, b⟩) atV ∧ Ext w w' := by
 have hmo : Tryz.prog.follows .mixedOrders = true := by kernel_rfl
 have hC := fun w' (hx : Ext w w') => way4_any vs m a0 c D V w' (hV.ext hx) hS h (Strs.ext hA hx) hl n a b
 have hXs := natom_e (D := D) (V := V) (k := 1) (kk := 2) n a b rfl (by omega)
 obtain ⟨X, hX⟩ : ∃ X, outE (atmF D V ⟨1, n, a, b⟩) atV = X := ⟨_, rfl⟩
 rw [hX] at hXs ⊢
 obtain ⟨r, hr⟩ : ∃ r, (atmF D V ⟨1, n, a, b⟩).map atm0 = r := ⟨_, rfl⟩
 rw [hr] at hC hXs
 have HX0 := Lib.hid hXs.1
 have HN0 := Lib.hid hXs.2
 have HC := Lib.hid hC
 clear hC hXs hr hX hV hS h hA hl
 unfold nmV bndV bndCells at *
 dsimp only at *
 generalize Value.slice a0 V.length c = av at *
 have hbx := boxes3 w (nmL vs m av) 98 ([.int .i64 1, .int .i64 n, .int .i64 a.var, .int .i64 a.id, .int .i64 b.var, .int .i64 b.id]) 75 ([.int .i64 0, .bool false, .string ⟨#[]⟩, .string ⟨#[]⟩, .string ⟨#[]⟩, .bool false, .string ⟨#[]⟩]) 88
 have HBX := Lib.hid hbx
 clear hbx
 go_enter Tryz.func61, Tryz.ntmps61
 go_upto_region 1 with fail
 generalize ((w.alloc (.cells (nmL vs m av).toArray 98)).alloc (.cells ([.int .i64 1, .int .i64 n, .int .i64 a.var, .int .i64 a.id, .int .i64 b.var, .int .i64 b.id]).toArray 75)).alloc (.cells ([.int .i64 0, .bool false, .string ⟨#[]⟩, .string ⟨#[]⟩, .string ⟨#[]⟩, .bool false, .string ⟨#[]⟩]).toArray 88) = w1 at *
 obtain ⟨y0, hy0⟩ : ∃ x, w.heap.size = x := ⟨_, rfl⟩
 obtain ⟨y1, hy1⟩ : ∃ x, y0 + 1 = x := ⟨_, rfl⟩
 obtain ⟨y2, hy2⟩ : ∃ x, y1 + 1 = x := ⟨_, rfl⟩
 rw [hy0, hy1, hy2] at HBX
 simp only [hy0, hy1, hy2]
 have HN := Lib.hid (show w.heap.size = y0 ∧ y0 + 1 = y1 ∧ y1 + 1 = y2 from ⟨hy0, hy1, hy2⟩)
 have HX := Lib.hid HBX.out.1
 have H0 := Lib.hid HBX.out.2.1
 have H1 := Lib.hid HBX.out.2.2.1
 have H2 := Lib.hid HBX.out.2.2.2
 clear hy0 hy1 hy2 HBX
 have HY := Lib.hid (show y0 ≠ y2 ∧ y1 ≠ y2 ∧ w.heap.size ≤ y2 by have := HN.out; omega)
 clear HN
 have c0 := H1.out.cell (i := 0) rfl
 go_wp2_with fail
 refine (need_yes _).mono ?_
 rintro e w5 ⟨rfl, rfl⟩
 clear c0
 go_upto_region 2 with fail
 refine wp_region_inv [18, 19, 20, 21, 22, 5] _ (fun i => ([[], [], [1], [2], [0, 3], [], [4, 5]] : List (List Nat)).getD i []) (fun S us W => ∃ z, PlF ((fun z al bb W => Ext w W ∧ RowAt W y0 98 (nmL vs m av) ∧ RowAt W y1 75 [.int .i64 1, .int .i64 n, .int .i64 a.var, .int .i64 a.id, .int .i64 b.var, .int .i64 b.id] ∧ RowAt W y2 88 [.int .i64 0, .bool false, .string ⟨#[]⟩, .string ⟨#[]⟩, .string ⟨#[]⟩, .bool false, .string ⟨#[]⟩] ∧ (bb = true → al = true) ∧ (al = true → y2 < z ∧ y0 < z ∧ y1 < z ∧ RowAt W z 147 (if bb = true then [.int .i64 2, .func (.func 119) #[] #[], .func (.func 121) #[] #[]] else [.int .i64 0, .nilFunc, .nilFunc]))) z (S 5)) [some (waysV), some (.pointer (some ⟨y1, 0, none⟩)), some (.pointer (some ⟨y1, 0, none⟩)), some (.int .i64 1), some (.agg #[.int .i64 2, .func (.func 119) #[] #[], .func (.func 121) #[] #[]]), some (.pointer (some ⟨z, 0, none⟩))] 6 S us W) hmo (by kernel_rfl) (by kernel_rfl) (puts_self _ _) ⟨0, PlF.start rfl (⟨HX.out.trans (Ext.drewN w1 1), H0.out.ext (Ext.drewN w1 1), H1.out.ext (Ext.drewN w1 1), H2.out.ext (Ext.drewN w1 1), nofun, nofun⟩)⟩ ?_ ?_
 ·refine ⟨?_, ?_, ?_, ?_, ?_, ?_, ?_, trivial⟩
  all_goals
   rintro S us wq hd hn ⟨z, hF⟩ K hK
   obtain ⟨u0, u1, u2, u3, u4, u5, rfl⟩ := len6 hF.len rfl
   have hI := hF.inv
   have HK := Lib.hid (fun us' w'' z' h => hK us' w'' ⟨z', h⟩)
   have HF := Lib.hid hF
   have HN := Lib.hid hn
   have HD := Lib.hid hd
   clear hK hF hn hd
   simp only [puts, Act.put, List.setIfInBounds_toArray, List.set_cons_succ, List.set_cons_zero]
  ·go_simp
   refine (ways_any wq).mono ?_
   rintro e w2 ⟨rfl, hx2⟩
   have hk := HK.out _ w2 z (HF.out.put (i := 0) (v := waysV) rfl (by decide) ⟨hI.1.trans hx2, hI.2.1.ext hx2, hI.2.2.1.ext hx2, hI.2.2.2.1.ext hx2, hI.2.2.2.2.1, fun e => by obtain ⟨a1, a2, a3, a4⟩ := hI.2.2.2.2.2 e; exact ⟨a1, a2, a3, a4.ext hx2⟩⟩)
   simp only [puts, Act.put, List.setIfInBounds_toArray, List.set_cons_succ, List.set_cons_zero] at hk
   go_simp
   exact hk
  ·have hk := HK.out _ wq z (HF.out.put (i := 1) (v := .pointer (some ⟨y1, 0, none⟩)) rfl (by decide) hI)
   simp only [puts, Act.put, List.setIfInBounds_toArray, List.set_cons_succ, List.set_cons_zero] at hk
   go_simp
   exact hk
  ·obtain rfl := HF.out.got (HD.out 1 (by decide)) (i := 1) rfl rfl
   have hk := HK.out _ wq z (HF.out.put (i := 2) (v := .pointer (some ⟨y1, 0, none⟩)) rfl (by decide) hI)
   simp only [puts, Act.put, List.setIfInBounds_toArray, List.set_cons_succ, List.set_cons_zero] at hk
   go_simp
   exact hk
  ·obtain rfl := HF.out.got (HD.out 2 (by decide)) (i := 2) rfl rfl
   have c := hI.2.2.1.cell (i := 0) rfl
   have hk := HK.out _ wq z (HF.out.put (i := 3) (v := .int .i64 1) rfl (by decide) hI)
   simp only [puts, Act.put, List.setIfInBounds_toArray, List.set_cons_succ, List.set_cons_zero] at hk
   go_simp
   exact hk
  ·obtain rfl := HF.out.got (HD.out 0 (by decide)) (i := 0) rfl rfl
   obtain rfl := HF.out.got (HD.out 3 (by decide)) (i := 3) rfl rfl
   have hix := fun w => ways_ix1 w
   have hk := HK.out _ wq z (HF.out.put (i := 4) (v := .agg #[.int .i64 2, .func (.func 119) #[] #[], .func (.func 121) #[] #[]]) rfl (by decide) hI)
   simp only [puts, Act.put, List.setIfInBounds_toArray, List.set_cons_succ, List.set_cons_zero] at hk
   go_simp
   exact hk
  ·have h6 : S 6 = false := by cases h : S 6; rfl; exact absurd (hI.2.2.2.2.1 h) (by rw [HN.out]; decide)
   have hx2 := Ext.alloc wq (.cells #[.int .i64 0, .nilFunc, .nilFunc] 147)
   have hr2 : RowAt (wq.alloc (.cells #[.int .i64 0, .nilFunc, .nilFunc] 147)) wq.heap.size 147 [.int .i64 0, .nilFunc, .nilFunc] := RowAt.new _ _ _
   have hk := HK.out _ _ wq.heap.size (HF.out.alloc (i := 5) (v := .pointer (some ⟨wq.heap.size, 0, none⟩)) HN.out (by show 5 < 6; decide) (by decide) (J := (fun z al bb W => Ext w W ∧ RowAt W y0 98 (nmL vs m av) ∧ RowAt W y1 75 [.int .i64 1, .int .i64 n, .int .i64 a.var, .int .i64 a.id, .int .i64 b.var, .int .i64 b.id] ∧ RowAt W y2 88 [.int .i64 0, .bool false, .string ⟨#[]⟩, .string ⟨#[]⟩, .string ⟨#[]⟩, .bool false, .string ⟨#[]⟩] ∧ (bb = true → al = true) ∧ (al = true → y2 < z ∧ y0 < z ∧ y1 < z ∧ RowAt W z 147 (if bb = true then [.int .i64 2, .func (.func 119) #[] #[], .func (.func 121) #[] #[]] else [.int .i64 0, .nilFunc, .nilFunc]))) wq.heap.size true) ⟨hI.1.trans hx2, hI.2.1.ext hx2, hI.2.2.1.ext hx2, hI.2.2.2.1.ext hx2, fun _ => rfl, fun _ => ⟨hI.2.2.2.1.lt, hI.2.1.lt, hI.2.2.1.lt, by rw [h6, if_neg (by decide)]; exact hr2⟩⟩)
   simp only [puts, Act.put, List.setIfInBounds_toArray, List.set_cons_succ, List.set_cons_zero] at hk
   go_simp
   exact hk
  ·obtain rfl := HF.out.got (HD.out 4 (by decide)) (i := 4) rfl rfl
   obtain rfl := HF.out.got (HD.out 5 (by decide)) (i := 5) rfl rfl
   have h5 := HD.out 5 (by decide)
   obtain ⟨a1, a2, a3, a4⟩ := hI.2.2.2.2.2 h5
   rw [HN.out, if_neg (by decide)] at a4
   rw [if_pos (show Region.wanted _ _ = true from rfl)]
   refine wp_store_row _ _ _ rfl z #[.int .i64 2, .func (.func 119) #[] #[], .func (.func 121) #[] #[]] rfl rfl _ _ a4 (by kernel_rfl) rfl (by simp [Value.oneCell']) ?_
   have hk := HK.out _ _ z (HF.out.fin (Nat.le_refl _) ⟨show Ext w (wq.setRow z #[.int .i64 2, .func (.func 119) #[] #[], .func (.func 121) #[] #[]]) from below_setRow hI.1 (by have := HY.out; omega) _, (setRow_other _ _ _ _ (by omega)).trans hI.2.1, (setRow_other _ _ _ _ (by omega)).trans hI.2.2.1, (setRow_other _ _ _ _ (by omega)).trans hI.2.2.2.1, fun _ => h5, fun _ => ⟨a1, a2, a3, by rw [if_pos rfl]; exact a4.setRow _⟩⟩)
   simp only [puts, Act.put, List.setIfInBounds_toArray, List.set_cons_succ, List.set_cons_zero] at hk
   exact hk
 ·rintro S us wq hS ⟨z, hF⟩
  obtain ⟨u0, u1, u2, u3, u4, u5, rfl⟩ := len6 hF.len rfl
  obtain rfl := hF.got (hS 0 (by decide)) (i := 0) rfl rfl
  obtain rfl := hF.got (hS 1 (by decide)) (i := 1) rfl rfl
  obtain rfl := hF.got (hS 2 (by decide)) (i := 2) rfl rfl
  obtain rfl := hF.got (hS 3 (by decide)) (i := 3) rfl rfl
  obtain rfl := hF.got (hS 4 (by decide)) (i := 4) rfl rfl
  obtain rfl := hF.got (hS 5 (by decide)) (i := 5) rfl rfl
  have hI := hF.inv
  rw [hS 6 (by decide), hS 5 (by decide)] at hI
  clear hF hS
  simp only [puts, Act.put, List.setIfInBounds_toArray, List.set_cons_succ, List.set_cons_zero]
  obtain ⟨hX5, h0, h1, h2, _, h5⟩ := hI
  obtain ⟨a1, _, _, a5⟩ := h5 rfl
  rw [if_pos rfl] at a5
  have HX5 := Lib.hid hX5
  have G0 := Lib.hid h0
  have G1 := Lib.hid h1
  have G2 := Lib.hid h2
  have HZZ := Lib.hid (show RowAt wq z 147 [.int .i64 2, .func (.func 119) #[] #[], .func (.func 121) #[] #[]] from a5)
  have HLT := Lib.hid a1
  clear hX5 h0 h1 h2 h5 a1 a5 HX H0 H1 H2
  have c2 := HZZ.out.cell (i := 2) rfl
  go_upto_region 3 with fail
  apply wp_region_lit
  refine wpList_plain rfl fun K1 hK1 => ?_
  go_simp
  refine hK1 _ _ ?_
  clear hK1 K1
  refine wpList_plain rfl fun K1 hK1 => ?_
  go_simp
  refine hK1 _ _ ?_
  clear hK1 K1
  refine plain_load rfl _ _ rfl y0 rfl _ _ (G0.out) Tryz.underlying98 rfl (by kernel_rfl) ?_
  go_simp
  refine plain_load rfl _ _ rfl y1 rfl _ _ (G1.out) Tryz.underlying75 rfl (by kernel_rfl) ?_
  go_simp
  refine wpList_plain rfl fun K1 hK1 => ?_
  go_simp
  refine (HC.out wq HX5.out).mono ?_
  rintro e w2 ⟨rfl, hxw2⟩
  rcases hrx : r with _ | x
  ·unfold outE unknE
   go_wp2_with fail
   exact ⟨rfl, HN0.out hrx, HX5.out.trans hxw2⟩
  unfold outE
  dsimp only
  go_simp
  refine hK1 _ _ ?_
  clear hK1 K1
  have HXw2 := Lib.hid (HX5.out.trans hxw2)
  have K2 := Lib.hid (G2.out.ext hxw2)
  have KZ := Lib.hid (HZZ.out.ext hxw2)
  clear hxw2 c2 HX5 G0 G1 G2 HZZ
  refine wpList_plain rfl fun K1 hK1 => ?_
  go_simp
  refine hK1 _ _ ?_
  clear hK1 K1
  have hax := Ext.alloc w2 (.cells #[.int .i64 0, .bool false, .string ⟨#[]⟩, .string ⟨#[]⟩, .string ⟨#[]⟩, .bool false, .string ⟨#[]⟩] 88)
  have har : RowAt (w2.alloc (.cells #[.int .i64 0, .bool false, .string ⟨#[]⟩, .string ⟨#[]⟩, .string ⟨#[]⟩, .bool false, .string ⟨#[]⟩] 88)) w2.heap.size 88 (#[.int .i64 0, .bool false, .string ⟨#[]⟩, .string ⟨#[]⟩, .string ⟨#[]⟩, .bool false, .string ⟨#[]⟩]).toList := RowAt.new _ _ _
  refine plain_store rfl _ _ _ rfl w2.heap.size (atCells x) rfl rfl har (by kernel_rfl) rfl ((by simp [atCells, Value.oneCell'])) ?_
  have hex : Ext w2 ((w2.alloc (.cells #[.int .i64 0, .bool false, .string ⟨#[]⟩, .string ⟨#[]⟩, .string ⟨#[]⟩, .bool false, .string ⟨#[]⟩] 88)).setRow w2.heap.size (atCells x).toArray) := below_setRow hax (Nat.le_refl _) _
  have HEw3 := Lib.hid hex
  have HRt := Lib.hid (har.setRow (atCells x))
  clear hax har hex
  go_simp
  generalize (w2.alloc (.cells #[.int .i64 0, .bool false, .string ⟨#[]⟩, .string ⟨#[]⟩, .string ⟨#[]⟩, .bool false, .string ⟨#[]⟩] 88)).setRow w2.heap.size (atCells x).toArray = w3 at *
  obtain ⟨t, hst⟩ : ∃ x, w2.heap.size = x := ⟨_, rfl⟩
  rw [hst] at HRt
  simp only [hst]
  have HSt := Lib.hid hst
  clear hst
  apply wpList_nil
  have HX3 := Lib.hid (HXw2.out.trans HEw3.out)
  have HTT := Lib.hid (show y2 < t by have := K2.out.lt; have := HSt.out; omega)
  replace K2 := Lib.hid (K2.out.ext HEw3.out)
  replace KZ := Lib.hid (KZ.out.ext HEw3.out)
  clear HXw2 HEw3 HSt
  have c0 := KZ.out.cell (i := 0) rfl
  have f0 := HRt.out.cell (i := 0) rfl
  have ff := HRt.out.frozen 0
  go_upto_region 5 with fail
  have HZ6 : Hid (RowAt (w3.setCell ⟨t, 0, none⟩ (.int .i64 2)) t 88 [.int .i64 2, .bool x.fk, .string x.fn, .string x.name, .string x.value, .bool x.tk, .string x.tn]) := Lib.hid (HRt.out.set 0 (.int .i64 2))
  have HY6 := Lib.hid (K2.out.kept (grown_set w3 t 0 (.int .i64 2)) (fun e => by have := Option.some.inj e; have := HTT.out; omega))
  have HX6 := Lib.hid (Ext.set_of HX3.out (show w.heap.size ≤ t by have := HTT.out; have := HY.out; omega) (o := 0) (.int .i64 2))
  clear c0 f0 ff KZ K2 HX3
  generalize w3.setCell ⟨t, 0, none⟩ (.int .i64 2) = w6 at *
  apply wp_region_lit
  refine plain_load rfl _ _ rfl t rfl _ _ (HZ6.out) Tryz.underlying88 rfl (by kernel_rfl) ?_
  go_simp
  refine plain_store rfl _ _ _ rfl y2 ([.int .i64 2, .bool x.fk, .string x.fn, .string x.name, .string x.value, .bool x.tk, .string x.tn]) rfl rfl (HY6.out) (by kernel_rfl) rfl ((by simp [Value.oneCell'])) ?_
  have HRR := Lib.hid ((HY6.out).setRow ([.int .i64 2, .bool x.fk, .string x.fn, .string x.name, .string x.value, .bool x.tk, .string x.tn]))
  have HXX := Lib.hid (show Ext w ((w6).setRow y2 ([.int .i64 2, .bool x.fk, .string x.fn, .string x.name, .string x.value, .bool x.tk, .string x.tn]).toArray) from below_setRow (HX6.out) ((by have := HY.out; omega)) _)
  go_simp
  apply wpList_nil
  go_wp2_with fail
  exact bodyPost_ret (results_row0 rfl rfl HRR.out Tryz.underlying88 rfl (by kernel_rfl)) rfl (⟨HX0.out x hrx, HXX.out⟩)
set_option maxRecDepth 100000 in
set_option maxHeartbeats 4000000 in
theorem natom2_any (vs : Nat → Value × Value) (m : Nat) (a0 : Option Addr) (c : Nat) (D : Dic) (V : List ByteArray) (w : World) (hV : DicV w vs D) (hS : DicS D) (h : DicOK D) (hA : Strs w (.slice a0 V.length c) V) (hl : V.length ≤ 1000000) (n : Int) (a b : Arg) :
 Calls Tryz.prog 61 #[nmV vs m (.slice a0 V.length c), bndV ⟨2, n, a, b⟩] w fun e w' => e = outE (atmF D V ⟨2, n, a, b⟩) atV ∧ Ext w w' := by
 have hmo : Tryz.prog.follows .mixedOrders = true := by kernel_rfl
 have hC := fun w' (hx : Ext w w') => way6_any vs m a0 c D V w' (hV.ext hx) hS h (Strs.ext hA hx) hl n a b
 have hXs := natom_e (D := D) (V := V) (k := 2) (kk := 3) n a b rfl (by omega)
 obtain ⟨X, hX⟩ : ∃ X, outE (atmF D V ⟨2, n, a, b⟩) atV = X := ⟨_, rfl⟩
 rw [hX] at hXs ⊢
 obtain ⟨r, hr⟩ : ∃ r, (atmF D V ⟨2, n, a, b⟩).map atm0 = r := ⟨_, rfl⟩
 rw [hr] at hC hXs
 have HX0 := Lib.hid hXs.1
 have HN0 := Lib.hid hXs.2
 have HC := Lib.hid hC
 clear hC hXs hr hX hV hS h hA hl
 unfold nmV bndV bndCells at *
 dsimp only at *
 generalize Value.slice a0 V.length c = av at *
 have hbx := boxes3 w (nmL vs m av) 98 ([.int .i64 2, .int .i64 n, .int .i64 a.var, .int .i64 a.id, .int .i64 b.var, .int .i64 b.id]) 75 ([.int .i64 0, .bool false, .string ⟨#[]⟩, .string ⟨#[]⟩, .string ⟨#[]⟩, .bool false, .string ⟨#[]⟩]) 88
 have HBX := Lib.hid hbx
 clear hbx
 go_enter Tryz.func61, Tryz.ntmps61
 go_upto_region 1 with fail
 generalize ((w.alloc (.cells (nmL vs m av).toArray 98)).alloc (.cells ([.int .i64 2, .int .i64 n, .int .i64 a.var, .int .i64 a.id, .int .i64 b.var, .int .i64 b.id]).toArray 75)).alloc (.cells ([.int .i64 0, .bool false, .string ⟨#[]⟩, .string ⟨#[]⟩, .string ⟨#[]⟩, .bool false, .string ⟨#[]⟩]).toArray 88) = w1 at *
 obtain ⟨y0, hy0⟩ : ∃ x, w.heap.size = x := ⟨_, rfl⟩
 obtain ⟨y1, hy1⟩ : ∃ x, y0 + 1 = x := ⟨_, rfl⟩
 obtain ⟨y2, hy2⟩ : ∃ x, y1 + 1 = x := ⟨_, rfl⟩
 rw [hy0, hy1, hy2] at HBX
 simp only [hy0, hy1, hy2]
 have HN := Lib.hid (show w.heap.size = y0 ∧ y0 + 1 = y1 ∧ y1 + 1 = y2 from ⟨hy0, hy1, hy2⟩)
 have HX := Lib.hid HBX.out.1
 have H0 := Lib.hid HBX.out.2.1
 have H1 := Lib.hid HBX.out.2.2.1
 have H2 := Lib.hid HBX.out.2.2.2
 clear hy0 hy1 hy2 HBX
 have HY := Lib.hid (show y0 ≠ y2 ∧ y1 ≠ y2 ∧ w.heap.size ≤ y2 by have := HN.out; omega)
 clear HN
 have c0 := H1.out.cell (i := 0) rfl
 go_wp2_with fail
 refine (need_yes _).mono ?_
 rintro e w5 ⟨rfl, rfl⟩
 clear c0
 go_upto_region 2 with fail
 refine wp_region_inv [18, 19, 20, 21, 22, 5] _ (fun i => ([[], [], [1], [2], [0, 3], [], [4, 5]] : List (List Nat)).getD i []) (fun S us W => ∃ z, PlF ((fun z al bb W => Ext w W ∧ RowAt W y0 98 (nmL vs m av) ∧ RowAt W y1 75 [.int .i64 2, .int .i64 n, .int .i64 a.var, .int .i64 a.id, .int .i64 b.var, .int .i64 b.id] ∧ RowAt W y2 88 [.int .i64 0, .bool false, .string ⟨#[]⟩, .string ⟨#[]⟩, .string ⟨#[]⟩, .bool false, .string ⟨#[]⟩] ∧ (bb = true → al = true) ∧ (al = true → y2 < z ∧ y0 < z ∧ y1 < z ∧ RowAt W z 147 (if bb = true then [.int .i64 3, .func (.func 123) #[] #[], .func (.func 124) #[] #[]] else [.int .i64 0, .nilFunc, .nilFunc]))) z (S 5)) [some (waysV), some (.pointer (some ⟨y1, 0, none⟩)), some (.pointer (some ⟨y1, 0, none⟩)), some (.int .i64 2), some (.agg #[.int .i64 3, .func (.func 123) #[] #[], .func (.func 124) #[] #[]]), some (.pointer (some ⟨z, 0, none⟩))] 6 S us W) hmo (by kernel_rfl) (by kernel_rfl) (puts_self _ _) ⟨0, PlF.start rfl (⟨HX.out.trans (Ext.drewN w1 1), H0.out.ext (Ext.drewN w1 1), H1.out.ext (Ext.drewN w1 1), H2.out.ext (Ext.drewN w1 1), nofun, nofun⟩)⟩ ?_ ?_
 ·refine ⟨?_, ?_, ?_, ?_, ?_, ?_, ?_, trivial⟩
  all_goals
   rintro S us wq hd hn ⟨z, hF⟩ K hK
   obtain ⟨u0, u1, u2, u3, u4, u5, rfl⟩ := len6 hF.len rfl
   have hI := hF.inv
   have HK := Lib.hid (fun us' w'' z' h => hK us' w'' ⟨z', h⟩)
   have HF := Lib.hid hF
   have HN := Lib.hid hn
   have HD := Lib.hid hd
   clear hK hF hn hd
   simp only [puts, Act.put, List.setIfInBounds_toArray, List.set_cons_succ, List.set_cons_zero]
  ·go_simp
   refine (ways_any wq).mono ?_
   rintro e w2 ⟨rfl, hx2⟩
   have hk := HK.out _ w2 z (HF.out.put (i := 0) (v := waysV) rfl (by decide) ⟨hI.1.trans hx2, hI.2.1.ext hx2, hI.2.2.1.ext hx2, hI.2.2.2.1.ext hx2, hI.2.2.2.2.1, fun e => by obtain ⟨a1, a2, a3, a4⟩ := hI.2.2.2.2.2 e; exact ⟨a1, a2, a3, a4.ext hx2⟩⟩)
   simp only [puts, Act.put, List.setIfInBounds_toArray, List.set_cons_succ, List.set_cons_zero] at hk
   go_simp
   exact hk
  ·have hk := HK.out _ wq z (HF.out.put (i := 1) (v := .pointer (some ⟨y1, 0, none⟩)) rfl (by decide) hI)
   simp only [puts, Act.put, List.setIfInBounds_toArray, List.set_cons_succ, List.set_cons_zero] at hk
   go_simp
   exact hk
  ·obtain rfl := HF.out.got (HD.out 1 (by decide)) (i := 1) rfl rfl
   have hk := HK.out _ wq z (HF.out.put (i := 2) (v := .pointer (some ⟨y1, 0, none⟩)) rfl (by decide) hI)
   simp only [puts, Act.put, List.setIfInBounds_toArray, List.set_cons_succ, List.set_cons_zero] at hk
   go_simp
   exact hk
  ·obtain rfl := HF.out.got (HD.out 2 (by decide)) (i := 2) rfl rfl
   have c := hI.2.2.1.cell (i := 0) rfl
   have hk := HK.out _ wq z (HF.out.put (i := 3) (v := .int .i64 2) rfl (by decide) hI)
   simp only [puts, Act.put, List.setIfInBounds_toArray, List.set_cons_succ, List.set_cons_zero] at hk
   go_simp
   exact hk
  ·obtain rfl := HF.out.got (HD.out 0 (by decide)) (i := 0) rfl rfl
   obtain rfl := HF.out.got (HD.out 3 (by decide)) (i := 3) rfl rfl
   have hix := fun w => ways_ix2 w
   have hk := HK.out _ wq z (HF.out.put (i := 4) (v := .agg #[.int .i64 3, .func (.func 123) #[] #[], .func (.func 124) #[] #[]]) rfl (by decide) hI)
   simp only [puts, Act.put, List.setIfInBounds_toArray, List.set_cons_succ, List.set_cons_zero] at hk
   go_simp
   exact hk
  ·have h6 : S 6 = false := by cases h : S 6; rfl; exact absurd (hI.2.2.2.2.1 h) (by rw [HN.out]; decide)
   have hx2 := Ext.alloc wq (.cells #[.int .i64 0, .nilFunc, .nilFunc] 147)
   have hr2 : RowAt (wq.alloc (.cells #[.int .i64 0, .nilFunc, .nilFunc] 147)) wq.heap.size 147 [.int .i64 0, .nilFunc, .nilFunc] := RowAt.new _ _ _
   have hk := HK.out _ _ wq.heap.size (HF.out.alloc (i := 5) (v := .pointer (some ⟨wq.heap.size, 0, none⟩)) HN.out (by show 5 < 6; decide) (by decide) (J := (fun z al bb W => Ext w W ∧ RowAt W y0 98 (nmL vs m av) ∧ RowAt W y1 75 [.int .i64 2, .int .i64 n, .int .i64 a.var, .int .i64 a.id, .int .i64 b.var, .int .i64 b.id] ∧ RowAt W y2 88 [.int .i64 0, .bool false, .string ⟨#[]⟩, .string ⟨#[]⟩, .string ⟨#[]⟩, .bool false, .string ⟨#[]⟩] ∧ (bb = true → al = true) ∧ (al = true → y2 < z ∧ y0 < z ∧ y1 < z ∧ RowAt W z 147 (if bb = true then [.int .i64 3, .func (.func 123) #[] #[], .func (.func 124) #[] #[]] else [.int .i64 0, .nilFunc, .nilFunc]))) wq.heap.size true) ⟨hI.1.trans hx2, hI.2.1.ext hx2, hI.2.2.1.ext hx2, hI.2.2.2.1.ext hx2, fun _ => rfl, fun _ => ⟨hI.2.2.2.1.lt, hI.2.1.lt, hI.2.2.1.lt, by rw [h6, if_neg (by decide)]; exact hr2⟩⟩)
   simp only [puts, Act.put, List.setIfInBounds_toArray, List.set_cons_succ, List.set_cons_zero] at hk
   go_simp
   exact hk
  ·obtain rfl := HF.out.got (HD.out 4 (by decide)) (i := 4) rfl rfl
   obtain rfl := HF.out.got (HD.out 5 (by decide)) (i := 5) rfl rfl
   have h5 := HD.out 5 (by decide)
   obtain ⟨a1, a2, a3, a4⟩ := hI.2.2.2.2.2 h5
   rw [HN.out, if_neg (by decide)] at a4
   rw [if_pos (show Region.wanted _ _ = true from rfl)]
   refine wp_store_row _ _ _ rfl z #[.int .i64 3, .func (.func 123) #[] #[], .func (.func 124) #[] #[]] rfl rfl _ _ a4 (by kernel_rfl) rfl (by simp [Value.oneCell']) ?_
   have hk := HK.out _ _ z (HF.out.fin (Nat.le_refl _) ⟨show Ext w (wq.setRow z #[.int .i64 3, .func (.func 123) #[] #[], .func (.func 124) #[] #[]]) from below_setRow hI.1 (by have := HY.out; omega) _, (setRow_other _ _ _ _ (by omega)).trans hI.2.1, (setRow_other _ _ _ _ (by omega)).trans hI.2.2.1, (setRow_other _ _ _ _ (by omega)).trans hI.2.2.2.1, fun _ => h5, fun _ => ⟨a1, a2, a3, by rw [if_pos rfl]; exact a4.setRow _⟩⟩)
   simp only [puts, Act.put, List.setIfInBounds_toArray, List.set_cons_succ, List.set_cons_zero] at hk
   exact hk
 ·rintro S us wq hS ⟨z, hF⟩
  obtain ⟨u0, u1, u2, u3, u4, u5, rfl⟩ := len6 hF.len rfl
  obtain rfl := hF.got (hS 0 (by decide)) (i := 0) rfl rfl
  obtain rfl := hF.got (hS 1 (by decide)) (i := 1) rfl rfl
  obtain rfl := hF.got (hS 2 (by decide)) (i := 2) rfl rfl
  obtain rfl := hF.got (hS 3 (by decide)) (i := 3) rfl rfl
  obtain rfl := hF.got (hS 4 (by decide)) (i := 4) rfl rfl
  obtain rfl := hF.got (hS 5 (by decide)) (i := 5) rfl rfl
  have hI := hF.inv
  rw [hS 6 (by decide), hS 5 (by decide)] at hI
  clear hF hS
  simp only [puts, Act.put, List.setIfInBounds_toArray, List.set_cons_succ, List.set_cons_zero]
  obtain ⟨hX5, h0, h1, h2, _, h5⟩ := hI
  obtain ⟨a1, _, _, a5⟩ := h5 rfl
  rw [if_pos rfl] at a5
  have HX5 := Lib.hid hX5
  have G0 := Lib.hid h0
  have G1 := Lib.hid h1
  have G2 := Lib.hid h2
  have HZZ := Lib.hid (show RowAt wq z 147 [.int .i64 3, .func (.func 123) #[] #[], .func (.func 124) #[] #[]] from a5)
  have HLT := Lib.hid a1
  clear hX5 h0 h1 h2 h5 a1 a5 HX H0 H1 H2
  have c2 := HZZ.out.cell (i := 2) rfl
  go_upto_region 3 with fail
  apply wp_region_lit
  refine wpList_plain rfl fun K1 hK1 => ?_
  go_simp
  refine hK1 _ _ ?_
  clear hK1 K1
  refine wpList_plain rfl fun K1 hK1 => ?_
  go_simp
  refine hK1 _ _ ?_
  clear hK1 K1
  refine plain_load rfl _ _ rfl y0 rfl _ _ (G0.out) Tryz.underlying98 rfl (by kernel_rfl) ?_
  go_simp
  refine plain_load rfl _ _ rfl y1 rfl _ _ (G1.out) Tryz.underlying75 rfl (by kernel_rfl) ?_
  go_simp
  refine wpList_plain rfl fun K1 hK1 => ?_
  go_simp
  refine (HC.out wq HX5.out).mono ?_
  rintro e w2 ⟨rfl, hxw2⟩
  rcases hrx : r with _ | x
  ·unfold outE unknE
   go_wp2_with fail
   exact ⟨rfl, HN0.out hrx, HX5.out.trans hxw2⟩
  unfold outE
  dsimp only
  go_simp
  refine hK1 _ _ ?_
  clear hK1 K1
  have HXw2 := Lib.hid (HX5.out.trans hxw2)
  have K2 := Lib.hid (G2.out.ext hxw2)
  have KZ := Lib.hid (HZZ.out.ext hxw2)
  clear hxw2 c2 HX5 G0 G1 G2 HZZ
  refine wpList_plain rfl fun K1 hK1 => ?_
  go_simp
  refine hK1 _ _ ?_
  clear hK1 K1
  have hax := Ext.alloc w2 (.cells #[.int .i64 0, .bool false, .string ⟨#[]⟩, .string ⟨#[]⟩, .string ⟨#[]⟩, .bool false, .string ⟨#[]⟩] 88)
  have har : RowAt (w2.alloc (.cells #[.int .i64 0, .bool false, .string ⟨#[]⟩, .string ⟨#[]⟩, .string ⟨#[]⟩, .bool false, .string ⟨#[]⟩] 88)) w2.heap.size 88 (#[.int .i64 0, .bool false, .string ⟨#[]⟩, .string ⟨#[]⟩, .string ⟨#[]⟩, .bool false, .string ⟨#[]⟩]).toList := RowAt.new _ _ _
  refine plain_store rfl _ _ _ rfl w2.heap.size (atCells x) rfl rfl har (by kernel_rfl) rfl ((by simp [atCells, Value.oneCell'])) ?_
  have hex : Ext w2 ((w2.alloc (.cells #[.int .i64 0, .bool false, .string ⟨#[]⟩, .string ⟨#[]⟩, .string ⟨#[]⟩, .bool false, .string ⟨#[]⟩] 88)).setRow w2.heap.size (atCells x).toArray) := below_setRow hax (Nat.le_refl _) _
  have HEw3 := Lib.hid hex
  have HRt := Lib.hid (har.setRow (atCells x))
  clear hax har hex
  go_simp
  generalize (w2.alloc (.cells #[.int .i64 0, .bool false, .string ⟨#[]⟩, .string ⟨#[]⟩, .string ⟨#[]⟩, .bool false, .string ⟨#[]⟩] 88)).setRow w2.heap.size (atCells x).toArray = w3 at *
  obtain ⟨t, hst⟩ : ∃ x, w2.heap.size = x := ⟨_, rfl⟩
  rw [hst] at HRt
  simp only [hst]
  have HSt := Lib.hid hst
  clear hst
  apply wpList_nil
  have HX3 := Lib.hid (HXw2.out.trans HEw3.out)
  have HTT := Lib.hid (show y2 < t by have := K2.out.lt; have := HSt.out; omega)
  replace K2 := Lib.hid (K2.out.ext HEw3.out)
  replace KZ := Lib.hid (KZ.out.ext HEw3.out)
  clear HXw2 HEw3 HSt
  have c0 := KZ.out.cell (i := 0) rfl
  have f0 := HRt.out.cell (i := 0) rfl
  have ff := HRt.out.frozen 0
  go_upto_region 5 with fail
  have HZ6 : Hid (RowAt (w3.setCell ⟨t, 0, none⟩ (.int .i64 3)) t 88 [.int .i64 3, .bool x.fk, .string x.fn, .string x.name, .string x.value, .bool x.tk, .string x.tn]) := Lib.hid (HRt.out.set 0 (.int .i64 3))
  have HY6 := Lib.hid (K2.out.kept (grown_set w3 t 0 (.int .i64 3)) (fun e => by have := Option.some.inj e; have := HTT.out; omega))
  have HX6 := Lib.hid (Ext.set_of HX3.out (show w.heap.size ≤ t by have := HTT.out; have := HY.out; omega) (o := 0) (.int .i64 3))
  clear c0 f0 ff KZ K2 HX3
  generalize w3.setCell ⟨t, 0, none⟩ (.int .i64 3) = w6 at *
  apply wp_region_lit
  refine plain_load rfl _ _ rfl t rfl _ _ (HZ6.out) Tryz.underlying88 rfl (by kernel_rfl) ?_
  go_simp
  refine plain_store rfl _ _ _ rfl y2 ([.int .i64 3, .bool x.fk, .string x.fn, .string x.name, .string x.value, .bool x.tk, .string x.tn]) rfl rfl (HY6.out) (by kernel_rfl) rfl ((by simp [Value.oneCell'])) ?_
  have HRR := Lib.hid ((HY6.out).setRow ([.int .i64 3, .bool x.fk, .string x.fn, .string x.name, .string x.value, .bool x.tk, .string x.tn]))
  have HXX := Lib.hid (show Ext w ((w6).setRow y2 ([.int .i64 3, .bool x.fk, .string x.fn, .string x.name, .string x.value, .bool x.tk, .string x.tn]).toArray) from below_setRow (HX6.out) ((by have := HY.out; omega)) _)
  go_simp
  apply wpList_nil
  go_wp2_with fail
  exact bodyPost_ret (results_row0 rfl rfl HRR.out Tryz.underlying88 rfl (by kernel_rfl)) rfl (⟨HX0.out x hrx, HXX.out⟩)
set_option maxRecDepth 100000 in
set_option maxHeartbeats 4000000 in
theorem natom3_any (vs : Nat → Value × Value) (m : Nat) (a0 : Option Addr) (c : Nat) (D : Dic) (V : List ByteArray) (w : World) (hV : DicV w vs D) (hS : DicS D) (h : DicOK D) (hA : Strs w (.slice a0 V.length c) V) (hl : V.length ≤ 1000000) (n : Int) (a b : Arg) :
 Calls Tryz.prog 61 #[nmV vs m (.slice a0 V.length c), bndV ⟨3, n, a, b⟩] w fun e w' => e = outE (atmF D V ⟨3, n, a, b⟩) atV ∧ Ext w w' := by
 have hmo : Tryz.prog.follows .mixedOrders = true := by kernel_rfl
 have hC := fun w' (hx : Ext w w') => way8_any vs m a0 c D V w' (hV.ext hx) hS h (Strs.ext hA hx) hl n a b
 have hXs := natom_e (D := D) (V := V) (k := 3) (kk := 4) n a b rfl (by omega)
 obtain ⟨X, hX⟩ : ∃ X, outE (atmF D V ⟨3, n, a, b⟩) atV = X := ⟨_, rfl⟩
 rw [hX] at hXs ⊢
 obtain ⟨r, hr⟩ : ∃ r, (atmF D V ⟨3, n, a, b⟩).map atm0 = r := ⟨_, rfl⟩
 rw [hr] at hC hXs
 have HX0 := Lib.hid hXs.1
 have HN0 := Lib.hid hXs.2
 have HC := Lib.hid hC
 clear hC hXs hr hX hV hS h hA hl
 unfold nmV bndV bndCells at *
 dsimp only at *
 generalize Value.slice a0 V.length c = av at *
 have hbx := boxes3 w (nmL vs m av) 98 ([.int .i64 3, .int .i64 n, .int .i64 a.var, .int .i64 a.id, .int .i64 b.var, .int .i64 b.id]) 75 ([.int .i64 0, .bool false, .string ⟨#[]⟩, .string ⟨#[]⟩, .string ⟨#[]⟩, .bool false, .string ⟨#[]⟩]) 88
 have HBX := Lib.hid hbx
 clear hbx
 go_enter Tryz.func61, Tryz.ntmps61
 go_upto_region 1 with fail
 generalize ((w.alloc (.cells (nmL vs m av).toArray 98)).alloc (.cells ([.int .i64 3, .int .i64 n, .int .i64 a.var, .int .i64 a.id, .int .i64 b.var, .int .i64 b.id]).toArray 75)).alloc (.cells ([.int .i64 0, .bool false, .string ⟨#[]⟩, .string ⟨#[]⟩, .string ⟨#[]⟩, .bool false, .string ⟨#[]⟩]).toArray 88) = w1 at *
 obtain ⟨y0, hy0⟩ : ∃ x, w.heap.size = x := ⟨_, rfl⟩
 obtain ⟨y1, hy1⟩ : ∃ x, y0 + 1 = x := ⟨_, rfl⟩
 obtain ⟨y2, hy2⟩ : ∃ x, y1 + 1 = x := ⟨_, rfl⟩
 rw [hy0, hy1, hy2] at HBX
 simp only [hy0, hy1, hy2]
 have HN := Lib.hid (show w.heap.size = y0 ∧ y0 + 1 = y1 ∧ y1 + 1 = y2 from ⟨hy0, hy1, hy2⟩)
 have HX := Lib.hid HBX.out.1
 have H0 := Lib.hid HBX.out.2.1
 have H1 := Lib.hid HBX.out.2.2.1
 have H2 := Lib.hid HBX.out.2.2.2
 clear hy0 hy1 hy2 HBX
 have HY := Lib.hid (show y0 ≠ y2 ∧ y1 ≠ y2 ∧ w.heap.size ≤ y2 by have := HN.out; omega)
 clear HN
 have c0 := H1.out.cell (i := 0) rfl
 go_wp2_with fail
 refine (need_yes _).mono ?_
 rintro e w5 ⟨rfl, rfl⟩
 clear c0
 go_upto_region 2 with fail
 refine wp_region_inv [18, 19, 20, 21, 22, 5] _ (fun i => ([[], [], [1], [2], [0, 3], [], [4, 5]] : List (List Nat)).getD i []) (fun S us W => ∃ z, PlF ((fun z al bb W => Ext w W ∧ RowAt W y0 98 (nmL vs m av) ∧ RowAt W y1 75 [.int .i64 3, .int .i64 n, .int .i64 a.var, .int .i64 a.id, .int .i64 b.var, .int .i64 b.id] ∧ RowAt W y2 88 [.int .i64 0, .bool false, .string ⟨#[]⟩, .string ⟨#[]⟩, .string ⟨#[]⟩, .bool false, .string ⟨#[]⟩] ∧ (bb = true → al = true) ∧ (al = true → y2 < z ∧ y0 < z ∧ y1 < z ∧ RowAt W z 147 (if bb = true then [.int .i64 4, .func (.func 125) #[] #[], .func (.func 126) #[] #[]] else [.int .i64 0, .nilFunc, .nilFunc]))) z (S 5)) [some (waysV), some (.pointer (some ⟨y1, 0, none⟩)), some (.pointer (some ⟨y1, 0, none⟩)), some (.int .i64 3), some (.agg #[.int .i64 4, .func (.func 125) #[] #[], .func (.func 126) #[] #[]]), some (.pointer (some ⟨z, 0, none⟩))] 6 S us W) hmo (by kernel_rfl) (by kernel_rfl) (puts_self _ _) ⟨0, PlF.start rfl (⟨HX.out.trans (Ext.drewN w1 1), H0.out.ext (Ext.drewN w1 1), H1.out.ext (Ext.drewN w1 1), H2.out.ext (Ext.drewN w1 1), nofun, nofun⟩)⟩ ?_ ?_
 ·refine ⟨?_, ?_, ?_, ?_, ?_, ?_, ?_, trivial⟩
  all_goals
   rintro S us wq hd hn ⟨z, hF⟩ K hK
   obtain ⟨u0, u1, u2, u3, u4, u5, rfl⟩ := len6 hF.len rfl
   have hI := hF.inv
   have HK := Lib.hid (fun us' w'' z' h => hK us' w'' ⟨z', h⟩)
   have HF := Lib.hid hF
   have HN := Lib.hid hn
   have HD := Lib.hid hd
   clear hK hF hn hd
   simp only [puts, Act.put, List.setIfInBounds_toArray, List.set_cons_succ, List.set_cons_zero]
  ·go_simp
   refine (ways_any wq).mono ?_
   rintro e w2 ⟨rfl, hx2⟩
   have hk := HK.out _ w2 z (HF.out.put (i := 0) (v := waysV) rfl (by decide) ⟨hI.1.trans hx2, hI.2.1.ext hx2, hI.2.2.1.ext hx2, hI.2.2.2.1.ext hx2, hI.2.2.2.2.1, fun e => by obtain ⟨a1, a2, a3, a4⟩ := hI.2.2.2.2.2 e; exact ⟨a1, a2, a3, a4.ext hx2⟩⟩)
   simp only [puts, Act.put, List.setIfInBounds_toArray, List.set_cons_succ, List.set_cons_zero] at hk
   go_simp
   exact hk
  ·have hk := HK.out _ wq z (HF.out.put (i := 1) (v := .pointer (some ⟨y1, 0, none⟩)) rfl (by decide) hI)
   simp only [puts, Act.put, List.setIfInBounds_toArray, List.set_cons_succ, List.set_cons_zero] at hk
   go_simp
   exact hk
  ·obtain rfl := HF.out.got (HD.out 1 (by decide)) (i := 1) rfl rfl
   have hk := HK.out _ wq z (HF.out.put (i := 2) (v := .pointer (some ⟨y1, 0, none⟩)) rfl (by decide) hI)
   simp only [puts, Act.put, List.setIfInBounds_toArray, List.set_cons_succ, List.set_cons_zero] at hk
   go_simp
   exact hk
  ·obtain rfl := HF.out.got (HD.out 2 (by decide)) (i := 2) rfl rfl
   have c := hI.2.2.1.cell (i := 0) rfl
   have hk := HK.out _ wq z (HF.out.put (i := 3) (v := .int .i64 3) rfl (by decide) hI)
   simp only [puts, Act.put, List.setIfInBounds_toArray, List.set_cons_succ, List.set_cons_zero] at hk
   go_simp
   exact hk
  ·obtain rfl := HF.out.got (HD.out 0 (by decide)) (i := 0) rfl rfl
   obtain rfl := HF.out.got (HD.out 3 (by decide)) (i := 3) rfl rfl
   have hix := fun w => ways_ix3 w
   have hk := HK.out _ wq z (HF.out.put (i := 4) (v := .agg #[.int .i64 4, .func (.func 125) #[] #[], .func (.func 126) #[] #[]]) rfl (by decide) hI)
   simp only [puts, Act.put, List.setIfInBounds_toArray, List.set_cons_succ, List.set_cons_zero] at hk
   go_simp
   exact hk
  ·have h6 : S 6 = false := by cases h : S 6; rfl; exact absurd (hI.2.2.2.2.1 h) (by rw [HN.out]; decide)
   have hx2 := Ext.alloc wq (.cells #[.int .i64 0, .nilFunc, .nilFunc] 147)
   have hr2 : RowAt (wq.alloc (.cells #[.int .i64 0, .nilFunc, .nilFunc] 147)) wq.heap.size 147 [.int .i64 0, .nilFunc, .nilFunc] := RowAt.new _ _ _
   have hk := HK.out _ _ wq.heap.size (HF.out.alloc (i := 5) (v := .pointer (some ⟨wq.heap.size, 0, none⟩)) HN.out (by show 5 < 6; decide) (by decide) (J := (fun z al bb W => Ext w W ∧ RowAt W y0 98 (nmL vs m av) ∧ RowAt W y1 75 [.int .i64 3, .int .i64 n, .int .i64 a.var, .int .i64 a.id, .int .i64 b.var, .int .i64 b.id] ∧ RowAt W y2 88 [.int .i64 0, .bool false, .string ⟨#[]⟩, .string ⟨#[]⟩, .string ⟨#[]⟩, .bool false, .string ⟨#[]⟩] ∧ (bb = true → al = true) ∧ (al = true → y2 < z ∧ y0 < z ∧ y1 < z ∧ RowAt W z 147 (if bb = true then [.int .i64 4, .func (.func 125) #[] #[], .func (.func 126) #[] #[]] else [.int .i64 0, .nilFunc, .nilFunc]))) wq.heap.size true) ⟨hI.1.trans hx2, hI.2.1.ext hx2, hI.2.2.1.ext hx2, hI.2.2.2.1.ext hx2, fun _ => rfl, fun _ => ⟨hI.2.2.2.1.lt, hI.2.1.lt, hI.2.2.1.lt, by rw [h6, if_neg (by decide)]; exact hr2⟩⟩)
   simp only [puts, Act.put, List.setIfInBounds_toArray, List.set_cons_succ, List.set_cons_zero] at hk
   go_simp
   exact hk
  ·obtain rfl := HF.out.got (HD.out 4 (by decide)) (i := 4) rfl rfl
   obtain rfl := HF.out.got (HD.out 5 (by decide)) (i := 5) rfl rfl
   have h5 := HD.out 5 (by decide)
   obtain ⟨a1, a2, a3, a4⟩ := hI.2.2.2.2.2 h5
   rw [HN.out, if_neg (by decide)] at a4
   rw [if_pos (show Region.wanted _ _ = true from rfl)]
   refine wp_store_row _ _ _ rfl z #[.int .i64 4, .func (.func 125) #[] #[], .func (.func 126) #[] #[]] rfl rfl _ _ a4 (by kernel_rfl) rfl (by simp [Value.oneCell']) ?_
   have hk := HK.out _ _ z (HF.out.fin (Nat.le_refl _) ⟨show Ext w (wq.setRow z #[.int .i64 4, .func (.func 125) #[] #[], .func (.func 126) #[] #[]]) from below_setRow hI.1 (by have := HY.out; omega) _, (setRow_other _ _ _ _ (by omega)).trans hI.2.1, (setRow_other _ _ _ _ (by omega)).trans hI.2.2.1, (setRow_other _ _ _ _ (by omega)).trans hI.2.2.2.1, fun _ => h5, fun _ => ⟨a1, a2, a3, by rw [if_pos rfl]; exact a4.setRow _⟩⟩)
   simp only [puts, Act.put, List.setIfInBounds_toArray, List.set_cons_succ, List.set_cons_zero] at hk
   exact hk
 ·rintro S us wq hS ⟨z, hF⟩
  obtain ⟨u0, u1, u2, u3, u4, u5, rfl⟩ := len6 hF.len rfl
  obtain rfl := hF.got (hS 0 (by decide)) (i := 0) rfl rfl
  obtain rfl := hF.got (hS 1 (by decide)) (i := 1) rfl rfl
  obtain rfl := hF.got (hS 2 (by decide)) (i := 2) rfl rfl
  obtain rfl := hF.got (hS 3 (by decide)) (i := 3) rfl rfl
  obtain rfl := hF.got (hS 4 (by decide)) (i := 4) rfl rfl
  obtain rfl := hF.got (hS 5 (by decide)) (i := 5) rfl rfl
  have hI := hF.inv
  rw [hS 6 (by decide), hS 5 (by decide)] at hI
  clear hF hS
  simp only [puts, Act.put, List.setIfInBounds_toArray, List.set_cons_succ, List.set_cons_zero]
  obtain ⟨hX5, h0, h1, h2, _, h5⟩ := hI
  obtain ⟨a1, _, _, a5⟩ := h5 rfl
  rw [if_pos rfl] at a5
  have HX5 := Lib.hid hX5
  have G0 := Lib.hid h0
  have G1 := Lib.hid h1
  have G2 := Lib.hid h2
  have HZZ := Lib.hid (show RowAt wq z 147 [.int .i64 4, .func (.func 125) #[] #[], .func (.func 126) #[] #[]] from a5)
  have HLT := Lib.hid a1
  clear hX5 h0 h1 h2 h5 a1 a5 HX H0 H1 H2
  have c2 := HZZ.out.cell (i := 2) rfl
  go_upto_region 3 with fail
  apply wp_region_lit
  refine wpList_plain rfl fun K1 hK1 => ?_
  go_simp
  refine hK1 _ _ ?_
  clear hK1 K1
  refine wpList_plain rfl fun K1 hK1 => ?_
  go_simp
  refine hK1 _ _ ?_
  clear hK1 K1
  refine plain_load rfl _ _ rfl y0 rfl _ _ (G0.out) Tryz.underlying98 rfl (by kernel_rfl) ?_
  go_simp
  refine plain_load rfl _ _ rfl y1 rfl _ _ (G1.out) Tryz.underlying75 rfl (by kernel_rfl) ?_
  go_simp
  refine wpList_plain rfl fun K1 hK1 => ?_
  go_simp
  refine (HC.out wq HX5.out).mono ?_
  rintro e w2 ⟨rfl, hxw2⟩
  rcases hrx : r with _ | x
  ·unfold outE unknE
   go_wp2_with fail
   exact ⟨rfl, HN0.out hrx, HX5.out.trans hxw2⟩
  unfold outE
  dsimp only
  go_simp
  refine hK1 _ _ ?_
  clear hK1 K1
  have HXw2 := Lib.hid (HX5.out.trans hxw2)
  have K2 := Lib.hid (G2.out.ext hxw2)
  have KZ := Lib.hid (HZZ.out.ext hxw2)
  clear hxw2 c2 HX5 G0 G1 G2 HZZ
  refine wpList_plain rfl fun K1 hK1 => ?_
  go_simp
  refine hK1 _ _ ?_
  clear hK1 K1
  have hax := Ext.alloc w2 (.cells #[.int .i64 0, .bool false, .string ⟨#[]⟩, .string ⟨#[]⟩, .string ⟨#[]⟩, .bool false, .string ⟨#[]⟩] 88)
  have har : RowAt (w2.alloc (.cells #[.int .i64 0, .bool false, .string ⟨#[]⟩, .string ⟨#[]⟩, .string ⟨#[]⟩, .bool false, .string ⟨#[]⟩] 88)) w2.heap.size 88 (#[.int .i64 0, .bool false, .string ⟨#[]⟩, .string ⟨#[]⟩, .string ⟨#[]⟩, .bool false, .string ⟨#[]⟩]).toList := RowAt.new _ _ _
  refine plain_store rfl _ _ _ rfl w2.heap.size (atCells x) rfl rfl har (by kernel_rfl) rfl ((by simp [atCells, Value.oneCell'])) ?_
  have hex : Ext w2 ((w2.alloc (.cells #[.int .i64 0, .bool false, .string ⟨#[]⟩, .string ⟨#[]⟩, .string ⟨#[]⟩, .bool false, .string ⟨#[]⟩] 88)).setRow w2.heap.size (atCells x).toArray) := below_setRow hax (Nat.le_refl _) _
  have HEw3 := Lib.hid hex
  have HRt := Lib.hid (har.setRow (atCells x))
  clear hax har hex
  go_simp
  generalize (w2.alloc (.cells #[.int .i64 0, .bool false, .string ⟨#[]⟩, .string ⟨#[]⟩, .string ⟨#[]⟩, .bool false, .string ⟨#[]⟩] 88)).setRow w2.heap.size (atCells x).toArray = w3 at *
  obtain ⟨t, hst⟩ : ∃ x, w2.heap.size = x := ⟨_, rfl⟩
  rw [hst] at HRt
  simp only [hst]
  have HSt := Lib.hid hst
  clear hst
  apply wpList_nil
  have HX3 := Lib.hid (HXw2.out.trans HEw3.out)
  have HTT := Lib.hid (show y2 < t by have := K2.out.lt; have := HSt.out; omega)
  replace K2 := Lib.hid (K2.out.ext HEw3.out)
  replace KZ := Lib.hid (KZ.out.ext HEw3.out)
  clear HXw2 HEw3 HSt
  have c0 := KZ.out.cell (i := 0) rfl
  have f0 := HRt.out.cell (i := 0) rfl
  have ff := HRt.out.frozen 0
  go_upto_region 5 with fail
  have HZ6 : Hid (RowAt (w3.setCell ⟨t, 0, none⟩ (.int .i64 4)) t 88 [.int .i64 4, .bool x.fk, .string x.fn, .string x.name, .string x.value, .bool x.tk, .string x.tn]) := Lib.hid (HRt.out.set 0 (.int .i64 4))
  have HY6 := Lib.hid (K2.out.kept (grown_set w3 t 0 (.int .i64 4)) (fun e => by have := Option.some.inj e; have := HTT.out; omega))
  have HX6 := Lib.hid (Ext.set_of HX3.out (show w.heap.size ≤ t by have := HTT.out; have := HY.out; omega) (o := 0) (.int .i64 4))
  clear c0 f0 ff KZ K2 HX3
  generalize w3.setCell ⟨t, 0, none⟩ (.int .i64 4) = w6 at *
  apply wp_region_lit
  refine plain_load rfl _ _ rfl t rfl _ _ (HZ6.out) Tryz.underlying88 rfl (by kernel_rfl) ?_
  go_simp
  refine plain_store rfl _ _ _ rfl y2 ([.int .i64 4, .bool x.fk, .string x.fn, .string x.name, .string x.value, .bool x.tk, .string x.tn]) rfl rfl (HY6.out) (by kernel_rfl) rfl ((by simp [Value.oneCell'])) ?_
  have HRR := Lib.hid ((HY6.out).setRow ([.int .i64 4, .bool x.fk, .string x.fn, .string x.name, .string x.value, .bool x.tk, .string x.tn]))
  have HXX := Lib.hid (show Ext w ((w6).setRow y2 ([.int .i64 4, .bool x.fk, .string x.fn, .string x.name, .string x.value, .bool x.tk, .string x.tn]).toArray) from below_setRow (HX6.out) ((by have := HY.out; omega)) _)
  go_simp
  apply wpList_nil
  go_wp2_with fail
  exact bodyPost_ret (results_row0 rfl rfl HRR.out Tryz.underlying88 rfl (by kernel_rfl)) rfl (⟨HX0.out x hrx, HXX.out⟩)
theorem atmF_out {D : Dic} {V : List ByteArray} {b : Bnd} (h : ¬ (0 ≤ b.kind ∧ b.kind ≤ 3)) : atmF D V b = none := by
 unfold atmF
 rw [if_neg (by omega), if_neg (by omega), if_neg (by omega), if_neg (by omega)]
set_option maxRecDepth 100000 in
theorem natomN_any (vs : Nat → Value × Value) (m : Nat) (av : Value) (D : Dic) (V : List ByteArray) (w : World) (b : Bnd) (hn : ¬ (0 ≤ b.kind ∧ b.kind ≤ 3)) :
 Calls Tryz.prog 61 #[nmV vs m av, bndV b] w fun e w' => e = outE (atmF D V b) atV ∧ Ext w w' := by
 rw [show outE (atmF D V b) atV = unknE by rw [atmF_out hn]; rfl]
 obtain ⟨k, n, a, b⟩ := b
 dsimp only at hn
 obtain ⟨b1, hb1⟩ : ∃ b, decide (0 ≤ k) = b := ⟨_, rfl⟩
 obtain ⟨b2, hb2⟩ : ∃ b, decide (k ≤ 3) = b := ⟨_, rfl⟩
 have HNO : Hid (¬ (b1 = true ∧ b2 = true)) := Lib.hid (by
  rintro ⟨rfl, rfl⟩
  exact hn ⟨of_decide_eq_true hb1, of_decide_eq_true hb2⟩)
 clear hn
 unfold nmV bndV bndCells at *
 dsimp only at *
 cases b1
 case false =>
  have hbx := boxes3 w (nmL vs m av) 98 ([.int .i64 k, .int .i64 n, .int .i64 a.var, .int .i64 a.id, .int .i64 b.var, .int .i64 b.id]) 75 ([.int .i64 0, .bool false, .string ⟨#[]⟩, .string ⟨#[]⟩, .string ⟨#[]⟩, .bool false, .string ⟨#[]⟩]) 88
  have HBX := Lib.hid hbx
  clear hbx
  go_enter Tryz.func61, Tryz.ntmps61
  go_upto_region 1 with fail
  generalize ((w.alloc (.cells (nmL vs m av).toArray 98)).alloc (.cells ([.int .i64 k, .int .i64 n, .int .i64 a.var, .int .i64 a.id, .int .i64 b.var, .int .i64 b.id]).toArray 75)).alloc (.cells ([.int .i64 0, .bool false, .string ⟨#[]⟩, .string ⟨#[]⟩, .string ⟨#[]⟩, .bool false, .string ⟨#[]⟩]).toArray 88) = w1 at *
  obtain ⟨y0, hy0⟩ : ∃ x, w.heap.size = x := ⟨_, rfl⟩
  obtain ⟨y1, hy1⟩ : ∃ x, y0 + 1 = x := ⟨_, rfl⟩
  obtain ⟨y2, hy2⟩ : ∃ x, y1 + 1 = x := ⟨_, rfl⟩
  rw [hy0, hy1, hy2] at HBX
  simp only [hy0, hy1, hy2]
  have HN := Lib.hid (show w.heap.size = y0 ∧ y0 + 1 = y1 ∧ y1 + 1 = y2 from ⟨hy0, hy1, hy2⟩)
  have HX := Lib.hid HBX.out.1
  have H0 := Lib.hid HBX.out.2.1
  have H1 := Lib.hid HBX.out.2.2.1
  have H2 := Lib.hid HBX.out.2.2.2
  clear hy0 hy1 hy2 HBX
  have c0 := H1.out.cell (i := 0) rfl
  go_wp2_with fail
  refine (need_no _).mono ?_
  rintro e w3 ⟨rfl, rfl⟩
  unfold unknE
  dsimp only
  go_wp2_with fail
  exact ⟨rfl, rfl, HX.out⟩
 case true =>
  cases b2
  case true => exact absurd ⟨rfl, rfl⟩ HNO.out
  case false =>
   have hbx := boxes3 w (nmL vs m av) 98 ([.int .i64 k, .int .i64 n, .int .i64 a.var, .int .i64 a.id, .int .i64 b.var, .int .i64 b.id]) 75 ([.int .i64 0, .bool false, .string ⟨#[]⟩, .string ⟨#[]⟩, .string ⟨#[]⟩, .bool false, .string ⟨#[]⟩]) 88
   have HBX := Lib.hid hbx
   clear hbx
   go_enter Tryz.func61, Tryz.ntmps61
   go_upto_region 1 with fail
   generalize ((w.alloc (.cells (nmL vs m av).toArray 98)).alloc (.cells ([.int .i64 k, .int .i64 n, .int .i64 a.var, .int .i64 a.id, .int .i64 b.var, .int .i64 b.id]).toArray 75)).alloc (.cells ([.int .i64 0, .bool false, .string ⟨#[]⟩, .string ⟨#[]⟩, .string ⟨#[]⟩, .bool false, .string ⟨#[]⟩]).toArray 88) = w1 at *
   obtain ⟨y0, hy0⟩ : ∃ x, w.heap.size = x := ⟨_, rfl⟩
   obtain ⟨y1, hy1⟩ : ∃ x, y0 + 1 = x := ⟨_, rfl⟩
   obtain ⟨y2, hy2⟩ : ∃ x, y1 + 1 = x := ⟨_, rfl⟩
   rw [hy0, hy1, hy2] at HBX
   simp only [hy0, hy1, hy2]
   have HN := Lib.hid (show w.heap.size = y0 ∧ y0 + 1 = y1 ∧ y1 + 1 = y2 from ⟨hy0, hy1, hy2⟩)
   have HX := Lib.hid HBX.out.1
   have H0 := Lib.hid HBX.out.2.1
   have H1 := Lib.hid HBX.out.2.2.1
   have H2 := Lib.hid HBX.out.2.2.2
   clear hy0 hy1 hy2 HBX
   have c0 := H1.out.cell (i := 0) rfl
   go_wp2_with fail
   refine (need_no _).mono ?_
   rintro e w3 ⟨rfl, rfl⟩
   unfold unknE
   dsimp only
   go_wp2_with fail
   exact ⟨rfl, rfl, HX.out⟩
theorem natom_any (vs : Nat → Value × Value) (m : Nat) (a0 : Option Addr) (c : Nat) (D : Dic) (V : List ByteArray) (w : World) (hV : DicV w vs D) (hS : DicS D) (h : DicOK D) (hA : Strs w (.slice a0 V.length c) V) (hl : V.length ≤ 1000000) (b : Bnd) :
 Calls Tryz.prog 61 #[nmV vs m (.slice a0 V.length c), bndV b] w fun e w' => e = outE (atmF D V b) atV ∧ Ext w w' := by
 by_cases hk : 0 ≤ b.kind ∧ b.kind ≤ 3
 ·obtain ⟨k, n, x, y⟩ := b
  dsimp only at hk
  have hc : k = 0 ∨ k = 1 ∨ k = 2 ∨ k = 3 := by omega
  rcases hc with rfl | rfl | rfl | rfl
  ·exact natom0_any vs m a0 c D V w hV hS h hA hl n x y
  ·exact natom1_any vs m a0 c D V w hV hS h hA hl n x y
  ·exact natom2_any vs m a0 c D V w hV hS h hA hl n x y
  ·exact natom3_any vs m a0 c D V w hV hS h hA hl n x y
 ·exact natomN_any vs m _ D V w b hk
end Go.Proofs.YtkmbnghghbfkdaaGreat
