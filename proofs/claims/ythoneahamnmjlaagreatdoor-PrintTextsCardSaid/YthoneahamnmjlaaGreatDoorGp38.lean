/- The document: a pattern turned. -/
import Derived.Test.YthoneahamnmjlaaGreatDoorGp37
import Derived.Test.YthoneahamnmjlaaGreatDoorGp35
import Derived.Test.YthoneahamnmjlaaGreatDoorGp36
import Derived.Test.YthoneahamnmjlaaGreatDoorGp03
import Derived.Test.YthoneahamnmjlaaGreatDoorGp33
namespace Go.Proofs.YthoneahamnmjlaaGreatDoor
set_option maxRecDepth 100000
set_option maxHeartbeats 2000000
set_option linter.unusedSimpArgs false
open Go.RowKit Go.Shelf Go.Sort
attribute [local go_sem] Oper.semAt_some wide_fn wide_depth
set_option linter.unusedVariables false

theorem termS_noNil (T : List ByteArray) (t : Bool × ByteArray) (h : nilB ∉ T) : nilB ∉ termS T t := by
  unfold termS
  split
  · exact h
  · rename_i hc
    intro hm
    rcases List.mem_append.1 hm with h1 | h1
    · exact h h1
    · rw [List.mem_singleton] at h1
      simp_all
theorem varsS_nil (l : List Atm) : nilB ∉ varsS l := by
  unfold varsS
  suffices ∀ T : List ByteArray, nilB ∉ T → nilB ∉ l.foldl (fun T a => termS (termS T (a.fk, a.fn)) (a.tk, a.tn)) T from this [] (by simp)
  induction l with
  | nil => exact fun T h => h
  | cons a l ih => exact fun T h => ih _ (termS_noNil _ _ (termS_noNil _ _ h))
theorem nameAt_nil : ∀ (V N : List ByteArray), nilB ∉ V → nameAt V N nilB = nilB
  | [], _, _ => by unfold nameAt; rfl
  | x :: V, [], _ => rfl
  | x :: V, n :: N, h => by
    unfold nameAt
    rw [if_neg (fun e => h (by rw [e]; exact List.mem_cons_self))]
    exact nameAt_nil V N (fun hm => h (List.mem_cons_of_mem _ hm))
theorem turnR_turnT (V N : List ByteArray) (k : Bool) (n : ByteArray) (h : nilB ∉ V) : turnR V N k n = turnT (nameAt V N) k n := by
  unfold turnR turnT
  cases k with
  | true => rw [if_pos rfl, if_neg (by simp)]
  | false =>
    rw [if_neg (by decide)]
    by_cases hn : n = nilB
    · rw [if_neg (by simp [hn]), hn, nameAt_nil V N h]
    · rw [if_pos ⟨rfl, hn⟩]
/-- What stands while a pattern's rows are turned. -/
structure TuS (w : World) (va vr vh : Value) (A : List Atm) (R H : List ByteArray) (W : World) : Prop where
  ext : Ext w W
  oa : W.ownsRow w.heap.size 40 7 va A.length (A.flatMap atCells)
  ot : W.ownsRow w.heap.size 9 1 vr R.length (R.map Value.string)
  oh : W.ownsRow w.heap.size 9 1 vh H.length (H.map Value.string)
  ne : ∀ g, vr.ownBlock = some g → vh.ownBlock ≠ some g
theorem TuS.more {w : World} {va vr vh : Value} {A : List Atm} {R H : List ByteArray} {W W' : World} (h : TuS w va vr vh A R H W) (hx : Ext W W') : TuS w va vr vh A R H W' :=
  ⟨h.ext.trans hx, own_ext h.oa hx, own_ext h.ot hx, own_ext h.oh hx, h.ne⟩
theorem app_ne {W : World} {B n : Nat} {vr vx v4 : Value} {xs : List Value} (hr : W.ownsRow B 9 1 vr n xs) (hne : ∀ g, vr.ownBlock = some g → vx.ownBlock ≠ some g) (hat : AppAt vx v4 W) : ∀ g, vr.ownBlock = some g → v4.ownBlock ≠ some g := by
  intro g hg
  rcases hat with e | e
  · rw [e]; exact hne g hg
  · rw [e]
    have := (own_lt hr hg).2
    intro e2
    have := Option.some.inj e2
    omega
def prG28 : Nat → Gro
  | 1 => .read
  | 4 => .grow
  | 6 => .read
  | 9 => .grow
  | 11 => .write
  | 13 => .write
  | _ => .pure
set_option maxRecDepth 100000 in
set_option maxHeartbeats 4000000 in
theorem turned17_any (v nv : Value) (P : Pat) (N : List ByteArray) (w : World) (h : PatAt w v P) (hn : Strs w nv N) (hl : N.length = (varsS P.atoms).length) (hla : P.atoms.length ≤ 100000) (hlr : P.ret.length ≤ 100000) (hlh : P.hint.length ≤ 100000) :
    Calls Tryz.prog 28 #[v, nv] w fun e w' => ∃ u, e = .returned u ∧ PatIn w.heap.size w' u (renP P N) ∧ Ext w w' := by
  have hmo : Tryz.prog.follows .mixedOrders = true := by kernel_rfl
  have hTR := fun k n => turnR_turnT (varsS P.atoms) N k n (varsS_nil P.atoms)
  unfold renP turnP
  obtain ⟨av, rv, hv, rfl, ha, hr, hh⟩ := h
  obtain ⟨ava, avc, rfl, hac, _⟩ := ha.shape
  obtain ⟨rva, rvc, rfl, hrc, _⟩ := Sl.shape hr
  obtain ⟨hva, hvc, rfl, hhc, _⟩ := Sl.shape hh
  obtain ⟨atoms, ret, cn, ds, lm, li, off, hint⟩ := P
  unfold patV patL
  dsimp only at *
  have HTT := Lib.hid (fun (vv : Value) (k : Bool) (n : ByteArray) (w' : World) (h1 : Strs w' vv (varsS atoms)) (h2 : Strs w' nv N) => (hTR k n ▸ termT17_any vv nv (varsS atoms) N k n w' h1 h2 hl : Calls Tryz.prog 53 #[.agg #[.bool k, .string n], vv, nv] w' fun e w'' => e = .returned (.agg #[.bool k, .string (turnT (nameAt (varsS atoms) N) k n)]) ∧ Ext w' w''))
  have HNN := Lib.hid (fun (vv : Value) (n : ByteArray) (w' : World) (h1 : Strs w' vv (varsS atoms)) (h2 : Strs w' nv N) => nameR17_any vv nv (varsS atoms) N n w' h1 h2 hl)
  have HVS := Lib.hid (fun w' (hx : Ext w w') => varsS_any (.slice ava atoms.length avc) atoms w' (ha.ext hx) (by omega))
  have HA := Lib.hid ha
  have HR := Lib.hid hr
  have HH := Lib.hid hh
  have HNV := Lib.hid hn
  generalize nameAt (varsS atoms) N = f at *
  clear ha hr hh hn hl hTR
  -- a function with two boxes at its head: colander/colanderref17.Turned its name, [.slice ava atoms.length avc, .slice rva ret.length rvc, .bool cn, .bool ds, .bool lm, .int .i64 li, .int .i64 off, .slice hva hint.length hvc] [.slice none 0 0, .slice none 0 0, .bool false, .bool false, .bool false, .int .i64 0, .int .i64 0, .slice none 0 0] their cells (lists), api.Pattern api.Pattern their types' names
  have hbx := boxes2 w ([.slice ava atoms.length avc, .slice rva ret.length rvc, .bool cn, .bool ds, .bool lm, .int .i64 li, .int .i64 off, .slice hva hint.length hvc]) 25 ([.slice none 0 0, .slice none 0 0, .bool false, .bool false, .bool false, .int .i64 0, .int .i64 0, .slice none 0 0]) 25
  have HBX := Lib.hid hbx
  clear hbx
  go_enter Tryz.func28, Tryz.ntmps28
  go_upto_region 1 with fail
  generalize (w.alloc (.cells ([.slice ava atoms.length avc, .slice rva ret.length rvc, .bool cn, .bool ds, .bool lm, .int .i64 li, .int .i64 off, .slice hva hint.length hvc]).toArray 25)).alloc (.cells ([.slice none 0 0, .slice none 0 0, .bool false, .bool false, .bool false, .int .i64 0, .int .i64 0, .slice none 0 0]).toArray 25) = w1 at *
  obtain ⟨y0, hy0⟩ : ∃ x, w.heap.size = x := ⟨_, rfl⟩
  obtain ⟨y1, hy1⟩ : ∃ x, y0 + 1 = x := ⟨_, rfl⟩
  rw [hy0, hy1] at HBX
  simp only [hy0, hy1]
  have HN := Lib.hid (show w.heap.size = y0 ∧ y0 + 1 = y1 from ⟨hy0, hy1⟩)
  have HX := Lib.hid HBX.out.1
  have H0 := Lib.hid HBX.out.2.1
  have H1 := Lib.hid HBX.out.2.2
  clear hy0 hy1 HBX
  have k0 := H0.out.cell (i := 0) rfl
  go_wp2_with fail
  refine (HVS.out w1 HX.out).mono ?_
  rintro e w2 ⟨vv, rfl, hvv, hx2⟩
  have HX2 := Lib.hid (HX.out.trans hx2)
  have HB0 := Lib.hid (H0.out.ext hx2)
  have HB1 := Lib.hid (H1.out.ext hx2)
  have HVV := Lib.hid hvv
  have HNW := Lib.hid (Strs.ext HNV.out HX2.out)
  generalize varsS atoms = V at *
  clear hx2 HX H0 H1 hvv k0 HVS
  have k0 := HB0.out.cell (i := 0) rfl
  go_upto_region 4 with fail
  clear k0
  have HS0 := Lib.hid (show TuS w2 (.slice none 0 0) (.slice none 0 0) (.slice none 0 0) [] [] [] w2 from ⟨Ext.refl _, World.ownsRow_nil _ _ _ _, World.ownsRow_nil _ _ _ _, World.ownsRow_nil _ _ _ _, fun g hg => by cases hg⟩)
  go_loopg [6, 21] atoms.length (fun g va i wr => ∃ k : Nat, k ≤ atoms.length ∧ g = atoms.length - k ∧ i = .int .i64 k ∧ TuS w2 va (.slice none 0 0) (.slice none 0 0) ((atoms.take k).map (turnA f)) [] [] wr)
  case atStart => exact ⟨0, Nat.zero_le _, rfl, rfl, HS0.out⟩
  case round =>
    obtain ⟨k, hk, hg, rfl, hs⟩ := hrel
    have Hg := Lib.hid hg
    have HS := Lib.hid hs
    clear hg hs HS0
    by_cases hlt : k < atoms.length
    · obtain ⟨b, o, rfl, c0, c1, c2, c3, c4, c5, c6⟩ := (HA.out.ext (HX2.out.trans HS.out.ext)).at_ hlt
      have HTM : Hid ((atoms.take (k + 1)).map (turnA f) = (atoms.take k).map (turnA f) ++ [turnA f atoms[k]]) := Lib.hid (by rw [List.take_succ_eq_append_getElem hlt, List.map_append]; rfl)
      have HLN : Hid (((atoms.take k).map (turnA f)).length ≤ 100000) := Lib.hid (by rw [List.length_map, List.length_take]; omega)
      obtain ⟨AX, hAX⟩ : ∃ l, (atoms.take k).map (turnA f) = l := ⟨_, rfl⟩
      rw [hAX] at HTM HS HLN
      clear hAX
      obtain ⟨va, vac, rfl⟩ := own_vw HS.out.oa
      generalize atoms[k] = x at *
      obtain ⟨kd, fk, fn, nm, vl, tk, tn⟩ := x
      rw [show turnA f ⟨kd, fk, fn, nm, vl, tk, tn⟩ = ⟨kd, fk, turnT f fk fn, nm, vl, tk, turnT f tk tn⟩ from rfl] at HTM
      dsimp only at c0 c1 c2 c3 c4 c5 c6
      have HT1 := Lib.hid (fun w' (hx : Ext w2 w') => HTT.out vv fk fn w' (Strs.ext HVV.out hx) (Strs.ext HNW.out hx))
      have HT2 := Lib.hid (fun w' (hx : Ext w2 w') => HTT.out vv tk tn w' (Strs.ext HVV.out hx) (Strs.ext HNW.out hx))
      generalize turnT f fk fn = fn' at *
      generalize turnT f tk tn = tn' at *
      have HB5 := Lib.hid (RowAt.new wr 40 [.int .i64 kd, .bool fk, .string fn, .string nm, .string vl, .bool tk, .string tn])
      have HX5 := Lib.hid (Ext.alloc wr (.cells #[.int .i64 kd, .bool fk, .string fn, .string nm, .string vl, .bool tk, .string tn] 40))
      go_upto_region 6 with fail
      clear c0 c1 c2 c3 c4 c5 c6
      generalize wr.alloc (.cells #[.int .i64 kd, .bool fk, .string fn, .string nm, .string vl, .bool tk, .string tn] 40) = w5 at *
      obtain ⟨y5, hy5⟩ : ∃ y, wr.heap.size = y := ⟨_, rfl⟩
      rw [hy5] at HB5
      try simp only [hy5]
      have HY5 := Lib.hid (Nat.le_of_eq hy5)
      clear hy5
      refine wp_region_gro prG28 [0, 1, 2, 3, 5, 6, 7, 8, 4, 10, 9, 11, 12, 13] hmo (by kernel_rfl) rfl (by kernel_rfl) (fun _ _ _ _ _ h => h) ?_
      have hxd : Ext w5 w5.drew := Ext.drewN w5 1
      replace HX5 := Lib.hid (HX5.out.trans hxd)
      replace HB5 := Lib.hid (HB5.out.ext hxd)
      clear hxd
      generalize w5.drew = w6 at *
      have d1 := HB5.out.cell (i := 1) rfl
      have d2 := HB5.out.cell (i := 2) rfl
      have d5 := HB5.out.cell (i := 5) rfl
      have d6 := HB5.out.cell (i := 6) rfl
      repeat (first
        | (refine groL_pure rfl rfl ?_; intro K hK; go_simp; refine hK _ ?_; clear hK K)
        | (refine groL_read rfl rfl ?_; intro K S hS hK; go_simp; refine hK _ ?_; clear hK K hS S)
        | (refine groL_read rfl rfl ?_; intro K S hS hK; go_simp; refine ⟨hS _ ?_, hK _ ?_⟩; (clear hK K hS S; intro w' hx'; have hce := ext_some hx'; go_simp); clear hK K hS S)
        | (refine groL_write rfl rfl ?_; intro K hK; go_simp; refine hK _ _ ?_; clear hK K))
      refine groL_grow rfl rfl ?_
      intro K hK
      go_simp
      (refine (HT1.out _ (HS.out.ext.trans HX5.out)).mono ?_; rintro e w7 ⟨rfl, hx7⟩)
      go_simp
      refine hK _ _ ⟨hx7, ?_⟩
      clear hK K
      have HX7 := Lib.hid (HX5.out.trans hx7)
      have HB7 := Lib.hid (HB5.out.ext hx7)
      clear hx7 d1 d2 d5 d6 HX5 HB5
      have d5 := HB7.out.cell (i := 5) rfl
      have d6 := HB7.out.cell (i := 6) rfl
      repeat (first
        | (refine groL_pure rfl rfl ?_; intro K hK; go_simp; refine hK _ ?_; clear hK K)
        | (refine groL_read rfl rfl ?_; intro K S hS hK; go_simp; refine hK _ ?_; clear hK K hS S)
        | (refine groL_read rfl rfl ?_; intro K S hS hK; go_simp; refine ⟨hS _ ?_, hK _ ?_⟩; (clear hK K hS S; intro w' hx'; have hce := ext_some hx'; go_simp); clear hK K hS S)
        | (refine groL_write rfl rfl ?_; intro K hK; go_simp; refine hK _ _ ?_; clear hK K))
      refine groL_grow rfl rfl ?_
      intro K hK
      go_simp
      (refine (HT2.out _ (HS.out.ext.trans HX7.out)).mono ?_; rintro e w8 ⟨rfl, hx8⟩)
      go_simp
      refine hK _ _ ⟨hx8, ?_⟩
      clear hK K
      have HX8 := Lib.hid (HX7.out.trans hx8)
      have HB8 := Lib.hid (HB7.out.ext hx8)
      clear hx8 d5 d6 HX7 HB7
      have f1 := HB8.out.frozen 1
      have f2 := HB8.out.frozen 2
      have f5 := HB8.out.frozen 5
      have f6 := HB8.out.frozen 6
      have d1 := HB8.out.cell (i := 1) rfl
      have d2 := HB8.out.cell (i := 2) rfl
      have d5 := HB8.out.cell (i := 5) rfl
      have d6 := HB8.out.cell (i := 6) rfl
      repeat (first
        | (refine groL_pure rfl rfl ?_; intro K hK; go_simp; refine hK _ ?_; clear hK K)
        | (refine groL_read rfl rfl ?_; intro K S hS hK; go_simp; refine hK _ ?_; clear hK K hS S)
        | (refine groL_read rfl rfl ?_; intro K S hS hK; go_simp; refine ⟨hS _ ?_, hK _ ?_⟩; (clear hK K hS S; intro w' hx'; have hce := ext_some hx'; go_simp); clear hK K hS S)
        | (refine groL_write rfl rfl ?_; intro K hK; go_simp; refine hK _ _ ?_; clear hK K))
      refine groL_nil ?_
      have HB9 := Lib.hid (show RowAt ((((w8.setCell ⟨y5, 1, none⟩ (.bool fk)).setCell ⟨y5, 2, none⟩ (.string fn')).setCell ⟨y5, 5, none⟩ (.bool tk)).setCell ⟨y5, 6, none⟩ (.string tn')) y5 40 [.int .i64 kd, .bool fk, .string fn', .string nm, .string vl, .bool tk, .string tn'] from (((HB8.out.set 1 (.bool fk)).set 2 (.string fn')).set 5 (.bool tk)).set 6 (.string tn'))
      have HX9 := Lib.hid (show Ext wr ((((w8.setCell ⟨y5, 1, none⟩ (.bool fk)).setCell ⟨y5, 2, none⟩ (.string fn')).setCell ⟨y5, 5, none⟩ (.bool tk)).setCell ⟨y5, 6, none⟩ (.string tn')) from Ext.set_of (Ext.set_of (Ext.set_of (Ext.set_of HX8.out HY5.out _) HY5.out _) HY5.out _) HY5.out _)
      clear d1 d2 d5 d6 f1 f2 f5 f6 HB8 HX8 HT1 HT2
      generalize (((w8.setCell ⟨y5, 1, none⟩ (.bool fk)).setCell ⟨y5, 2, none⟩ (.string fn')).setCell ⟨y5, 5, none⟩ (.bool tk)).setCell ⟨y5, 6, none⟩ (.string tn') = w9 at *
      have HS9 := Lib.hid (HS.out.more HX9.out)
      clear HS HX9
      have d0 := HB9.out.cell (i := 0) rfl
      have d1 := HB9.out.cell (i := 1) rfl
      have d2 := HB9.out.cell (i := 2) rfl
      have d3 := HB9.out.cell (i := 3) rfl
      have d4 := HB9.out.cell (i := 4) rfl
      have d5 := HB9.out.cell (i := 5) rfl
      have d6 := HB9.out.cell (i := 6) rfl
      have hxa := Ext.alloc w9 (.cells #[.int .i64 kd, .bool fk, .string fn', .string nm, .string vl, .bool tk, .string tn'] 40)
      have HSA := Lib.hid (HS9.out.more hxa)
      have hbs := HSA.out.ext.size
      have hbs9 := HS9.out.ext.size
      have hln := HLN.out
      go_wp2_with (at_builtin; refine wpList_append_sl _ rfl _ _ 22 rfl elAt rfl HSA.out.oa rfl (Sl.new _ _ _ 1 1 (Nat.le_refl _) ?_) rfl ?_ ?_ ?_ ?_ ?_)
      · unfold maxLen; omega
      · first | rfl | exact ⟨rfl, rfl, rfl, rfl, rfl, rfl, rfl⟩
      · omega
      · unfold maxLen; omega
      · simp; omega
      intro v4 w10 hown4 hB4 hg4 hat4
      have HSN := Lib.hid (show TuS w2 v4 (.slice none 0 0) (.slice none 0 0) (AX ++ [⟨kd, fk, fn', nm, vl, tk, tn'⟩]) [] [] w10 from ⟨HSA.out.ext.grown hg4 hbs (own_ge HSA.out.oa), by rw [List.length_append, List.flatMap_append]; exact hown4, World.ownsRow_nil _ _ _ _, World.ownsRow_nil _ _ _ _, fun g hg => by cases hg⟩)
      clear hown4 hB4 hg4 hat4 hxa d0 d1 d2 d3 d4 d5 d6 HS9 HSA HB9 hbs hbs9 hln
      go_wp2_with fail
      go_roundg (atoms.length - (k + 1))
      case measure => have := Hg.out; omega
      case rel => exact ⟨k + 1, by omega, rfl, by go_num, by rw [HTM.out]; exact HSN.out⟩
    · obtain rfl : k = atoms.length := by omega
      rw [List.take_length] at HS
      clear Hg
      have HLN : Hid ((atoms.map (turnA f)).length ≤ 100000) := Lib.hid (by rw [List.length_map]; exact hla)
      obtain ⟨va, vac, rfl⟩ := own_vw HS.out.oa
      obtain ⟨A, hE⟩ : ∃ l, atoms.map (turnA f) = l := ⟨_, rfl⟩
      rw [hE] at HS HLN ⊢
      have hAV := hE
      clear hE
      have k1 := (HB0.out.ext HS.out.ext).cell (i := 1) rfl
      go_upto_region 11 with fail
      clear k1 hlt hk
      go_loopg [9, 45] ret.length (fun g vx i wr => ∃ k : Nat, k ≤ ret.length ∧ g = ret.length - k ∧ i = .int .i64 k ∧ TuS w2 (.slice va A.length vac) vx (.slice none 0 0) A ((ret.take k).map f) [] wr)
      case atStart => exact ⟨0, Nat.zero_le _, rfl, rfl, HS.out⟩
      case round =>
        obtain ⟨k, hk, hg, rfl, hs⟩ := hrel
        have Hg := Lib.hid hg
        clear HS
        have HS := Lib.hid hs
        clear hg hs
        by_cases hlt : k < ret.length
        · obtain ⟨b, o, rfl, c0⟩ := Strs.at_ (Strs.ext HR.out (HX2.out.trans HS.out.ext)) hlt
          have HTM : Hid ((ret.take (k + 1)).map f = (ret.take k).map f ++ [f ret[k]]) := Lib.hid (by rw [List.take_succ_eq_append_getElem hlt, List.map_append]; rfl)
          have HLX : Hid (((ret.take k).map f).length ≤ 100000) := Lib.hid (by rw [List.length_map, List.length_take]; omega)
          obtain ⟨RX, hRX⟩ : ∃ l, (ret.take k).map f = l := ⟨_, rfl⟩
          rw [hRX] at HTM HS HLX
          clear hRX
          obtain ⟨xv, xc, rfl⟩ := own_vw HS.out.ot
          generalize ret[k] = s at *
          have HT1 := Lib.hid (HNN.out vv s wr (Strs.ext HVV.out HS.out.ext) (Strs.ext HNW.out HS.out.ext))
          generalize f s = s' at *
          go_wp2_with fail
          refine HT1.out.mono ?_
          rintro e w7 ⟨rfl, hw7⟩
          rw [hw7]
          clear hw7 c0
          have hxa := Ext.alloc wr (.cells #[.string s'] 9)
          have HSA := Lib.hid (HS.out.more hxa)
          have hbs := HSA.out.ext.size
          have hbs9 := HS.out.ext.size
          have hln := HLX.out
          go_wp2_with (at_builtin; refine wpList_append_sl _ rfl _ _ 23 rfl elStr rfl HSA.out.ot rfl (Sl.new _ _ _ 1 1 (Nat.le_refl _) ?_) rfl ?_ ?_ ?_ ?_ ?_)
          · unfold maxLen; omega
          · first | rfl | exact ⟨rfl, rfl, rfl, rfl, rfl, rfl, rfl⟩
          · omega
          · unfold maxLen; omega
          · simp; omega
          intro v4 w10 hown4 hB4 hg4 hat4
          have HSN := Lib.hid (show TuS w2 (.slice va A.length vac) v4 (.slice none 0 0) A (RX ++ [s']) [] w10 from ⟨HSA.out.ext.grown hg4 hbs (own_ge HSA.out.ot), own_far_pr HSA.out.oa hg4 (own_own HSA.out.ot HSA.out.oa (by decide)), by rw [List.length_append, List.map_append]; exact hown4, World.ownsRow_nil _ _ _ _, fun g _ hg => by cases hg⟩)
          clear hown4 hB4 hg4 hat4 hxa HS HSA hbs hbs9 hln
          go_wp2_with fail
          go_roundg (ret.length - (k + 1))
          case measure => have := Hg.out; omega
          case rel => exact ⟨k + 1, by omega, rfl, by go_num, by rw [HTM.out]; exact HSN.out⟩
        · obtain rfl : k = ret.length := by omega
          rw [List.take_length] at HS
          clear Hg
          have HLR : Hid ((ret.map f).length ≤ 100000) := Lib.hid (by rw [List.length_map]; exact hlr)
          obtain ⟨vr, vrc, rfl⟩ := own_vw HS.out.ot
          obtain ⟨R, hE2⟩ : ∃ l, ret.map f = l := ⟨_, rfl⟩
          rw [hE2] at HS HLR ⊢
          have k1 := (HB0.out.ext HS.out.ext).cell (i := 7) rfl
          go_upto_region 16 with fail
          clear k1 hlt hk
          go_loopg [10, 60] hint.length (fun g vx i wr => ∃ k : Nat, k ≤ hint.length ∧ g = hint.length - k ∧ i = .int .i64 k ∧ TuS w2 (.slice va A.length vac) (.slice vr R.length vrc) vx A R ((hint.take k).map f) wr)
          case atStart => exact ⟨0, Nat.zero_le _, rfl, rfl, HS.out⟩
          case round =>
            obtain ⟨k, hk, hg, rfl, hs⟩ := hrel
            have Hg := Lib.hid hg
            clear HS
            have HS := Lib.hid hs
            clear hg hs
            by_cases hlt : k < hint.length
            · obtain ⟨b, o, rfl, c0⟩ := Strs.at_ (Strs.ext HH.out (HX2.out.trans HS.out.ext)) hlt
              have HTM : Hid ((hint.take (k + 1)).map f = (hint.take k).map f ++ [f hint[k]]) := Lib.hid (by rw [List.take_succ_eq_append_getElem hlt, List.map_append]; rfl)
              have HLX : Hid (((hint.take k).map f).length ≤ 100000) := Lib.hid (by rw [List.length_map, List.length_take]; omega)
              obtain ⟨RX, hRX⟩ : ∃ l, (hint.take k).map f = l := ⟨_, rfl⟩
              rw [hRX] at HTM HS HLX
              clear hRX
              obtain ⟨xv, xc, rfl⟩ := own_vw HS.out.oh
              generalize hint[k] = s at *
              have HT1 := Lib.hid (HNN.out vv s wr (Strs.ext HVV.out HS.out.ext) (Strs.ext HNW.out HS.out.ext))
              generalize f s = s' at *
              go_wp2_with fail
              refine HT1.out.mono ?_
              rintro e w7 ⟨rfl, hw7⟩
              rw [hw7]
              clear hw7 c0
              have hxa := Ext.alloc wr (.cells #[.string s'] 9)
              have HSA := Lib.hid (HS.out.more hxa)
              have hbs := HSA.out.ext.size
              have hbs9 := HS.out.ext.size
              have hln := HLX.out
              go_wp2_with (at_builtin; refine wpList_append_sl _ rfl _ _ 23 rfl elStr rfl HSA.out.oh rfl (Sl.new _ _ _ 1 1 (Nat.le_refl _) ?_) rfl ?_ ?_ ?_ ?_ ?_)
              · unfold maxLen; omega
              · first | rfl | exact ⟨rfl, rfl, rfl, rfl, rfl, rfl, rfl⟩
              · omega
              · unfold maxLen; omega
              · simp; omega
              intro v4 w10 hown4 hB4 hg4 hat4
              have HSN := Lib.hid (show TuS w2 (.slice va A.length vac) (.slice vr R.length vrc) v4 A R (RX ++ [s']) w10 from ⟨HSA.out.ext.grown hg4 hbs (own_ge HSA.out.oh), own_far_pr HSA.out.oa hg4 (own_own HSA.out.oh HSA.out.oa (by decide)), own_far_pr HSA.out.ot hg4 (fun g hg' hr => HSA.out.ne g hr hg'), by rw [List.length_append, List.map_append]; exact hown4, fun g h1 h2 => app_ne HSA.out.ot HSA.out.ne hat4 g h1 h2⟩)
              clear hown4 hB4 hg4 hat4 hxa HS HSA hbs hbs9 hln
              go_wp2_with fail
              go_roundg (hint.length - (k + 1))
              case measure => have := Hg.out; omega
              case rel => exact ⟨k + 1, by omega, rfl, by go_num, by rw [HTM.out]; exact HSN.out⟩
            · obtain rfl : k = hint.length := by omega
              rw [List.take_length] at HS
              clear Hg
              obtain ⟨vh, vhc, rfl⟩ := own_vw HS.out.oh
              obtain ⟨H, hE3⟩ : ∃ l, hint.map f = l := ⟨_, rfl⟩
              rw [hE3] at HS ⊢
              have HM := Lib.hid (HB0.out.ext HS.out.ext)
              have HM1 := Lib.hid (HB1.out.ext HS.out.ext)
              have HLO := Lib.hid (show w.heap.size ≤ y0 ∧ w.heap.size ≤ y1 ∧ y0 ≠ y1 by have := HN.out; omega)
              have hb := HX2.out.size
              have HXW := Lib.hid (HX2.out.trans HS.out.ext)
              have HO1 := Lib.hid (own_base HS.out.oa hb)
              have HO2 := Lib.hid (own_base HS.out.ot hb)
              have HO3 := Lib.hid (own_base HS.out.oh hb)
              clear HS hlt hk hb HB0 HB1 HX2 HNN HTT HA HR HH HNV HNW HVV
              have f0 := HM.out.frozen 0
              have f1 := HM.out.frozen 1
              have f7 := HM.out.frozen 7
              have k0 := HM.out.cell (i := 0) rfl
              have k1 := HM.out.cell (i := 1) rfl
              have k7 := HM.out.cell (i := 7) rfl
              go_upto_region 21 with fail
              have hg0 := grown_set wr y0 0 (.slice va A.length vac)
              have hg1 := grown_set (wr.setCell ⟨y0, 0, none⟩ (.slice va A.length vac)) y0 1 (.slice vr R.length vrc)
              have hg2 := grown_set ((wr.setCell ⟨y0, 0, none⟩ (.slice va A.length vac)).setCell ⟨y0, 1, none⟩ (.slice vr R.length vrc)) y0 7 (.slice vh H.length vhc)
              have N1 := Lib.hid (HM.out.set 0 (.slice va A.length vac))
              have N2 := Lib.hid (N1.out.set 1 (.slice vr R.length vrc))
              have N3 := Lib.hid (show RowAt (((wr.setCell ⟨y0, 0, none⟩ (.slice va A.length vac)).setCell ⟨y0, 1, none⟩ (.slice vr R.length vrc)).setCell ⟨y0, 7, none⟩ (.slice vh H.length vhc)) y0 25 [.slice va A.length vac, .slice vr R.length vrc, .bool cn, .bool ds, .bool lm, .int .i64 li, .int .i64 off, .slice vh H.length vhc] from N2.out.set 7 _)
              have hn : (some y0 : Option Nat) ≠ some y1 := fun e => HLO.out.2.2 (Option.some.inj e)
              have M1 := Lib.hid (((HM1.out.kept hg0 hn).kept hg1 hn).kept hg2 hn)
              have HX7 := Lib.hid (Ext.set_of (Ext.set_of (Ext.set_of HXW.out HLO.out.1 (o := 0) (.slice va A.length vac)) HLO.out.1 (o := 1) (.slice vr R.length vrc)) HLO.out.1 (o := 7) (.slice vh H.length vhc))
              have HP1 := Lib.hid (own_turn (own_turn (own_turn HO1.out HM.out (by decide) hg0) N1.out (by decide) hg1) N2.out (by decide) hg2)
              have HP2 := Lib.hid (own_turn (own_turn (own_turn HO2.out HM.out (by decide) hg0) N1.out (by decide) hg1) N2.out (by decide) hg2)
              have HP3 := Lib.hid (own_turn (own_turn (own_turn HO3.out HM.out (by decide) hg0) N1.out (by decide) hg1) N2.out (by decide) hg2)
              clear hg0 hg1 hg2 hn N1 N2 f0 f1 f7 k0 k1 k7 HM HM1 HXW HO1 HO2 HO3
              generalize ((wr.setCell ⟨y0, 0, none⟩ (.slice va A.length vac)).setCell ⟨y0, 1, none⟩ (.slice vr R.length vrc)).setCell ⟨y0, 7, none⟩ (.slice vh H.length vhc) = w7 at *
              apply wp_region_lit
              -- a load of a whole row: y0 block, N3.out fact RowAt, api.Pattern the type's name
              refine plain_load rfl _ _ rfl y0 rfl _ _ (N3.out) Tryz.underlying25 rfl (by kernel_rfl) ?_
              go_simp
              refine plain_store rfl _ _ _ rfl y1 [.slice va A.length vac, .slice vr R.length vrc, .bool cn, .bool ds, .bool lm, .int .i64 li, .int .i64 off, .slice vh H.length vhc] rfl rfl M1.out (by kernel_rfl) rfl (by simp [Value.oneCell']) ?_
              have HY := Lib.hid (M1.out.setRow [.slice va A.length vac, .slice vr R.length vrc, .bool cn, .bool ds, .bool lm, .int .i64 li, .int .i64 off, .slice vh H.length vhc])
              have HXY := Lib.hid (show Ext w (w7.setRow y1 ([.slice va A.length vac, .slice vr R.length vrc, .bool cn, .bool ds, .bool lm, .int .i64 li, .int .i64 off, .slice vh H.length vhc] : List Value).toArray) from below_setRow HX7.out HLO.out.2.1 _)
              have hgr := setRow_grown w7 y1 ([.slice va A.length vac, .slice vr R.length vrc, .bool cn, .bool ds, .bool lm, .int .i64 li, .int .i64 off, .slice vh H.length vhc] : List Value).toArray
              have HQ1 := Lib.hid (own_turn HP1.out M1.out (by decide) hgr)
              have HQ2 := Lib.hid (own_turn HP2.out M1.out (by decide) hgr)
              have HQ3 := Lib.hid (own_turn HP3.out M1.out (by decide) hgr)
              clear hgr N3 M1 HX7 HP1 HP2 HP3
              generalize w7.setRow y1 ([.slice va A.length vac, .slice vr R.length vrc, .bool cn, .bool ds, .bool lm, .int .i64 li, .int .i64 off, .slice vh H.length vhc] : List Value).toArray = w8 at *
              have HPI := Lib.hid (show PatIn w.heap.size w8 (.agg #[.slice va A.length vac, .slice vr R.length vrc, .bool cn, .bool ds, .bool lm, .int .i64 li, .int .i64 off, .slice vh H.length vhc]) ⟨A, R, cn, ds, lm, li, off, H⟩ from
                ⟨_, _, _, rfl, HQ1.out, HQ2.out, HQ3.out⟩)
              clear HQ1 HQ2 HQ3
              go_simp
              apply wpList_nil
              go_wp2_with fail
              exact bodyPost_ret (results_row0 rfl rfl HY.out Tryz.underlying25 rfl (by kernel_rfl)) rfl ⟨_, rfl, by subst hAV; subst hE2; subst hE3; exact HPI.out, HXY.out⟩
end Go.Proofs.YthoneahamnmjlaaGreatDoor

/- PrintPlain: the walk. -/
namespace Go.Proofs.YthoneahamnmjlaaGreatDoor
set_option maxRecDepth 100000
set_option maxHeartbeats 2000000
set_option linter.unusedSimpArgs false
open Go.RowKit Go.Shelf Go.Sort
attribute [local go_sem] Oper.semAt_some wide_fn wide_depth
set_option linter.unusedVariables false

/-- A pattern of the call's own. -/
def OwnP (B : Nat) (P : Pat) (W : World) (c : Value) : Prop := PatIn B W c P
theorem OwnP.firm (B : Nat) (P : Pat) : Firm 25 25 (OwnP B P) :=
  ⟨fun hx ⟨av, rv, hv, e, h1, h2, h3⟩ => ⟨av, rv, hv, e, own_ext h1 hx, own_ext h2 hx, own_ext h3 hx⟩, fun hr ht ⟨av, rv, hv, e, h1, h2, h3⟩ => by
    have hs : (9 : TypeId) ≠ 25 := by decide
    have hn : (40 : TypeId) ≠ 25 := by decide
    rcases ht with rfl | rfl
    · exact ⟨av, rv, hv, e, own_setC_ne h1 hr hn _ _, own_setC_ne h2 hr hs _ _, own_setC_ne h3 hr hs _ _⟩
    · exact ⟨av, rv, hv, e, own_setC_ne h1 hr hn _ _, own_setC_ne h2 hr hs _ _, own_setC_ne h3 hr hs _ _⟩⟩
theorem OwnP.shape {B : Nat} {P : Pat} {W : World} {c : Value} (h : OwnP B P W c) : ∃ a1 c1 a2 c2 a3 c3, c = .agg #[.slice a1 P.atoms.length c1, .slice a2 P.ret.length c2, .bool P.count, .bool P.distinct, .bool P.limited, .int .i64 P.limit, .int .i64 P.offset, .slice a3 P.hint.length c3] := by
  obtain ⟨av, rv, hv, rfl, h1, h2, h3⟩ := h
  obtain ⟨a1, c1, rfl⟩ := own_vw h1
  obtain ⟨a2, c2, rfl⟩ := own_vw h2
  obtain ⟨a3, c3, rfl⟩ := own_vw h3
  exact ⟨_, _, _, _, _, _, rfl⟩
theorem ArgP.own_t {w : World} {v : Value} {P : Pat} (h : ArgP w v P) (w1 W : World) (hx : Ext w w1) (hx1 : Ext w1 W) :
    Calls Tryz.prog 9 #[v] W fun e w' => ∃ u, e = .returned u ∧ OwnP w1.heap.size (ownB P) w' u ∧ Ext W w' :=
  (h.own W (hx.trans hx1)).mono fun e w' ⟨u, he, ⟨av, rv, hv, e1, h1, h2, h3⟩, hx'⟩ => ⟨_, he, ⟨av, rv, hv, e1, own_base h1 hx1.size, own_base h2 hx1.size, own_base h3 hx1.size⟩, hx'⟩
def depY : Nat → List Nat
  | 1 => [0]
  | 3 => [2]
  | 6 => [1, 4]
  | 7 => [3, 5]
  | _ => []
def zcells : List Value := [.slice none 0 0, .slice none 0 0, .bool false, .bool false, .bool false, .int .i64 0, .int .i64 0, .slice none 0 0]
theorem plain_fits {P : Pat} (h : P.okB = true) : (plainP P).Fits := ren_fits h (plain_names (okB_facts h).2.2.2.1)
end Go.Proofs.YthoneahamnmjlaaGreatDoor

/- The document: a pattern's plain one. -/
namespace Go.Proofs.YthoneahamnmjlaaGreatDoor
set_option maxRecDepth 100000
set_option maxHeartbeats 2000000
set_option linter.unusedSimpArgs false
open Go.RowKit Go.Shelf Go.Sort
attribute [local go_sem] Oper.semAt_some wide_fn wide_depth
set_option linter.unusedVariables false

theorem plainN_succ (k : Nat) : plainN (k + 1) = plainN k ++ [txt (118 :: Lib.decDigits k)] := by
  unfold plainN
  rw [List.range_succ, List.map_append]
  rfl
theorem patin_turn {B : Nat} {w w' : World} {v : Value} {P : Pat} {y : Nat} {ys : List Value} (h : PatIn B w v P) (hr : RowAt w y 25 ys) (hg : w.grownBy w' (some y)) : PatIn B w' v P := by
  obtain ⟨av, rv, hv, e, h1, h2, h3⟩ := h
  exact ⟨av, rv, hv, e, own_turn h1 hr (by decide) hg, own_turn h2 hr (by decide) hg, own_turn h3 hr (by decide) hg⟩
theorem patin_low {A B : Nat} {w : World} {v : Value} {P : Pat} (h : PatIn B w v P) (hb : A ≤ B) : PatIn A w v P := by
  obtain ⟨av, rv, hv, e, h1, h2, h3⟩ := h
  exact ⟨av, rv, hv, e, own_base h1 hb, own_base h2 hb, own_base h3 hb⟩
set_option maxRecDepth 100000 in
set_option maxHeartbeats 4000000 in
theorem plain17_any (v : Value) (P : Pat) (w : World) (h : PatAt w v P) (hla : P.atoms.length ≤ 100000) (hlr : P.ret.length ≤ 100000) (hlh : P.hint.length ≤ 100000) (hlv : (varsS P.atoms).length ≤ 100000) :
    Calls Tryz.prog 17 #[v] w fun e w' => ∃ u, e = .returned u ∧ PatIn w.heap.size w' u (plainP P) ∧ Ext w w' := by
  have HTU := Lib.hid (fun (N : List ByteArray) (nv : Value) w' (hx : Ext w w') (hn : Strs w' nv N) (hl : N.length = (varsS P.atoms).length) => turned17_any v nv P N w' (h.ext hx) hn hl hla hlr hlh)
  obtain ⟨av, rv, hv, rfl, ha, hr, hh⟩ := h
  have HVS := Lib.hid (fun w' (hx : Ext w w') => varsS_any av P.atoms w' (ha.ext hx) (by omega))
  unfold plainP
  obtain ⟨V, hV⟩ : ∃ V, varsS P.atoms = V := ⟨_, rfl⟩
  rw [hV] at HTU HVS hlv ⊢
  unfold patV patL at *
  clear ha hr hh hV hla hlr hlh
  -- a function with two boxes at its head: colander/colanderref17.Plain its name, [av, rv, .bool P.count, .bool P.distinct, .bool P.limited, .int .i64 P.limit, .int .i64 P.offset, hv] [.slice none 0 0, .slice none 0 0, .bool false, .bool false, .bool false, .int .i64 0, .int .i64 0, .slice none 0 0] their cells (lists), api.Pattern api.Pattern their types' names
  have hbx := boxes2 w ([av, rv, .bool P.count, .bool P.distinct, .bool P.limited, .int .i64 P.limit, .int .i64 P.offset, hv]) 25 ([.slice none 0 0, .slice none 0 0, .bool false, .bool false, .bool false, .int .i64 0, .int .i64 0, .slice none 0 0]) 25
  have HBX := Lib.hid hbx
  clear hbx
  go_enter Tryz.func17, Tryz.ntmps17
  go_upto_region 1 with fail
  generalize (w.alloc (.cells ([av, rv, .bool P.count, .bool P.distinct, .bool P.limited, .int .i64 P.limit, .int .i64 P.offset, hv]).toArray 25)).alloc (.cells ([.slice none 0 0, .slice none 0 0, .bool false, .bool false, .bool false, .int .i64 0, .int .i64 0, .slice none 0 0]).toArray 25) = w1 at *
  obtain ⟨y0, hy0⟩ : ∃ x, w.heap.size = x := ⟨_, rfl⟩
  obtain ⟨y1, hy1⟩ : ∃ x, y0 + 1 = x := ⟨_, rfl⟩
  rw [hy0, hy1] at HBX
  simp only [hy0, hy1]
  have HN := Lib.hid (show w.heap.size = y0 ∧ y0 + 1 = y1 from ⟨hy0, hy1⟩)
  have HX := Lib.hid HBX.out.1
  have H0 := Lib.hid HBX.out.2.1
  have H1 := Lib.hid HBX.out.2.2
  clear hy0 hy1 HBX
  have k0 := H0.out.cell (i := 0) rfl
  go_wp2_with fail
  refine (HVS.out w1 HX.out).mono ?_
  rintro e w2 ⟨vv, rfl, hvv, hx2⟩
  obtain ⟨va, vc, rfl, _, _⟩ := Sl.shape hvv
  have HX2 := Lib.hid (HX.out.trans hx2)
  have HB0 := Lib.hid (H0.out.ext hx2)
  have HB1 := Lib.hid (H1.out.ext hx2)
  clear hx2 HX H0 H1 hvv k0 HVS
  go_upto_region 3 with fail
  go_loopg [3, 9] V.length (fun g vx i wr => ∃ k : Nat, k ≤ V.length ∧ g = V.length - k ∧ i = .int .i64 k ∧ Ext w2 wr ∧ wr.ownsRow w2.heap.size 9 1 vx (plainN k).length ((plainN k).map Value.string))
  case atStart => exact ⟨0, Nat.zero_le _, rfl, rfl, Ext.refl _, World.ownsRow_nil _ _ _ _⟩
  case round =>
    obtain ⟨k, hk, hg, rfl, hxw, ho⟩ := hrel
    have Hg := Lib.hid hg
    have HXR := Lib.hid hxw
    have HO := Lib.hid ho
    clear hg hxw ho
    by_cases hlt : k < V.length
    · have HTM := Lib.hid (plainN_succ k)
      have HLN : Hid ((plainN k).length ≤ 100000) := Lib.hid (by rw [plainN_len]; omega)
      obtain ⟨RX, hRX⟩ : ∃ l, plainN k = l := ⟨_, rfl⟩
      rw [hRX] at HTM HO HLN
      clear hRX
      obtain ⟨vr, vrc, rfl⟩ := own_vw HO.out
      have HT1 := Lib.hid (digitsR_any k (by omega) wr)
      have hs1 := digits_size k (by omega)
      have HCC := Lib.hid (show (⟨#[118]⟩ : ByteArray) ++ txt (Lib.decDigits k) = txt (118 :: Lib.decDigits k) from bts_inj (by rw [bts_append, bts_txt, bts_txt]; rfl))
      have hz : ¬ 9223372036854775807 < 1 + (txt (Lib.decDigits k)).size := by omega
      generalize txt (118 :: Lib.decDigits k) = s' at *
      generalize txt (Lib.decDigits k) = s at *
      clear hs1
      go_wp2_with fail
      refine HT1.out.mono ?_
      rintro e w7 ⟨rfl, hx7⟩
      replace HXR := Lib.hid (HXR.out.trans hx7)
      replace HO := Lib.hid (own_ext HO.out hx7)
      clear hx7
      have hxa := Ext.alloc w7 (.cells #[.string ((⟨#[118]⟩ : ByteArray) ++ s)] 9)
      have HOA := Lib.hid (own_ext HO.out hxa)
      have HXA := Lib.hid (HXR.out.trans hxa)
      have hbs := HXA.out.size
      have hbs9 := HXR.out.size
      have hln := HLN.out
      go_wp2_with (at_builtin; refine wpList_append_sl _ rfl _ _ 23 rfl elStr rfl HOA.out rfl (Sl.new _ _ _ 1 1 (Nat.le_refl _) ?_) rfl ?_ ?_ ?_ ?_ ?_)
      · unfold maxLen; omega
      · first | rfl | exact ⟨rfl, rfl, rfl, rfl, rfl, rfl, rfl⟩
      · omega
      · unfold maxLen; omega
      · simp; omega
      intro v4 w10 hown4 hB4 hg4 hat4
      have HXN := Lib.hid (HXA.out.grown hg4 hbs (own_ge HOA.out))
      have HON := Lib.hid (show w10.ownsRow w2.heap.size 9 1 v4 (RX ++ [s']).length ((RX ++ [s']).map Value.string) by rw [List.length_append, List.map_append, ← HCC.out]; exact hown4)
      clear hown4 hB4 hg4 hat4 hxa HO HOA HXA hbs hbs9 hln HCC
      go_wp2_with fail
      go_roundg (V.length - (k + 1))
      case measure => have := Hg.out; omega
      case rel => exact ⟨k + 1, by omega, rfl, by go_num, HXN.out, by rw [HTM.out]; exact HON.out⟩
    · obtain rfl : k = V.length := by omega
      have HLL := Lib.hid (plainN_len V.length)
      obtain ⟨L, hL⟩ : ∃ l, plainN V.length = l := ⟨_, rfl⟩
      rw [hL] at HO HLL
      have HLE := Lib.hid hL
      clear hL Hg
      obtain ⟨la, lc, rfl⟩ := own_vw HO.out
      have HXW := Lib.hid (HX2.out.trans HXR.out)
      have HM0 := Lib.hid (HB0.out.ext HXR.out)
      have HM1 := Lib.hid (HB1.out.ext HXR.out)
      have HTN := Lib.hid (HTU.out L _ wr HXW.out (Sl.of_own HO.out) HLL.out)
      have HLO := Lib.hid (show w.heap.size ≤ y1 by have := HN.out; omega)
      clear HTU HO HXR HB0 HB1 HX2 hk HLL
      go_upto_region 7 with fail
      clear hlt
      apply wp_region_lit
      -- a load of a whole row: y0 block, HM0.out fact RowAt, api.Pattern the type's name
      refine plain_load rfl _ _ rfl y0 rfl _ _ (HM0.out) Tryz.underlying25 rfl (by kernel_rfl) ?_
      go_simp
      refine wpList_plain rfl fun K1 hK1 => ?_
      go_simp
      refine hK1 _ _ ?_
      clear hK1 K1
      -- a call in a plain region: refine HTN.out.mono ?_; rintro e wb ⟨ub, rfl, hpb, hxb⟩; obtain ⟨g1, g1', g2, g2', g3, g3', rfl⟩ := hpb.at_.shape the contract taken, and its results named
      refine wpList_plain rfl fun K1 hK1 => ?_
      go_simp
      refine HTN.out.mono ?_; rintro e wb ⟨ub, rfl, hpb, hxb⟩; obtain ⟨g1, g1', g2, g2', g3, g3', rfl⟩ := hpb.at_.shape
      go_simp
      refine hK1 _ _ ?_
      clear hK1 K1
      obtain ⟨Q, hQ⟩ : ∃ Q, renP P L = Q := ⟨_, rfl⟩
      rw [hQ] at hpb
      simp only [hQ]
      have HM2 := Lib.hid (HM1.out.ext hxb)
      have HPB := Lib.hid (patin_low hpb HXW.out.size)
      have HXB := Lib.hid (HXW.out.trans hxb)
      have HQE := Lib.hid hQ
      clear hQ hpb hxb HM1 HXW HTN HM0
      refine plain_store rfl _ _ _ rfl y1 [.slice g1 Q.atoms.length g1', .slice g2 Q.ret.length g2', .bool Q.count, .bool Q.distinct, .bool Q.limited, .int .i64 Q.limit, .int .i64 Q.offset, .slice g3 Q.hint.length g3'] rfl rfl HM2.out (by kernel_rfl) rfl (by simp [Value.oneCell']) ?_
      have HY := Lib.hid (HM2.out.setRow [.slice g1 Q.atoms.length g1', .slice g2 Q.ret.length g2', .bool Q.count, .bool Q.distinct, .bool Q.limited, .int .i64 Q.limit, .int .i64 Q.offset, .slice g3 Q.hint.length g3'])
      have HXY := Lib.hid (show Ext w (wb.setRow y1 ([.slice g1 Q.atoms.length g1', .slice g2 Q.ret.length g2', .bool Q.count, .bool Q.distinct, .bool Q.limited, .int .i64 Q.limit, .int .i64 Q.offset, .slice g3 Q.hint.length g3'] : List Value).toArray) from below_setRow HXB.out HLO.out _)
      have HPY := Lib.hid (patin_turn HPB.out HM2.out (setRow_grown wb y1 ([.slice g1 Q.atoms.length g1', .slice g2 Q.ret.length g2', .bool Q.count, .bool Q.distinct, .bool Q.limited, .int .i64 Q.limit, .int .i64 Q.offset, .slice g3 Q.hint.length g3'] : List Value).toArray))
      clear HM2 HPB HXB
      generalize wb.setRow y1 ([.slice g1 Q.atoms.length g1', .slice g2 Q.ret.length g2', .bool Q.count, .bool Q.distinct, .bool Q.limited, .int .i64 Q.limit, .int .i64 Q.offset, .slice g3 Q.hint.length g3'] : List Value).toArray = w8 at *
      go_simp
      apply wpList_nil
      go_wp2_with fail
      exact bodyPost_ret (results_row0 rfl rfl HY.out Tryz.underlying25 rfl (by kernel_rfl)) rfl ⟨_, rfl, by rw [HLE.out, HQE.out]; exact HPY.out, HXY.out⟩
end Go.Proofs.YthoneahamnmjlaaGreatDoor
