/- A pattern that can be gone through, in memory of its own (the law's own): the walk. -/
import Derived.Test.YthoneahamnmjlaaGreatDoorGp34
import Derived.Test.YthoneahamnmjlaaGreatDoorGp11
namespace Go.Proofs.YthoneahamnmjlaaGreatDoor
set_option maxRecDepth 100000
set_option maxHeartbeats 2000000
set_option linter.unusedSimpArgs false
open Go.RowKit Go.Shelf Go.Sort
attribute [local go_sem] Oper.semAt_some wide_fn wide_depth
set_option linter.unusedVariables false

theorem boxes3p (w : World) (x0 x1 x2 : List Value) (t0 t1 t2 : TypeId) {W : World} (hW : W = ((w.alloc (.cells x0.toArray t0)).alloc (.cells x1.toArray t1)).alloc (.cells x2.toArray t2)) :
    Ext w W ∧ RowAt W w.heap.size t0 x0 ∧ RowAt W (w.heap.size + 1) t1 x1 ∧ RowAt W (w.heap.size + 1 + 1) t2 x2 := by
  subst hW
  have n : ∀ (v : World) (x : List Value) (t : TypeId) (k : Nat), v.heap.size = k → RowAt (v.alloc (.cells x.toArray t)) k t x := fun v x t k h => h ▸ RowAt.new v t x
  exact ⟨((Ext.alloc _ _).trans (Ext.alloc _ _)).trans (Ext.alloc _ _), ((n _ _ _ _ rfl).ext (Ext.alloc _ _)).ext (Ext.alloc _ _), (n _ _ _ _ (by simp)).ext (Ext.alloc _ _), n _ _ _ _ (by simp)⟩
theorem take_min_more {α β : Type} (f : α → β) (l : List α) (m k : Nat) (hk : k < l.length) (hm : k < m) : (l.take (min (k + 1) m)).map f = (l.take (min k m)).map f ++ [f l[k]] := by
  rw [Nat.min_eq_left (by omega), Nat.min_eq_left (by omega), List.take_succ_eq_append_getElem hk, List.map_append]
  rfl
theorem grows_own {w w' : World} {v : Value} (hg : w.grownBy w' v.ownBlock) : Grows v.ownBlock.toList w w' := by
  cases hv : v.ownBlock with
  | none => rw [hv] at hg; exact Grows.ext ⟨hg.os, hg.tape, hg.output, hg.size, fun i hi => hg.block i hi (by simp)⟩
  | some g => rw [hv] at hg; exact Grows.one hg (by simp)
def prG10 : Nat → Gro
  | 2 => .read
  | 3 => .grow
  | 5 => .read
  | 6 => .grow
  | 8 => .read
  | 9 => .grow
  | 12 => .read
  | 13 => .grow
  | 16 => .write
  | 18 => .write
  | 20 => .write
  | 23 => .write
  | _ => .pure
def prG11 : Nat → Gro
  | 1 => .read
  | 3 => .grow
  | 4 => .grow
  | 5 => .grow
  | 7 => .write
  | _ => .pure
def prG12 : Nat → Gro
  | 1 => .read
  | 3 => .read
  | 5 => .read
  | 7 => .read
  | 9 => .read
  | 11 => .grow
  | 13 => .grow
  | 15 => .grow
  | 17 => .grow
  | 19 => .grow
  | _ => .pure
set_option maxRecDepth 100000 in
set_option maxHeartbeats 4000000 in
theorem own17_any (v : Value) (P : Pat) (w : World) (h : PatAt w v P) (hsz : ∀ a ∈ P.atoms, a.fn.size ≤ 9223372036854775807 ∧ a.name.size ≤ 9223372036854775807 ∧ a.value.size ≤ 9223372036854775807 ∧ a.tn.size ≤ 9223372036854775807) (hsr : ∀ s ∈ P.ret, s.size ≤ 9223372036854775807) (hsh : ∀ s ∈ P.hint, s.size ≤ 9223372036854775807) :
    Calls Tryz.prog 9 #[v] w fun e w' => ∃ u, e = .returned u ∧ PatIn w.heap.size w' u (ownB P) ∧ Ext w w' := by
  have hmo : Tryz.prog.follows .mixedOrders = true := by kernel_rfl
  obtain ⟨av, rv, hv, rfl, ha, hr, hh⟩ := h
  obtain ⟨ava, avc, rfl, hac, _⟩ := ha.shape
  obtain ⟨rva, rvc, rfl, hrc, _⟩ := Sl.shape hr
  obtain ⟨hva, hvc, rfl, hhc, _⟩ := Sl.shape hh
  obtain ⟨atoms, ret, cn, ds, lm, li, off, hint⟩ := P
  unfold patV patL ownB
  dsimp only at *
  have HA := Lib.hid ha
  have HR := Lib.hid hr
  have HH := Lib.hid hh
  have HSZ := Lib.hid hsz
  have HSR := Lib.hid hsr
  have HSH := Lib.hid hsh
  clear ha hr hh hsz hsr hsh
  have hbx := fun W hW => boxes3p w [.slice ava atoms.length avc, .slice rva ret.length rvc, .bool cn, .bool ds, .bool lm, .int .i64 li, .int .i64 off, .slice hva hint.length hvc] [.slice none 0 0, .slice none 0 0, .bool false, .bool false, .bool false, .int .i64 0, .int .i64 0, .slice none 0 0] [.slice none 0 0, .slice none 0 0, .bool false, .bool false, .bool false, .int .i64 0, .int .i64 0, .slice none 0 0] 25 25 25 (W := W) hW
  have HBX := Lib.hid hbx
  clear hbx
  go_enter Tryz.func9, Tryz.ntmps9
  go_upto_region 2 with fail
  generalize hw1 : ((w.alloc (.cells #[.slice ava atoms.length avc, .slice rva ret.length rvc, .bool cn, .bool ds, .bool lm, .int .i64 li, .int .i64 off, .slice hva hint.length hvc] 25)).alloc (.cells #[.slice none 0 0, .slice none 0 0, .bool false, .bool false, .bool false, .int .i64 0, .int .i64 0, .slice none 0 0] 25)).alloc (.cells #[.slice none 0 0, .slice none 0 0, .bool false, .bool false, .bool false, .int .i64 0, .int .i64 0, .slice none 0 0] 25) = w1
  have HB3 := Lib.hid (HBX.out w1 hw1.symm)
  clear hw1 HBX
  obtain ⟨y1, e1⟩ : ∃ y, w.heap.size = y := ⟨_, rfl⟩
  obtain ⟨y2, e2⟩ : ∃ y, y1 + 1 = y := ⟨_, rfl⟩
  obtain ⟨y3, e3⟩ : ∃ y, y2 + 1 = y := ⟨_, rfl⟩
  rw [e1, e2, e3] at HB3
  simp only [e1, e2, e3]
  have HN := Lib.hid (show w.heap.size ≤ y2 ∧ w.heap.size ≤ y3 by omega)
  have hlo : w.heap.size ≤ y3 ∧ y1 ≠ y3 ∧ y2 ≠ y3 := by omega
  have h13 : y1 ≠ y3 := hlo.2.1
  have HNE := Lib.hid (show y2 ≠ y3 by omega)
  have HO := Lib.hid (show OwS w y1 y2 y3 [.slice ava atoms.length avc, .slice rva ret.length rvc, .bool cn, .bool ds, .bool lm, .int .i64 li, .int .i64 off, .slice hva hint.length hvc] (.slice none 0 0) (.slice none 0 0) (.slice none 0 0) [] [] [] w1 from
    ⟨HB3.out.1, hlo, HB3.out.2.1, HB3.out.2.2.1, HB3.out.2.2.2, World.ownsRow_nil _ _ _ _, World.ownsRow_nil _ _ _ _, World.ownsRow_nil _ _ _ _, fun g hg => by cases hg⟩)
  clear HB3 e1 e2 e3 hlo
  have HPX : Hid (∀ W, OwS w y1 y2 y3 [.slice ava atoms.length avc, .slice rva ret.length rvc, .bool cn, .bool ds, .bool lm, .int .i64 li, .int .i64 off, .slice hva hint.length hvc] (.slice none 0 0) (.slice none 0 0) (.slice none 0 0) [] [] [] W → True) := Lib.hid (fun _ _ => trivial)
  clear HPX
  have k0 := HO.out.row.cell (i := 0) rfl
  go_wp2_with fail
  clear k0
  go_loopg [13] atoms.length (fun g i wr => ∃ k : Nat, k ≤ atoms.length ∧ g = atoms.length - k ∧ i = .int .i64 k ∧ ∃ va, OwS w y1 y2 y3 [.slice ava atoms.length avc, .slice rva ret.length rvc, .bool cn, .bool ds, .bool lm, .int .i64 li, .int .i64 off, .slice hva hint.length hvc] va (.slice none 0 0) (.slice none 0 0) ((atoms.take (min k 42)).map cutA) [] [] wr)
  case atStart => exact ⟨0, Nat.zero_le _, rfl, rfl, _, HO.out⟩
  case round =>
    obtain ⟨k, hk, hg, rfl, va, ho⟩ := hrel
    have Hg := Lib.hid hg
    have HS := Lib.hid ho
    clear hg ho HO
    obtain ⟨va, vac, rfl⟩ := own_vw HS.out.oa
    by_cases hlt : k < atoms.length
    · obtain ⟨b, o, rfl, c0, c1, c2, c3, c4, c5, c6⟩ := (HA.out.ext HS.out.ext).at_ hlt
      have hz := HSZ.out _ (List.getElem_mem hlt)
      by_cases hlt2 : k < 42
      · have HTM := Lib.hid (take_min_more cutA atoms 42 k hlt hlt2)
        have HLN : Hid (((atoms.take (min k 42)).map cutA).length ≤ 42) := Lib.hid (by rw [List.length_map, List.length_take]; omega)
        obtain ⟨AX, hAX⟩ : ∃ l, (atoms.take (min k 42)).map cutA = l := ⟨_, rfl⟩
        rw [hAX] at HTM HS HLN
        clear hAX
        generalize atoms[k] = x at *
        obtain ⟨kd, fk, fn, nm, vl, tk, tn⟩ := x
        rw [show cutA ⟨kd, fk, fn, nm, vl, tk, tn⟩ = ⟨kd, fk, cut60 fn, cut60 nm, cut60 vl, tk, cut60 tn⟩ from rfl] at HTM
        dsimp only at c0 c1 c2 c3 c4 c5 c6 hz
        have HT1 := Lib.hid (fun w' => textT_any fn w' hz.1)
        have HT2 := Lib.hid (fun w' => textT_any nm w' hz.2.1)
        have HT3 := Lib.hid (fun w' => textT_any vl w' hz.2.2.1)
        have HT4 := Lib.hid (fun w' => textT_any tn w' hz.2.2.2)
        generalize cut60 fn = fn' at *
        generalize cut60 nm = nm' at *
        generalize cut60 vl = vl' at *
        generalize cut60 tn = tn' at *
        have HB5 := Lib.hid (RowAt.new wr 40 [.int .i64 kd, .bool fk, .string fn, .string nm, .string vl, .bool tk, .string tn])
        have HX5 := Lib.hid (Ext.alloc wr (.cells #[.int .i64 kd, .bool fk, .string fn, .string nm, .string vl, .bool tk, .string tn] 40))
        clear hz
        go_upto_region 6 with fail
        clear c0 c1 c2 c3 c4 c5 c6
        generalize wr.alloc (.cells #[.int .i64 kd, .bool fk, .string fn, .string nm, .string vl, .bool tk, .string tn] 40) = w5 at *
        obtain ⟨y5, hy5⟩ : ∃ y, wr.heap.size = y := ⟨_, rfl⟩
        rw [hy5] at HB5
        try simp only [hy5]
        have HY5 := Lib.hid (Nat.le_of_eq hy5)
        clear hy5
        refine wp_region_gro prG10 [0, 1, 2, 4, 5, 7, 8, 10, 11, 12, 3, 14, 15, 6, 9, 13, 16, 17, 18, 19, 20, 21, 22, 23] hmo (by kernel_rfl) rfl (by kernel_rfl) (fun _ _ _ _ _ h => h) ?_
        have hxd : Ext w5 w5.drew := Ext.drewN w5 1
        replace HX5 := Lib.hid (HX5.out.trans hxd)
        replace HB5 := Lib.hid (HB5.out.ext hxd)
        clear hxd
        generalize w5.drew = w6 at *
        have d2 := HB5.out.cell (i := 2) rfl
        have d3 := HB5.out.cell (i := 3) rfl
        have d4 := HB5.out.cell (i := 4) rfl
        have d6 := HB5.out.cell (i := 6) rfl
        repeat (first
          | (refine groL_pure rfl rfl ?_; intro K hK; go_simp; refine hK _ ?_; clear hK K)
          | (refine groL_read rfl rfl ?_; intro K S hS hK; go_simp; refine hK _ ?_; clear hK K hS S)
          | (refine groL_read rfl rfl ?_; intro K S hS hK; go_simp; refine ⟨hS _ ?_, hK _ ?_⟩; (clear hK K hS S; intro w' hx'; have hce := ext_some hx'; go_simp); clear hK K hS S)
          | (refine groL_write rfl rfl ?_; intro K hK; go_simp; refine hK _ _ ?_; clear hK K))
        refine groL_grow rfl rfl ?_
        intro K hK
        go_simp
        (refine (HT1.out _).mono ?_; rintro e w7 ⟨rfl, hw7⟩; rw [hw7]; clear hw7)
        go_simp
        refine hK _ _ ⟨(Ext.refl _), ?_⟩
        clear hK K
        repeat (first
          | (refine groL_pure rfl rfl ?_; intro K hK; go_simp; refine hK _ ?_; clear hK K)
          | (refine groL_read rfl rfl ?_; intro K S hS hK; go_simp; refine hK _ ?_; clear hK K hS S)
          | (refine groL_read rfl rfl ?_; intro K S hS hK; go_simp; refine ⟨hS _ ?_, hK _ ?_⟩; (clear hK K hS S; intro w' hx'; have hce := ext_some hx'; go_simp); clear hK K hS S)
          | (refine groL_write rfl rfl ?_; intro K hK; go_simp; refine hK _ _ ?_; clear hK K))
        refine groL_grow rfl rfl ?_
        intro K hK
        go_simp
        (refine (HT2.out _).mono ?_; rintro e w7 ⟨rfl, hw7⟩; rw [hw7]; clear hw7)
        go_simp
        refine hK _ _ ⟨(Ext.refl _), ?_⟩
        clear hK K
        refine groL_grow rfl rfl ?_
        intro K hK
        go_simp
        (refine (HT3.out _).mono ?_; rintro e w7 ⟨rfl, hw7⟩; rw [hw7]; clear hw7)
        go_simp
        refine hK _ _ ⟨(Ext.refl _), ?_⟩
        clear hK K
        refine groL_grow rfl rfl ?_
        intro K hK
        go_simp
        (refine (HT4.out _).mono ?_; rintro e w7 ⟨rfl, hw7⟩; rw [hw7]; clear hw7)
        go_simp
        refine hK _ _ ⟨(Ext.refl _), ?_⟩
        clear hK K
        have f2 := HB5.out.frozen 2
        have f3 := HB5.out.frozen 3
        have f4 := HB5.out.frozen 4
        have f6 := HB5.out.frozen 6
        repeat (first
          | (refine groL_pure rfl rfl ?_; intro K hK; go_simp; refine hK _ ?_; clear hK K)
          | (refine groL_read rfl rfl ?_; intro K S hS hK; go_simp; refine hK _ ?_; clear hK K hS S)
          | (refine groL_read rfl rfl ?_; intro K S hS hK; go_simp; refine ⟨hS _ ?_, hK _ ?_⟩; (clear hK K hS S; intro w' hx'; have hce := ext_some hx'; go_simp); clear hK K hS S)
          | (refine groL_write rfl rfl ?_; intro K hK; go_simp; refine hK _ _ ?_; clear hK K))
        refine groL_nil ?_
        have HB7 := Lib.hid (show RowAt ((((w6.setCell ⟨y5, 2, none⟩ (.string fn')).setCell ⟨y5, 3, none⟩ (.string nm')).setCell ⟨y5, 4, none⟩ (.string vl')).setCell ⟨y5, 6, none⟩ (.string tn')) y5 40 [.int .i64 kd, .bool fk, .string fn', .string nm', .string vl', .bool tk, .string tn'] from (((HB5.out.set 2 (.string fn')).set 3 (.string nm')).set 4 (.string vl')).set 6 (.string tn'))
        have HX7 := Lib.hid (show Ext wr ((((w6.setCell ⟨y5, 2, none⟩ (.string fn')).setCell ⟨y5, 3, none⟩ (.string nm')).setCell ⟨y5, 4, none⟩ (.string vl')).setCell ⟨y5, 6, none⟩ (.string tn')) from Ext.set_of (Ext.set_of (Ext.set_of (Ext.set_of HX5.out HY5.out _) HY5.out _) HY5.out _) HY5.out _)
        clear d2 d3 d4 d6 f2 f3 f4 f6 HB5 HX5 HT1 HT2 HT3 HT4
        generalize (((w6.setCell ⟨y5, 2, none⟩ (.string fn')).setCell ⟨y5, 3, none⟩ (.string nm')).setCell ⟨y5, 4, none⟩ (.string vl')).setCell ⟨y5, 6, none⟩ (.string tn') = w7 at *
        have HS7 := Lib.hid (HS.out.more HX7.out)
        clear HS HX7
        have k0 := HS7.out.out.cell (i := 0) rfl
        have d0 := HB7.out.cell (i := 0) rfl
        have d1 := HB7.out.cell (i := 1) rfl
        have d2 := HB7.out.cell (i := 2) rfl
        have d3 := HB7.out.cell (i := 3) rfl
        have d4 := HB7.out.cell (i := 4) rfl
        have d5 := HB7.out.cell (i := 5) rfl
        have d6 := HB7.out.cell (i := 6) rfl
        have hxa := Ext.alloc w7 (.cells #[.int .i64 kd, .bool fk, .string fn', .string nm', .string vl', .bool tk, .string tn'] 40)
        have HS8 := Lib.hid (HS7.out.more hxa)
        have hbs := HS7.out.ext.size
        have hln := HLN.out
        have hy3 := HS7.out.out.lt
        go_wp2_with (at_builtin; refine wpList_append_sl _ rfl _ _ 22 rfl elAt rfl HS8.out.oa rfl (Sl.new _ _ _ 1 1 (Nat.le_refl _) ?_) rfl ?_ ?_ ?_ ?_ ?_)
        · unfold maxLen; omega
        · first | rfl | exact ⟨rfl, rfl, rfl, rfl, rfl, rfl, rfl⟩
        · omega
        · unfold maxLen; omega
        · simp; omega
        intro v4 w9 hown4 hB4 hg4 hat4
        have hn3 : (Value.slice va AX.length vac).ownBlock ≠ some y3 := fun e => own_ne_row HS8.out.oa HS8.out.out (by decide) _ e rfl
        obtain ⟨q0, q1⟩ : w9.cell? ⟨y3, 0, none⟩ = some (.slice va AX.length vac) ∧ w9.frozen? ⟨y3, 0, none⟩ = false := ⟨(HS8.out.out.kept hg4 hn3).cell (i := 0) rfl, (HS8.out.out.kept hg4 hn3).frozen 0⟩
        have HNX := Lib.hid (HS8.out.atom (a := ⟨kd, fk, fn', nm', vl', tk, tn'⟩) hg4 hown4)
        obtain ⟨xa, xc, rfl⟩ := own_vw hown4
        clear hown4 hB4 hg4 hat4 hn3 hxa k0 d0 d1 d2 d3 d4 d5 d6 HS7 HS8 HB7
        go_wp2_with fail
        go_roundg (atoms.length - (k + 1))
        case measure => have := Hg.out; omega
        case rel => exact ⟨k + 1, by omega, rfl, by go_num, _, by rw [HTM.out]; exact HNX.out⟩
      · have HTM : Hid ((atoms.take (min (k + 1) 42)).map cutA = (atoms.take (min k 42)).map cutA) := Lib.hid (by rw [show min (k + 1) 42 = min k 42 by omega])
        obtain ⟨AX, hAX⟩ : ∃ l, (atoms.take (min k 42)).map cutA = l := ⟨_, rfl⟩
        rw [hAX] at HTM HS
        clear hAX
        generalize atoms[k] = x at *
        obtain ⟨kd, fk, fn, nm, vl, tk, tn⟩ := x
        dsimp only at c0 c1 c2 c3 c4 c5 c6
        have HX5 := Lib.hid (Ext.alloc wr (.cells #[.int .i64 kd, .bool fk, .string fn, .string nm, .string vl, .bool tk, .string tn] 40))
        go_upto_region 5 with fail
        clear c0 c1 c2 c3 c4 c5 c6
        generalize wr.alloc (.cells #[.int .i64 kd, .bool fk, .string fn, .string nm, .string vl, .bool tk, .string tn] 40) = w5 at *
        have HS5 := Lib.hid (HS.out.more HX5.out)
        clear HS HX5
        go_wp2_with fail
        go_roundg (atoms.length - (k + 1))
        case measure => have := Hg.out; omega
        case rel => exact ⟨k + 1, by omega, rfl, by go_num, _, by rw [HTM.out]; exact HS5.out⟩
    · have he : k = atoms.length := by omega
      have hfin : (atoms.take (min k 42)).map cutA = (atoms.take 42).map cutA := by rw [he, Nat.min_comm, ← List.take_eq_take_min]
      rw [hfin] at HS
      clear hfin
      obtain ⟨A, hE⟩ : ∃ l, (atoms.take 42).map cutA = l := ⟨_, rfl⟩
      rw [hE] at HS
      have HAE := Lib.hid hE
      clear hE
      clear he
      have k1 := HS.out.row.cell (i := 1) rfl
      go_wp2_with fail
      clear k1
      go_loopg [50] ret.length (fun g i wr => ∃ k : Nat, k ≤ ret.length ∧ g = ret.length - k ∧ i = .int .i64 k ∧ ∃ vr, OwS w y1 y2 y3 [.slice ava atoms.length avc, .slice rva ret.length rvc, .bool cn, .bool ds, .bool lm, .int .i64 li, .int .i64 off, .slice hva hint.length hvc] (.slice va A.length vac) vr (.slice none 0 0) A ((ret.take (min k 34)).map cut60) [] wr)
      case atStart => exact ⟨0, Nat.zero_le _, rfl, rfl, _, HS.out⟩
      case round =>
        obtain ⟨k, hk, hg, rfl, vr, ho⟩ := hrel
        have Hg := Lib.hid hg
        clear HS
        have HS := Lib.hid ho
        clear hg ho
        obtain ⟨vr, vrc, rfl⟩ := own_vw HS.out.ot
        by_cases hlt : k < ret.length
        · obtain ⟨b, o, rfl, c0⟩ := Strs.at_ (Strs.ext HR.out HS.out.ext) hlt
          have hz := HSR.out _ (List.getElem_mem hlt)
          by_cases hlt2 : k < 34
          · have HTM := Lib.hid (take_min_more cut60 ret 34 k hlt hlt2)
            have HLN : Hid (((ret.take (min k 34)).map cut60).length ≤ 34) := Lib.hid (by rw [List.length_map, List.length_take]; omega)
            obtain ⟨RX, hRX⟩ : ∃ l, (ret.take (min k 34)).map cut60 = l := ⟨_, rfl⟩
            rw [hRX] at HTM HS HLN
            clear hRX
            generalize ret[k] = s at *
            have HT1 := Lib.hid (fun w' => textT_any s w' hz)
            generalize cut60 s = s' at *
            clear hz
            go_upto_region 13 with fail
            clear c0
            obtain ⟨X, hX⟩ : ∃ X, (Value.slice vr RX.length vrc).ownBlock.toList = X := ⟨_, rfl⟩
            have hnx : y3 ∉ X := by
              rw [← hX]
              intro hm
              exact own_ne_row HS.out.ot HS.out.out (by decide) y3 (Option.mem_toList.1 hm) rfl
            have HXE := Lib.hid hX
            clear hX
            refine wp_region_grox X prG11 [0, 1, 2, 3, 4, 5, 6, 7] hmo (by kernel_rfl) rfl (by kernel_rfl) (fun _ _ _ _ _ h => h) ?_
            have hxd : Ext wr wr.drew := Ext.drewN wr 1
            replace HS := Lib.hid (HS.out.more hxd)
            clear hxd
            generalize wr.drew = w6 at *
            have k1 := HS.out.out.cell (i := 1) rfl
            repeat (first
              | (refine groX_pure rfl rfl ?_; intro K hK; go_simp; refine hK _ ?_; clear hK K)
              | (refine groX_read rfl rfl ?_; intro K S hS hK; go_simp; refine hK _ ?_; clear hK K hS S)
              | (refine groX_read rfl rfl ?_; intro K S hS hK; go_simp; refine ⟨hS _ ?_, hK _ ?_⟩; (clear hK K hS S; intro w' hx'; have hce := grows_some hx'; go_simp); clear hK K hS S))
            -- in a drawn region (GroX): a call: (refine (HT1.out _).mono ?_; rintro e w7 ⟨rfl, hw7⟩; rw [hw7]; clear hw7) the contract taken and its results named, (Ext.refl _) Ext over it
            refine groX_grow rfl rfl ?_
            intro K hK
            go_simp
            (refine (HT1.out _).mono ?_; rintro e w7 ⟨rfl, hw7⟩; rw [hw7]; clear hw7)
            go_simp
            refine hK _ _ ⟨Grows.ext (Ext.refl _), ?_⟩
            clear hK K
            have hxa := Ext.alloc w6 (.cells #[.string s'] 9)
            have HS8 := Lib.hid (HS.out.more hxa)
            have hsl := Sl.new w6 #[.string s'] 9 1 1 (Nat.le_refl _) (by unfold maxLen; omega)
            refine groX_grow rfl rfl ?_
            intro K hK
            go_simp
            refine hK _ _ ⟨Grows.ext hxa, ?_⟩
            clear hK K
            have hbs := HS8.out.ext.size
            have hln := HLN.out
            generalize w6.alloc (.cells #[.string s'] 9) = w8 at *
            refine groX_grow rfl rfl ?_
            intro K hK
            refine step_app (by rfl) _ _ 23 (by rfl) elStr (by rfl) HS8.out.ot (by rfl) hsl (by rfl) (by simp [Value.oneCell']) (by omega) (by unfold maxLen; omega) hbs ?_
            intro v4 w9 hown4 hB4 hg4 hat4
            refine hK _ _ ⟨HXE.out ▸ grows_own hg4, ?_⟩
            clear hK K
            have hn3 : (Value.slice vr RX.length vrc).ownBlock ≠ some y3 := fun e => own_ne_row HS8.out.ot HS8.out.out (by decide) _ e rfl
            obtain ⟨q0, q1⟩ : w9.cell? ⟨y3, 1, none⟩ = some (.slice vr RX.length vrc) ∧ w9.frozen? ⟨y3, 1, none⟩ = false := ⟨(HS8.out.out.kept hg4 hn3).cell (i := 1) rfl, (HS8.out.out.kept hg4 hn3).frozen 1⟩
            have HNX := Lib.hid (HS8.out.ret rfl (s := s') hg4 hown4)
            obtain ⟨xa, xc, rfl⟩ := own_vw hown4
            clear hown4 hB4 hg4 hat4 hn3 hxa hsl k1 HS8 HS HXE
            repeat (first
              | (refine groX_pure rfl rfl ?_; intro K hK; go_simp; refine hK _ ?_; clear hK K)
              | (refine groX_read rfl rfl ?_; intro K S hS hK; go_simp; refine hK _ ?_; clear hK K hS S)
              | (refine groX_read rfl rfl ?_; intro K S hS hK; go_simp; refine ⟨hS _ ?_, hK _ ?_⟩; (clear hK K hS S; intro w' hx'; have hce := grows_some hx'; go_simp); clear hK K hS S))
            refine groX_write rfl rfl ?_
            intro K hK
            go_simp
            refine hK _ _ ?_
            clear hK K
            refine groX_nil ?_
            go_wp2_with fail
            go_roundg (ret.length - (k + 1))
            case measure => have := Hg.out; omega
            case rel => exact ⟨k + 1, by omega, rfl, by go_num, _, by rw [HTM.out]; exact HNX.out⟩
          · have HTM : Hid ((ret.take (min (k + 1) 34)).map cut60 = (ret.take (min k 34)).map cut60) := Lib.hid (by rw [show min (k + 1) 34 = min k 34 by omega])
            obtain ⟨RX, hRX⟩ : ∃ l, (ret.take (min k 34)).map cut60 = l := ⟨_, rfl⟩
            rw [hRX] at HTM HS
            clear hRX
            go_wp2_with fail
            go_roundg (ret.length - (k + 1))
            case measure => have := Hg.out; omega
            case rel => exact ⟨k + 1, by omega, rfl, by go_num, _, by rw [HTM.out]; exact HS.out⟩
        · have he : k = ret.length := by omega
          have hfin : (ret.take (min k 34)).map cut60 = (ret.take 34).map cut60 := by rw [he, Nat.min_comm, ← List.take_eq_take_min]
          rw [hfin] at HS
          clear hfin he
          obtain ⟨R, hE⟩ : ∃ l, (ret.take 34).map cut60 = l := ⟨_, rfl⟩
          rw [hE] at HS
          have HRE := Lib.hid hE
          clear hE
          have k7 := HS.out.row.cell (i := 7) rfl
          go_wp2_with fail
          clear k7
          go_loopg [68] hint.length (fun g i wr => ∃ k : Nat, k ≤ hint.length ∧ g = hint.length - k ∧ i = .int .i64 k ∧ ∃ vh, OwS w y1 y2 y3 [.slice ava atoms.length avc, .slice rva ret.length rvc, .bool cn, .bool ds, .bool lm, .int .i64 li, .int .i64 off, .slice hva hint.length hvc] (.slice va A.length vac) (.slice vr R.length vrc) vh A R ((hint.take (min k 34)).map cut60) wr)
          case atStart => exact ⟨0, Nat.zero_le _, rfl, rfl, _, HS.out⟩
          case round =>
            clear hk hlt
            obtain ⟨k, hk, hg, rfl, vh, ho⟩ := hrel
            clear Hg
            have Hg := Lib.hid hg
            clear HS
            have HS := Lib.hid ho
            clear hg ho
            obtain ⟨vh, vhc, rfl⟩ := own_vw HS.out.oh
            by_cases hlt : k < hint.length
            · obtain ⟨b, o, rfl, c0⟩ := Strs.at_ (Strs.ext HH.out HS.out.ext) hlt
              have hz := HSH.out _ (List.getElem_mem hlt)
              by_cases hlt2 : k < 34
              · have HTM := Lib.hid (take_min_more cut60 hint 34 k hlt hlt2)
                have HLN : Hid (((hint.take (min k 34)).map cut60).length ≤ 34) := Lib.hid (by rw [List.length_map, List.length_take]; omega)
                obtain ⟨RX, hRX⟩ : ∃ l, (hint.take (min k 34)).map cut60 = l := ⟨_, rfl⟩
                rw [hRX] at HTM HS HLN
                clear hRX
                generalize hint[k] = s at *
                have HT1 := Lib.hid (fun w' => textT_any s w' hz)
                generalize cut60 s = s' at *
                clear hz
                go_upto_region 19 with fail
                clear c0
                obtain ⟨X, hX⟩ : ∃ X, (Value.slice vh RX.length vhc).ownBlock.toList = X := ⟨_, rfl⟩
                have hnx : y3 ∉ X := by
                  rw [← hX]
                  intro hm
                  exact own_ne_row HS.out.oh HS.out.out (by decide) y3 (Option.mem_toList.1 hm) rfl
                have HXE := Lib.hid hX
                clear hX
                refine wp_region_grox X prG11 [0, 1, 2, 3, 4, 5, 6, 7] hmo (by kernel_rfl) rfl (by kernel_rfl) (fun _ _ _ _ _ h => h) ?_
                have hxd : Ext wr wr.drew := Ext.drewN wr 1
                replace HS := Lib.hid (HS.out.more hxd)
                clear hxd
                generalize wr.drew = w6 at *
                have k1 := HS.out.out.cell (i := 7) rfl
                repeat (first
                  | (refine groX_pure rfl rfl ?_; intro K hK; go_simp; refine hK _ ?_; clear hK K)
                  | (refine groX_read rfl rfl ?_; intro K S hS hK; go_simp; refine hK _ ?_; clear hK K hS S)
                  | (refine groX_read rfl rfl ?_; intro K S hS hK; go_simp; refine ⟨hS _ ?_, hK _ ?_⟩; (clear hK K hS S; intro w' hx'; have hce := grows_some hx'; go_simp); clear hK K hS S))
                -- in a drawn region (GroX): a call: (refine (HT1.out _).mono ?_; rintro e w7 ⟨rfl, hw7⟩; rw [hw7]; clear hw7) the contract taken and its results named, (Ext.refl _) Ext over it
                refine groX_grow rfl rfl ?_
                intro K hK
                go_simp
                (refine (HT1.out _).mono ?_; rintro e w7 ⟨rfl, hw7⟩; rw [hw7]; clear hw7)
                go_simp
                refine hK _ _ ⟨Grows.ext (Ext.refl _), ?_⟩
                clear hK K
                have hxa := Ext.alloc w6 (.cells #[.string s'] 9)
                have HS8 := Lib.hid (HS.out.more hxa)
                have hsl := Sl.new w6 #[.string s'] 9 1 1 (Nat.le_refl _) (by unfold maxLen; omega)
                refine groX_grow rfl rfl ?_
                intro K hK
                go_simp
                refine hK _ _ ⟨Grows.ext hxa, ?_⟩
                clear hK K
                have hbs := HS8.out.ext.size
                have hln := HLN.out
                generalize w6.alloc (.cells #[.string s'] 9) = w8 at *
                refine groX_grow rfl rfl ?_
                intro K hK
                refine step_app (by rfl) _ _ 23 (by rfl) elStr (by rfl) HS8.out.oh (by rfl) hsl (by rfl) (by simp [Value.oneCell']) (by omega) (by unfold maxLen; omega) hbs ?_
                intro v4 w9 hown4 hB4 hg4 hat4
                refine hK _ _ ⟨HXE.out ▸ grows_own hg4, ?_⟩
                clear hK K
                have hn3 : (Value.slice vh RX.length vhc).ownBlock ≠ some y3 := fun e => own_ne_row HS8.out.oh HS8.out.out (by decide) _ e rfl
                obtain ⟨q0, q1⟩ : w9.cell? ⟨y3, 7, none⟩ = some (.slice vh RX.length vhc) ∧ w9.frozen? ⟨y3, 7, none⟩ = false := ⟨(HS8.out.out.kept hg4 hn3).cell (i := 7) rfl, (HS8.out.out.kept hg4 hn3).frozen 7⟩
                have HNX := Lib.hid (HS8.out.hint (s := s') hg4 hat4 hown4)
                obtain ⟨xa, xc, rfl⟩ := own_vw hown4
                clear hown4 hB4 hg4 hat4 hn3 hxa hsl k1 HS8 HS HXE
                repeat (first
                  | (refine groX_pure rfl rfl ?_; intro K hK; go_simp; refine hK _ ?_; clear hK K)
                  | (refine groX_read rfl rfl ?_; intro K S hS hK; go_simp; refine hK _ ?_; clear hK K hS S)
                  | (refine groX_read rfl rfl ?_; intro K S hS hK; go_simp; refine ⟨hS _ ?_, hK _ ?_⟩; (clear hK K hS S; intro w' hx'; have hce := grows_some hx'; go_simp); clear hK K hS S))
                refine groX_write rfl rfl ?_
                intro K hK
                go_simp
                refine hK _ _ ?_
                clear hK K
                refine groX_nil ?_
                go_wp2_with fail
                go_roundg (hint.length - (k + 1))
                case measure => have := Hg.out; omega
                case rel => exact ⟨k + 1, by omega, rfl, by go_num, _, by rw [HTM.out]; exact HNX.out⟩
              · have HTM : Hid ((hint.take (min (k + 1) 34)).map cut60 = (hint.take (min k 34)).map cut60) := Lib.hid (by rw [show min (k + 1) 34 = min k 34 by omega])
                obtain ⟨RX, hRX⟩ : ∃ l, (hint.take (min k 34)).map cut60 = l := ⟨_, rfl⟩
                rw [hRX] at HTM HS
                clear hRX
                go_wp2_with fail
                go_roundg (hint.length - (k + 1))
                case measure => have := Hg.out; omega
                case rel => exact ⟨k + 1, by omega, rfl, by go_num, _, by rw [HTM.out]; exact HS.out⟩
            · have he : k = hint.length := by omega
              have hfin : (hint.take (min k 34)).map cut60 = (hint.take 34).map cut60 := by rw [he, Nat.min_comm, ← List.take_eq_take_min]
              rw [hfin] at HS
              clear hfin he
              obtain ⟨H, hE⟩ : ∃ l, (hint.take 34).map cut60 = l := ⟨_, rfl⟩
              rw [hE] at HS
              have HHE := Lib.hid hE
              clear hE
              go_upto_region 21 with fail
              refine wp_region_grox [y3] prG12 [0, 1, 2, 3, 4, 5, 6, 7, 8, 9, 10, 11, 12, 13, 14, 15, 16, 17, 18, 19] hmo (by kernel_rfl) rfl (by kernel_rfl) (fun _ _ _ _ _ h => h) ?_
              have hxd : Ext wr wr.drew := Ext.drewN wr 1
              replace HS := Lib.hid (HS.out.more hxd)
              clear hxd
              generalize wr.drew = w6 at *
              have k2 := HS.out.row.cell (i := 2) rfl
              have k3 := HS.out.row.cell (i := 3) rfl
              have k4 := HS.out.row.cell (i := 4) rfl
              have k5 := HS.out.row.cell (i := 5) rfl
              have k6 := HS.out.row.cell (i := 6) rfl
              repeat (first
                | (refine groX_pure rfl rfl ?_; intro K hK; go_simp; refine hK _ ?_; clear hK K)
                | (refine groX_read rfl rfl ?_; intro K S hS hK; go_simp; refine hK _ ?_; clear hK K hS S)
                | (refine groX_read rfl rfl ?_; intro K S hS hK; go_simp; refine ⟨hS _ ?_, hK _ ?_⟩; (clear hK K hS S; intro w' hx'; have hce := grows_some hx'; go_simp); clear hK K hS S))
              have q2 := HS.out.out.cell (i := 2) rfl
              have q3 := HS.out.out.cell (i := 3) rfl
              have q4 := HS.out.out.cell (i := 4) rfl
              have q5 := HS.out.out.cell (i := 5) rfl
              have q6 := HS.out.out.cell (i := 6) rfl
              have f2 := HS.out.out.frozen 2
              have f3 := HS.out.out.frozen 3
              have f4 := HS.out.out.frozen 4
              have f5 := HS.out.out.frozen 5
              have f6 := HS.out.out.frozen 6
              refine groX_grow rfl rfl ?_
              intro K hK
              go_simp
              refine hK _ _ ⟨Grows.set (by simp) _ _, ?_⟩
              clear hK K
              repeat (first
                | (refine groX_pure rfl rfl ?_; intro K hK; go_simp; refine hK _ ?_; clear hK K)
                | (refine groX_read rfl rfl ?_; intro K S hS hK; go_simp; refine hK _ ?_; clear hK K hS S)
                | (refine groX_read rfl rfl ?_; intro K S hS hK; go_simp; refine ⟨hS _ ?_, hK _ ?_⟩; (clear hK K hS S; intro w' hx'; have hce := grows_some hx'; go_simp); clear hK K hS S))
              refine groX_grow rfl rfl ?_
              intro K hK
              go_simp
              refine hK _ _ ⟨Grows.set (by simp) _ _, ?_⟩
              clear hK K
              repeat (first
                | (refine groX_pure rfl rfl ?_; intro K hK; go_simp; refine hK _ ?_; clear hK K)
                | (refine groX_read rfl rfl ?_; intro K S hS hK; go_simp; refine hK _ ?_; clear hK K hS S)
                | (refine groX_read rfl rfl ?_; intro K S hS hK; go_simp; refine ⟨hS _ ?_, hK _ ?_⟩; (clear hK K hS S; intro w' hx'; have hce := grows_some hx'; go_simp); clear hK K hS S))
              refine groX_grow rfl rfl ?_
              intro K hK
              go_simp
              refine hK _ _ ⟨Grows.set (by simp) _ _, ?_⟩
              clear hK K
              repeat (first
                | (refine groX_pure rfl rfl ?_; intro K hK; go_simp; refine hK _ ?_; clear hK K)
                | (refine groX_read rfl rfl ?_; intro K S hS hK; go_simp; refine hK _ ?_; clear hK K hS S)
                | (refine groX_read rfl rfl ?_; intro K S hS hK; go_simp; refine ⟨hS _ ?_, hK _ ?_⟩; (clear hK K hS S; intro w' hx'; have hce := grows_some hx'; go_simp); clear hK K hS S))
              refine groX_grow rfl rfl ?_
              intro K hK
              go_simp
              refine hK _ _ ⟨Grows.set (by simp) _ _, ?_⟩
              clear hK K
              repeat (first
                | (refine groX_pure rfl rfl ?_; intro K hK; go_simp; refine hK _ ?_; clear hK K)
                | (refine groX_read rfl rfl ?_; intro K S hS hK; go_simp; refine hK _ ?_; clear hK K hS S)
                | (refine groX_read rfl rfl ?_; intro K S hS hK; go_simp; refine ⟨hS _ ?_, hK _ ?_⟩; (clear hK K hS S; intro w' hx'; have hce := grows_some hx'; go_simp); clear hK K hS S))
              refine groX_grow rfl rfl ?_
              intro K hK
              go_simp
              refine hK _ _ ⟨Grows.set (by simp) _ _, ?_⟩
              clear hK K
              refine groX_nil ?_
              obtain ⟨wz, hwz⟩ : ∃ W, ((((w6.setCell ⟨y3, 2, none⟩ (.bool cn)).setCell ⟨y3, 3, none⟩ (.bool ds)).setCell ⟨y3, 4, none⟩ (.bool lm)).setCell ⟨y3, 5, none⟩ (.int .i64 li)).setCell ⟨y3, 6, none⟩ (.int .i64 off) = W := ⟨_, rfl⟩
              have HZ := Lib.hid (show Ext w wz ∧ RowAt wz y3 25 [.slice va A.length vac, .slice vr R.length vrc, .bool cn, .bool ds, .bool lm, .int .i64 li, .int .i64 off, .slice vh H.length vhc] ∧ RowAt wz y2 25 zRow ∧ wz.ownsRow w.heap.size 40 7 (.slice va A.length vac) A.length (A.flatMap atCells) ∧ wz.ownsRow w.heap.size 9 1 (.slice vr R.length vrc) R.length (R.map Value.string) ∧ wz.ownsRow w.heap.size 9 1 (.slice vh H.length vhc) H.length (H.map Value.string) from by
                subst hwz
                have st : ∀ (W : World) (i : Nat) (u : Value) (xs : List Value), Ext w W ∧ RowAt W y3 25 xs ∧ RowAt W y2 25 zRow ∧ W.ownsRow w.heap.size 40 7 (.slice va A.length vac) A.length (A.flatMap atCells) ∧ W.ownsRow w.heap.size 9 1 (.slice vr R.length vrc) R.length (R.map Value.string) ∧ W.ownsRow w.heap.size 9 1 (.slice vh H.length vhc) H.length (H.map Value.string) →
                    Ext w (W.setCell ⟨y3, i, none⟩ u) ∧ RowAt (W.setCell ⟨y3, i, none⟩ u) y3 25 (xs.set i u) ∧ RowAt (W.setCell ⟨y3, i, none⟩ u) y2 25 zRow ∧ (W.setCell ⟨y3, i, none⟩ u).ownsRow w.heap.size 40 7 (.slice va A.length vac) A.length (A.flatMap atCells) ∧ (W.setCell ⟨y3, i, none⟩ u).ownsRow w.heap.size 9 1 (.slice vr R.length vrc) R.length (R.map Value.string) ∧ (W.setCell ⟨y3, i, none⟩ u).ownsRow w.heap.size 9 1 (.slice vh H.length vhc) H.length (H.map Value.string) := by
                  intro W i u xs ⟨z1, z2, z3, z4, z5, z6⟩
                  have hg := grown_set W y3 i u
                  exact ⟨Ext.set_of z1 HN.out.2 _, z2.set i u, z3.kept hg (fun e => HNE.out (Option.some.inj e).symm), own_turn z4 z2 (by decide) hg, own_turn z5 z2 (by decide) hg, own_turn z6 z2 (by decide) hg⟩
                exact st _ 6 _ _ (st _ 5 _ _ (st _ 4 _ _ (st _ 3 _ _ (st _ 2 _ _ ⟨HS.out.ext, HS.out.out, HS.out.res, HS.out.oa, HS.out.ot, HS.out.oh⟩)))))
              rw [hwz]
              clear hwz HS k2 k3 k4 k5 k6 q2 q3 q4 q5 q6 f2 f3 f4 f5 f6
              go_upto_region 22 with fail
              apply wp_region_lit
              -- a load of a whole row: y3 block, HZ.out.2.1 fact RowAt, api.Pattern the type's name
              refine plain_load rfl _ _ rfl y3 rfl _ _ (HZ.out.2.1) Tryz.underlying25 rfl (by kernel_rfl) ?_
              go_simp
              unfold zRow at HZ
              refine plain_store rfl _ _ _ rfl y2 [.slice va A.length vac, .slice vr R.length vrc, .bool cn, .bool ds, .bool lm, .int .i64 li, .int .i64 off, .slice vh H.length vhc] rfl rfl HZ.out.2.2.1 (by kernel_rfl) rfl (by simp [Value.oneCell']) ?_
              have HY := Lib.hid (HZ.out.2.2.1.setRow [.slice va A.length vac, .slice vr R.length vrc, .bool cn, .bool ds, .bool lm, .int .i64 li, .int .i64 off, .slice vh H.length vhc])
              have hgr := setRow_grown wz y2 ([.slice va A.length vac, .slice vr R.length vrc, .bool cn, .bool ds, .bool lm, .int .i64 li, .int .i64 off, .slice vh H.length vhc] : List Value).toArray
              have HXY := Lib.hid (show Ext w (wz.setRow y2 ([.slice va A.length vac, .slice vr R.length vrc, .bool cn, .bool ds, .bool lm, .int .i64 li, .int .i64 off, .slice vh H.length vhc] : List Value).toArray) from below_setRow HZ.out.1 HN.out.1 _)
              have HPI := Lib.hid (show PatIn w.heap.size (wz.setRow y2 ([.slice va A.length vac, .slice vr R.length vrc, .bool cn, .bool ds, .bool lm, .int .i64 li, .int .i64 off, .slice vh H.length vhc] : List Value).toArray) (.agg ([.slice va A.length vac, .slice vr R.length vrc, .bool cn, .bool ds, .bool lm, .int .i64 li, .int .i64 off, .slice vh H.length vhc] : List Value).toArray) ⟨A, R, cn, ds, lm, li, off, H⟩ from
                ⟨.slice va A.length vac, .slice vr R.length vrc, .slice vh H.length vhc, rfl, own_turn HZ.out.2.2.2.1 HZ.out.2.2.1 (by decide) hgr, own_turn HZ.out.2.2.2.2.1 HZ.out.2.2.1 (by decide) hgr, own_turn HZ.out.2.2.2.2.2 HZ.out.2.2.1 (by decide) hgr⟩)
              clear hgr HZ
              generalize wz.setRow y2 ([.slice va A.length vac, .slice vr R.length vrc, .bool cn, .bool ds, .bool lm, .int .i64 li, .int .i64 off, .slice vh H.length vhc] : List Value).toArray = w8 at *
              go_simp
              apply wpList_nil
              go_wp2_with fail
              exact bodyPost_ret (results_row0 rfl rfl HY.out Tryz.underlying25 rfl (by kernel_rfl)) rfl ⟨_, rfl, by rw [HAE.out, HRE.out, HHE.out]; exact HPI.out, HXY.out⟩
end Go.Proofs.YthoneahamnmjlaaGreatDoor
