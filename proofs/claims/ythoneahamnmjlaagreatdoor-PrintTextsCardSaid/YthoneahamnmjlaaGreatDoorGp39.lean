/- The document: an atom's text. -/
import Derived.Test.YthoneahamnmjlaaGreatDoorGp36
import Derived.Test.YthoneahamnmjlaaGreatDoorGp30
import Derived.Test.YthoneahamnmjlaaGreatDoorGp14
namespace Go.Proofs.YthoneahamnmjlaaGreatDoor
set_option maxRecDepth 100000
set_option maxHeartbeats 2000000
set_option linter.unusedSimpArgs false
open Go.RowKit Go.Shelf Go.Sort
attribute [local go_sem] Oper.semAt_some wide_fn wide_depth
set_option linter.unusedVariables false

theorem termX_sz (k : Bool) (n : ByteArray) : (txt (termX k n)).size ≤ n.size + 1 := by
  rw [← bts_len, bts_txt, ← bts_len]
  unfold termX
  split <;> simp
def prGA8 : Nat → Gro
  | 3 => .read
  | 7 => .read
  | 8 => .grow
  | _ => .pure
set_option maxRecDepth 100000 in
theorem atomR17_any (kd : Int) (fk : Bool) (fn nm vl : ByteArray) (tk : Bool) (tn : ByteArray) (w : World) (hs : fn.size ≤ 1000000 ∧ nm.size ≤ 1000000 ∧ vl.size ≤ 1000000 ∧ tn.size ≤ 1000000) :
    Calls Tryz.prog 20 #[.agg #[.int .i64 kd, .bool fk, .string fn, .string nm, .string vl, .bool tk, .string tn]] w fun e w' => e = .returned (.string (txt (atomX ⟨kd, fk, fn, nm, vl, tk, tn⟩))) ∧ Ext w w' := by
  have hmo : Tryz.prog.follows .mixedOrders = true := by kernel_rfl
  obtain ⟨hs1, hs2, hs3, hs4⟩ := hs
  have HX := Lib.hid (Ext.alloc w (.cells #[.int .i64 kd, .bool fk, .string fn, .string nm, .string vl, .bool tk, .string tn] 40))
  have HB := Lib.hid (show RowAt (w.alloc (.cells #[.int .i64 kd, .bool fk, .string fn, .string nm, .string vl, .bool tk, .string tn] 40)) w.heap.size 40 [.int .i64 kd, .bool fk, .string fn, .string nm, .string vl, .bool tk, .string tn] from RowAt.new _ _ _)
  have HT1 := Lib.hid (fun w' => termR17_any fk fn w' hs1)
  have HT2 := Lib.hid (fun w' => termR17_any tk tn w' hs4)
  have hz1 := termX_sz fk fn
  have hz2 := termX_sz tk tn
  have HL2 : Hid (kd = 2 → txt (atomX ⟨kd, fk, fn, nm, vl, tk, tn⟩) = (((⟨#[40]⟩ ++ txt (termX fk fn)) ++ ⟨#[58]⟩) ++ nm) ++ ⟨#[41]⟩) := Lib.hid fun h => by
    rw [atomX_label _ h]
    refine bts_inj ?_
    simp only [bts_append, bts_txt, List.flatten_cons, List.flatten_nil, List.append_assoc, List.append_nil]
    rfl
  have HL3 : Hid (kd = 3 → txt (atomX ⟨kd, fk, fn, nm, vl, tk, tn⟩) = (((((⟨#[40]⟩ ++ txt (termX fk fn)) ++ ⟨#[46]⟩) ++ nm) ++ ⟨#[61, 34]⟩) ++ vl) ++ ⟨#[34, 41]⟩) := Lib.hid fun h => by
    rw [atomX_prop _ h]
    refine bts_inj ?_
    simp only [bts_append, bts_txt, List.flatten_cons, List.flatten_nil, List.append_assoc, List.append_nil]
    rfl
  have HL4 : Hid (kd = 4 → txt (atomX ⟨kd, fk, fn, nm, vl, tk, tn⟩) = (((((⟨#[40]⟩ ++ txt (termX fk fn)) ++ ⟨#[41, 45, 91]⟩) ++ nm) ++ ⟨#[93, 45, 62, 40]⟩) ++ txt (termX tk tn)) ++ ⟨#[41]⟩) := Lib.hid fun h => by
    rw [atomX_edge _ h]
    refine bts_inj ?_
    simp only [bts_append, bts_txt, List.flatten_cons, List.flatten_nil, List.append_assoc, List.append_nil]
    rfl
  have HL1 : Hid (kd ≠ 2 → kd ≠ 3 → kd ≠ 4 → txt (atomX ⟨kd, fk, fn, nm, vl, tk, tn⟩) = (⟨#[40]⟩ ++ txt (termX fk fn)) ++ ⟨#[41]⟩) := Lib.hid fun h h3 h4 => by
    rw [atomX_from _ h h3 h4]
    refine bts_inj ?_
    simp only [bts_append, bts_txt]
    rfl
  generalize txt (atomX ⟨kd, fk, fn, nm, vl, tk, tn⟩) = R at *
  generalize txt (termX fk fn) = T1 at *
  generalize txt (termX tk tn) = T2 at *
  have ha1 : ¬ 9223372036854775807 < 1 + T1.size := by omega
  go_enter Tryz.func20, Tryz.ntmps20
  go_upto_region 1 with fail
  generalize w.alloc _ = w1 at *
  generalize w.heap.size = y0 at *
  have d1 := HB.out.cell (i := 1) rfl
  have d2 := HB.out.cell (i := 2) rfl
  go_wp2_with fail
  refine (HT1.out w1).mono ?_
  rintro e w2 ⟨rfl, hx2⟩
  have HX2 := Lib.hid (HX.out.trans hx2)
  have HB2 := Lib.hid (HB.out.ext hx2)
  clear hx2 HX HB d1 d2 HT1
  go_upto_region 2 with fail
  clear ha1
  obtain ⟨X, hX⟩ : ∃ X, (⟨#[40]⟩ : ByteArray) ++ T1 = X := ⟨_, rfl⟩
  rw [hX] at HL1 HL2 HL3 HL4
  simp only [hX]
  have hxs : X.size = 1 + T1.size := by rw [← hX, ByteArray.size_append]; rfl
  clear hX
  have d0 := HB2.out.cell (i := 0) rfl
  have d3 := HB2.out.cell (i := 3) rfl
  have d4 := HB2.out.cell (i := 4) rfl
  by_cases h2 : kd = 2
  · have HR := Lib.hid (HL2.out h2)
    have z0 : ¬ 9223372036854775807 < X.size + 1 := by omega
    have z1 : ¬ 9223372036854775807 < X.size + 1 + nm.size := by omega
    have z2 : ¬ 9223372036854775807 < X.size + 1 + nm.size + 1 := by omega
    subst h2
    clear hxs hz1 hz2 hs1 hs2 hs3 hs4 HL1 HL2 HL3 HL4 d4 HT2
    go_wp2_with fail
    go_ret
    exact ⟨congrArg (fun z => Ending.returned (.string z)) HR.out.symm, HX2.out⟩
  by_cases h3 : kd = 3
  · have HR := Lib.hid (HL3.out h3)
    have z0 : ¬ 9223372036854775807 < X.size + 1 := by omega
    have z1 : ¬ 9223372036854775807 < X.size + 1 + nm.size := by omega
    have z2 : ¬ 9223372036854775807 < X.size + 1 + nm.size + 2 := by omega
    have z3 : ¬ 9223372036854775807 < X.size + 1 + nm.size + 2 + vl.size := by omega
    have z4 : ¬ 9223372036854775807 < X.size + 1 + nm.size + 2 + vl.size + 2 := by omega
    subst h3
    clear hxs hz1 hz2 hs1 hs2 hs3 hs4 HL1 HL2 HL3 HL4 HT2 h2
    go_wp2_with fail
    go_ret
    exact ⟨congrArg (fun z => Ending.returned (.string z)) HR.out.symm, HX2.out⟩
  by_cases h4 : kd = 4
  · have HR := Lib.hid (HL4.out h4)
    have z0 : ¬ 9223372036854775807 < X.size + 3 := by omega
    have z1 : ¬ 9223372036854775807 < X.size + 3 + nm.size := by omega
    have z2 : ¬ 9223372036854775807 < X.size + 3 + nm.size + 4 := by omega
    have z3 : ¬ 9223372036854775807 < X.size + 3 + nm.size + 4 + T2.size := by omega
    have z4 : ¬ 9223372036854775807 < X.size + 3 + nm.size + 4 + T2.size + 1 := by omega
    subst h4
    clear hxs hz1 hz2 hs1 hs2 hs3 hs4 HL1 HL2 HL3 HL4 d4 h2 h3
    go_upto_region 8 with fail
    clear d0 d3
    refine wp_region_gro prGA8 [0, 1, 2, 3, 4, 5, 6, 7, 8, 9, 10, 11] hmo (by kernel_rfl) rfl (by kernel_rfl) (fun _ _ _ _ _ h => h) ?_
    have hxd : Ext w2 w2.drew := Ext.drewN w2 1
    have HB3 := Lib.hid (HB2.out.ext hxd)
    have HX3 := Lib.hid (HX2.out.trans hxd)
    clear hxd HB2 HX2
    generalize w2.drew = w3 at *
    have d3 := HB3.out.cell (i := 3) rfl
    have d5 := HB3.out.cell (i := 5) rfl
    have d6 := HB3.out.cell (i := 6) rfl
    repeat (first
      | (refine groL_pure rfl rfl ?_; intro K hK; go_simp; refine hK _ ?_; clear hK K)
      | (refine groL_read rfl rfl ?_; intro K S hS hK; go_simp; refine hK _ ?_; clear hK K hS S)
      | (refine groL_read rfl rfl ?_; intro K S hS hK; go_simp; refine ⟨hS _ ?_, hK _ ?_⟩; (clear hK K hS S; intro w' hx'; have hce := ext_some hx'; go_simp); clear hK K hS S)
      | (refine groL_write rfl rfl ?_; intro K hK; go_simp; refine hK _ _ ?_; clear hK K))
    refine groL_grow rfl rfl ?_
    intro K hK
    go_simp
    (refine (HT2.out w3).mono ?_; rintro e w4 ⟨rfl, hx4⟩)
    go_simp
    refine hK _ _ ⟨hx4, ?_⟩
    clear hK K
    have HX4 := Lib.hid (HX3.out.trans hx4)
    have HB4 := Lib.hid (HB3.out.ext hx4)
    clear d3 d5 d6 hx4
    have d3 := HB4.out.cell (i := 3) rfl
    repeat (first
      | (refine groL_pure rfl rfl ?_; intro K hK; go_simp; refine hK _ ?_; clear hK K)
      | (refine groL_read rfl rfl ?_; intro K S hS hK; go_simp; refine hK _ ?_; clear hK K hS S)
      | (refine groL_read rfl rfl ?_; intro K S hS hK; go_simp; refine ⟨hS _ ?_, hK _ ?_⟩; (clear hK K hS S; intro w' hx'; have hce := ext_some hx'; go_simp); clear hK K hS S)
      | (refine groL_write rfl rfl ?_; intro K hK; go_simp; refine hK _ _ ?_; clear hK K))
    refine groL_nil ?_
    go_wp2_with fail
    go_ret
    exact ⟨congrArg (fun z => Ending.returned (.string z)) HR.out.symm, HX4.out⟩
  have HR := Lib.hid (HL1.out h2 h3 h4)
  have z0 : ¬ 9223372036854775807 < X.size + 1 := by omega
  have b2 : (kd == 2) = false := beq_eq_false_iff_ne.2 h2
  have b3 : (kd == 3) = false := beq_eq_false_iff_ne.2 h3
  have b4 : (kd == 4) = false := beq_eq_false_iff_ne.2 h4
  clear hxs hz1 hz2 hs1 hs2 hs3 hs4 HL1 HL2 HL3 HL4 HT2 h2 h3 h4 d4 d3
  go_wp2_with fail
  go_ret
  exact ⟨congrArg (fun z => Ending.returned (.string z)) HR.out.symm, HX2.out⟩
end Go.Proofs.YthoneahamnmjlaaGreatDoor

/- The document: a pattern's text. -/
namespace Go.Proofs.YthoneahamnmjlaaGreatDoor
set_option maxRecDepth 100000
set_option maxHeartbeats 2000000
set_option linter.unusedSimpArgs false
open Go.RowKit Go.Shelf Go.Sort Go.Lib
attribute [local go_sem] Oper.semAt_some wide_fn wide_depth
set_option linter.unusedVariables false

theorem join_snoc (l : List (List UInt8)) (x sep : List UInt8) : Lib.join (l ++ [x]) sep = Lib.join l sep ++ ((if l.length = 0 then [] else sep) ++ x) := by
  cases l with
  | nil =>
    rw [List.nil_append, Lib.join_cons]
    simp [Lib.joinTail, Lib.join]
  | cons y l =>
    rw [List.cons_append, Lib.join_cons, Lib.join_cons, joinTail_snoc, if_neg (by simp), List.append_assoc]
/-- The text that stands behind k atoms. -/
theorem atomsX_take (l : List Atm) (k : Nat) (hk : k < l.length) : atomsX (l.take (k + 1)) = atomsX (l.take k) ++ ((if k = 0 then [] else [44, 32]) ++ atomX l[k]) := by
  unfold atomsX
  rw [List.take_succ_eq_append_getElem hk, List.map_append, List.map_cons, List.map_nil, join_snoc, List.length_map, List.length_take]
  congr 2
  by_cases h : k = 0
  · rw [if_pos h, if_pos (by omega)]
  · rw [if_neg h, if_neg (by omega)]
/-- What is said behind the atoms, of a row of names: the head, then the names, parted. -/
def rowW (hd first sep : List UInt8) (l : List ByteArray) : List UInt8 := if l.length = 0 then [] else hd ++ (first ++ Lib.join (l.map bts) sep)
theorem rowW_take (hd first sep : List UInt8) (l : List ByteArray) (k : Nat) (hk : k < l.length) : rowW hd first sep (l.take (k + 1)) = rowW hd first sep (l.take k) ++ ((if k = 0 then hd ++ first else sep) ++ bts l[k]) := by
  unfold rowW
  rw [if_neg (by rw [List.length_take]; omega), List.take_succ_eq_append_getElem hk, List.map_append, List.map_cons, List.map_nil, join_snoc, List.length_map, List.length_take]
  by_cases h : k = 0
  · subst h
    simp [Lib.join]
  · rw [if_neg (by omega), if_neg (by omega), if_neg h]
    simp
theorem ret_row (l : List ByteArray) : partX (decide (0 < l.length)) (retW l) = rowW (32 :: bts wReturn) [32] [44, 32] l := by
  unfold partX retW rowW
  by_cases h : l.length = 0
  · rw [if_pos h, decide_eq_false (by omega)]; rfl
  · rw [if_neg h, decide_eq_true (by omega)]; simp
theorem hint_row (l : List ByteArray) : partX (decide (0 < l.length)) (hintW l) = rowW (32 :: bts wHint) [32] [32] l := by
  unfold partX hintW rowW
  by_cases h : l.length = 0
  · rw [if_pos h, decide_eq_false (by omega)]; rfl
  · rw [if_neg h, decide_eq_true (by omega)]; simp
theorem atomsX_len (l : List Atm) (h : ∀ a ∈ l, (atomX a).length ≤ 5000) : (atomsX l).length ≤ l.length * 5002 := by
  unfold atomsX
  have := join_size (l.map atomX) [44, 32] 5000 (fun x hx => by obtain ⟨a, ha, rfl⟩ := List.mem_map.1 hx; exact h a ha)
  rw [List.length_map] at this
  exact this
theorem rowW_len (hd first sep : List UInt8) (l : List ByteArray) (h : ∀ s ∈ l, s.size ≤ 1000) : (rowW hd first sep l).length ≤ hd.length + first.length + l.length * (1000 + sep.length) := by
  unfold rowW
  split
  · simp
  · have := join_size (l.map bts) sep 1000 (fun x hx => by obtain ⟨a, ha, rfl⟩ := List.mem_map.1 hx; rw [bts_len]; exact h a ha)
    rw [List.length_map] at this
    rw [List.length_append, List.length_append]
    omega
set_option maxRecDepth 100000 in
set_option maxHeartbeats 2000000 in
theorem textR17_any (v : Value) (P : Pat) (w : World) (h : PatAt w v P) (hA : ∀ a ∈ P.atoms, a.fn.size ≤ 1000 ∧ a.name.size ≤ 1000 ∧ a.value.size ≤ 1000 ∧ a.tn.size ≤ 1000) (hR : ∀ s ∈ P.ret, s.size ≤ 1000) (hH : ∀ s ∈ P.hint, s.size ≤ 1000) (hla : P.atoms.length ≤ 1000) (hlr : P.ret.length ≤ 1000) (hlh : P.hint.length ≤ 1000)
    (hli : P.limited = true → 0 ≤ P.limit ∧ P.limit ≤ 2147483647) (hof : P.offset ≤ 2147483647) :
    Calls Tryz.prog 16 #[v] w fun e w' => e = .returned (.string (txt (textX P))) ∧ Ext w w' := by
  obtain ⟨av, rv, hv, rfl, ha, hr, hh⟩ := h
  obtain ⟨ava, avc, rfl, hac, _⟩ := ha.shape
  obtain ⟨rva, rvc, rfl, hrc, _⟩ := Sl.shape hr
  obtain ⟨hva, hvc, rfl, hhc, _⟩ := Sl.shape hh
  obtain ⟨atoms, ret, cn, ds, lm, li, off, hint⟩ := P
  unfold patV patL textX
  dsimp only at *
  rw [ret_row, hint_row]
  have HA := Lib.hid ha
  have HR := Lib.hid hr
  have HH := Lib.hid hh
  have HSA := Lib.hid hA
  have HSR := Lib.hid hR
  have HSH := Lib.hid hH
  have HLI := Lib.hid hli
  have HX := Lib.hid (Ext.alloc w (.cells #[.slice ava atoms.length avc, .slice rva ret.length rvc, .bool cn, .bool ds, .bool lm, .int .i64 li, .int .i64 off, .slice hva hint.length hvc] 25))
  have HB := Lib.hid (show RowAt (w.alloc (.cells #[.slice ava atoms.length avc, .slice rva ret.length rvc, .bool cn, .bool ds, .bool lm, .int .i64 li, .int .i64 off, .slice hva hint.length hvc] 25)) w.heap.size 25 [.slice ava atoms.length avc, .slice rva ret.length rvc, .bool cn, .bool ds, .bool lm, .int .i64 li, .int .i64 off, .slice hva hint.length hvc] from RowAt.new _ _ _)
  have HOF := Lib.hid hof
  clear ha hr hh hA hR hH hli hof
  go_enter Tryz.func16, Tryz.ntmps16
  go_upto_region 1 with fail
  generalize w.alloc _ = w1 at *
  generalize w.heap.size = y0 at *
  have d0 := HB.out.cell (i := 0) rfl
  go_upto_region 3 with fail
  clear d0
  go_loopg [3, 13] atoms.length (fun g s i wr => ∃ k : Nat, k ≤ atoms.length ∧ g = atoms.length - k ∧ i = .int .i64 k ∧ s = .string (txt (atomsX (atoms.take k))) ∧ Ext w1 wr)
  case atStart => exact ⟨0, Nat.zero_le _, rfl, rfl, rfl, Ext.refl _⟩
  case round =>
    obtain ⟨k, hk, hg, rfl, rfl, hxr⟩ := hrel
    have Hg := Lib.hid hg
    have HXR := Lib.hid hxr
    clear hg hxr
    by_cases hlt : k < atoms.length
    · obtain ⟨b, o, rfl, c0, c1, c2, c3, c4, c5, c6⟩ := (HA.out.ext (HX.out.trans HXR.out)).at_ hlt
      have hz := HSA.out _ (List.getElem_mem hlt)
      have HTM := Lib.hid (atomsX_take atoms k hlt)
      have hln := atomsX_len (atoms.take k) (fun a ha => by
        have := HSA.out a (List.mem_of_mem_take ha)
        have := atomX_size a
        omega)
      rw [List.length_take] at hln
      have hat := atomX_size atoms[k]
      generalize atomsX (atoms.take k) = A at *
      generalize atoms[k] = x at *
      obtain ⟨kd, fk, fn, nm, vl, tk, tn⟩ := x
      dsimp only at c0 c1 c2 c3 c4 c5 c6 hz hat
      have HAT := Lib.hid (fun w' => atomR17_any kd fk fn nm vl tk tn w' ⟨by omega, by omega, by omega, by omega⟩)
      obtain ⟨T, hT⟩ : ∃ T, atomX ⟨kd, fk, fn, nm, vl, tk, tn⟩ = T := ⟨_, rfl⟩
      rw [hT] at HTM HAT hat
      clear hT
      have hs1 : (txt A).size ≤ 6000000 := by rw [txt_size]; omega
      have hs2 : (txt T).size ≤ 6000 := by rw [txt_size]; omega
      clear hz hln hat
      have HB5 := Lib.hid (RowAt.new wr 40 [.int .i64 kd, .bool fk, .string fn, .string nm, .string vl, .bool tk, .string tn])
      have HX5 := Lib.hid (HXR.out.trans (Ext.alloc wr (.cells #[.int .i64 kd, .bool fk, .string fn, .string nm, .string vl, .bool tk, .string tn] 40)))
      go_upto_region 5 with fail
      clear c0 c1 c2 c3 c4 c5 c6
      generalize wr.alloc (.cells #[.int .i64 kd, .bool fk, .string fn, .string nm, .string vl, .bool tk, .string tn] 40) = w5 at *
      generalize wr.heap.size = y5 at *
      have d0 := HB5.out.cell (i := 0) rfl
      have d1 := HB5.out.cell (i := 1) rfl
      have d2 := HB5.out.cell (i := 2) rfl
      have d3 := HB5.out.cell (i := 3) rfl
      have d4 := HB5.out.cell (i := 4) rfl
      have d5 := HB5.out.cell (i := 5) rfl
      have d6 := HB5.out.cell (i := 6) rfl
      by_cases hk0 : k = 0
      · skip
        have HTE := Lib.hid (show txt (atomsX (atoms.take (k + 1))) = txt A ++ txt T by
          rw [HTM.out, if_pos hk0]
          refine bts_inj ?_
          simp [bts_append, bts_txt])
        have z1 : ¬ 9223372036854775807 < (txt A).size + (txt T).size := by omega
        subst hk0
        clear hs1 hs2 HTM
        go_wp2_with fail
        refine (HAT.out _).mono ?_
        rintro e w7 ⟨rfl, hx7⟩
        have HX7 := Lib.hid (HX5.out.trans hx7)
        clear d0 d1 d2 d3 d4 d5 d6 hx7
        go_wp2_with fail
        go_roundg (atoms.length - (0 + 1))
        case measure => have := Hg.out; omega
        case rel => exact ⟨0 + 1, by omega, rfl, by go_num, congrArg Value.string HTE.out.symm, HX7.out⟩
      · skip
        have HTE := Lib.hid (show txt (atomsX (atoms.take (k + 1))) = (txt A ++ ⟨#[44, 32]⟩) ++ txt T by
          rw [HTM.out, if_neg hk0]
          refine bts_inj ?_
          simp [bts_append, bts_txt]
          rfl)
        have z0 : ¬ 9223372036854775807 < (txt A).size + 2 := by omega
        have z1 : ¬ 9223372036854775807 < (txt A).size + 2 + (txt T).size := by omega
        have hkp : (0 : Int) < k := by omega
        clear hs1 hs2 hk0 HTM
        go_wp2_with fail
        refine (HAT.out _).mono ?_
        rintro e w7 ⟨rfl, hx7⟩
        have HX7 := Lib.hid (HX5.out.trans hx7)
        clear d0 d1 d2 d3 d4 d5 d6 hx7
        go_wp2_with fail
        go_roundg (atoms.length - (k + 1))
        case measure => have := Hg.out; omega
        case rel => exact ⟨k + 1, by omega, rfl, by go_num, congrArg Value.string HTE.out.symm, HX7.out⟩
    · obtain rfl : k = atoms.length := by omega
      rw [List.take_length]
      have hln := atomsX_len atoms (fun a ha => by
        have := HSA.out a ha
        have := atomX_size a
        omega)
      obtain ⟨A, hAE⟩ : ∃ A, atomsX atoms = A := ⟨_, rfl⟩
      rw [hAE] at hln
      simp only [hAE]
      have HAE := Lib.hid hAE
      have HAL : Hid (A.length ≤ 6000000) := Lib.hid (by omega)
      clear hAE hln Hg hk
      have d1 := (HB.out.ext HXR.out).cell (i := 1) rfl
      go_upto_region 10 with fail
      clear d1 hlt
      have HZE := Lib.hid (show txt A = txt (A ++ rowW (32 :: bts wReturn) [32] [44, 32] (ret.take 0)) by simp [rowW])
      go_loopg [3, 30] ret.length (fun g s i wz => ∃ k : Nat, k ≤ ret.length ∧ g = ret.length - k ∧ i = .int .i64 k ∧ s = .string (txt (A ++ rowW (32 :: bts wReturn) [32] [44, 32] (ret.take k))) ∧ wz = wr)
      case atStart => exact ⟨0, Nat.zero_le _, rfl, rfl, congrArg Value.string HZE.out, rfl⟩
      case round =>
        obtain ⟨k, hk, hg, rfl, rfl, hwz⟩ := hrel
        subst hwz
        have Hg := Lib.hid hg
        clear hg
        by_cases hlt : k < ret.length
        · obtain ⟨b, o, rfl, c0⟩ := Strs.at_ (Strs.ext HR.out (HX.out.trans HXR.out)) hlt
          have hz := HSR.out _ (List.getElem_mem hlt)
          have HTM := Lib.hid (rowW_take (32 :: bts wReturn) [32] [44, 32] ret k hlt)
          have hln := rowW_len (32 :: bts wReturn) [32] [44, 32] (ret.take k) (fun a ha => HSR.out a (List.mem_of_mem_take ha))
          rw [List.length_take, show (32 :: bts wReturn).length = 7 from rfl, show ([32] : List UInt8).length = 1 from rfl, show ([44, 32] : List UInt8).length = 2 from rfl] at hln
          obtain ⟨O, hO⟩ : ∃ O, rowW (32 :: bts wReturn) [32] [44, 32] (ret.take k) = O := ⟨_, rfl⟩
          rw [hO] at HTM hln
          simp only [hO]
          clear hO
          generalize ret[k] = x at *
          have hs1 : (txt (A ++ O)).size ≤ 9000000 := by rw [txt_size, List.length_append]; have := HAL.out; omega
          clear hln
          by_cases hk0 : k = 0
          · have HTE := Lib.hid (show txt (A ++ rowW (32 :: bts wReturn) [32] [44, 32] (ret.take (k + 1))) = txt (A ++ O) ++ (⟨#[32, 114, 101, 116, 117, 114, 110, 32]⟩ ++ x) by
              rw [HTM.out, if_pos hk0]
              refine bts_inj ?_
              simp only [bts_append, bts_txt, List.append_assoc]
              rfl)
            have z0 : ¬ 9223372036854775807 < 8 + x.size := by omega
            have z1 : ¬ 9223372036854775807 < (txt (A ++ O)).size + (8 + x.size) := by omega
            subst hk0
            rw [Nat.add_zero] at c0
            clear hs1 hz HTM
            go_wp2_with fail
            go_roundg (ret.length - (0 + 1))
            case measure => have := Hg.out; omega
            case rel => exact ⟨0 + 1, by omega, rfl, by go_num, congrArg Value.string HTE.out.symm, rfl⟩
          · have HTE := Lib.hid (show txt (A ++ rowW (32 :: bts wReturn) [32] [44, 32] (ret.take (k + 1))) = txt (A ++ O) ++ (⟨#[44, 32]⟩ ++ x) by
              rw [HTM.out, if_neg hk0]
              refine bts_inj ?_
              simp only [bts_append, bts_txt, List.append_assoc]
              rfl)
            have z0 : ¬ 9223372036854775807 < 2 + x.size := by omega
            have z1 : ¬ 9223372036854775807 < (txt (A ++ O)).size + (2 + x.size) := by omega
            have hkq : ((k : Int) == 0) = false := beq_eq_false_iff_ne.2 (by omega)
            clear hs1 hz HTM hk0
            go_wp2_with fail
            go_roundg (ret.length - (k + 1))
            case measure => have := Hg.out; omega
            case rel => exact ⟨k + 1, by omega, rfl, by go_num, congrArg Value.string HTE.out.symm, rfl⟩
        · obtain rfl : k = ret.length := by omega
          rw [List.take_length]
          have hln := rowW_len (32 :: bts wReturn) [32] [44, 32] ret (fun a ha => HSR.out a ha)
          rw [show (32 :: bts wReturn).length = 7 from rfl, show ([32] : List UInt8).length = 1 from rfl, show ([44, 32] : List UInt8).length = 2 from rfl] at hln
          obtain ⟨S1, hS1⟩ : ∃ S, A ++ rowW (32 :: bts wReturn) [32] [44, 32] ret = S := ⟨_, rfl⟩
          have HS1 : Hid (S1.length ≤ 9000000) := Lib.hid (by rw [← hS1, List.length_append]; have := HAL.out; omega)
          simp only [hS1]
          have HE1 := Lib.hid hS1
          clear hS1 hln Hg hk
          have d2 := (HB.out.ext HXR.out).cell (i := 2) rfl
          go_upto_if 47 with fail
          clear d2 hlt
          have hs : (txt S1).size ≤ 9000000 := by rw [txt_size]; exact HS1.out
          go_cut [3] (fun s3 wx => s3 = .string (txt (S1 ++ partX cn (bts wCount))) ∧ wx = wr)
          case first =>
            have z0 : ¬ 9223372036854775807 < (txt S1).size + 6 := by omega
            cases cn with
            | true =>
              have HTE := Lib.hid (show txt (S1 ++ partX true (bts wCount)) = txt S1 ++ ⟨#[32, 99, 111, 117, 110, 116]⟩ from bts_inj (by rw [bts_append, bts_txt, bts_txt]; rfl))
              clear hs
              go_wp2_with fail
              go_meet
              exact ⟨congrArg Value.string HTE.out.symm, rfl⟩
            | false =>
              have HTE := Lib.hid (show txt (S1 ++ partX false (bts wCount)) = txt S1 by simp [partX])
              clear hs
              go_wp2_with fail
              go_meet
              exact ⟨congrArg Value.string HTE.out.symm, rfl⟩
          case rest =>
            obtain ⟨rfl, hwc⟩ := hcut
            rw [hwc]
            clear hwc hs
            obtain ⟨S2, hS2⟩ : ∃ S, S1 ++ partX cn (bts wCount) = S := ⟨_, rfl⟩
            have HS2 : Hid (S2.length ≤ 9000000 + 20) := Lib.hid (by
              rw [← hS2, List.length_append]
              have h0 := HS1.out
              have h1 : (partX cn (bts wCount)).length ≤ 20 := by cases cn <;> decide
              omega)
            simp only [hS2]
            have HE2 := Lib.hid hS2
            clear hS2
            have d3 := (HB.out.ext HXR.out).cell (i := 3) rfl
            go_upto_if 51 with fail
            clear d3
            have hs : (txt S2).size ≤ 9000000 + 20 := by rw [txt_size]; exact HS2.out
            go_cut [3] (fun s3 wx => s3 = .string (txt (S2 ++ partX ds (bts wDistinct))) ∧ wx = wr)
            case first =>
              have z0 : ¬ 9223372036854775807 < (txt S2).size + 9 := by omega
              cases ds with
              | true =>
                have HTE := Lib.hid (show txt (S2 ++ partX true (bts wDistinct)) = txt S2 ++ ⟨#[32, 100, 105, 115, 116, 105, 110, 99, 116]⟩ from bts_inj (by rw [bts_append, bts_txt, bts_txt]; rfl))
                clear hs
                go_wp2_with fail
                go_meet
                exact ⟨congrArg Value.string HTE.out.symm, rfl⟩
              | false =>
                have HTE := Lib.hid (show txt (S2 ++ partX false (bts wDistinct)) = txt S2 by simp [partX])
                clear hs
                go_wp2_with fail
                go_meet
                exact ⟨congrArg Value.string HTE.out.symm, rfl⟩
            case rest =>
              obtain ⟨rfl, hwc⟩ := hcut
              rw [hwc]
              clear hwc hs
              obtain ⟨S3, hS3⟩ : ∃ S, S2 ++ partX ds (bts wDistinct) = S := ⟨_, rfl⟩
              have HS3 : Hid (S3.length ≤ 9000000 + 20 + 20) := Lib.hid (by
                rw [← hS3, List.length_append]
                have h0 := HS2.out
                have h1 : (partX ds (bts wDistinct)).length ≤ 20 := by cases ds <;> decide
                omega)
              simp only [hS3]
              have HE3 := Lib.hid hS3
              clear hS3
              have d4 := (HB.out.ext HXR.out).cell (i := 4) rfl
              go_upto_if 55 with fail
              clear d4
              have hs : (txt S3).size ≤ 9000040 := by rw [txt_size]; exact HS3.out
              go_cut [3] (fun s3 wx => s3 = .string (txt (S3 ++ partX lm (limW li))) ∧ Ext wr wx)
              case first =>
                cases lm with
                | true =>
                  obtain ⟨hl0, hl1⟩ := HLI.out rfl
                  obtain ⟨n, rfl⟩ := Int.eq_ofNat_of_zero_le hl0
                  have HTE := Lib.hid (show txt (S3 ++ partX true (limW (n : Int))) = txt S3 ++ (⟨#[32, 108, 105, 109, 105, 116, 32]⟩ ++ txt (decDigits n)) by
                    refine bts_inj ?_
                    unfold partX limW itoa
                    rw [if_pos rfl, if_neg (by omega), Int.toNat_natCast]
                    simp only [bts_append, bts_txt, List.append_assoc]
                    rfl)
                  have HDG := Lib.hid (digitsR_any n (by omega) wr)
                  have hd := digits_size n (by omega)
                  have d5 := (HB.out.ext HXR.out).cell (i := 5) rfl
                  have z0 : ¬ 9223372036854775807 < 7 + (txt (decDigits n)).size := by omega
                  have z1 : ¬ 9223372036854775807 < (txt S3).size + (7 + (txt (decDigits n)).size) := by omega
                  clear hs hd hl0 hl1
                  go_wp2_with fail
                  refine HDG.out.mono ?_
                  rintro e w7 ⟨rfl, hx7⟩
                  have HX7 := Lib.hid hx7
                  clear d5 hx7
                  go_wp2_with fail
                  go_meet
                  exact ⟨congrArg Value.string HTE.out.symm, HX7.out⟩
                | false =>
                  have HTE := Lib.hid (show txt (S3 ++ partX false (limW li)) = txt S3 by simp [partX])
                  clear hs
                  go_wp2_with fail
                  go_meet
                  exact ⟨congrArg Value.string HTE.out.symm, Ext.refl _⟩
              case rest =>
                obtain ⟨rfl, hxc⟩ := hcut
                obtain ⟨w9, rfl⟩ : ∃ z, z = wc := ⟨_, rfl⟩
                replace HXR := Lib.hid (HXR.out.trans hxc)
                clear hxc hs
                obtain ⟨S4, hS4⟩ : ∃ S, S3 ++ partX lm (limW li) = S := ⟨_, rfl⟩
                have HS4 : Hid (S4.length ≤ 9001000) := Lib.hid (by
                  rw [← hS4, List.length_append]
                  have h0 := HS3.out
                  have h1 : (partX lm (limW li)).length ≤ 200 := by
                    unfold partX
                    split
                    · rename_i hb
                      obtain ⟨hl0, hl1⟩ := HLI.out hb
                      obtain ⟨n, rfl⟩ := Int.eq_ofNat_of_zero_le hl0
                      have := digits_len 18 n (by omega)
                      unfold limW itoa
                      rw [if_neg (by omega), Int.toNat_natCast, List.length_cons, List.length_append, List.length_cons, show (bts wLimit).length = 5 from rfl]
                      omega
                    · simp
                  omega)
                simp only [hS4]
                have HE4 := Lib.hid hS4
                clear hS4
                have d6 := (HB.out.ext HXR.out).cell (i := 6) rfl
                go_upto_if 64 with fail
                clear d6
                have hs : (txt S4).size ≤ 9001000 := by rw [txt_size]; exact HS4.out
                go_cut [3] (fun s3 wx => s3 = .string (txt (S4 ++ partX (decide (0 < off)) (offW off))) ∧ Ext w9 wx)
                case first =>
                  by_cases ho : 0 < off
                  · have hl9 := HOF.out
                    obtain ⟨n, rfl⟩ := Int.eq_ofNat_of_zero_le (show 0 ≤ off by omega)
                    have HTE := Lib.hid (show txt (S4 ++ partX (decide (0 < (n : Int))) (offW (n : Int))) = txt S4 ++ (⟨#[32, 111, 102, 102, 115, 101, 116, 32]⟩ ++ txt (decDigits n)) by
                      refine bts_inj ?_
                      unfold partX offW itoa
                      rw [if_pos (decide_eq_true ho), if_neg (by omega), Int.toNat_natCast]
                      simp only [bts_append, bts_txt, List.append_assoc]
                      rfl)
                    have HDG := Lib.hid (digitsR_any n (by omega) w9)
                    have hd := digits_size n (by omega)
                    have d6 := (HB.out.ext HXR.out).cell (i := 6) rfl
                    have z0 : ¬ 9223372036854775807 < 8 + (txt (decDigits n)).size := by omega
                    have z1 : ¬ 9223372036854775807 < (txt S4).size + (8 + (txt (decDigits n)).size) := by omega
                    clear hs hd hl9
                    go_wp2_with fail
                    refine HDG.out.mono ?_
                    rintro e w7 ⟨rfl, hx7⟩
                    have HX7 := Lib.hid hx7
                    clear d6 hx7
                    go_wp2_with fail
                    go_meet
                    exact ⟨congrArg Value.string HTE.out.symm, HX7.out⟩
                  · have HTE := Lib.hid (show txt (S4 ++ partX (decide (0 < off)) (offW off)) = txt S4 by rw [decide_eq_false ho]; simp [partX])
                    clear hs
                    go_wp2_with fail
                    go_meet
                    exact ⟨congrArg Value.string HTE.out.symm, Ext.refl _⟩
                case rest =>
                  obtain ⟨rfl, hxc2⟩ := hcut
                  replace HXR := Lib.hid (HXR.out.trans hxc2)
                  clear hxc2 hs
                  obtain ⟨S5, hS5⟩ : ∃ S, S4 ++ partX (decide (0 < off)) (offW off) = S := ⟨_, rfl⟩
                  have HS5 : Hid (S5.length ≤ 9002000) := Lib.hid (by
                    rw [← hS5, List.length_append]
                    have h0 := HS4.out
                    have h1 : (partX (decide (0 < off)) (offW off)).length ≤ 200 := by
                      unfold partX
                      split
                      · rename_i hb
                        have hl0 := of_decide_eq_true hb
                        have hl1 := HOF.out
                        obtain ⟨n, rfl⟩ := Int.eq_ofNat_of_zero_le (show 0 ≤ off by omega)
                        have := digits_len 18 n (by omega)
                        unfold offW itoa
                        rw [if_neg (by omega), Int.toNat_natCast, List.length_cons, List.length_append, List.length_cons, show (bts wOffset).length = 6 from rfl]
                        omega
                      · simp
                    omega)
                  simp only [hS5]
                  have HE5 := Lib.hid hS5
                  clear hS5
                  generalize wc = wr5 at *
                  have d7 := (HB.out.ext HXR.out).cell (i := 7) rfl
                  go_upto_region 25 with fail
                  clear d7
                  have HZE5 := Lib.hid (show txt S5 = txt (S5 ++ rowW (32 :: bts wHint) [32] [32] (hint.take 0)) by simp [rowW])
                  go_loopg [3, 74] hint.length (fun g s i wz => ∃ k : Nat, k ≤ hint.length ∧ g = hint.length - k ∧ i = .int .i64 k ∧ s = .string (txt (S5 ++ rowW (32 :: bts wHint) [32] [32] (hint.take k))) ∧ wz = wr5)
                  case atStart => exact ⟨0, Nat.zero_le _, rfl, rfl, congrArg Value.string HZE5.out, rfl⟩
                  case round =>
                    obtain ⟨k, hk, hg, rfl, rfl, hwz⟩ := hrel
                    subst hwz
                    have Hg := Lib.hid hg
                    clear hg
                    by_cases hlt : k < hint.length
                    · obtain ⟨b, o, rfl, c0⟩ := Strs.at_ (Strs.ext HH.out (HX.out.trans HXR.out)) hlt
                      have hz := HSH.out _ (List.getElem_mem hlt)
                      have HTM := Lib.hid (rowW_take (32 :: bts wHint) [32] [32] hint k hlt)
                      have hln := rowW_len (32 :: bts wHint) [32] [32] (hint.take k) (fun a ha => HSH.out a (List.mem_of_mem_take ha))
                      rw [List.length_take, show (32 :: bts wHint).length = 5 from rfl, show ([32] : List UInt8).length = 1 from rfl] at hln
                      obtain ⟨O, hO⟩ : ∃ O, rowW (32 :: bts wHint) [32] [32] (hint.take k) = O := ⟨_, rfl⟩
                      rw [hO] at HTM hln
                      simp only [hO]
                      clear hO
                      generalize hint[k] = x at *
                      have hs1 : (txt (S5 ++ O)).size ≤ 12000000 := by rw [txt_size, List.length_append]; have := HS5.out; omega
                      clear hln
                      by_cases hk0 : k = 0
                      · have HTE := Lib.hid (show txt (S5 ++ rowW (32 :: bts wHint) [32] [32] (hint.take (k + 1))) = (txt (S5 ++ O) ++ ⟨#[32, 104, 105, 110, 116]⟩) ++ (⟨#[32]⟩ ++ x) by
                          rw [HTM.out, if_pos hk0]
                          refine bts_inj ?_
                          simp only [bts_append, bts_txt, List.append_assoc]
                          rfl)
                        have z0 : ¬ 9223372036854775807 < 1 + x.size := by omega
                        have z1 : ¬ 9223372036854775807 < (txt (S5 ++ O)).size + 5 := by omega
                        have z2 : ¬ 9223372036854775807 < (txt (S5 ++ O)).size + 5 + (1 + x.size) := by omega
                        subst hk0
                        rw [Nat.add_zero] at c0
                        clear hs1 hz HTM
                        go_wp2_with fail
                        go_roundg (hint.length - (0 + 1))
                        case measure => have := Hg.out; omega
                        case rel => exact ⟨0 + 1, by omega, rfl, by go_num, congrArg Value.string HTE.out.symm, rfl⟩
                      · have HTE := Lib.hid (show txt (S5 ++ rowW (32 :: bts wHint) [32] [32] (hint.take (k + 1))) = txt (S5 ++ O) ++ (⟨#[32]⟩ ++ x) by
                          rw [HTM.out, if_neg hk0]
                          refine bts_inj ?_
                          simp only [bts_append, bts_txt, List.append_assoc]
                          rfl)
                        have z0 : ¬ 9223372036854775807 < 1 + x.size := by omega
                        have z1 : ¬ 9223372036854775807 < (txt (S5 ++ O)).size + (1 + x.size) := by omega
                        have hkq : ((k : Int) == 0) = false := beq_eq_false_iff_ne.2 (by omega)
                        clear hs1 hz HTM hk0
                        go_wp2_with fail
                        go_roundg (hint.length - (k + 1))
                        case measure => have := Hg.out; omega
                        case rel => exact ⟨k + 1, by omega, rfl, by go_num, congrArg Value.string HTE.out.symm, rfl⟩
                    · obtain rfl : k = hint.length := by omega
                      rw [List.take_length]
                      clear hlt Hg hk
                      go_wp2_with fail
                      go_ret
                      refine ⟨congrArg (fun z => Ending.returned (.string (txt z))) ?_, HX.out.trans HXR.out⟩
                      rw [← HE5.out, ← HE4.out, ← HE3.out, ← HE2.out, ← HE1.out, ← HAE.out]
                      simp only [List.append_assoc]
end Go.Proofs.YthoneahamnmjlaaGreatDoor
