/- The document: how many atoms are edges. -/
import Derived.Test.YthoneahamnmjlaaGreatDoorGp13
import Derived.Test.YthoneahamnmjlaaGreatDoorGp10
import Derived.Test.YthoneahamnmjlaaGreatDoorGp06
import Derived.Test.YthoneahamnmjlaaGreatDoorGp08
import Derived.Laws.StructEq
namespace Go.Proofs.YthoneahamnmjlaaGreatDoor
set_option maxRecDepth 100000
set_option maxHeartbeats 2000000
set_option linter.unusedSimpArgs false
open Go.RowKit Go.Shelf Go.Sort
attribute [local go_sem] Oper.semAt_some wide_fn wide_depth
set_option linter.unusedVariables false
/-- Atoms in memory. -/
def Ats (w : World) (v : Value) (l : List Atm) : Prop := Sl w v l.length (l.flatMap atCells)
theorem Ats.ext {w w' : World} {v : Value} {l : List Atm} (h : Ats w v l) (hx : Ext w w') : Ats w' v l := Sl.ext h hx
theorem Ats.shape {w : World} {v : Value} {l : List Atm} (h : Ats w v l) : ∃ a c, v = .slice a l.length c ∧ l.length ≤ c ∧ c ≤ 9223372036854775807 := Sl.shape h
theorem Ats.at_ {w : World} {a : Option Addr} {n c : Nat} {l : List Atm} (h : Ats w (.slice a n c) l) {k : Nat} (hk : k < l.length) : ∃ b o, a = some ⟨b, o, none⟩ ∧
    w.cell? ⟨b, o + k * 7, none⟩ = some (.int .i64 l[k].kind) ∧ w.cell? ⟨b, o + k * 7 + 1, none⟩ = some (.bool l[k].fk) ∧ w.cell? ⟨b, o + k * 7 + 2, none⟩ = some (.string l[k].fn) ∧
    w.cell? ⟨b, o + k * 7 + 3, none⟩ = some (.string l[k].name) ∧ w.cell? ⟨b, o + k * 7 + 4, none⟩ = some (.string l[k].value) ∧ w.cell? ⟨b, o + k * 7 + 5, none⟩ = some (.bool l[k].tk) ∧ w.cell? ⟨b, o + k * 7 + 6, none⟩ = some (.string l[k].tn) := by
  obtain ⟨a', c', e, _, _, hc⟩ := id h
  simp only [Value.slice.injEq] at e
  obtain ⟨rfl, _, rfl⟩ := e
  have hlen := flatMap_len atCells 7 (fun _ => rfl) l
  obtain ⟨b, o, rfl, hcell⟩ := hc (by omega)
  have hh := fun j (hj : j < 7) => flatMap_at atCells 7 (fun _ => rfl) l k j hk hj
  exact ⟨b, o, rfl, hcell _ _ (hh 0 (by omega)), by rw [Nat.add_assoc]; exact hcell _ _ (hh 1 (by omega)), by rw [Nat.add_assoc]; exact hcell _ _ (hh 2 (by omega)), by rw [Nat.add_assoc]; exact hcell _ _ (hh 3 (by omega)), by rw [Nat.add_assoc]; exact hcell _ _ (hh 4 (by omega)), by rw [Nat.add_assoc]; exact hcell _ _ (hh 5 (by omega)), by rw [Nat.add_assoc]; exact hcell _ _ (hh 6 (by omega))⟩
theorem edgesOf_take (l : List Atm) (j : Nat) (h : j < l.length) : edgesOf (l.take (j + 1)) = edgesOf (l.take j) + (if l[j].kind = 4 then 1 else 0) := by
  unfold edgesOf
  rw [List.take_succ_eq_append_getElem h, List.filter_append, List.length_append]
  by_cases h4 : l[j].kind = 4 <;> simp [h4]
theorem edgesOf_le (l : List Atm) : edgesOf l ≤ l.length := List.length_filter_le _ _
set_option maxHeartbeats 1000000 in
theorem edgesS_any (v : Value) (l : List Atm) (w : World) (h : Ats w v l) (hl : l.length ≤ 1000000000) :
    Calls Tryz.prog 74 #[v] w fun e w' => e = .returned (.int .i64 (edgesOf l : Nat)) ∧ Ext w w' := by
  obtain ⟨a, c, rfl, hc1, hc2⟩ := h.shape
  have H := Lib.hid h
  clear h
  go_enter Tryz.func74, Tryz.ntmps74
  go_wp2_with fail
  go_loopg [3, 8] l.length (fun g n i wr => ∃ j m : Nat, j ≤ l.length ∧ g = l.length - j ∧ i = .int .i64 j ∧ n = .int .i64 m ∧ m = edgesOf (l.take j) ∧ Ext w wr)
  case atStart => exact ⟨0, 0, Nat.zero_le _, rfl, rfl, rfl, rfl, Ext.refl _⟩
  case round =>
    obtain ⟨j, m, hj, hg, rfl, rfl, hm, hxr⟩ := hrel
    have Hg := Lib.hid hg
    have hml : m ≤ l.length := by rw [hm]; exact Nat.le_trans (edgesOf_le _) (by simp; omega)
    have HM := Lib.hid hm
    clear hg hm
    by_cases hlt : j < l.length
    · obtain ⟨b, o, rfl, c0, c1, c2, c3, c4, c5, c6⟩ := (H.out.ext hxr).at_ hlt
      have hsn := edgesOf_take l j hlt
      rw [← HM.out] at hsn
      generalize l[j] = x at *
      obtain ⟨k, fk, fn, nm, va, tk, tn⟩ := x
      dsimp only at c0 c1 c2 c3 c4 c5 c6 hsn
      have HSN := Lib.hid hsn
      clear hsn
      have hwm : IntKind.i64.wrap ((m : Int) + 1) = (m : Int) + 1 := IntWalk.i64_in _ (by omega)
      by_cases hk : k = 4
      · have hs : (k == 4) = true := by simp [hk]
        have HS := Lib.hid (show edgesOf (l.take (j + 1)) = m + 1 by rw [HSN.out, if_pos hk])
        clear hk
        go_wp2_with fail
        go_roundg (l.length - (j + 1))
        case measure => have := Hg.out; omega
        case rel => exact ⟨j + 1, m + 1, by omega, rfl, by go_num, by go_num, HS.out.symm, hxr.trans (Ext.alloc _ _)⟩
      · have hs : (k == 4) = false := by simp [hk]
        have HS := Lib.hid (show edgesOf (l.take (j + 1)) = m by rw [HSN.out, if_neg hk]; rfl)
        clear hk
        go_wp2_with fail
        go_roundg (l.length - (j + 1))
        case measure => have := Hg.out; omega
        case rel => exact ⟨j + 1, m, by omega, rfl, by go_num, rfl, HS.out.symm, hxr.trans (Ext.alloc _ _)⟩
    · have he : j = l.length := by omega
      subst he
      go_wp2_with fail
      go_ret
      exact ⟨by rw [HM.out, List.take_length]; rfl, hxr⟩
end Go.Proofs.YthoneahamnmjlaaGreatDoor

/- The document: the variables of atoms. -/
namespace Go.Proofs.YthoneahamnmjlaaGreatDoor
set_option maxRecDepth 100000
set_option maxHeartbeats 2000000
set_option linter.unusedSimpArgs false
open Go.RowKit Go.Shelf Go.Sort
attribute [local go_sem] Oper.semAt_some wide_fn wide_depth
set_option linter.unusedVariables false
def varsS (l : List Atm) : List ByteArray := l.foldl (fun T a => termS (termS T (a.fk, a.fn)) (a.tk, a.tn)) []
theorem termS_len (T : List ByteArray) (t : Bool × ByteArray) : (termS T t).length ≤ T.length + 1 := by
  unfold termS
  split
  · omega
  · simp
theorem varsS_take (l : List Atm) (j : Nat) (h : j < l.length) : varsS (l.take (j + 1)) = termS (termS (varsS (l.take j)) (l[j].fk, l[j].fn)) (l[j].tk, l[j].tn) := by
  unfold varsS
  rw [List.take_succ_eq_append_getElem h, List.foldl_append]
  rfl
theorem varsS_take_len (l : List Atm) : ∀ j, j ≤ l.length → (varsS (l.take j)).length ≤ 2 * j
  | 0, _ => by simp [varsS]
  | j + 1, h => by
    have ih := varsS_take_len l j (by omega)
    have h1 := termS_len (varsS (l.take j)) (l[j].fk, l[j].fn)
    have h2 := termS_len (termS (varsS (l.take j)) (l[j].fk, l[j].fn)) (l[j].tk, l[j].tn)
    rw [varsS_take l j h]
    omega
def groV : Nat → Gro
  | 2 => .read
  | 3 => .grow
  | 5 => .read
  | 6 => .grow
  | _ => .pure
set_option maxHeartbeats 2000000 in
theorem varsS_frs (v : Value) (l : List Atm) (w : World) (h : Ats w v l) (hl : l.length ≤ 100000000) :
    Calls Tryz.prog 43 #[v] w fun e w' => ∃ u, e = .returned u ∧ (Strs w' u (varsS l) ∧ Fresh w.heap.size u (varsS l)) ∧ Ext w w' := by
  have hmo : Tryz.prog.follows .mixedOrders = true := by kernel_rfl
  obtain ⟨a, c, rfl, hc1, hc2⟩ := h.shape
  have H := Lib.hid h
  clear h
  go_enter Tryz.func43, Tryz.ntmps43
  go_wp2_with fail
  go_loopg [3, 8] l.length (fun g n i wr => ∃ j : Nat, j ≤ l.length ∧ g = l.length - j ∧ i = .int .i64 j ∧ (Strs wr n (varsS (l.take j)) ∧ Fresh w.heap.size n (varsS (l.take j))) ∧ Ext w wr)
  case atStart => exact ⟨0, Nat.zero_le _, rfl, rfl, ⟨Sl.of_own (World.ownsRow_nil w 0 9 1), fun hn => by simp [varsS] at hn⟩, Ext.refl _⟩
  case round =>
    obtain ⟨j, hj, hg, rfl, ⟨hs, hfr⟩, hxr⟩ := hrel
    have Hg := Lib.hid hg
    obtain ⟨ua, uc, hu, hu1, hu2⟩ := Sl.shape hs
    subst hu
    have HS := Lib.hid hs
    have HFR := Lib.hid hfr
    clear hg hs hu1 hu2 hfr
    by_cases hlt : j < l.length
    · obtain ⟨b, o, rfl, c0, c1, c2, c3, c4, c5, c6⟩ := (H.out.ext hxr).at_ hlt
      have hsn := varsS_take l j hlt
      have hln := varsS_take_len l j hj
      generalize varsS (l.take j) = T at *
      generalize l[j] = x at *
      obtain ⟨k, fk, fn, nm, va, tk, tn⟩ := x
      dsimp only at c0 c1 c2 c3 c4 c5 c6 hsn
      have ht1 := termS_len T (fk, fn)
      have hbx := RowAt.new wr 40 [.int .i64 k, .bool fk, .string fn, .string nm, .string va, .bool tk, .string tn]
      have hx1 := Ext.alloc wr (.cells #[.int .i64 k, .bool fk, .string fn, .string nm, .string va, .bool tk, .string tn] 40)
      have HSN := Lib.hid hsn
      have HBX := Lib.hid hbx
      have HX1 := Lib.hid (show Ext w _ from hxr.trans hx1)
      have HS1 := Lib.hid (HS.out.ext hx1)
      clear hsn hbx hx1
      go_upto_region 5 with fail
      clear c0 c1 c2 c3 c4 c5 c6
      generalize wr.alloc (.cells #[.int .i64 k, .bool fk, .string fn, .string nm, .string va, .bool tk, .string tn] 40) = w1 at *
      obtain ⟨y, hy⟩ : ∃ y, wr.heap.size = y := ⟨_, rfl⟩
      rw [hy] at HBX
      try simp only [hy]
      clear hy
      refine wp_region_gro groV [0, 1, 2, 4, 5, 3, 6, 7] hmo (by kernel_rfl) rfl (by kernel_rfl) (fun _ _ _ _ _ h => h) ?_
      have hxd := Ext.drewN w1 1
      have hb := HBX.out.ext hxd
      replace HX1 := Lib.hid (HX1.out.trans hxd)
      replace HS1 := Lib.hid (HS1.out.ext hxd)
      change GroW _ _ _ _ _ _ w1.drew
      replace hb : RowAt w1.drew y 40 [.int .i64 k, .bool fk, .string fn, .string nm, .string va, .bool tk, .string tn] := hb
      replace HX1 : Hid (Ext w w1.drew) := HX1
      replace HS1 : Hid (Strs w1.drew (.slice ua T.length uc) T) := HS1
      clear hxd HBX
      generalize w1.drew = w2 at *
      have d1 := hb.cell (i := 1) rfl
      have d2 := hb.cell (i := 2) rfl
      have d5 := hb.cell (i := 5) rfl
      have d6 := hb.cell (i := 6) rfl
      have HC1 := Lib.hid (termS_frs (.slice ua T.length uc) T fk fn w2 w.heap.size HS1.out HFR.out HX1.out.size (by omega))
      clear hb
      repeat (first
        | (refine groL_pure rfl rfl ?_; intro K hK; go_simp; refine hK _ ?_; clear hK K)
        | (refine groL_read rfl rfl ?_; intro K S hS hK; go_simp; refine hK _ ?_; clear hK K hS S)
        | (refine groL_read rfl rfl ?_; intro K S hS hK; go_simp; refine ⟨hS _ ?_, hK _ ?_⟩; (clear hK K hS S; intro w' hx'; have hce := ext_some hx'; go_simp); clear hK K hS S)
        | (refine groL_write rfl rfl ?_; intro K hK; go_simp; refine hK _ _ ?_; clear hK K))
      refine groL_grow rfl rfl ?_
      intro K hK
      go_simp
      refine HC1.out.mono ?_
      rintro e w3 ⟨u1, rfl, hu1, hx3⟩
      go_simp
      refine hK _ _ ⟨hx3, ?_⟩
      clear hK K d1 d2 d5 d6
      have HX3 := Lib.hid (HX1.out.trans hx3)
      have HC2 := Lib.hid (termS_frs u1 (termS T (fk, fn)) tk tn w3 w.heap.size hu1.1 hu1.2 HX3.out.size (by omega))
      clear hu1 hx3
      refine groL_grow rfl rfl ?_
      intro K hK
      go_simp
      refine HC2.out.mono ?_
      rintro e w4 ⟨u2, rfl, hu2, hx4⟩
      go_simp
      refine hK _ _ ⟨hx4, ?_⟩
      clear hK K
      have HU2 := Lib.hid hu2
      have HX4 := Lib.hid (HX3.out.trans hx4)
      clear hu2 hx4
      repeat (first
        | (refine groL_pure rfl rfl ?_; intro K hK; go_simp; refine hK _ ?_; clear hK K)
        | (refine groL_read rfl rfl ?_; intro K S hS hK; go_simp; refine hK _ ?_; clear hK K hS S)
        | (refine groL_read rfl rfl ?_; intro K S hS hK; go_simp; refine ⟨hS _ ?_, hK _ ?_⟩; (clear hK K hS S; intro w' hx'; have hce := ext_some hx'; go_simp); clear hK K hS S)
        | (refine groL_write rfl rfl ?_; intro K hK; go_simp; refine hK _ _ ?_; clear hK K))
      refine groL_nil ?_
      go_wp2_with fail
      go_roundg (l.length - (j + 1))
      case measure => have := Hg.out; omega
      case rel => exact ⟨j + 1, by omega, rfl, by go_num, by rw [HSN.out]; exact HU2.out, HX4.out⟩
    · have he : j = l.length := by omega
      subst he
      go_wp2_with fail
      go_ret
      refine ⟨.slice ua (varsS (l.take l.length)).length uc, rfl, ?_, hxr⟩
      have h := HS.out
      have h2 := HFR.out
      rw [List.take_length] at h h2 ⊢
      exact ⟨h, h2⟩
theorem varsS_any (v : Value) (l : List Atm) (w : World) (h : Ats w v l) (hl : l.length ≤ 100000000) :
    Calls Tryz.prog 43 #[v] w fun e w' => ∃ u, e = .returned u ∧ Strs w' u (varsS l) ∧ Ext w w' :=
  (varsS_frs v l w h hl).mono fun e w' ⟨u, he, hs, hx⟩ => ⟨u, he, hs.1, hx⟩
end Go.Proofs.YthoneahamnmjlaaGreatDoor

/- Words. -/
namespace Go.Proofs.YthoneahamnmjlaaGreatDoor
set_option maxRecDepth 100000
set_option maxHeartbeats 2000000
set_option linter.unusedSimpArgs false
open Go.RowKit Go.Shelf Go.Sort
attribute [local go_sem] Oper.semAt_some wide_fn wide_depth
set_option linter.unusedVariables false

def wordB (s : ByteArray) : Bool := Tk.check ⟨1, s, 0⟩
def worthB (s : ByteArray) : Bool := Tk.check ⟨3, s, 0⟩
theorem wordB_all (s : ByteArray) : allB letterC 1 32 (bts s) = wordB s := by
  unfold wordB Tk.check
  rw [← right_check]
  unfold rightB
  simp
theorem worthB_all (s : ByteArray) : allB quotedC 0 40 (bts s) = worthB s := by
  unfold worthB Tk.check
  rw [← right_check]
  unfold rightB
  simp
theorem notWord_any (s : ByteArray) (w : World) (hs : s.size ≤ 9223372036854775800) :
    Calls Tryz.prog 86 #[.string s] w fun e w' => e = .returned (.bool (!wordB s)) ∧ Ext w w' := by
  cases hb : wordB s with
  | true =>
    have HC := Lib.hid (check_yes (t := ⟨1, s, 0⟩) w hs hb)
    unfold tkV at HC
    dsimp only at HC
    clear hb
    go_enter Tryz.func86, Tryz.ntmps86
    go_wp2_with fail
    refine HC.out.mono ?_
    rintro e w' ⟨rfl, hx⟩
    go_wp2
    go_ret
    exact ⟨rfl, hx⟩
  | false =>
    have HC := Lib.hid (check_no (t := ⟨1, s, 0⟩) w hs hb)
    unfold tkV at HC
    dsimp only at HC
    clear hb
    go_enter Tryz.func86, Tryz.ntmps86
    go_wp2_with fail
    refine HC.out.mono ?_
    rintro e w' ⟨rfl, hx⟩
    go_wp2
    go_ret
    exact ⟨rfl, hx⟩
/-- An index, or none. -/
def IdxQ (w : World) (b : Bool) (e : Ending) (w' : World) : Prop := ∃ n : Int, e = .returned (.int .i64 n) ∧ decide (0 ≤ n) = b ∧ -1 ≤ n ∧ n ≤ 9223372036854775807 ∧ Ext w w'
theorem idxW_any (v : Value) (l : List ByteArray) (w : World) (hv : Strs w v l) (hs : ∀ s ∈ l, s.size ≤ 9223372036854775800) :
    Calls Tryz.prog 103 #[v, .func (.func 86) #[] #[]] w (IdxQ w (!l.all wordB)) := by
  obtain ⟨a, c, rfl, hc1, hc2⟩ := Sl.shape hv
  have HV := Lib.hid hv
  have HS := Lib.hid hs
  clear hv hs
  go_enter Tryz.func103, Tryz.ntmps103
  go_wp2_with fail
  go_loopg [8] l.length (fun g i wr => ∃ k : Nat, k ≤ l.length ∧ g = l.length - k ∧ i = .int .i64 k ∧ Ext w wr ∧ Hid (∀ x ∈ l.take k, wordB x = true))
  case atStart => exact ⟨0, Nat.zero_le _, rfl, rfl, Ext.refl _, Lib.hid (by simp)⟩
  case round =>
    obtain ⟨k, hk, hg, rfl, hx, hall⟩ := hrel
    have Hg := Lib.hid hg
    have HX := Lib.hid hx
    clear hg
    by_cases hlt : k < l.length
    · obtain ⟨b, o, rfl, c0⟩ := Strs.at_ (Strs.ext HV.out hx) hlt
      have HC := Lib.hid (notWord_any l[k] wr (HS.out _ (List.getElem_mem hlt)))
      have hsn : l.take (k + 1) = l.take k ++ [l[k]] := List.take_succ_eq_append_getElem hlt
      have hmem := List.getElem_mem hlt
      generalize l[k] = x at *
      have HSN := Lib.hid hsn
      have HM := Lib.hid hmem
      clear hsn hmem hx
      cases hb : wordB x with
      | true =>
        rw [hb] at HC
        have HB := Lib.hid hb
        clear hb
        go_wp2_with fail
        refine HC.out.mono ?_
        rintro e w2 ⟨rfl, hx2⟩
        have HX2 := Lib.hid (HX.out.trans hx2)
        clear hx2 HC c0
        go_wp2_with fail
        go_roundg (l.length - (k + 1))
        case measure => have := Hg.out; omega
        case rel => exact ⟨k + 1, by omega, rfl, by go_num, HX2.out, Lib.hid (by rw [HSN.out]; intro y hy; rcases List.mem_append.1 hy with h | h; exact hall.out y h; rw [List.mem_singleton.1 h]; exact HB.out)⟩
      | false =>
        rw [hb] at HC
        have HB := Lib.hid hb
        clear hb
        go_wp2_with fail
        refine HC.out.mono ?_
        rintro e w2 ⟨rfl, hx2⟩
        have HX2 := Lib.hid (HX.out.trans hx2)
        clear hx2 HC c0
        go_wp2_with fail
        go_ret
        refine ⟨k, rfl, ?_, by omega, by omega, HX2.out⟩
        rw [show l.all wordB = false from List.all_eq_false.2 ⟨x, HM.out, by rw [HB.out]; decide⟩]
        simp
    · have he : k = l.length := by omega
      subst he
      go_wp2_with fail
      go_ret
      refine ⟨-1, rfl, ?_, by omega, by omega, HX.out⟩
      have h := hall.out
      rw [List.take_length] at h
      rw [List.all_eq_true.2 h]
      rfl
theorem hasNotWord_any (v : Value) (l : List ByteArray) (w : World) (hv : Strs w v l) (hs : ∀ s ∈ l, s.size ≤ 9223372036854775800) :
    Calls Tryz.prog 85 #[v, .func (.func 86) #[] #[]] w fun e w' => e = .returned (.bool (!l.all wordB)) ∧ Ext w w' := by
  have HC := Lib.hid (idxW_any v l w hv hs)
  obtain ⟨a, c, rfl, hc1, hc2⟩ := Sl.shape hv
  clear hv hs
  go_enter Tryz.func85, Tryz.ntmps85
  go_wp2_with fail
  refine HC.out.mono ?_
  rintro e w2 ⟨n, rfl, hb, h1, h2, hx2⟩
  have HB := Lib.hid hb
  clear hb
  go_wp2_with fail
  go_ret
  exact ⟨by rw [← HB.out]; rfl, hx2⟩
theorem words_any (v : Value) (l : List ByteArray) (w : World) (hv : Strs w v l) (hs : ∀ s ∈ l, s.size ≤ 9223372036854775800) :
    Calls Tryz.prog 63 #[v] w fun e w' => e = .returned (.bool (l.all wordB)) ∧ Ext w w' := by
  have HC := Lib.hid (hasNotWord_any v l w hv hs)
  obtain ⟨a, c, rfl, hc1, hc2⟩ := Sl.shape hv
  clear hv hs
  go_enter Tryz.func63, Tryz.ntmps63
  go_wp2_with fail
  refine HC.out.mono ?_
  rintro e w2 ⟨rfl, hx2⟩
  go_wp2_with fail
  go_ret
  exact ⟨by simp, hx2⟩
end Go.Proofs.YthoneahamnmjlaaGreatDoor

/- Atoms: held against one another; which may be. -/
namespace Go.Proofs.YthoneahamnmjlaaGreatDoor
set_option maxRecDepth 100000
set_option maxHeartbeats 2000000
set_option linter.unusedSimpArgs false
open Go.RowKit Go.Shelf Go.Sort
set_option linter.unusedVariables false

def Atm.eqB (x y : Atm) : Bool := x.kind == y.kind && ((x.fk == y.fk && x.fn.toList == y.fn.toList) && (x.name.toList == y.name.toList && (x.value.toList == y.value.toList && (x.tk == y.tk && x.tn.toList == y.tn.toList))))
theorem Atm.eqB_iff (x y : Atm) : x.eqB y = true ↔ x = y := by
  obtain ⟨a, b, c, d, e, f, g⟩ := x
  obtain ⟨a', b', c', d', e', f', g'⟩ := y
  unfold Atm.eqB
  simp only [Bool.and_eq_true, str_beq]
  simp [and_assoc]
theorem Atm.eqB_dec (x y : Atm) : x.eqB y = decide (x = y) := by
  by_cases h : x = y
  · rw [decide_eq_true h, (Atm.eqB_iff x y).2 h]
  · rw [decide_eq_false h]
    cases hh : x.eqB y
    · rfl
    · exact absurd ((Atm.eqB_iff x y).1 hh) h
def atV (a : Atm) : Value := .agg #[.int .i64 a.kind, .bool a.fk, .string a.fn, .string a.name, .string a.value, .bool a.tk, .string a.tn]
theorem at_eql (x y : Atm) (w : World) : (Op.equalIn 10000 40 (atV x) (atV y)).run Tryz.prog w = .ok (x.eqB y) w := by
  unfold Atm.eqB atV
  rw [show (10000 : Nat) = 9999 + 1 from rfl, run_equalIn_struct (P := Tryz.prog) w 9999 40 _ _ (by kernel_rfl) (by kernel_rfl)]
  have hf : (Tryz.prog.fieldsOf 40).toList = _ := congrArg Array.toList (show Tryz.prog.fieldsOf 40 = _ by unfold Program.fieldsOf; rw [Tryz.underlying40])
  have hf2 : (Tryz.prog.fieldsOf 38).toList = _ := congrArg Array.toList (show Tryz.prog.fieldsOf 38 = _ by unfold Program.fieldsOf; rw [Tryz.underlying38])
  rw [hf]
  simp [Op.eqFields, go_sem, run_equalIn_int, run_equalIn_string]
  by_cases h1 : x.kind = y.kind
  case neg => simp [h1]
  by_cases h2 : x.fk = y.fk
  case neg => simp [h1, h2]
  by_cases h3 : x.fn.toList = y.fn.toList
  case neg => simp [h1, h2, h3]
  by_cases h4 : x.name.toList = y.name.toList
  case neg => simp [h1, h2, h3, h4]
  by_cases h5 : x.value.toList = y.value.toList
  case neg => simp [h1, h2, h3, h4, h5]
  by_cases h6 : x.tk = y.tk
  case neg => simp [h1, h2, h3, h4, h5, h6]
  by_cases h7 : x.tn.toList = y.tn.toList <;> simp [h1, h2, h3, h4, h5, h6, h7]
theorem at_eqlB (x y : Atm) (w : World) : (binOp .eql 40 (atV x) (atV y)).run Tryz.prog w = .ok (.bool (decide (x = y))) w := by
  rw [← Atm.eqB_dec]
  have h := at_eql x y w
  unfold atV at h ⊢
  rw [run_eql_struct, h]; rfl
theorem at_neqB (x y : Atm) (w : World) : (binOp .neq 40 (atV x) (atV y)).run Tryz.prog w = .ok (.bool (!decide (x = y))) w := by
  rw [← Atm.eqB_dec]
  have h := at_eql x y w
  unfold atV at h ⊢
  rw [run_neq_struct, h]; rfl
/-- May an atom be? -/
def atomB (a : Atm) : Bool :=
  if a.kind = 1 then decide (a.name = nilB) && (decide (a.value = nilB) && (!a.tk && (decide (a.tn = nilB) && wordB a.fn)))
  else if a.kind = 2 then decide (a.value = nilB) && (!a.tk && (decide (a.tn = nilB) && (wordB a.fn && wordB a.name)))
  else if a.kind = 3 then !a.tk && (decide (a.tn = nilB) && (wordB a.fn && (wordB a.name && worthB a.value)))
  else if a.kind = 4 then decide (a.value = nilB) && (wordB a.fn && (wordB a.name && wordB a.tn))
  else false
end Go.Proofs.YthoneahamnmjlaaGreatDoor
