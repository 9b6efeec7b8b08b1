/- The document: a term turned; names that may be. -/
import Derived.Test.YthoneahamnmjlaaGreatDoorGp36
import Derived.Test.YthoneahamnmjlaaGreatDoorGp30
import Derived.Test.YthoneahamnmjlaaGreatDoorGp14
namespace Go.Proofs.YthoneahamnmjlaaGreatDoor
set_option maxRecDepth 100000
set_option maxHeartbeats 2000000
set_option linter.unusedSimpArgs false
open Go.RowKit Go.Shelf Go.Sort
attribute [local go_sem] Oper.semAt_some wide_fn wide_depth
set_option linter.unusedVariables false

theorem Sl.takeY {w : World} {a : Option Addr} {n cap : Nat} {xs : List Value} (h : Sl w (.slice a n cap) n xs) (hx : xs.length = n) (m : Nat) (hm : m ≤ n) : Sl w (.slice a m cap) m (xs.take m) := by
  obtain ⟨a', cap', e, h1, h2, h3⟩ := h
  simp only [Value.slice.injEq] at e
  obtain ⟨rfl, _, rfl⟩ := e
  refine ⟨a, cap, rfl, by omega, h2, fun hp => ?_⟩
  obtain ⟨b, o, e, hc⟩ := h3 (by rw [List.length_take] at hp; omega)
  refine ⟨b, o, e, fun i u hu => hc i u ?_⟩
  rw [List.getElem?_take] at hu
  split at hu
  · exact hu
  · cases hu
theorem Strs.takeY {w : World} {a : Option Addr} {n cap : Nat} {l : List ByteArray} (h : Strs w (.slice a n cap) l) (m : Nat) (hm : m ≤ n) : Strs w (.slice a m cap) (l.take m) := by
  have hl := h.len
  unfold Strs at *
  rw [hl] at h
  have := Sl.takeY h (by simp [hl]) m hm
  rw [List.map_take, List.length_take, hl, Nat.min_eq_left hm]
  exact this
/-- The document's way with a term's name. -/
def turnR (vars names : List ByteArray) (k : Bool) (n : ByteArray) : ByteArray := if k = true then n else nameAt vars names n
theorem termT17_any (v u : Value) (vars names : List ByteArray) (k : Bool) (n : ByteArray) (w : World) (hv : Strs w v vars) (hu : Strs w u names) (hl : names.length = vars.length) :
    Calls Tryz.prog 53 #[.agg #[.bool k, .string n], v, u] w fun e w' => e = .returned (.agg #[.bool k, .string (turnR vars names k n)]) ∧ Ext w w' := by
  have HNR := Lib.hid (fun w' (hx : Ext w w') => nameR17_any v u vars names n w' (Strs.ext hv hx) (Strs.ext hu hx) hl)
  clear hv hu hl
  cases k with
  | true =>
    have hR : turnR vars names true n = n := by unfold turnR; rw [if_pos rfl]
    rw [hR]
    clear hR HNR
    -- a function with two boxes at its head: colander/colanderref17.term its name, [.bool true, .string n] [.bool false, .string ⟨#[]⟩] their cells (lists), api.Term api.Term their types' names
    have hbx := boxes2 w ([.bool true, .string n]) 38 ([.bool false, .string ⟨#[]⟩]) 38
    have HBX := Lib.hid hbx
    clear hbx
    go_enter Tryz.func53, Tryz.ntmps53
    go_upto_region 1 with fail
    generalize (w.alloc (.cells ([.bool true, .string n]).toArray 38)).alloc (.cells ([.bool false, .string ⟨#[]⟩]).toArray 38) = w1 at *
    obtain ⟨y0, hy0⟩ : ∃ x, w.heap.size = x := ⟨_, rfl⟩
    obtain ⟨y1, hy1⟩ : ∃ x, y0 + 1 = x := ⟨_, rfl⟩
    rw [hy0, hy1] at HBX
    simp only [hy0, hy1]
    have HN := Lib.hid (show w.heap.size = y0 ∧ y0 + 1 = y1 from ⟨hy0, hy1⟩)
    have HX := Lib.hid HBX.out.1
    have H0 := Lib.hid HBX.out.2.1
    have H1 := Lib.hid HBX.out.2.2
    clear hy0 hy1 HBX
    have k0 := H0.out.cell (i := 0) rfl
    go_upto_region 3 with fail
    clear k0
    apply wp_region_lit
    -- a load of a whole row: y0 block, H0.out fact RowAt, api.Term the type's name
    refine plain_load rfl _ _ rfl y0 rfl _ _ (H0.out) Tryz.underlying38 rfl (by kernel_rfl) ?_
    go_simp
    -- the result's row is stored, and the function ends: y1 the box's name, H1.out its fact, [.bool true, .string n] the cells, api.Term the type's name, w1 the world now, HX.out fact Ext, (by have := HN.out; omega) that the box is new, (by simp [Value.oneCell']) proof that each is one cell, ⟨rfl, HXX.out⟩ what is said of the result
    refine plain_store rfl _ _ _ rfl y1 ([.bool true, .string n]) rfl rfl (H1.out) (by kernel_rfl) rfl ((by simp [Value.oneCell'])) ?_
    have HRR := Lib.hid ((H1.out).setRow ([.bool true, .string n]))
    have HXX := Lib.hid (show Ext w ((w1).setRow y1 ([.bool true, .string n]).toArray) from below_setRow (HX.out) ((by have := HN.out; omega)) _)
    go_simp
    apply wpList_nil
    go_wp2_with fail
    exact bodyPost_ret (results_row0 rfl rfl HRR.out Tryz.underlying38 rfl (by kernel_rfl)) rfl (⟨rfl, HXX.out⟩)
  | false =>
    have hR : turnR vars names false n = nameAt vars names n := by unfold turnR; rw [if_neg (by decide)]
    rw [hR]
    generalize nameAt vars names n = R at *
    clear hR
    -- a function with two boxes at its head: colander/colanderref17.term its name, [.bool false, .string n] [.bool false, .string ⟨#[]⟩] their cells (lists), api.Term api.Term their types' names
    have hbx := boxes2 w ([.bool false, .string n]) 38 ([.bool false, .string ⟨#[]⟩]) 38
    have HBX := Lib.hid hbx
    clear hbx
    go_enter Tryz.func53, Tryz.ntmps53
    go_upto_region 1 with fail
    generalize (w.alloc (.cells ([.bool false, .string n]).toArray 38)).alloc (.cells ([.bool false, .string ⟨#[]⟩]).toArray 38) = w1 at *
    obtain ⟨y0, hy0⟩ : ∃ x, w.heap.size = x := ⟨_, rfl⟩
    obtain ⟨y1, hy1⟩ : ∃ x, y0 + 1 = x := ⟨_, rfl⟩
    rw [hy0, hy1] at HBX
    simp only [hy0, hy1]
    have HN := Lib.hid (show w.heap.size = y0 ∧ y0 + 1 = y1 from ⟨hy0, hy1⟩)
    have HX := Lib.hid HBX.out.1
    have H0 := Lib.hid HBX.out.2.1
    have H1 := Lib.hid HBX.out.2.2
    clear hy0 hy1 HBX
    have k0 := H0.out.cell (i := 0) rfl
    have k1 := H0.out.cell (i := 1) rfl
    have f1 := H0.out.frozen 1
    have HNW := Lib.hid (HNR.out w1 HX.out)
    clear HNR
    go_upto_region 3 with (with_reducible (refine HNW.out.mono ?_); rintro e w' ⟨rfl, hww⟩; rw [hww]; clear hww)
    have hgs := grown_set w1 y0 1 (.string R)
    have H2 := Lib.hid (show RowAt (w1.setCell ⟨y0, 1, none⟩ (.string R)) y0 38 [.bool false, .string R] from H0.out.set 1 (.string R))
    have H3 := Lib.hid (H1.out.kept hgs (by have := HN.out; intro e; have := Option.some.inj e; omega))
    have HX3 := Lib.hid (show Ext w (w1.setCell ⟨y0, 1, none⟩ (.string R)) from Ext.set_of HX.out (by have := HN.out; omega) _)
    clear hgs k0 k1 f1 H0 H1 HX HNW
    generalize w1.setCell ⟨y0, 1, none⟩ (.string R) = w2 at *
    apply wp_region_lit
    -- a load of a whole row: y0 block, H2.out fact RowAt, api.Term the type's name
    refine plain_load rfl _ _ rfl y0 rfl _ _ (H2.out) Tryz.underlying38 rfl (by kernel_rfl) ?_
    go_simp
    -- the result's row is stored, and the function ends: y1 the box's name, H3.out its fact, [.bool false, .string R] the cells, api.Term the type's name, w2 the world now, HX3.out fact Ext, (by have := HN.out; omega) that the box is new, (by simp [Value.oneCell']) proof that each is one cell, ⟨rfl, HXX.out⟩ what is said of the result
    refine plain_store rfl _ _ _ rfl y1 ([.bool false, .string R]) rfl rfl (H3.out) (by kernel_rfl) rfl ((by simp [Value.oneCell'])) ?_
    have HRR := Lib.hid ((H3.out).setRow ([.bool false, .string R]))
    have HXX := Lib.hid (show Ext w ((w2).setRow y1 ([.bool false, .string R]).toArray) from below_setRow (HX3.out) ((by have := HN.out; omega)) _)
    go_simp
    apply wpList_nil
    go_wp2_with fail
    exact bodyPost_ret (results_row0 rfl rfl HRR.out Tryz.underlying38 rfl (by kernel_rfl)) rfl (⟨rfl, HXX.out⟩)
theorem namesB_take_bad {n : Nat} {names : List ByteArray} {k : Nat} (hk : k < names.length) (h : wordB names[k] = false) : namesB n names = false := by
  unfold namesB
  have : names.all wordB = false := by
    refine Bool.eq_false_iff.2 fun e => ?_
    rw [List.all_eq_true] at e
    have := e _ (List.getElem_mem hk)
    rw [h] at this; cases this
  rw [this]; rfl
theorem namesB_twice {n : Nat} {names : List ByteArray} {k j : Nat} (hk : k < names.length) (hj : j < k) (h : names[k] = names[j]) : namesB n names = false := by
  unfold namesB
  have : decide names.Nodup = false := decide_eq_false fun hn => by
    have := (List.getElem_inj hn).1 h
    omega
  rw [this]; simp
theorem namesB_all {n : Nat} {names : List ByteArray} (h1 : ∀ i (hi : i < names.length), wordB names[i] = true) (h2 : ∀ i j (hi : i < names.length) (hj : j < i), names[i] ≠ names[j]) : namesB n names = decide (names.length = n) := by
  unfold namesB
  have e1 : names.all wordB = true := by
    rw [List.all_eq_true]
    intro x hx
    obtain ⟨i, hi, rfl⟩ := List.getElem_of_mem hx
    exact h1 i hi
  have e2 : decide names.Nodup = true := decide_eq_true (List.pairwise_iff_getElem.2 fun i j hi hj hij e => h2 j i hj hij e.symm)
  rw [e1, e2]; rfl
theorem names17_any (v u : Value) (P : Pat) (names : List ByteArray) (w : World) (h : PatAt w v P) (hu : Strs w u names) (hl : P.atoms.length ≤ 100000000) (hs : ∀ s ∈ names, s.size ≤ 9223372036854775800) :
    Calls Tryz.prog 27 #[v, u] w fun e w' => e = .returned (.bool (namesB (varsS P.atoms).length names)) ∧ Ext w w' := by
  obtain ⟨av, rv, hv, rfl, ha, hr, hh⟩ := h
  obtain ⟨a', c', rfl, hd1, hd2⟩ := Sl.shape hu
  have hx1 := Ext.alloc w (.cells (patL av rv hv P).toArray 25)
  have hb0 : RowAt (w.alloc (.cells (patL av rv hv P).toArray 25)) w.heap.size 25 (patL av rv hv P) := RowAt.new _ _ _
  unfold patL at hx1 hb0
  have HX := Lib.hid hx1
  have HB := Lib.hid hb0
  have HU := Lib.hid (Strs.ext hu hx1)
  have HVS := Lib.hid (fun w' (hx : Ext w w') => varsS_any av P.atoms w' (ha.ext hx) hl)
  have HWD := Lib.hid (fun k (hk : k < names.length) w' => wordR' names[k] w' (hs _ (List.getElem_mem hk)))
  have HAL := Lib.hid (@namesB_all (varsS P.atoms).length names)
  have HBD := Lib.hid (fun (k : Nat) (hk : k < names.length) (h : wordB names[k] = false) => namesB_take_bad (n := (varsS P.atoms).length) hk h)
  have HTW := Lib.hid (fun (k j : Nat) (hk : k < names.length) (hj : j < k) (h : names[k] = names[j]) => namesB_twice (n := (varsS P.atoms).length) hk hj h)
  obtain ⟨R, hR⟩ : ∃ R, namesB (varsS P.atoms).length names = R := ⟨_, rfl⟩
  rw [hR] at HAL HBD HTW ⊢
  unfold patV patL
  clear hu ha hr hh hx1 hb0 hR hs
  go_enter Tryz.func27, Tryz.ntmps27
  go_upto_region 1 with fail
  generalize w.heap.size = y0 at *
  generalize hw1 : w.alloc _ = w1 at *
  clear hw1
  go_upto_region 2 with fail
  go_loopg [11] names.length (fun g i wr => ∃ k : Nat, k ≤ names.length ∧ g = names.length - k ∧ i = .int .i64 k ∧ wr = w1 ∧ Hid ((∀ i (hi : i < names.length), i < k → wordB names[i] = true) ∧ (∀ i j (hi : i < names.length) (hj : j < i), i < k → names[i] ≠ names[j])))
  case atStart => exact ⟨0, Nat.zero_le _, rfl, rfl, rfl, Lib.hid ⟨fun _ _ h => by omega, fun _ _ _ _ h => by omega⟩⟩
  case round =>
    obtain ⟨k, hk, hg, rfl, hwr, HR⟩ := hrel
    rw [hwr]
    have Hg := Lib.hid hg
    clear hg hwr
    by_cases hlt : k < names.length
    · obtain ⟨b', o', rfl, c1⟩ := Strs.at_ HU.out hlt
      have HW := Lib.hid (HWD.out k hlt)
      cases hwb : wordB names[k] with
      | false =>
        have HRF : Hid (R = false) := Lib.hid (HBD.out k hlt hwb)
        rw [hwb] at HW
        generalize names[k] = x at *
        clear hwb HR HAL HBD HTW HWD
        go_wp2_with (refine (HW.out w1).mono ?_; rintro e w' ⟨rfl, hww⟩; rw [← hww]; clear hww)
        go_ret
        exact ⟨congrArg (fun z => Ending.returned (.bool z)) HRF.out.symm, HX.out⟩
      | true =>
        rw [hwb] at HW
        have HT := Lib.hid (Strs.takeY HU.out k (by omega))
        have HWB := Lib.hid hwb
        obtain ⟨x, hx⟩ : ∃ x, names[k] = x := ⟨_, rfl⟩
        have HXE := Lib.hid hx
        rw [hx] at c1 HW
        have HKC : k ≤ c' := by omega
        clear hwb HBD HWD hx
        go_upto_region 6 with (with_reducible (refine (HW.out w1).mono ?_); rintro e w' ⟨rfl, hww⟩; rw [← hww]; clear hww)
        clear c1
        go_upto_region 7 with fail
        go_loopg [23] k (fun g i wr => ∃ j : Nat, j ≤ k ∧ g = k - j ∧ i = .int .i64 j ∧ wr = w1 ∧ Hid (∀ i (hi : i < j) (hk : i < names.length), x ≠ names[i]))
        case atStart => exact ⟨0, Nat.zero_le _, rfl, rfl, rfl, Lib.hid fun _ h => by omega⟩
        case round =>
          obtain ⟨j, hj, hgj, rfl, hwr, HJ⟩ := hrel
          rw [hwr]
          have Hgj := Lib.hid hgj
          clear hgj hwr
          by_cases hjk : j < k
          · have hjl : j < (names.take k).length := by rw [List.length_take]; omega
            obtain ⟨b2, o2, e2, c2⟩ := Strs.at_ HT.out hjl
            cases e2
            rw [List.getElem_take] at c2
            by_cases hxe : x = names[j]'(by omega)
            · have HRF : Hid (R = false) := Lib.hid (HTW.out k j hlt hjk (HXE.out.trans hxe))
              have hbs := str_yes hxe
              generalize names[j]'(by omega) = y at *
              clear hxe hjl HTW HAL HJ HXE HR
              go_wp2_with fail
              go_ret
              exact ⟨congrArg (fun z => Ending.returned (.bool z)) HRF.out.symm, HX.out⟩
            · have HJ2 : Hid (∀ i (hi : i < j + 1) (hk : i < names.length), x ≠ names[i]) := Lib.hid fun i hi hk' => by
                by_cases e : i = j
                · subst e; exact hxe
                · exact HJ.out i (by omega) hk'
              have hbs := str_no hxe
              generalize names[j]'(by omega) = y at *
              clear hxe hjl HTW HAL HJ HXE HR
              go_wp2_with fail
              go_roundg (k - (j + 1))
              case measure => have := Hgj.out; omega
              case rel => exact ⟨j + 1, by omega, rfl, by go_num, rfl, HJ2⟩
          · have he : j = k := by omega
            subst he
            have HR2 : Hid ((∀ i (hi : i < names.length), i < j + 1 → wordB names[i] = true) ∧ (∀ i l (hi : i < names.length) (hj : l < i), i < j + 1 → names[i] ≠ names[l])) := by
              refine Lib.hid ⟨fun i hi hij => ?_, fun i l hi hl hij => ?_⟩
              · by_cases e : i = j
                · subst e; exact HWB.out
                · exact HR.out.1 i hi (by omega)
              · by_cases e : i = j
                · subst e; rw [HXE.out]; exact HJ.out l hl (by omega)
                · exact HR.out.2 i l hi hl (by omega)
            clear HR HJ HXE HTW HAL hjk
            go_wp2_with fail
            go_roundg (names.length - (j + 1))
            case measure => have := Hg.out; omega
            case rel => exact ⟨j + 1, by omega, rfl, by go_num, rfl, HR2⟩
    · have he : k = names.length := by omega
      have HRF : Hid (R = decide (names.length = (varsS P.atoms).length)) := Lib.hid (HAL.out (fun i hi => HR.out.1 i hi (by omega)) (fun i j hi hj => HR.out.2 i j hi hj (by omega)))
      subst he
      clear HR HAL HBD HTW HWD
      have k0 := HB.out.cell (i := 0) rfl
      go_wp2_with fail
      refine (HVS.out w1 HX.out).mono ?_
      rintro e w2 ⟨uu, rfl, hvv, hx2⟩
      obtain ⟨a2, c2, rfl, _, _⟩ := Sl.shape hvv
      clear k0 hvv
      go_wp2_with fail
      go_ret
      refine ⟨?_, HX.out.trans hx2⟩
      rw [HRF.out]
      exact congrArg (fun z => Ending.returned (.bool z)) (show ((names.length : Int) == ((varsS P.atoms).length : Int)) = decide (names.length = (varsS P.atoms).length) from by rw [Bool.eq_iff_iff, beq_iff_eq, decide_eq_true_iff]; omega)
end Go.Proofs.YthoneahamnmjlaaGreatDoor

/- A pattern spoiled by the law: only own rows turn. -/
namespace Go.Proofs.YthoneahamnmjlaaGreatDoor
set_option maxRecDepth 100000
set_option maxHeartbeats 2000000
set_option linter.unusedSimpArgs false
open Go.RowKit Go.Shelf Go.Sort
attribute [local go_sem] Oper.semAt_some wide_fn wide_depth
set_option linter.unusedVariables false

/-- Cells of texts, none of them long; none lies in block Y. -/
def StrC (W : World) (B Y : Nat) (a : Option Addr) (n S : Nat) : Prop := ∀ i, i < n → ∃ b o t, a = some ⟨b, o, none⟩ ∧ B ≤ b ∧ b ≠ Y ∧ W.cell? ⟨b, o + i, none⟩ = some (.string t) ∧ t.size ≤ S ∧ W.frozen? ⟨b, o + i, none⟩ = false
def KndC (W : World) (B Y : Nat) (a : Option Addr) (n S : Nat) : Prop := ∀ i, i < n → ∃ b o, ∃ q : Nat, a = some ⟨b, o, none⟩ ∧ B ≤ b ∧ b ≠ Y ∧ W.cell? ⟨b, o + i * 7, none⟩ = some (.int .i64 q) ∧ q ≤ S ∧ W.frozen? ⟨b, o + i * 7, none⟩ = false
theorem own_frozen {W : World} {B m n g c : Nat} {e : TypeId} {o : Nat} {xs : List Value} (h : W.ownsRow B e m (.slice (some ⟨g, o, none⟩) n c) n xs) : B ≤ g ∧ g < W.heap.size ∧ ∀ i, W.frozen? ⟨g, i, none⟩ = false := by
  have hlt := own_lt h (g := g) rfl
  refine ⟨hlt.1, hlt.2, fun i => ?_⟩
  rcases h.2 with ⟨e, _⟩ | ⟨g', cap, cur, e, hb, hg, _⟩
  · cases e
  · cases e
    exact (show RowAt W g _ cur.toList by unfold RowAt; simpa using hg).frozen i
theorem StrC.of {W : World} {B Y S n : Nat} {v : Value} {l : List ByteArray} (h : W.ownsRow B 9 1 v n (l.map Value.string)) (hs : ∀ s ∈ l, s.size ≤ S) (hY : ∀ g, v.ownBlock = some g → g ≠ Y) : ∃ a c, v = .slice a n c ∧ n ≤ c ∧ c ≤ 9223372036854775807 ∧ StrC W B Y a n S := by
  obtain ⟨a, c, rfl, h1, h2⟩ := Sl.shape (Sl.of_own h)
  refine ⟨a, c, rfl, h1, h2, fun i hi => ?_⟩
  have hl : l.length = n := by have := h.1; simpa using this
  have hst : Strs W (.slice a n c) l := by unfold Strs; rw [hl]; exact Sl.of_own h
  obtain ⟨b, o, rfl, hc⟩ := Strs.at_ hst (show i < l.length by omega)
  have hf := own_frozen h
  exact ⟨b, o, _, rfl, hf.1, hY b rfl, hc, hs _ (List.getElem_mem _), hf.2.2 _⟩
theorem KndC.of {W : World} {B Y S n : Nat} {v : Value} {l : List Atm} (h : W.ownsRow B 40 7 v n (l.flatMap atCells)) (hs : ∀ a ∈ l, 0 ≤ a.kind ∧ a.kind ≤ S) (hY : ∀ g, v.ownBlock = some g → g ≠ Y) : ∃ a c, v = .slice a n c ∧ n ≤ c ∧ c ≤ 9223372036854775807 ∧ KndC W B Y a n S := by
  obtain ⟨a, c, rfl, h1, h2⟩ := Sl.shape (Sl.of_own h)
  refine ⟨a, c, rfl, h1, h2, fun i hi => ?_⟩
  have hl : l.length = n := by
    have := h.1
    rw [flatMap_len atCells 7 (fun _ => rfl) l] at this
    omega
  have hst : Ats W (.slice a n c) l := by unfold Ats; rw [hl]; exact Sl.of_own h
  obtain ⟨b, o, rfl, hc, _⟩ := Ats.at_ hst (show i < l.length by omega)
  have hf := own_frozen h
  have hq := hs _ (List.getElem_mem (show i < l.length by omega))
  refine ⟨b, o, (l[i]'(by omega)).kind.toNat, rfl, hf.1, hY b rfl, ?_, by omega, hf.2.2 _⟩
  rw [hc, Int.toNat_of_nonneg hq.1]
theorem StrC.more {W : World} {B Y n S S' : Nat} {a : Option Addr} (h : StrC W B Y a n S) (hS : S ≤ S') : StrC W B Y a n S' := fun i hi => by
  obtain ⟨b, o, t, e, h1, h2, h3, h4, h5⟩ := h i hi
  exact ⟨b, o, t, e, h1, h2, h3, by omega, h5⟩
theorem KndC.more {W : World} {B Y n S S' : Nat} {a : Option Addr} (h : KndC W B Y a n S) (hS : S ≤ S') : KndC W B Y a n S' := fun i hi => by
  obtain ⟨b, o, t, e, h1, h2, h3, h4, h5⟩ := h i hi
  exact ⟨b, o, t, e, h1, h2, h3, by omega, h5⟩
theorem StrC.set {W : World} {B Y n S : Nat} {a : Option Addr} (h : StrC W B Y a n S) {p : Addr} {s : ByteArray} (hs : s.size ≤ S) : StrC (W.setCell p (.string s)) B Y a n S := fun i hi => by
  obtain ⟨b, o, t, e, h1, h2, h3, h4, h5⟩ := h i hi
  by_cases hp : p = ⟨b, o + i, none⟩
  · subst hp
    exact ⟨b, o, s, e, h1, h2, World.cell?_setCell_same _ _ _ h3, hs, (World.frozen?_setCell _ _ _ _).trans h5⟩
  · exact ⟨b, o, t, e, h1, h2, (World.cell?_setCell_other _ _ _ _ hp).trans h3, h4, (World.frozen?_setCell _ _ _ _).trans h5⟩
theorem KndC.set {W : World} {B Y n S : Nat} {a : Option Addr} (h : KndC W B Y a n S) {p : Addr} {s : Nat} (hs : s ≤ S) : KndC (W.setCell p (.int .i64 s)) B Y a n S := fun i hi => by
  obtain ⟨b, o, t, e, h1, h2, h3, h4, h5⟩ := h i hi
  by_cases hp : p = ⟨b, o + i * 7, none⟩
  · subst hp
    exact ⟨b, o, s, e, h1, h2, World.cell?_setCell_same _ _ _ h3, hs, (World.frozen?_setCell _ _ _ _).trans h5⟩
  · exact ⟨b, o, t, e, h1, h2, (World.cell?_setCell_other _ _ _ _ hp).trans h3, h4, (World.frozen?_setCell _ _ _ _).trans h5⟩
theorem StrC.setK {W : World} {B Y n S : Nat} {a : Option Addr} (h : StrC W B Y a n S) {p : Addr} {q : Int} (hp : W.cell? p = some (.int .i64 q)) (v : Value) : StrC (W.setCell p v) B Y a n S := fun i hi => by
  obtain ⟨b, o, t, e, h1, h2, h3, h4, h5⟩ := h i hi
  exact ⟨b, o, t, e, h1, h2, (World.cell?_setCell_other _ _ _ _ (fun e => by rw [e, h3] at hp; cases hp)).trans h3, h4, (World.frozen?_setCell _ _ _ _).trans h5⟩
theorem KndC.setS {W : World} {B Y n S : Nat} {a : Option Addr} (h : KndC W B Y a n S) {p : Addr} {q : ByteArray} (hp : W.cell? p = some (.string q)) (v : Value) : KndC (W.setCell p v) B Y a n S := fun i hi => by
  obtain ⟨b, o, t, e, h1, h2, h3, h4, h5⟩ := h i hi
  exact ⟨b, o, t, e, h1, h2, (World.cell?_setCell_other _ _ _ _ (fun e => by rw [e, h3] at hp; cases hp)).trans h3, h4, (World.frozen?_setCell _ _ _ _).trans h5⟩
/-- What stands while a pattern is spoiled. -/
structure SpoS (w : World) (B Y : Nat) (px : List Value) (a r h : Option Addr) (na nr nh S : Nat) (W : World) : Prop where
  below : Below B w W
  row : RowAt W Y 25 px
  ca : KndC W B Y a na S
  cr : StrC W B Y r nr S
  ch : StrC W B Y h nh S
theorem SpoS.kind {w : World} {B Y : Nat} {px : List Value} {a r h : Option Addr} {na nr nh S : Nat} {W : World} (H : SpoS w B Y px a r h na nr nh S W) {b o q : Nat} (hc : W.cell? ⟨b, o, none⟩ = some (.int .i64 q)) (hq : q ≤ S) (hB : B ≤ b) (hY : b ≠ Y) : SpoS w B Y px a r h na nr nh (S + 1) (W.setCell ⟨b, o, none⟩ (.int .i64 ((q + 1 : Nat) : Int))) :=
  ⟨H.below.setCell (p := ⟨b, o, none⟩) hB _, H.row.kept (grown_set W b o _) (fun e => hY (Option.some.inj e)), (H.ca.more (Nat.le_succ _)).set (by omega), (H.cr.more (Nat.le_succ _)).setK hc _, (H.ch.more (Nat.le_succ _)).setK hc _⟩
theorem SpoS.text {w : World} {B Y : Nat} {px : List Value} {a r h : Option Addr} {na nr nh S : Nat} {W : World} (H : SpoS w B Y px a r h na nr nh S W) {b o : Nat} {q s : ByteArray} (hc : W.cell? ⟨b, o, none⟩ = some (.string q)) (hq : s.size ≤ S + 1) (hB : B ≤ b) (hY : b ≠ Y) : SpoS w B Y px a r h na nr nh (S + 1) (W.setCell ⟨b, o, none⟩ (.string s)) :=
  ⟨H.below.setCell (p := ⟨b, o, none⟩) hB _, H.row.kept (grown_set W b o _) (fun e => hY (Option.some.inj e)), (H.ca.more (Nat.le_succ _)).setS hc _, (H.cr.more (Nat.le_succ _)).set hq, (H.ch.more (Nat.le_succ _)).set hq⟩
set_option maxRecDepth 100000 in
theorem spoil_any (u : Value) (P : Pat) (B : Nat) (w : World) (h : PatIn B w u P) (hB : B ≤ w.heap.size) (ha : ∀ a ∈ P.atoms, 0 ≤ a.kind ∧ a.kind ≤ ((1000000 : Nat) : Int)) (hr : ∀ s ∈ P.ret, s.size ≤ 1000000) (hh : ∀ s ∈ P.hint, s.size ≤ 1000000) (h1 : P.atoms.length ≤ 100000) (h2 : P.ret.length ≤ 100000) (h3 : P.hint.length ≤ 100000) :
    Calls Tryz.prog 24 #[u] w fun e w' => e = .returned (.tuple #[]) ∧ Below B w w' := by
  obtain ⟨av, rv, hv, rfl, oa, or_, oh⟩ := h
  have hx1 := Ext.alloc w (.cells (patL av rv hv P).toArray 25)
  have hb0 : RowAt (w.alloc (.cells (patL av rv hv P).toArray 25)) w.heap.size 25 (patL av rv hv P) := RowAt.new _ _ _
  have hne : ∀ {e : TypeId} {m n : Nat} {v : Value} {xs : List Value}, w.ownsRow B e m v n xs → ∀ g, v.ownBlock = some g → g ≠ w.heap.size := fun h g hg => by have := (own_lt h hg).2; omega
  obtain ⟨a, ac, rfl, hac, _, ca⟩ := KndC.of (own_ext oa hx1) ha (hne oa)
  obtain ⟨r, rc, rfl, hrc, _, cr⟩ := StrC.of (own_ext or_ hx1) hr (hne or_)
  obtain ⟨z, zc, rfl, hzc, _, cz⟩ := StrC.of (own_ext oh hx1) hh (hne oh)
  unfold patL at hb0 ca cr cz hx1
  have HS := Lib.hid (show SpoS w B w.heap.size [.slice a P.atoms.length ac, .slice r P.ret.length rc, .bool P.count, .bool P.distinct, .bool P.limited, .int .i64 P.limit, .int .i64 P.offset, .slice z P.hint.length zc] a r z P.atoms.length P.ret.length P.hint.length 1000000 (w.alloc (.cells #[.slice a P.atoms.length ac, .slice r P.ret.length rc, .bool P.count, .bool P.distinct, .bool P.limited, .int .i64 P.limit, .int .i64 P.offset, .slice z P.hint.length zc] 25)) from ⟨Below.mono hx1 hB, hb0, ca, cr, cz⟩)
  unfold patV patL
  clear hx1 hb0 ca cr cz hne oa or_ oh ha hr hh
  go_enter Tryz.func24, Tryz.ntmps24
  go_upto_region 1 with fail
  generalize w.alloc _ = w1 at *
  generalize w.heap.size = y0 at *
  have k0 := HS.out.row.cell (i := 0) rfl
  go_upto_region 2 with fail
  clear k0
  go_loopg [8] P.atoms.length (fun g i wr => ∃ k : Nat, k ≤ P.atoms.length ∧ g = P.atoms.length - k ∧ i = .int .i64 k ∧ SpoS w B y0 [.slice a P.atoms.length ac, .slice r P.ret.length rc, .bool P.count, .bool P.distinct, .bool P.limited, .int .i64 P.limit, .int .i64 P.offset, .slice z P.hint.length zc] a r z P.atoms.length P.ret.length P.hint.length (1000000 + k) wr)
  case atStart => exact ⟨0, Nat.zero_le _, rfl, rfl, HS.out⟩
  case round =>
    obtain ⟨k, hk, hg, rfl, hs⟩ := hrel
    have Hg := Lib.hid hg
    have HS1 := Lib.hid hs
    clear hg hs HS
    have k0 := HS1.out.row.cell (i := 0) rfl
    by_cases hlt : k < P.atoms.length
    · obtain ⟨b, o, q, rfl, hb1, hb2, c0, hq, f0⟩ := HS1.out.ca k hlt
      have HN := Lib.hid (HS1.out.kind c0 hq hb1 hb2)
      clear hb1 hb2
      go_wp2_with fail
      go_roundg (P.atoms.length - (k + 1))
      case measure => have := Hg.out; omega
      case rel => exact ⟨k + 1, by omega, rfl, by go_num, HN.out⟩
    · have he : k = P.atoms.length := by omega
      have k1 := HS1.out.row.cell (i := 1) rfl
      subst he
      clear Hg
      have he := 0
      go_upto_region 7 with fail
      clear k0 k1 he
      go_loopg [24] P.ret.length (fun g i wr => ∃ k : Nat, k ≤ P.ret.length ∧ g = P.ret.length - k ∧ i = .int .i64 k ∧ SpoS w B y0 [.slice a P.atoms.length ac, .slice r P.ret.length rc, .bool P.count, .bool P.distinct, .bool P.limited, .int .i64 P.limit, .int .i64 P.offset, .slice z P.hint.length zc] a r z P.atoms.length P.ret.length P.hint.length (1000000 + P.atoms.length + k) wr)
      case atStart => exact ⟨0, Nat.zero_le _, rfl, rfl, HS1.out⟩
      case round =>
        obtain ⟨k, hk, hg, rfl, hs⟩ := hrel
        have Hg := Lib.hid hg
        have HS2 := Lib.hid hs
        clear hg hs HS1
        have k0 := HS2.out.row.cell (i := 1) rfl
        by_cases hlt : k < P.ret.length
        · obtain ⟨b, o, q, rfl, hb1, hb2, c0, hq, f0⟩ := HS2.out.cr k hlt
          have hs1 : (q ++ (⟨#[120]⟩ : ByteArray)).size = q.size + 1 := by rw [ByteArray.size_append]; rfl
          have HN := Lib.hid (HS2.out.text (s := q ++ (⟨#[120]⟩ : ByteArray)) c0 (by omega) hb1 hb2)
          have hz : ¬ 9223372036854775807 < q.size + 1 := by omega
          clear hb1 hb2 hs1 hq
          go_wp2_with fail
          go_roundg (P.ret.length - (k + 1))
          case measure => have := Hg.out; omega
          case rel => exact ⟨k + 1, by omega, rfl, by go_num, HN.out⟩
        · have he : k = P.ret.length := by omega
          subst he
          clear Hg
          have k1 := HS2.out.row.cell (i := 7) rfl
          have he := 0
          go_upto_region 12 with fail
          clear k0 k1 he
          go_loopg [38] P.hint.length (fun g i wr => ∃ k : Nat, k ≤ P.hint.length ∧ g = P.hint.length - k ∧ i = .int .i64 k ∧ SpoS w B y0 [.slice a P.atoms.length ac, .slice r P.ret.length rc, .bool P.count, .bool P.distinct, .bool P.limited, .int .i64 P.limit, .int .i64 P.offset, .slice z P.hint.length zc] a r z P.atoms.length P.ret.length P.hint.length (1000000 + P.atoms.length + P.ret.length + k) wr)
          case atStart => exact ⟨0, Nat.zero_le _, rfl, rfl, HS2.out⟩
          case round =>
            obtain ⟨k, hk, hg, rfl, hs⟩ := hrel
            have Hg := Lib.hid hg
            have HS3 := Lib.hid hs
            clear hg hs HS2
            have k0 := HS3.out.row.cell (i := 7) rfl
            by_cases hlt : k < P.hint.length
            · obtain ⟨b, o, q, rfl, hb1, hb2, c0, hq, f0⟩ := HS3.out.ch k hlt
              have hs1 : (q ++ (⟨#[120]⟩ : ByteArray)).size = q.size + 1 := by rw [ByteArray.size_append]; rfl
              have HN := Lib.hid (HS3.out.text (s := q ++ (⟨#[120]⟩ : ByteArray)) c0 (by omega) hb1 hb2)
              have hz : ¬ 9223372036854775807 < q.size + 1 := by omega
              clear hb1 hb2 hs1 hq
              go_wp2_with fail
              go_roundg (P.hint.length - (k + 1))
              case measure => have := Hg.out; omega
              case rel => exact ⟨k + 1, by omega, rfl, by go_num, HN.out⟩
            · have he : k = P.hint.length := by omega
              have HE := Lib.hid HS3.out.below
              go_wp2_with fail
              go_end0
              exact ⟨rfl, HE.out⟩
end Go.Proofs.YthoneahamnmjlaaGreatDoor
