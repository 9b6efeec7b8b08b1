/- The law ResolveKeys returns true. -/
import Derived.Test.YtkmbnghghbfkdaaGreatGp38
import Derived.Test.YtkmbnghghbfkdaaGreatGp11
namespace Go.Proofs.YtkmbnghghbfkdaaGreat
set_option maxRecDepth 100000
set_option maxHeartbeats 2000000
set_option linter.unusedSimpArgs false
open Go.RowKit Go.Shelf Go.Sort
attribute [local go_sem] Oper.semAt_some wide_fn wide_depth
set_option linter.unusedVariables false

/-- Rows of numbers, each in memory of its own. -/
def URows (B : Nat) (w : World) (v : Value) (xs : List (Value × List Int)) : Prop := w.ownsRow B 59 1 v xs.length (xs.map Prod.fst) ∧ ∀ x ∈ xs, w.ownsRow B 61 1 x.1 x.2.length (x.2.map (Value.int .u64))
theorem URows.none (B : Nat) (w : World) : URows B w (.slice Option.none 0 0) [] := ⟨World.ownsRow_nil _ _ _ _, fun x hx => by cases hx⟩
theorem URows.ext {B : Nat} {w w' : World} {v : Value} {xs : List (Value × List Int)} (h : URows B w v xs) (hx : Ext w w') : URows B w' v xs := ⟨own_ext h.1 hx, fun x hm => own_ext (h.2 x hm) hx⟩
theorem URows.snoc {B : Nat} {w w' : World} {v v' : Value} {ys : List (Value × List Int)} {u : Value} {s : List Int} (h1 : w.ownsRow B 59 1 v ys.length (ys.map Prod.fst)) (h2 : ∀ x ∈ ys, w.ownsRow B 61 1 x.1 x.2.length (x.2.map (Value.int .u64))) (hu : w.ownsRow B 61 1 u s.length (s.map (Value.int .u64)))
    (h3 : w'.ownsRow B 59 1 v' (ys.length + 1) (ys.map Prod.fst ++ [u])) (hg : w.grownBy w' v.ownBlock) : URows B w' v' (ys ++ [(u, s)]) := by
  refine ⟨by rw [List.length_append, List.map_append]; exact h3, fun x hx => ?_⟩
  rcases List.mem_append.1 hx with hx | hx
  · exact own_apart (h2 x hx) hg (fun b hb => own_ne_own (h2 x hx) h1 (by decide) b hb)
  · rw [List.mem_singleton.1 hx]
    exact own_apart hu hg (fun b hb => own_ne_own hu h1 (by decide) b hb)
theorem URows.view {B : Nat} {w : World} {v : Value} {xs : List (Value × List Int)} (h : URows B w v xs) : RowsV w .u64 v xs := ⟨Sl.of_own h.1, fun x hm => Sl.of_own (h.2 x hm)⟩
theorem elURow : ElT Tryz.prog 58 59 (.slice none 0 0) 1 24 := ⟨Tryz.underlying58, ⟨_, rfl, by kernel_rfl, by kernel_rfl, by kernel_rfl⟩, rfl, by decide⟩
/-- The keys of those that have one. -/
def keysW (T : List ByteArray) (l : List Int) : List ByteArray := (l.filter fun n => decide (n.toNat < T.length)).map (keyF T)
theorem keysW_all {T : List ByteArray} {l : List Int} (h : InK T l) : keysW T l = l.map (keyF T) := by
  unfold keysW
  rw [List.filter_eq_self.2 (fun n hn => decide_eq_true (h n hn))]
theorem keysW_next {T : List ByteArray} {l : List Int} {k : Nat} (hk : k < l.length) : keysW T (l.take (k + 1)) = keysW T (l.take k) ++ (if l[k].toNat < T.length then [keyF T l[k]] else []) := by
  unfold keysW
  rw [List.take_succ_eq_append_getElem hk, List.filter_append, List.map_append]
  congr 1
  by_cases h : l[k].toNat < T.length <;> simp [h]
def NoI (T : List ByteArray) (X A : List (List Int)) (nv : Int) : Prop := (nv = 0 ∧ ∀ l ∈ A, InK T l) ∨ (nv = 2 ∧ ¬ ∀ l ∈ X, InK T l)
def NoJ (T : List ByteArray) (X A : List (List Int)) (l : List Int) (nv : Int) : Prop := (nv = 0 ∧ (∀ l ∈ A, InK T l) ∧ InK T l) ∨ (nv = 2 ∧ ¬ ∀ l ∈ X, InK T l)
theorem NoJ.start {T : List ByteArray} {X A : List (List Int)} {nv : Int} (h : NoI T X A nv) : NoJ T X A [] nv := by
  rcases h with ⟨h1, h2⟩ | h
  · exact .inl ⟨h1, h2, fun n hn => by cases hn⟩
  · exact .inr h
theorem NoJ.next {T : List ByteArray} {X A : List (List Int)} {l : List Int} {nv : Int} (h : NoJ T X A l nv) : NoI T X (A ++ [l]) nv := by
  rcases h with ⟨h1, h2, h3⟩ | h
  · refine .inl ⟨h1, fun x hx => ?_⟩
    rcases List.mem_append.1 hx with hx | hx
    · exact h2 x hx
    · rw [List.mem_singleton.1 hx]; exact h3
  · exact .inr h
theorem NoJ.step {T : List ByteArray} {X A : List (List Int)} {l : List Int} {nv : Int} {j : Nat} (hin : l ∈ X) (hj : j < l.length) (h : NoJ T X A (l.take j) nv) :
    (l[j].toNat < T.length → NoJ T X A (l.take (j + 1)) nv) ∧ (¬ l[j].toNat < T.length → NoJ T X A (l.take (j + 1)) 2) := by
  refine ⟨fun hq => ?_, fun hq => .inr ⟨rfl, fun ha => hq (ha l hin _ (List.getElem_mem hj))⟩⟩
  rcases h with ⟨h1, h2, h3⟩ | h
  · exact .inl ⟨h1, h2, inK_cons hj h3 hq⟩
  · exact .inr h
set_option maxRecDepth 100000 in
set_option maxHeartbeats 4000000 in
theorem rkeys_walk (v0 : Value) (D : Dic) (v1 : Value) (zs : List (Value × List Int)) (w : World) (h0 : ∃ vs, v0 = dv vs ∧ DicV w vs D ∧ ∀ i, i < 5 → ∀ s ∈ (D i).1, s.size ≤ 9223372036854775807)
    (h1 : RowsV w .u64 v1 zs ∧ ∀ x ∈ zs, ∀ n ∈ x.2, 0 ≤ n ∧ n < 18446744073709551616) :
    Calls Tryz.prog 6 #[v0, v1] w fun e w' => e = .returned (.bool true) ∧ Ext w w' := by
  obtain ⟨vs, rfl, hV0, hs0⟩ := h0
  obtain ⟨A, hA1, hA2⟩ := heads hV0.shape
  rw [show dv vs = dv (hv A) from by unfold dv; rw [hA2]]
  have hV : DicV w (hv A) D := fun i hi => by rw [← hA1 i hi]; exact hV0 i hi
  clear hA1 hA2 hV0
  have HOW := Lib.hid (fun w' (hx : Ext w w') => ownDic18_any (hv A) D w' (hV.ext hx))
  have HDS := Lib.hid (cutD_s hs0)
  obtain ⟨hzv, hzn⟩ := h1
  obtain ⟨za, zc, rfl, hzc, hzm⟩ := Sl.shape hzv.1
  have HZ := Lib.hid hzv
  have HZN := Lib.hid hzn
  have H0 := Lib.hid (RowAt.new w 28 (dcells (hv A)))
  have HX := Lib.hid (Ext.alloc w (.cells (dcells (hv A)).toArray 28))
  clear hV hs0 hzv hzn
  unfold dv at *
  go_enter Tryz.func6, Tryz.ntmps6
  go_upto_region 1 with fail
  generalize w.alloc (.cells (dcells (hv A)).toArray 28) = w1 at *
  obtain ⟨y0, hy0⟩ : ∃ x, w.heap.size = x := ⟨_, rfl⟩
  rw [hy0] at H0
  simp only [hy0]
  clear hy0
  go_wp2_with fail
  refine (wakesG_any w1).mono ?_
  rintro e w2 ⟨rfl, hx2⟩
  have HX2 := Lib.hid (HX.out.trans hx2)
  replace H0 := Lib.hid (H0.out.ext hx2)
  clear hx2 HX
  go_upto_region 3 with fail
  apply wp_region_lit
  -- a load of a whole row: y0 block, H0.out fact RowAt, api.Dict the type's name
  refine plain_load rfl _ _ rfl y0 rfl _ _ (H0.out) Tryz.underlying28 rfl (by kernel_rfl) ?_
  go_simp
  -- a call in a plain region: refine (HOW.out w2 HX2.out).mono ?_; rintro e w3 ⟨us, rfl, hus, hx3⟩ the contract taken, and its results named
  refine wpList_plain rfl fun K1 hK1 => ?_
  go_simp
  refine (HOW.out w2 HX2.out).mono ?_; rintro e w3 ⟨us, rfl, hus, hx3⟩
  go_simp
  refine hK1 _ _ ?_
  clear hK1 K1
  obtain ⟨A5, hA1, hA2⟩ := heads (vs := us) (fun i hi => by obtain ⟨a, c, b, d, e, _⟩ := (hus i hi).pair; exact ⟨_, _, _, _, _, _, e⟩)
  have hus' : DicOwn w2.heap.size w3 (hv A5) (cutD D) := fun i hi => by rw [← hA1 i hi]; exact hus i hi
  rw [show dcells us = dcells (hv A5) from hA2]
  have HU := Lib.hid hus'
  have HX3 := Lib.hid (HX2.out.trans hx3)
  clear hA1 hA2 hus hus' hx3 HX2 H0 HOW
  -- in a plain region: memory is made and written: w3 world before, #[.slice none 0 0, .slice none 0 0, .slice none 0 0, .slice none 0 0, .slice none 0 0, .slice none 0 0, .slice none 0 0, .slice none 0 0, .slice none 0 0, .slice none 0 0] zero cells (a literal array), api.Dict type's name, y block's name, dcells (hv A5) new cells (a list), (by simp [dcells, hv, Value.oneCell']) proof that each is one cell, w4 world behind. Facts: HEw4 (Ext), HRy (the row), HSy (where it is)
  refine wpList_plain rfl fun K1 hK1 => ?_
  go_simp
  refine hK1 _ _ ?_
  clear hK1 K1
  have hax := Ext.alloc w3 (.cells #[.slice none 0 0, .slice none 0 0, .slice none 0 0, .slice none 0 0, .slice none 0 0, .slice none 0 0, .slice none 0 0, .slice none 0 0, .slice none 0 0, .slice none 0 0] 28)
  have har : RowAt (w3.alloc (.cells #[.slice none 0 0, .slice none 0 0, .slice none 0 0, .slice none 0 0, .slice none 0 0, .slice none 0 0, .slice none 0 0, .slice none 0 0, .slice none 0 0, .slice none 0 0] 28)) w3.heap.size 28 (#[.slice none 0 0, .slice none 0 0, .slice none 0 0, .slice none 0 0, .slice none 0 0, .slice none 0 0, .slice none 0 0, .slice none 0 0, .slice none 0 0, .slice none 0 0]).toList := RowAt.new _ _ _
  refine plain_store rfl _ _ _ rfl w3.heap.size (dcells (hv A5)) rfl rfl har (by kernel_rfl) rfl ((by simp [dcells, hv, Value.oneCell'])) ?_
  have hex : Ext w3 ((w3.alloc (.cells #[.slice none 0 0, .slice none 0 0, .slice none 0 0, .slice none 0 0, .slice none 0 0, .slice none 0 0, .slice none 0 0, .slice none 0 0, .slice none 0 0, .slice none 0 0] 28)).setRow w3.heap.size (dcells (hv A5)).toArray) := below_setRow hax (Nat.le_refl _) _
  have HEw4 := Lib.hid hex
  have HRy := Lib.hid (har.setRow (dcells (hv A5)))
  clear hax har hex
  go_simp
  generalize (w3.alloc (.cells #[.slice none 0 0, .slice none 0 0, .slice none 0 0, .slice none 0 0, .slice none 0 0, .slice none 0 0, .slice none 0 0, .slice none 0 0, .slice none 0 0, .slice none 0 0] 28)).setRow w3.heap.size (dcells (hv A5)).toArray = w4 at *
  obtain ⟨y, hsy⟩ : ∃ x, w3.heap.size = x := ⟨_, rfl⟩
  rw [hsy] at HRy
  simp only [hsy]
  have HSy := Lib.hid hsy
  clear hsy
  apply wpList_nil
  have HX4 := Lib.hid (HX3.out.trans HEw4.out)
  have HU4 := Lib.hid (HU.out.ext HEw4.out)
  have HB4 := Lib.hid (show RowAt w4 y 28 (dcells (hv A5)) from HRy.out)
  have HZ4 := Lib.hid (HZ.out.ext HX4.out)
  obtain ⟨m, hm⟩ : ∃ m, min zs.length 8 = m := ⟨_, rfl⟩
  have im : min (zs.length : Int) 8 = m := by omega
  have lm : m ≤ zs.length := by omega
  have lc : m ≤ zc := by omega
  have hm8 : m ≤ 8 := by omega
  clear HX3 HU HRy HSy HEw4 HZ hm
  go_wp2_with fail
  go_loopg [6, 28] m (fun g out i wr => ∃ (k : Nat) (ys : List (Value × List Int)) (oa : Option Addr) (oc : Nat), k ≤ m ∧ g = m - k ∧ i = .int .i64 k ∧ out = .slice oa k oc ∧ Hid (ys.length = k ∧ ys.map Prod.snd = (zs.take k).map (fun x => x.2.take 8)) ∧ Hid (Ext w4 wr) ∧ Hid (URows w4.heap.size wr (.slice oa k oc) ys))
  case atStart => exact ⟨0, [], none, 0, Nat.zero_le _, rfl, rfl, rfl, Lib.hid ⟨rfl, rfl⟩, Lib.hid (Ext.refl _), Lib.hid (URows.none _ _)⟩
  case round =>
    obtain ⟨k, ys, oa, oc, hk, hg, rfl, rfl, HI, HXR, HO⟩ := hrel
    have Hg := Lib.hid hg
    clear hg
    have hk6 : k ≤ 8 := by omega
    by_cases hlt : k < m
    · have hltz : k < zs.length := by omega
      obtain ⟨⟨b, o, rfl, c0⟩, hints⟩ := (HZ4.out.ext HXR.out).at_ hltz
      have hst : ∀ q, (ys ++ [(q, zs[k].2.take 8)]).length = k + 1 ∧ (ys ++ [(q, zs[k].2.take 8)]).map Prod.snd = (zs.take (k + 1)).map (fun x => x.2.take 8) := by
        intro q
        obtain ⟨i1, i2⟩ := HI.out
        rw [List.take_succ_eq_append_getElem hltz]
        exact ⟨by simp [i1], by rw [List.map_append, List.map_append, i2]; rfl⟩
      generalize zs[k] = x at *
      obtain ⟨xv, l⟩ := x
      dsimp only at c0 hints hst
      obtain ⟨la, lc, rfl, hlc, _⟩ := hints.shape
      obtain ⟨q, hq⟩ : ∃ q, min l.length 8 = q := ⟨_, rfl⟩
      have iq : min (l.length : Int) 8 = q := by omega
      have lq : q ≤ l.length := by omega
      have qc : q ≤ lc := by omega
      have ht : l.take 8 = l.take q := by rw [← hq, List.take_eq_take_min, Nat.min_comm]
      obtain ⟨L, hL⟩ : ∃ L, l.take q = L := ⟨_, rfl⟩
      have hLl : L.length = q := by rw [← hL, List.length_take]; omega
      have HC := Lib.hid (cloneU18 (.slice la q lc) L wr (hL ▸ hints.take q lq) (by omega))
      rw [ht, hL] at hst
      have HST := Lib.hid hst
      have HLL := Lib.hid hLl
      clear hst ht hL hLl hints hq
      go_wp2_with fail
      refine HC.out.mono ?_
      rintro e w5 ⟨ca, cc, rfl, hc5, hx5⟩
      have hrow := HO.out.ext (hx5.trans (Ext.alloc w5 (.cells #[.slice ca L.length cc] 59)))
      have hrow1 : (w5.alloc (.cells #[.slice ca L.length cc] 59)).ownsRow w4.heap.size 59 1 (.slice oa k oc) k (ys.map Prod.fst) := by have := hrow.1; rwa [HI.out.1] at this
      have hcw : (w5.alloc (.cells #[.slice ca L.length cc] 59)).ownsRow w4.heap.size 61 1 (.slice ca L.length cc) L.length (L.map (Value.int .u64)) := own_ext (own_base hc5 HXR.out.size) (Ext.alloc _ _)
      have HRS := Lib.hid hrow
      have HCW := Lib.hid hcw
      have HX5 := Lib.hid (HXR.out.trans hx5)
      have hszz : w4.heap.size ≤ w5.heap.size := HX5.out.size
      have HSZ := Lib.hid hszz
      clear hrow hcw hc5 hx5 HXR HO c0 HC hszz
      go_wp2_with (at_builtin; refine wpList_append_sl _ rfl _ _ 58 rfl elURow rfl hrow1 rfl (Sl.new _ #[.slice ca L.length cc] 59 1 1 (Nat.le_refl _) ?_) rfl ?_ ?_ ?_ ?_ ?_)
      · unfold maxLen; omega
      · rfl
      · omega
      · unfold maxLen; omega
      · have := HSZ.out; simp; omega
      intro v' w6 how6 hb6 hg6 _
      obtain ⟨va, vc, rfl⟩ := own_vw how6
      have HX6 := Lib.hid (show Ext w4 w6 from Below.trans (HX5.out.trans (Ext.alloc _ _)) hb6)
      have hsn := URows.snoc HRS.out.1 HRS.out.2 HCW.out (v' := .slice va (k + 1) vc) (w' := w6) (by rw [HI.out.1]; exact how6) hg6
      have HSN := Lib.hid hsn
      have HI6 := Lib.hid (HST.out (.slice ca L.length cc))
      clear how6 hb6 hg6 hsn hrow1
      go_wp2_with fail
      go_roundg (m - (k + 1))
      case measure => have := Hg.out; omega
      case rel => exact ⟨k + 1, _, va, vc, by omega, rfl, by first | rfl | go_num, rfl, HI6, HX6, HSN⟩
    · have he : k = m := by omega
      subst he
      obtain ⟨wo, hwo⟩ : ∃ x, x = wr := ⟨_, rfl⟩
      subst hwo
      have hyl : ys.length = k := HI.out.1
      have hyx : ∀ x ∈ ys, (∀ n ∈ x.2, 0 ≤ n ∧ n < 18446744073709551616) ∧ x.2.length ≤ 8 := by
        intro x hx
        have h1 : x.2 ∈ ys.map Prod.snd := List.mem_map.2 ⟨x, hx, rfl⟩
        rw [HI.out.2] at h1
        obtain ⟨z, hz, e⟩ := List.mem_map.1 h1
        refine ⟨fun n hn => ?_, ?_⟩
        · rw [← e] at hn
          exact HZN.out z (List.mem_of_mem_take hz) n (List.mem_of_mem_take hn)
        · rw [← e, List.length_take]; omega
      have HX5 := Lib.hid (HX4.out.trans HXR.out)
      have HB5 := Lib.hid (HB4.out.ext HXR.out)
      have HU5 := Lib.hid (HU4.out.ext HXR.out)
      have hky := keys_any A5 (cutD D) (.slice oa k oc) ys wo HU5.out.view HDS.out HO.out.view (fun x hx => (hyx x hx).1) (by omega) (fun x hx => by have := (hyx x hx).2; omega)
      unfold dv at hky
      have HKY := Lib.hid hky
      have HYX := Lib.hid hyx
      have HYL := Lib.hid hyl
      have HYV := Lib.hid HO.out.view
      clear hky hyx hyl HX4 HB4 HU4 HXR HO HI HZ4 HZN
      go_upto_region 10 with fail
      apply wp_region_lit
      -- a load of a whole row: y block, HB5.out fact RowAt, api.Dict the type's name
      refine plain_load rfl _ _ rfl y rfl _ _ (HB5.out) Tryz.underlying28 rfl (by kernel_rfl) ?_
      go_simp
      refine wpList_plain rfl fun K1 hK1 => ?_
      go_simp
      refine hK1 _ _ ?_
      clear hK1 K1
      -- a call in a plain region: refine HKY.out.mono ?_; rintro e w5 ⟨kv, ks, c, rfl, hkr, htr, hx5⟩ the contract taken, and its results named
      refine wpList_plain rfl fun K1 hK1 => ?_
      go_simp
      refine HKY.out.mono ?_; rintro e w5 ⟨kv, ks, c, rfl, hkr, htr, hx5⟩
      go_simp
      refine hK1 _ _ ?_
      clear hK1 K1
      have HB6 := Lib.hid (HB5.out.ext hx5)
      have HU6 := Lib.hid (HU5.out.ext hx5)
      have HX6 := Lib.hid (HX5.out.trans hx5)
      have HTR := Lib.hid (TV.of_own htr)
      have HYV6 := Lib.hid (HYV.out.ext hx5)
      have HKR := Lib.hid hkr
      have hdr := dright_any (hv A5) (cutD D) w5 HU6.out.view HDS.out
      unfold dv at hdr
      have HDR := Lib.hid hdr
      clear hkr htr hx5 HB5 HU5 HX5 HKY HYV hdr
      refine wpList_plain rfl fun K1 hK1 => ?_
      go_simp
      refine hK1 _ _ ?_
      clear hK1 K1
      refine wpList_plain rfl fun K1 hK1 => ?_
      go_simp
      refine hK1 _ _ ?_
      clear hK1 K1
      refine wpList_plain rfl fun K1 hK1 => ?_
      go_simp
      refine hK1 _ _ ?_
      clear hK1 K1
      refine wpList_plain rfl fun K1 hK1 => ?_
      go_simp
      refine hK1 _ _ ?_
      clear hK1 K1
      refine wpList_plain rfl fun K1 hK1 => ?_
      go_simp
      refine hK1 _ _ ?_
      clear hK1 K1
      apply wpList_nil
      go_upto_region 13 with fail
      apply wp_region_lit
      -- a load of a whole row: y block, HB6.out fact RowAt, api.Dict the type's name
      refine plain_load rfl _ _ rfl y rfl _ _ (HB6.out) Tryz.underlying28 rfl (by kernel_rfl) ?_
      go_simp
      -- a call in a plain region: refine HDR.out.mono ?_; rintro e w6 ⟨r, rfl, hr, hx6⟩ the contract taken, and its results named
      refine wpList_plain rfl fun K1 hK1 => ?_
      go_simp
      refine HDR.out.mono ?_; rintro e w6 ⟨r, rfl, hr, hx6⟩
      go_simp
      refine hK1 _ _ ?_
      clear hK1 K1
      have HB7 := Lib.hid (HB6.out.ext hx6)
      have HU7 := Lib.hid (HU6.out.ext hx6)
      have HX7 := Lib.hid (HX6.out.trans hx6)
      have HTR7 := Lib.hid (HTR.out.ext hx6)
      have HYV7 := Lib.hid (HYV6.out.ext hx6)
      have HR := Lib.hid hr
      clear hr hx6 HB6 HU6 HX6 HTR HYV6 HDR
      apply wpList_nil
      cases r
      case false =>
        have hno : ¬ DicOK (cutD D) := fun h => by have := HR.out.2 h; cases this
        obtain ⟨rfl, hks⟩ : c = 160 ∧ ks.map Prod.snd = [] := by
          have := HKR.out
          generalize ks.map Prod.snd = K at *
          cases this with
          | dict h => exact ⟨rfl, rfl⟩
          | arg h _ => exact absurd h hno
          | ok h _ => exact absurd h hno
        -- the end of ResolveKeys, straight behind Right: ([] : List (Value × List ByteArray)) the wanted rows, (.slice none 0 0) their value, (TV.of_own (TRows.none 0 _)) that they stand, hks that they are the same
        have HQ := Lib.hid (eqTRows_any kv (.slice none 0 0) ks ([] : List (Value × List ByteArray)) w6 HTR7.out (TV.of_own (TRows.none 0 _)) (by have h9 := congrArg List.length (show List.map Prod.snd ks = List.map Prod.snd (([] : List (Value × List ByteArray))) from hks); simp only [List.length_map, List.length_nil] at h9; omega))
        have HDQ := Lib.hid (decide_eq_true (show List.map Prod.snd ks = List.map Prod.snd (([] : List (Value × List ByteArray))) from hks))
        rw [HDQ.out] at HQ
        go_upto_region 30 with fail
        apply wp_region_lit
        refine wpList_plain rfl fun K1 hK1 => ?_
        go_simp
        refine hK1 _ _ ?_
        clear hK1 K1
        refine wpList_plain rfl fun K1 hK1 => ?_
        go_simp
        refine hK1 _ _ ?_
        clear hK1 K1
        refine wpList_plain rfl fun K1 hK1 => ?_
        go_simp
        refine hK1 _ _ ?_
        clear hK1 K1
        refine wpList_plain rfl fun K1 hK1 => ?_
        go_simp
        refine hK1 _ _ ?_
        clear hK1 K1
        -- a guarded operation whose guard holds
        refine wpList_yes (by first | rfl | decide | kernel_rfl) fun K1 hK1 => ?_
        go_simp
        refine hK1 _ _ ?_
        clear hK1 K1
        -- a guarded operation whose guard holds
        refine wpList_yes (by first | rfl | decide | kernel_rfl) fun K1 hK1 => ?_
        go_simp
        refine hK1 _ _ ?_
        clear hK1 K1
        -- a guarded call whose guard holds: refine HQ.out.mono ?_; rintro e w9 ⟨rfl, hx9⟩ the contract taken, and its results named
        refine wpList_yes (by first | rfl | decide | kernel_rfl) fun K1 hK1 => ?_
        go_simp
        refine HQ.out.mono ?_; rintro e w9 ⟨rfl, hx9⟩
        go_simp
        refine hK1 _ _ ?_
        clear hK1 K1
        refine wpList_plain rfl fun K1 hK1 => ?_
        go_simp
        refine hK1 _ _ ?_
        clear hK1 K1
        refine wpList_plain rfl fun K1 hK1 => ?_
        go_simp
        refine hK1 _ _ ?_
        clear hK1 K1
        apply wpList_nil
        go_wp2_with fail
        go_ret
        exact ⟨rfl, HX7.out.trans hx9⟩
      case true =>
        have HOK := Lib.hid (HR.out.1 rfl)
        obtain ⟨ta, tc, tb, td, te, t1, _⟩ := (HU7.out 0 (by omega)).pair
        obtain ⟨T, hT⟩ : ∃ T, (cutD D 0).1 = T := ⟨_, rfl⟩
        rw [hT] at te t1
        have hT4 : T.length ≤ 4096 := by rw [← hT]; exact (HDS.out 0 (by omega)).1
        have hcv := u64_cut T.length hT4
        have HTS := Lib.hid (show Strs w6 (.slice ta T.length tc) T from Sl.of_own t1)
        have HF0 := Lib.hid (show (dcells (hv A5))[0]? = some (.slice ta T.length tc) from by show some (hv A5 0).1 = _; rw [te])
        have HTE := Lib.hid hT
        clear te t1 hT HU7 HR
        go_wp2_with fail
        go_loopg [11, 12, 52] k (fun g want no i wq => ∃ (p : Nat) (us : List (Value × List ByteArray)) (ua : Option Addr) (uc : Nat) (nv : Int), p ≤ k ∧ g = k - p ∧ i = .int .i64 p ∧ no = .int .i64 nv ∧ want = .slice ua p uc ∧ Hid (us.length = p ∧ us.map Prod.snd = (ys.take p).map (fun x => keysW T x.2)) ∧ Hid (NoI T (ys.map Prod.snd) ((ys.take p).map Prod.snd) nv) ∧ Hid (Ext w6 wq) ∧ Hid (TRows w6.heap.size wq (.slice ua p uc) us))
        case atStart => exact ⟨0, [], none, 0, 0, Nat.zero_le _, rfl, rfl, rfl, rfl, Lib.hid ⟨rfl, rfl⟩, Lib.hid (.inl ⟨rfl, fun l hl => by cases hl⟩), Lib.hid (Ext.refl _), Lib.hid (TRows.none _ _)⟩
        case round =>
          obtain ⟨p, us, ua, uc, nv, hp, hg, rfl, rfl, rfl, HI, HN, HXQ, HO⟩ := hrel
          have Hg := Lib.hid hg
          clear hg
          have hp8 : p ≤ 8 := by omega
          obtain ⟨wb, hwb⟩ : ∃ x, x = wr := ⟨_, rfl⟩
          subst hwb
          by_cases hltp : p < k
          · have hly : p < ys.length := by rw [HYL.out]; exact hltp
            obtain ⟨⟨b, o, rfl, c0⟩, hints⟩ := (HYV7.out.ext HXQ.out).at_ hly
            have hxy := HYX.out _ (List.getElem_mem hly)
            have hst : ∀ q, (us ++ [(q, keysW T ys[p].2)]).length = p + 1 ∧ (us ++ [(q, keysW T ys[p].2)]).map Prod.snd = (ys.take (p + 1)).map (fun x => keysW T x.2) := by
              intro q
              obtain ⟨i1, i2⟩ := HI.out
              rw [List.take_succ_eq_append_getElem hly]
              exact ⟨by simp [i1], by rw [List.map_append, List.map_append, i2]; rfl⟩
            have hnn : ∀ nv', NoJ T (ys.map Prod.snd) ((ys.take p).map Prod.snd) ys[p].2 nv' → NoI T (ys.map Prod.snd) ((ys.take (p + 1)).map Prod.snd) nv' := by
              intro nv' h
              rw [List.take_succ_eq_append_getElem hly, List.map_append]
              exact NoJ.next h
            have hin : ys[p].2 ∈ ys.map Prod.snd := List.mem_map.2 ⟨_, List.getElem_mem hly, rfl⟩
            generalize ys[p] = x at *
            obtain ⟨xv, l⟩ := x
            dsimp only at c0 hints hxy hst hnn hin
            obtain ⟨la, lc, rfl, hlc, _⟩ := hints.shape
            have HST := Lib.hid hst
            have HNN := Lib.hid hnn
            have HIN := Lib.hid hin
            have HLN := Lib.hid hxy.1
            have HLI := Lib.hid hints
            have hl8 : l.length ≤ 8 := hxy.2
            clear hst hnn hxy hints hin
            go_wp2_with fail
            go_loopg [12, 15, 58] l.length (fun g no keys i wq => ∃ (j n : Nat) (ka : Option Addr) (kc : Nat) (nv' : Int), j ≤ l.length ∧ n ≤ j ∧ g = l.length - j ∧ i = .int .i64 j ∧ no = .int .i64 nv' ∧ keys = .slice ka n kc ∧ Hid (NoJ T (ys.map Prod.snd) ((ys.take p).map Prod.snd) (l.take j) nv') ∧ Hid ((keysW T (l.take j)).length = n) ∧ Hid (Ext wb wq) ∧ Hid (wq.ownsRow wb.heap.size 9 1 (.slice ka n kc) n ((keysW T (l.take j)).map Value.string)))
            case atStart => exact ⟨0, 0, none, 0, nv, Nat.zero_le _, Nat.le_refl _, rfl, rfl, rfl, rfl, Lib.hid (NoJ.start HN.out), Lib.hid rfl, Lib.hid (Ext.refl _), Lib.hid (World.ownsRow_nil _ _ _ _)⟩
            case round =>
              obtain ⟨j, n, ka, kc, nv', hj, hnj, hg2, rfl, rfl, rfl, HJ, HKL, HX4, HK⟩ := hrel
              have Hg2 := Lib.hid hg2
              clear hg2 c0
              have hj8 : j ≤ 8 := by omega
              by_cases hltj : j < l.length
              · obtain ⟨b2, o2, rfl, d0⟩ := u64_at (HLI.out.ext HX4.out) hltj
                have f0 := (HB7.out.ext (HXQ.out.trans HX4.out)).cell (i := 0) HF0.out
                have hnb := HLN.out _ (List.getElem_mem hltj)
                have hkn := keysW_next (T := T) hltj
                have hjn := NoJ.step (T := T) (X := ys.map Prod.snd) (A := (ys.take p).map Prod.snd) (nv := nv') HIN.out hltj HJ.out
                generalize l[j] = n1 at *
                obtain ⟨q, rfl⟩ : ∃ q : Nat, n1 = q := ⟨n1.toNat, by omega⟩
                rw [Int.toNat_natCast] at hkn hjn
                by_cases hq : q < T.length
                · obtain ⟨b3, o3, rfl, e0⟩ := (Strs.ext HTS.out (HXQ.out.trans HX4.out)).at_ hq
                  have hkey : keyF T (q : Int) = T[q] := by
                    unfold keyF
                    rw [Int.toNat_natCast, List.getD_eq_getElem?_getD, List.getElem?_eq_getElem hq]; rfl
                  rw [if_pos hq, hkey] at hkn
                  have HKN := Lib.hid hkn
                  have HJN := Lib.hid (hjn.1 hq)
                  generalize T[q] = s at *
                  have hge : ((q : Int) ≥ (T.length : Int)) = False := by simp; omega
                  clear hkey hkn hjn
                  go_wp2_with (at_builtin; refine wpList_append_sl _ rfl _ _ 22 rfl elStr rfl (own_ext HK.out (Ext.alloc _ _)) rfl (Sl.new _ #[.string s] 9 1 1 (Nat.le_refl _) ?_) rfl ?_ ?_ ?_ ?_ ?_)
                  · unfold maxLen; omega
                  · rfl
                  · omega
                  · unfold maxLen; omega
                  · have := HX4.out.size; simp; omega
                  intro v' w8 how6 hb6 hg6 _
                  obtain ⟨va, vc, rfl⟩ := own_vw how6
                  have HX8 := Lib.hid (show Ext wb w8 from Below.trans (HX4.out.trans (Ext.alloc _ _)) hb6)
                  have HK8 := Lib.hid (show w8.ownsRow wb.heap.size 9 1 (.slice va (n + 1) vc) (n + 1) ((keysW T (l.take (j + 1))).map Value.string) by
                    rw [HKN.out, List.map_append]; exact how6)
                  have HL8 := Lib.hid (show (keysW T (l.take (j + 1))).length = n + 1 by rw [HKN.out, List.length_append, HKL.out]; rfl)
                  clear how6 hb6 hg6 d0 e0 f0 HX4 HK
                  go_wp2_with fail
                  go_roundg (l.length - (j + 1))
                  case measure => have := Hg2.out; omega
                  case rel => exact ⟨j + 1, n + 1, va, vc, nv', by omega, by omega, rfl, by first | rfl | go_num, rfl, rfl, HJN, HL8, HX8, HK8⟩
                · have hge : ((q : Int) ≥ (T.length : Int)) = True := by simp; omega
                  rw [if_neg hq, List.append_nil] at hkn
                  have HJN := Lib.hid (hjn.2 hq)
                  have HK8 := Lib.hid (show wr.ownsRow wb.heap.size 9 1 (.slice ka n kc) n ((keysW T (l.take (j + 1))).map Value.string) by rw [hkn]; exact HK.out)
                  have HL8 := Lib.hid (show (keysW T (l.take (j + 1))).length = n by rw [hkn]; exact HKL.out)
                  clear hkn hjn
                  go_wp2_with fail
                  go_roundg (l.length - (j + 1))
                  case measure => have := Hg2.out; omega
                  case rel => exact ⟨j + 1, n, ka, kc, 2, by omega, by omega, rfl, by first | rfl | go_num, rfl, rfl, HJN, HL8, HX4, HK8⟩
              · have he : j = l.length := by omega
                subst he
                have hal := HJ.out
                have hkk := HK.out
                have hkl := HKL.out
                rw [List.take_length] at hal hkk hkl
                have HAL := Lib.hid (HNN.out _ hal)
                have HRO := HO.out.ext (HX4.out.trans (Ext.alloc wr (.cells #[.slice ka n kc] 22)))
                have hrow1 : (wr.alloc (.cells #[.slice ka n kc] 22)).ownsRow w6.heap.size 22 1 (.slice ua p uc) p (us.map Prod.fst) := by have := HRO.1; rwa [HI.out.1] at this
                have hkw : (wr.alloc (.cells #[.slice ka n kc] 22)).ownsRow w6.heap.size 9 1 (.slice ka n kc) (keysW T l).length ((keysW T l).map Value.string) := by
                  rw [hkl]
                  exact own_ext (own_base hkk HXQ.out.size) (Ext.alloc _ _)
                have HRS := Lib.hid HRO
                have HKW := Lib.hid hkw
                have HSZ := Lib.hid (Nat.le_trans HXQ.out.size HX4.out.size)
                clear hal hkk hkl HJ HK HRO hkw HO
                go_wp2_with (at_builtin; refine wpList_append_sl _ rfl _ _ 62 rfl elRow rfl hrow1 rfl (Sl.new _ #[.slice ka n kc] 22 1 1 (Nat.le_refl _) ?_) rfl ?_ ?_ ?_ ?_ ?_)
                · unfold maxLen; omega
                · rfl
                · omega
                · unfold maxLen; omega
                · have := HSZ.out; simp; omega
                intro v' w8 how6 hb6 hg6 _
                obtain ⟨va, vc, rfl⟩ := own_vw how6
                have HX8 := Lib.hid (show Ext w6 w8 from Below.trans ((HXQ.out.trans HX4.out).trans (Ext.alloc _ _)) hb6)
                have hsn := TRows.snoc HRS.out.1 HRS.out.2 HKW.out (v' := .slice va (p + 1) vc) (w' := w8) (by rw [HI.out.1]; exact how6) hg6
                have HSN := Lib.hid hsn
                have HI8 := Lib.hid (HST.out (.slice ka n kc))
                clear how6 hb6 hg6 hsn hrow1
                go_wp2_with fail
                go_roundg (k - (p + 1))
                case measure => have := Hg.out; omega
                case rel => exact ⟨p + 1, _, va, vc, nv', by omega, rfl, by first | rfl | go_num, rfl, rfl, HI8, HAL, HX8, HSN⟩
          · have he : p = k := by omega
            subst he
            have hi2 := HI.out.2
            have hn2 := HN.out
            rw [← HYL.out, List.take_length] at hi2 hn2
            have HTR8 := Lib.hid (HTR7.out.ext HXQ.out)
            have HX8 := Lib.hid (HX7.out.trans HXQ.out)
            have HOV := Lib.hid (TV.of_own HO.out)
            clear HTR7 HX7 HXQ HO
            rcases hn2 with ⟨rfl, hall⟩ | ⟨rfl, hbad⟩
            · obtain ⟨rfl, hks⟩ : c = 0 ∧ ks.map Prod.snd = us.map Prod.snd := by
                have h := HKR.out
                have hok := HOK.out
                have hte := HTE.out
                rw [← hte] at hall hi2
                generalize ks.map Prod.snd = K at *
                cases h with
                | dict h => exact absurd hok h
                | arg h hb => exact absurd hall hb
                | ok h hb =>
                  refine ⟨rfl, ?_⟩
                  rw [hi2, List.map_map]
                  exact List.map_congr_left fun x hx => (keysW_all (hall _ (List.mem_map.2 ⟨x, hx, rfl⟩))).symm
              -- the end of ResolveKeys behind the loops
              have HQ := Lib.hid (eqTRows_any kv (.slice ua p uc) ks us wb HTR8.out HOV.out (by have h9 := congrArg List.length (show List.map Prod.snd ks = List.map Prod.snd (us) from hks); simp only [List.length_map, List.length_nil] at h9; have h8 := HI.out.1; omega))
              have HDQ := Lib.hid (decide_eq_true (show List.map Prod.snd ks = List.map Prod.snd (us) from hks))
              rw [HDQ.out] at HQ
              go_upto_region 30 with fail
              apply wp_region_lit
              refine wpList_plain rfl fun K1 hK1 => ?_
              go_simp
              refine hK1 _ _ ?_
              clear hK1 K1
              refine wpList_plain rfl fun K1 hK1 => ?_
              go_simp
              refine hK1 _ _ ?_
              clear hK1 K1
              refine wpList_plain rfl fun K1 hK1 => ?_
              go_simp
              refine hK1 _ _ ?_
              clear hK1 K1
              refine wpList_plain rfl fun K1 hK1 => ?_
              go_simp
              refine hK1 _ _ ?_
              clear hK1 K1
              -- a guarded operation whose guard holds
              refine wpList_yes (by first | rfl | decide | kernel_rfl) fun K1 hK1 => ?_
              go_simp
              refine hK1 _ _ ?_
              clear hK1 K1
              -- a guarded operation whose guard holds
              refine wpList_yes (by first | rfl | decide | kernel_rfl) fun K1 hK1 => ?_
              go_simp
              refine hK1 _ _ ?_
              clear hK1 K1
              -- a guarded call whose guard holds: refine HQ.out.mono ?_; rintro e w9 ⟨rfl, hx9⟩ the contract taken, and its results named
              refine wpList_yes (by first | rfl | decide | kernel_rfl) fun K1 hK1 => ?_
              go_simp
              refine HQ.out.mono ?_; rintro e w9 ⟨rfl, hx9⟩
              go_simp
              refine hK1 _ _ ?_
              clear hK1 K1
              refine wpList_plain rfl fun K1 hK1 => ?_
              go_simp
              refine hK1 _ _ ?_
              clear hK1 K1
              refine wpList_plain rfl fun K1 hK1 => ?_
              go_simp
              refine hK1 _ _ ?_
              clear hK1 K1
              apply wpList_nil
              go_wp2_with fail
              go_ret
              exact ⟨rfl, HX8.out.trans hx9⟩
            · obtain ⟨rfl, hks⟩ : c = 2 ∧ ks.map Prod.snd = [] := by
                have h := HKR.out
                have hok := HOK.out
                have hte := HTE.out
                rw [← hte] at hbad
                generalize ks.map Prod.snd = K at *
                cases h with
                | dict h => exact absurd hok h
                | arg h hb => exact ⟨rfl, rfl⟩
                | ok h hb => exact absurd hb hbad
              -- the end of ResolveKeys behind the loops
              have HQ := Lib.hid (eqTRows_any kv (.slice none 0 0) ks ([] : List (Value × List ByteArray)) wb HTR8.out (TV.of_own (TRows.none 0 _)) (by have h9 := congrArg List.length (show List.map Prod.snd ks = List.map Prod.snd (([] : List (Value × List ByteArray))) from hks); simp only [List.length_map, List.length_nil] at h9; have h8 := HI.out.1; omega))
              have HDQ := Lib.hid (decide_eq_true (show List.map Prod.snd ks = List.map Prod.snd (([] : List (Value × List ByteArray))) from hks))
              rw [HDQ.out] at HQ
              go_upto_region 30 with fail
              apply wp_region_lit
              refine wpList_plain rfl fun K1 hK1 => ?_
              go_simp
              refine hK1 _ _ ?_
              clear hK1 K1
              refine wpList_plain rfl fun K1 hK1 => ?_
              go_simp
              refine hK1 _ _ ?_
              clear hK1 K1
              refine wpList_plain rfl fun K1 hK1 => ?_
              go_simp
              refine hK1 _ _ ?_
              clear hK1 K1
              refine wpList_plain rfl fun K1 hK1 => ?_
              go_simp
              refine hK1 _ _ ?_
              clear hK1 K1
              -- a guarded operation whose guard holds
              refine wpList_yes (by first | rfl | decide | kernel_rfl) fun K1 hK1 => ?_
              go_simp
              refine hK1 _ _ ?_
              clear hK1 K1
              -- a guarded operation whose guard holds
              refine wpList_yes (by first | rfl | decide | kernel_rfl) fun K1 hK1 => ?_
              go_simp
              refine hK1 _ _ ?_
              clear hK1 K1
              -- a guarded call whose guard holds: refine HQ.out.mono ?_; rintro e w9 ⟨rfl, hx9⟩ the contract taken, and its results named
              refine wpList_yes (by first | rfl | decide | kernel_rfl) fun K1 hK1 => ?_
              go_simp
              refine HQ.out.mono ?_; rintro e w9 ⟨rfl, hx9⟩
              go_simp
              refine hK1 _ _ ?_
              clear hK1 K1
              refine wpList_plain rfl fun K1 hK1 => ?_
              go_simp
              refine hK1 _ _ ?_
              clear hK1 K1
              refine wpList_plain rfl fun K1 hK1 => ?_
              go_simp
              refine hK1 _ _ ?_
              clear hK1 K1
              apply wpList_nil
              go_wp2_with fail
              go_ret
              exact ⟨rfl, HX8.out.trans hx9⟩
end Go.Proofs.YtkmbnghghbfkdaaGreat
