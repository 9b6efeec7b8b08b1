/- The reference's Put. -/
import Derived.Test.YtogoejlbdbapoaaDicR
namespace Go.Proofs.Ytogoejlbdbapoaa
set_option maxRecDepth 100000
set_option maxHeartbeats 2000000
set_option linter.unusedSimpArgs false
open Go.RowKit Go.Shelf Go.Sort
attribute [local go_sem] Oper.semAt_some wide_fn wide_depth
set_option linter.unusedVariables false

theorem mayB_kind' {k : Int} {s : List UInt8} (h : mayB k s = true) : 0 ≤ k ∧ k < 5 := by
  unfold mayB at h
  simp only [Bool.and_eq_true, decide_eq_true_eq] at h
  omega
theorem grown_setL {g : Nat} : ∀ (xs : List Value) (i : Nat) (W : World), W.grownBy (setL W g i xs) (some g)
  | [], _, W => (grown_ext (Ext.refl W)).but _
  | x :: xs, i, W => (grown_set W g i x).trans (grown_setL xs (i + 1) _)
/-- What the reference's Put comes to. -/
def refPutD (N : Nms) (kind : Int) (s : ByteArray) : Except Int (Nms × Int) :=
  if mayB kind (bts s) = true then (if 0 ≤ findF (N kind.toNat) s then .ok (N, findF (N kind.toNat) s) else if (N kind.toNat).length = 128 then .error 6 else .ok (upd N kind.toNat (N kind.toNat ++ [s]), (N kind.toNat).length))
  else .error 2
def RPutPost (w : World) (r : Except Int (Nms × Int)) (e : Ending) (w' : World) : Prop := Ext w w' ∧
  match r with
  | .ok (N', n) => ∃ us, e = .returned (.tuple #[nv us, .int .i64 n, .int .i64 0]) ∧ NamV w' us N'
  | .error c => e = .returned (.tuple #[nv noN, .int .i64 0, .int .i64 c])
theorem nv_noN : nv noN = .agg #[.slice none 0 0, .slice none 0 0, .slice none 0 0, .slice none 0 0, .slice none 0 0] := rfl
theorem nheads {ns : Nat → Value} {w : World} {N : Nms} (h : NamV w ns N) : ∃ A : Nat → Option Addr × Nat, (∀ i, i < 5 → ns i = .slice (A i).1 (N i).length (A i).2) ∧ ncells ns = ncells (fun i => .slice (A i).1 (N i).length (A i).2) := by
  have hA : ∃ A : Nat → Option Addr × Nat, ∀ i, i < 5 → ns i = .slice (A i).1 (N i).length (A i).2 := by
    refine ⟨fun i => match ns i with | .slice a _ c => (a, c) | _ => (none, 0), fun i hi => ?_⟩
    obtain ⟨a, c, e, _⟩ := Sl.shape (h i hi)
    simp [e]
  obtain ⟨A, hA⟩ := hA
  refine ⟨A, hA, ?_⟩
  unfold ncells
  rw [hA 0 (by omega), hA 1 (by omega), hA 2 (by omega), hA 3 (by omega), hA 4 (by omega)]
def groRp : Nat → Gro
  | 0 => .read
  | 3 => .read
  | 6 => .grow
  | _ => .pure
set_option maxRecDepth 100000 in
set_option maxHeartbeats 2000000 in
theorem refPutD_any (ns : Nat → Value) (N : Nms) (kind : Int) (s : ByteArray) (w : World) (hN : NamV w ns N) (hl : ∀ i, i < 5 → (N i).length ≤ 1000) (hs : s.size ≤ 9223372036854775807) :
    Calls Try.prog 22 #[nv ns, .int .i64 kind, .string s] w (RPutPost w (refPutD N kind s)) := by
  have hmo : Try.prog.follows .mixedOrders = true := by kernel_rfl
  obtain ⟨A, hA1, hA2⟩ := nheads hN
  rw [show nv ns = nv (fun i => .slice (A i).1 (N i).length (A i).2) from by unfold nv; rw [hA2]]
  have hN' : NamV w (fun i => .slice (A i).1 (N i).length (A i).2) N := fun i hi => by have h := hN i hi; rw [hA1 i hi] at h; exact h
  clear hN hA1 hA2 ns
  have hri := fun w' (hx : Ext w w') => refId_any _ N kind s w' (hN'.ext hx)
  have hm := fun w' => refMay_any kind s w' hs
  have hd0 : RowAt ((w.alloc (.cells (ncells (fun i => .slice (A i).1 (N i).length (A i).2)).toArray 37)).alloc (.cells (ncells noN).toArray 37)) w.heap.size 37 (ncells (fun i => .slice (A i).1 (N i).length (A i).2)) := (RowAt.new w _ (ncells _)).ext (Ext.alloc _ _)
  have hd1 : RowAt ((w.alloc (.cells (ncells (fun i => .slice (A i).1 (N i).length (A i).2)).toArray 37)).alloc (.cells (ncells noN).toArray 37)) (w.heap.size + 1) 37 (ncells noN) := row_at (by simp)
  have hx1 : Ext w ((w.alloc (.cells (ncells (fun i => .slice (A i).1 (N i).length (A i).2)).toArray 37)).alloc (.cells (ncells noN).toArray 37)) := (Ext.alloc _ _).trans (Ext.alloc _ _)
  have hdn : (ncells noN).toArray = #[.slice none 0 0, .slice none 0 0, .slice none 0 0, .slice none 0 0, .slice none 0 0] := rfl
  have hdc : (ncells (fun i => Value.slice (A i).1 (N i).length (A i).2)).toArray = #[.slice (A 0).1 (N 0).length (A 0).2, .slice (A 1).1 (N 1).length (A 1).2, .slice (A 2).1 (N 2).length (A 2).2, .slice (A 3).1 (N 3).length (A 3).2, .slice (A 4).1 (N 4).length (A 4).2] := rfl
  unfold nv at hri ⊢
  simp only [hdn, hdc] at hd0 hd1 hx1 hri ⊢
  have HD0 := Lib.hid hd0
  have HD1 := Lib.hid hd1
  have HX1 := Lib.hid hx1
  have HN := Lib.hid hN'
  have HRI := Lib.hid hri
  have HM := Lib.hid hm
  have HL := Lib.hid hl
  generalize hres : refPutD N kind s = res
  have HRES := Lib.hid hres
  clear hd0 hd1 hx1 hdn hdc hri hm hl hN' hres
  go_enter Try.func22, Try.ntmps22
  go_upto_region 1 with fail
  replace HD0 := HD0.out
  replace HD1 := HD1.out
  replace HX1 := HX1.out
  generalize (w.alloc (.cells #[Value.slice (A 0).1 (N 0).length (A 0).2, .slice (A 1).1 (N 1).length (A 1).2, .slice (A 2).1 (N 2).length (A 2).2, .slice (A 3).1 (N 3).length (A 3).2, .slice (A 4).1 (N 4).length (A 4).2] 37)).alloc (.cells #[.slice none 0 0, .slice none 0 0, .slice none 0 0, .slice none 0 0, .slice none 0 0] 37) = w1 at *
  obtain ⟨c0, c1, c2, c3, c4⟩ := HD0.facts5
  obtain ⟨d0, d1, d2, d3, d4⟩ := RowAt.facts5 (ns := noN) HD1
  obtain ⟨g0, g1, g2, g3, g4⟩ := HD1.facts5f
  simp only [noN] at d0 d1 d2 d3 d4
  have hm := HM.out w1
  obtain ⟨mb, hmb⟩ : ∃ mb, mayB kind (bts s) = mb := ⟨_, rfl⟩
  rw [hmb] at hm
  have HMB := Lib.hid hmb
  have HMW := Lib.hid hm
  clear hmb hm HM
  cases mb with
  | false =>
    have HR : Hid (res = .error 2) := Lib.hid (by rw [← HRES.out]; unfold refPutD; rw [HMB.out]; rfl)
    go_wp2_with fail
    refine HMW.out.mono ?_
    rintro e w2 ⟨rfl, rfl⟩
    go_wp2_with fail
    rw [set5]
    clear c0 c1 c2 c3 c4 d0 d1 d2 d3 d4 g0 g1 g2 g3 g4
    obtain ⟨q0, q1, q2, q3, q4⟩ := RowAt.facts5 (row_set5 (ns := noN) noN HD1)
    unfold ncells noN at q0 q1 q2 q3 q4
    try dsimp only at q0 q1 q2 q3 q4
    refine bodyPost_ret (v := .tuple #[nv noN, .int .i64 0, .int .i64 2]) (by rw [nv_noN]; simp [results, Try.results22, go_sem, q0, q1, q2, q3, q4]) rfl ⟨below_setL (Nat.le_succ _) (ncells noN) 0 HX1, ?_⟩
    rw [HR.out]
  | true =>
    have hk := mayB_kind' HMB.out
    obtain ⟨k, rfl⟩ := Int.eq_ofNat_of_zero_le hk.1
    have hk5 : k < 5 := by omega
    have hki : (k : Int) < 5 := by omega
    have hri := HRI.out w1 HX1
    rw [show idN N (k : Int) s = findF (N k) s from by unfold idN; rw [if_pos hk]; rfl] at hri
    have hfr := findF_range (N k) s
    have HRES' : Hid ((if 0 ≤ findF (N k) s then Except.ok (N, findF (N k) s) else if (N k).length = 128 then .error 6 else .ok (upd N k (N k ++ [s]), ((N k).length : Int))) = res) := Lib.hid (by rw [← HRES.out]; unfold refPutD; rw [HMB.out, if_pos rfl]; rfl)
    generalize findF (N k) s = f at *
    have HRI := Lib.hid hri
    clear hri HRES
    by_cases hf : 0 ≤ f
    · have HR : Hid (res = .ok (N, f)) := Lib.hid (by rw [← HRES'.out, if_pos hf])
      go_wp2_with fail
      refine HMW.out.mono ?_
      rintro e w2 ⟨rfl, rfl⟩
      go_wp2_with fail
      refine HRI.out.mono ?_
      rintro e w3 ⟨rfl, hx3⟩
      have HD0' := HD0.ext hx3
      have HD1' := HD1.ext hx3
      clear c0 c1 c2 c3 c4 d0 d1 d2 d3 d4 g0 g1 g2 g3 g4
      obtain ⟨c0, c1, c2, c3, c4⟩ := HD0'.facts5
      obtain ⟨d0, d1, d2, d3, d4⟩ := RowAt.facts5 (ns := noN) HD1'
      obtain ⟨g0, g1, g2, g3, g4⟩ := HD1'.facts5f
      simp only [noN] at d0 d1 d2 d3 d4
      go_wp2_with fail
      rw [set5]
      clear c0 c1 c2 c3 c4 d0 d1 d2 d3 d4 g0 g1 g2 g3 g4
      obtain ⟨q0, q1, q2, q3, q4⟩ := RowAt.facts5 (row_set5 (ns := noN) (fun i => .slice (A i).1 (N i).length (A i).2) HD1')
      unfold ncells at q0 q1 q2 q3 q4
      have hxf := below_setL (Nat.le_succ w.heap.size) (ncells (fun i => Value.slice (A i).1 (N i).length (A i).2)) 0 (HX1.trans hx3)
      refine bodyPost_ret (v := .tuple #[nv (fun i => .slice (A i).1 (N i).length (A i).2), .int .i64 f, .int .i64 0]) (by unfold nv ncells; simp [results, Try.results22, go_sem, q0, q1, q2, q3, q4]) rfl ⟨hxf, ?_⟩
      rw [HR.out]
      exact ⟨_, rfl, HN.out.ext hxf⟩
    · obtain rfl : f = -1 := by omega
      by_cases h128 : (N k).length = 128
      · have hne : (((N k).length : Int) == 128) = true := by simp; omega
        have HR : Hid (res = .error 6) := Lib.hid (by rw [← HRES'.out, if_neg hf, if_pos h128])
        go_wp2_with fail
        refine HMW.out.mono ?_
        rintro e w2 ⟨rfl, rfl⟩
        go_wp2_with fail
        refine HRI.out.mono ?_
        rintro e w3 ⟨rfl, hx3⟩
        have HD0' := HD0.ext hx3
        have HD1' := HD1.ext hx3
        clear c0 c1 c2 c3 c4 d0 d1 d2 d3 d4 g0 g1 g2 g3 g4
        have r0 := HD0'.cell (i := k) (ncells_at _ hk5)
        obtain ⟨d0, d1, d2, d3, d4⟩ := RowAt.facts5 (ns := noN) HD1'
        obtain ⟨g0, g1, g2, g3, g4⟩ := HD1'.facts5f
        simp only [noN] at d0 d1 d2 d3 d4
        clear h128 hf
        go_wp2_with fail
        rw [set5]
        clear d0 d1 d2 d3 d4 g0 g1 g2 g3 g4
        obtain ⟨q0, q1, q2, q3, q4⟩ := RowAt.facts5 (row_set5 (ns := noN) noN HD1')
        unfold ncells noN at q0 q1 q2 q3 q4
        try dsimp only at q0 q1 q2 q3 q4
        refine bodyPost_ret (v := .tuple #[nv noN, .int .i64 0, .int .i64 6]) (by rw [nv_noN]; simp [results, Try.results22, go_sem, q0, q1, q2, q3, q4]) rfl ⟨below_setL (Nat.le_succ _) (ncells noN) 0 (HX1.trans hx3), ?_⟩
        rw [HR.out]
      · have hne : (((N k).length : Int) == 128) = false := by simp; omega
        have HR : Hid (res = .ok (upd N k (N k ++ [s]), ((N k).length : Int))) := Lib.hid (by rw [← HRES'.out, if_neg hf, if_neg h128])
        have hlk := HL.out k hk5
        clear h128 hf HRES' HL
        go_wp2_with fail
        refine HMW.out.mono ?_
        rintro e w2 ⟨rfl, rfl⟩
        go_wp2_with fail
        refine HRI.out.mono ?_
        rintro e w3 ⟨rfl, hx3⟩
        have HD0' := HD0.ext hx3
        have HD1' := HD1.ext hx3
        clear c0 c1 c2 c3 c4 d0 d1 d2 d3 d4 g0 g1 g2 g3 g4 HD0 HD1
        have hlt3 := HD1'.lt
        have r0 := HD0'.cell (i := k) (ncells_at _ hk5)
        have HNK : Strs w3 (.slice (A k).1 (N k).length (A k).2) (N k) := (HN.out k hk5).ext (HX1.trans hx3)
        go_upto_region 8 with fail
        have hxe := Ext.alloc w3 (.cells #[] 9)
        have r0 := ext_cell hxe r0
        go_wp2_with (at_builtin; refine wpList_append_sl _ rfl _ _ 22 rfl elS rfl (own_new w3 w3.heap.size #[] 9 1 0 (Nat.le_refl _) rfl (Nat.zero_le _)) rfl (HNK.ext hxe) ?_ ?_ ?_ ?_ ?_ ?_)
        · simp
        · intro x hx
          obtain ⟨y, _, rfl⟩ := List.mem_map.1 hx
          rfl
        · omega
        · unfold maxLen; omega
        · simp
        intro v1 w4 hown hb _ _
        have hB1 : Below w3.heap.size w3 w4 := Below.trans hxe hb
        clear hb hxe r0
        obtain ⟨p1, c1, rfl⟩ := own_sl hown
        go_wp2_with (at_builtin; refine wpList_append_sl _ rfl _ _ 22 rfl elS rfl (hown.alloc _) rfl (Sl.new _ #[.string s] 9 1 1 (Nat.le_refl _) ?_) rfl ?_ ?_ ?_ ?_ ?_)
        · unfold maxLen; omega
        · rfl
        · omega
        · unfold maxLen; omega
        · have := hB1.size; simp; omega
        intro v2 w5 hown2 hb2 _ _
        have hB2 : Ext w3 w5 := (below_step hB1 (Ext.alloc w4 (.cells #[.string s] 9))).trans hb2
        have hfin : w5.ownsRow w3.heap.size 9 1 v2 (N k ++ [s]).length ((N k ++ [s]).map Value.string) := by rw [List.length_append, List.map_append]; exact hown2
        clear hb2 hown hown2 hB1
        obtain ⟨p2, c2, rfl⟩ := own_sl hfin
        have HD0'' := HD0'.ext hB2
        have HD1'' := HD1'.ext hB2
        clear HD0' HD1'
        have r0 := HD0''.cell (i := k) (ncells_at _ hk5)
        have rf := HD0''.frozen k
        have hnl : (N k ++ [s]).length = (N k).length + 1 := by simp
        have hgl := HD0''.lt
        have hg3 : w.heap.size + 1 < w3.heap.size := hlt3
        have hx6 : Ext w (w5.setCell ⟨w.heap.size, k, none⟩ (.slice p2 (N k ++ [s]).length c2)) := ((HX1.trans hx3).trans hB2).setCell (p := ⟨w.heap.size, k, none⟩) (Nat.le_refl _) _
        have HD6 := HD0''.set k (.slice p2 (N k ++ [s]).length c2)
        rw [← ncells_upd _ hk5] at HD6
        have HD16 := RowAt.set_ne (i := k) (v := .slice p2 (N k ++ [s]).length c2) HD1'' (show w.heap.size ≠ w.heap.size + 1 by omega)
        have HN6 : NamV (w5.setCell ⟨w.heap.size, k, none⟩ (.slice p2 (N k ++ [s]).length c2)) (upd (fun i => .slice (A i).1 (N i).length (A i).2) k (.slice p2 (N k ++ [s]).length c2)) (upd N k (N k ++ [s])) := fun i hi => by
          by_cases e : i = k
          · subst e
            rw [upd_at, upd_at]
            exact Sl.of_own (own_setL (by omega) [_] _ hfin)
          · rw [upd_ne _ _ e, upd_ne _ _ e]
            exact (HN.out i hi).ext hx6
        obtain ⟨A', hA1, hA2⟩ := nheads HN6
        rw [hA2] at HD6
        have HA1 := Lib.hid hA1
        have hf6 : (w5.setCell ⟨w.heap.size, k, none⟩ (.slice p2 (N k ++ [s]).length c2)).ownsRow w3.heap.size 9 1 (.slice p2 (N k ++ [s]).length c2) (N k ++ [s]).length ((N k ++ [s]).map Value.string) := own_setL (by omega) [_] _ hfin
        have HF6 := Lib.hid hf6
        clear hf6
        have hlu : (upd N k (N k ++ [s]) k).length = (N k).length + 1 := by rw [upd_at, hnl]
        rw [hnl] at hx6 HD6 HD16 HF6
        have HX6 := Lib.hid hx6
        have H6 := Lib.hid HD6
        have H16 := Lib.hid HD16
        have HLU := Lib.hid hlu
        clear hx6 HD6 HD16 HN6 hA1 hA2 hfin HD0'' HD1'' hg3 hgl hlu
        go_upto_region 9 with fail
        generalize hN9 : upd N k (N k ++ [s]) = N9 at *
        generalize w5.setCell ⟨w.heap.size, k, none⟩ (.slice p2 ((N k).length + 1) c2) = w6 at *
        have hln := HLU.out
        have HN9 := Lib.hid hN9
        refine wp_region_grob (w.heap.size + 1) groRp [0, 1, 2, 3, 4, 5, 6, 7, 8] hmo (by kernel_rfl) rfl (by kernel_rfl) (fun _ _ _ _ _ h => h) ?_
        have hx7 : Ext w6 w6.drew := Ext.drewN w6 1
        replace HX6 := Lib.hid (HX6.out.trans hx7)
        have h6 := H6.out.ext hx7
        have h16 := H16.out.ext hx7
        have HF7 := Lib.hid (own_ext HF6.out hx7)
        clear hN9 hx7 H6 H16 HF6
        generalize w6.drew = w7 at *
        obtain ⟨c0, c1, c2, c3, c4⟩ := h6.facts5
        obtain ⟨d0, d1, d2, d3, d4⟩ := RowAt.facts5 (ns := noN) h16
        obtain ⟨g0, g1, g2, g3, g4⟩ := h16.facts5f
        have r0 := h6.cell (i := k) (ncells_at _ hk5)
        simp only [noN] at d0 d1 d2 d3 d4
        rw [hln] at r0
        have H16 := Lib.hid h16
        have hw : IntKind.i64.wrap ((N k).length : Int) = ((N k).length : Int) := IntWalk.i64_in _ (by omega)
        clear hln h6 h16
        repeat (first
          | (refine groB_pure rfl rfl ?_; intro K hK; go_simp; refine hK _ ?_; clear hK K)
          | (refine groB_read rfl rfl ?_; intro K S hS hK; go_simp; refine hK _ ?_; clear hK K hS S)
          | (refine groB_read rfl rfl ?_; intro K S hS hK; go_simp; refine ⟨hS _ ?_, hK _ ?_⟩; (clear hK K hS S; intro w' hx'; have hce := grown_some hx'; go_simp); clear hK K hS S))
        refine groB_grow rfl rfl ?_
        intro K hK
        go_simp
        rw [set5]
        refine hK _ _ ⟨grown_setL _ _ _, ?_⟩
        clear hK K c0 c1 c2 c3 c4 d0 d1 d2 d3 d4 g0 g1 g2 g3 g4 r0
        repeat (first
          | (refine groB_pure rfl rfl ?_; intro K hK; go_simp; refine hK _ ?_; clear hK K)
          | (refine groB_read rfl rfl ?_; intro K S hS hK; go_simp; refine hK _ ?_; clear hK K hS S)
          | (refine groB_read rfl rfl ?_; intro K S hS hK; go_simp; refine ⟨hS _ ?_, hK _ ?_⟩; (clear hK K hS S; intro w' hx'; have hce := grown_some hx'; go_simp); clear hK K hS S))
        refine groB_nil ?_
        have hro := row_set5 (ns := noN) (fun i => .slice (A' i).1 (N9 i).length (A' i).2) H16.out
        obtain ⟨q0, q1, q2, q3, q4⟩ := RowAt.facts5 hro
        have hxf : Ext w (setL w7 (w.heap.size + 1) 0 (ncells (fun i => Value.slice (A' i).1 (N9 i).length (A' i).2))) := below_setL (Nat.le_succ w.heap.size) _ 0 HX6.out
        have hnf : ∀ wf, Ext w wf → wf.ownsRow w3.heap.size 9 1 (.slice p2 ((N k).length + 1) c2) ((N k).length + 1) ((N k ++ [s]).map Value.string) → NamV wf (fun i => .slice (A' i).1 (N9 i).length (A' i).2) N9 := fun wf hxf ho i hi => by
          have h := HA1.out i hi
          dsimp only
          rw [← h, hnl]
          by_cases e : i = k
          · subst e
            rw [upd_at, ← HN9.out, upd_at]
            have h2 := Sl.of_own ho
            unfold Strs
            rw [hnl]
            exact h2
          · rw [upd_ne _ _ e, ← HN9.out, upd_ne _ _ e]
            exact (HN.out i hi).ext hxf
        replace hnf := hnf _ hxf (own_setL hlt3 _ 0 HF7.out)
        unfold ncells at q0 q1 q2 q3 q4
        have hres : RPutPost w res (.returned (.tuple #[nv (fun i => .slice (A' i).1 (N9 i).length (A' i).2), .int .i64 (N k).length, .int .i64 0])) (setL w7 (w.heap.size + 1) 0 (ncells (fun i => Value.slice (A' i).1 (N9 i).length (A' i).2))) := ⟨hxf, by rw [HR.out]; exact ⟨_, rfl, hnf⟩⟩
        go_wp2_with fail
        refine bodyPost_ret (v := .tuple #[nv (fun i => .slice (A' i).1 (N9 i).length (A' i).2), .int .i64 (N k).length, .int .i64 0]) (by unfold nv ncells; simp [results, Try.results22, go_sem, q0, q1, q2, q3, q4]) rfl hres
end Go.Proofs.Ytogoejlbdbapoaa
