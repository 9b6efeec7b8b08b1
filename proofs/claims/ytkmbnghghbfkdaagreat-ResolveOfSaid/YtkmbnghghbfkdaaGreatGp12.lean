/- A dictionary without names. -/
import Derived.Test.YtkmbnghghbfkdaaGreatGp11
set_option linter.unusedSimpArgs false
set_option linter.unusedVariables false
set_option maxHeartbeats 2000000
set_option maxRecDepth 100000

namespace Go.Proofs.YtkmbnghghbfkdaaGreat
open Go.RowKit Go.Shelf Go.Sort
attribute [local go_sem] Oper.semAt_some wide_fn wide_depth
def newD : Dic := fun _ => ([], List.replicate 8 0)
structure NeI (w : World) (D : Dic) (k : Nat) (ts : Nat → Value × Value) (W : World) : Prop where
 below : Ext w W
 out : RowAt W w.heap.size 28 (dcells noV)
 d : RowAt W (w.heap.size + 1) 28 (dcells ts)
 own : ∀ i, i < k → TabOwn (w.heap.size + 1 + 1) W (.agg #[(ts i).1, (ts i).2]) (D i).1 (D i).2
theorem NeI.next {w : World} {D : Dic} {k : Nat} {ts : Nat → Value × Value} {W wb : World} (h : NeI w D k ts W) (hk : k < 5) {v : Value} (hx : Ext W wb) (ht : TabOwn W.heap.size wb v (D k).1 (D k).2) :
 ∃ x y, v = .agg #[x, y] ∧ NeI w D (k + 1) (upd ts k (x, y)) ((wb.setCell ⟨w.heap.size + 1, k * 2, none⟩ x).setCell ⟨w.heap.size + 1, k * 2 + 1, none⟩ y) := by
 obtain ⟨a, n, c, b, m, d, rfl, h1, h2⟩ := ht
 have hz := h.d.lt
 refine ⟨_, _, rfl, ?_, ?_, row_upd (h.d.ext hx) hk _ _, ?_⟩
 ·exact ((h.below.trans hx).setCell (p := ⟨w.heap.size + 1, k * 2, none⟩) (Nat.le_succ _) _).setCell (p := ⟨w.heap.size + 1, k * 2 + 1, none⟩) (Nat.le_succ _) _
 ·exact (RowAt.set_ne (RowAt.set_ne (h.out.ext hx) (by omega)) (by omega))
 ·intro i hi
  by_cases e : i = k
  ·subst e
   rw [upd_at]
   refine (TabOwn.setL (g := w.heap.size + 1) ?_ (by omega) [_] _).setL (by omega) [_] _
   exact ⟨_, _, _, _, _, _, rfl, own_base h1 (by omega), own_base h2 (by omega)⟩
  ·rw [upd_ne _ _ e]
   exact (((h.own i (by omega)).ext hx).setL (by omega) [_] _).setL (by omega) [_] _
set_option maxHeartbeats 1000000 in
theorem dnew_any (w : World) : Calls Tryz.prog 73 #[] w fun e w' => ∃ us, e = .returned (dv us) ∧ DicOwn w.heap.size w' us newD ∧ Ext w w' := by
 have hI0 : NeI w newD 0 noV ((w.alloc (.cells (dcells noV).toArray 28)).alloc (.cells (dcells noV).toArray 28)) := ⟨(Ext.alloc _ _).trans (Ext.alloc _ _), (RowAt.new w _ (dcells noV)).ext (Ext.alloc _ _), row_at (by simp), fun i h => by omega⟩
 have hdn : (dcells noV).toArray = #[.slice none 0 0, .slice none 0 0, .slice none 0 0, .slice none 0 0, .slice none 0 0, .slice none 0 0, .slice none 0 0, .slice none 0 0, .slice none 0 0, .slice none 0 0] := rfl
 rw [hdn] at hI0
 have HI0 := Lib.hid hI0
 clear hI0 hdn
 go_enter Tryz.func73, Tryz.ntmps73
 go_upto_region 2 with fail
 replace HI0 := HI0.out
 generalize ((w.alloc (.cells #[.slice none 0 0, .slice none 0 0, .slice none 0 0, .slice none 0 0, .slice none 0 0, .slice none 0 0, .slice none 0 0, .slice none 0 0, .slice none 0 0, .slice none 0 0] 28)).alloc (.cells #[.slice none 0 0, .slice none 0 0, .slice none 0 0, .slice none 0 0, .slice none 0 0, .slice none 0 0, .slice none 0 0, .slice none 0 0, .slice none 0 0, .slice none 0 0] 28)) = w1 at *
 go_wp2_with fail
 go_loopg [3] 5 (fun g i wr => ∃ (k : Nat) (ts : Nat → Value × Value), k ≤ 5 ∧ g = 5 - k ∧ i = .int .i64 k ∧ NeI w newD k ts wr)
 case atStart => exact ⟨0, _, Nat.zero_le _, rfl, rfl, HI0⟩
 case round =>
  obtain ⟨k, ts, hk, hg, rfl, hI⟩ := hrel
  have HI := Lib.hid hI
  have Hg := Lib.hid hg
  clear hI hg HI0
  by_cases hlt : k < 5
  ·go_wp2_with fail
   refine (new_any _).mono ?_
   rintro e w2 ⟨v, rfl, ht, hx2⟩
   obtain ⟨x, y, rfl, hN⟩ := HI.out.next hlt hx2 ht
   have hd := HI.out.d.ext hx2
   have r0 := hd.cell (i := k * 2) (dcells_at ts hlt).1
   have r1 := hd.cell (i := k * 2 + 1) (dcells_at ts hlt).2
   have f0 := hd.frozen (k * 2)
   have f1 := hd.frozen (k * 2 + 1)
   obtain ⟨a, n, c, b, m, d, e, _, _⟩ := ht
   cases e
   have HN := Lib.hid hN
   have hki : (k : Int) < 5 := by omega
   clear hN hd
   go_wp2_with fail
   go_roundg (5 - (k + 1))
   case measure => have := Hg.out; omega
   case rel => exact ⟨k + 1, _, by omega, rfl, by go_num, HN.out⟩
  ·obtain rfl : k = 5 := by omega
   obtain ⟨A, hA1, hA2⟩ := heads (vs := ts) (fun i hi => by obtain ⟨a, c, b, d, e, _⟩ := (HI.out.own i hi).pair; exact ⟨_, _, _, _, _, _, e⟩)
   have hd := HI.out.d
   rw [hA2] at hd
   obtain ⟨c0, c1, c2, c3, c4, c5, c6, c7, c8, c9⟩ := hd.facts10
   obtain ⟨d0, d1, d2, d3, d4, d5, d6, d7, d8, d9⟩ := RowAt.facts10 (vs := noV) HI.out.out
   obtain ⟨g0, g1, g2, g3, g4, g5, g6, g7, g8, g9⟩ := HI.out.out.facts10f
   simp only [noV] at d0 d1 d2 d3 d4 d5 d6 d7 d8 d9
   simp only [hv] at c0 c1 c2 c3 c4 c5 c6 c7 c8 c9
   clear hd
   go_wp2
   rw [set10]
   clear d0 d1 d2 d3 d4 d5 d6 d7 d8 d9 c0 c1 c2 c3 c4 c5 c6 c7 c8 c9 g0 g1 g2 g3 g4 g5 g6 g7 g8 g9
   have hro := row_set10 (hv A) HI.out.out
   have hfin : DicOwn w.heap.size (setL wr w.heap.size 0 (dcells (hv A))) (hv A) newD := fun i hi => by rw [← hA1 i hi]; exact (((HI.out.own i hi).setL (by omega) _ 0).base (by omega))
   have hbf := below_setL (Nat.le_refl w.heap.size) (dcells (hv A)) 0 HI.out.below
   obtain ⟨q0, q1, q2, q3, q4, q5, q6, q7, q8, q9⟩ := RowAt.facts10 hro
   refine bodyPost_ret (v := dv (hv A)) ?_ rfl ⟨_, rfl, hfin, hbf⟩
   unfold dv dcells hv at *
   simp [results, Tryz.results73, go_sem, q0, q1, q2, q3, q4, q5, q6, q7, q8, q9]
end Go.Proofs.YtkmbnghghbfkdaaGreat

/- Names are put, one behind the other. -/
namespace Go.Proofs.YtkmbnghghbfkdaaGreat
open Go.RowKit Go.Shelf Go.Sort
attribute [local go_sem] Oper.semAt_some wide_fn wide_depth
def dputF (T : List ByteArray) (S : List Int) (s : ByteArray) : Option (List ByteArray × List Int × Int) := if findF T s < 0 ∧ 128 ≤ T.length then none else putF T S s
def putsF : List ByteArray → List ByteArray → List Int → Int → Option (List ByteArray × List Int × Int)
 | [], T, S, n => some (T, S, n)
 | s :: l, T, S, n => match dputF T S s with
  | none => none
  | some (T', S', n') => putsF l T' S' n'
def PutsPost (B : Nat) (w : World) (D : Dic) (k : Nat) (r : Option (List ByteArray × List Int × Int)) (e : Ending) (w' : World) : Prop := Ext w w' ∧
 match r with
 | some (T, S, n) => ∃ us, e = .returned (.tuple #[dv us, .int .i64 n, .int .i64 0]) ∧ DicOwn B w' us (upd D k (T, S))
 | none => e = .returned (.tuple #[dv noV, .int .i64 0, .int .i64 6])
def Cur (B C : Nat) (w W : World) (v : Value × Value) (T : List ByteArray) (S : List Int) : Prop := TabOwn B w (.agg #[v.1, v.2]) T S ∨ TabOwn C W (.agg #[v.1, v.2]) T S
structure PuI (B : Nat) (w : World) (vs : Nat → Value × Value) (k : Nat) (T : List ByteArray) (S : List Int) (ts : Nat → Value × Value) (W : World) : Prop where
 ext : Ext w W
 out : RowAt W (w.heap.size + 1) 28 (dcells noV)
 d : RowAt W w.heap.size 28 (dcells ts)
 rest : ∀ i, i ≠ k → ts i = vs i
 cur : Cur B (w.heap.size + 1 + 1) w W (ts k) T S
theorem PuI.grow {B : Nat} {w : World} {vs : Nat → Value × Value} {k : Nat} {T : List ByteArray} {S : List Int} {ts : Nat → Value × Value} {W W' : World} (h : PuI B w vs k T S ts W) (hx : Ext W W') : PuI B w vs k T S ts W' :=
 ⟨h.ext.trans hx, h.out.ext hx, h.d.ext hx, h.rest, h.cur.imp id (fun h => h.ext hx)⟩
theorem PuI.view {B : Nat} {w : World} {vs : Nat → Value × Value} {k : Nat} {T : List ByteArray} {S : List Int} {ts : Nat → Value × Value} {W : World} (h : PuI B w vs k T S ts W) :
 ∃ a c b d, ts k = (.slice a T.length c, .slice b S.length d) ∧ Strs W (.slice a T.length c) T ∧ Ints W .i64 (.slice b S.length d) S := by
 rcases h.cur with h1 | h1
 ·obtain ⟨a, c, b, d, e, o1, o2⟩ := h1.pair
  exact ⟨a, c, b, d, e, (Sl.of_own (own_ext o1 h.ext)), (Sl.of_own (own_ext o2 h.ext))⟩
 ·obtain ⟨a, c, b, d, e, o1, o2⟩ := h1.pair
  exact ⟨a, c, b, d, e, (Sl.of_own o1), (Sl.of_own o2)⟩
theorem PuI.next {B : Nat} {w : World} {vs : Nat → Value × Value} {k : Nat} {T T' : List ByteArray} {S S' : List Int} {ts : Nat → Value × Value} {W : World} (h : PuI B w vs k T S ts W) (hk : k < 5) {x y : Value} {b : Nat} (hb : w.heap.size + 1 + 1 ≤ b)
 (ht : TabOwn b W (.agg #[x, y]) T' S') : PuI B w vs k T' S' (upd ts k (x, y)) ((W.setCell ⟨w.heap.size, k * 2, none⟩ x).setCell ⟨w.heap.size, k * 2 + 1, none⟩ y) := by
 refine ⟨(h.ext.setCell (p := ⟨w.heap.size, k * 2, none⟩) (Nat.le_refl _) _).setCell (p := ⟨w.heap.size, k * 2 + 1, none⟩) (Nat.le_refl _) _, ?_, row_upd h.d hk _ _, fun i hi => by rw [upd_ne _ _ hi]; exact h.rest i hi, .inr ?_⟩
 ·exact (RowAt.set_ne (RowAt.set_ne h.out (by omega)) (by omega))
 ·rw [upd_at]
  exact ((ht.base hb).setL (by omega) [_] _).setL (by omega) [_] _
theorem PuI.fin {B : Nat} {w : World} {vs : Nat → Value × Value} {D : Dic} {k : Nat} {T : List ByteArray} {S : List Int} {ts : Nat → Value × Value} {W : World} (h : PuI B w vs k T S ts W) (hV : DicOwn B w vs D) (hB : B ≤ w.heap.size) (xs : List Value) :
 DicOwn B (setL W (w.heap.size + 1) 0 xs) ts (upd D k (T, S)) := fun i hi => by
 by_cases e : i = k
 ·subst e
  rw [upd_at]
  rcases h.cur with h1 | h1
  ·exact (h1.ext (below_setL (Nat.le_succ _) xs 0 h.ext))
  ·exact (h1.setL (by omega) xs 0).base (by omega)
 ·rw [upd_ne _ _ e, h.rest i e]
  exact (hV i hi).ext (below_setL (Nat.le_succ _) xs 0 h.ext)
set_option maxRecDepth 100000 in
set_option maxHeartbeats 2000000 in
theorem dput_any (B : Nat) (vs : Nat → Value × Value) (D : Dic) (k : Nat) (v3 : Value) (l : List ByteArray) (w : World) (hB : B ≤ w.heap.size) (hV : DicOwn B w vs D) (hk : k < 5) (hok : TabOK (D k).1 (D k).2) (hSz : (D k).2.length ≤ 4096) (hTs : ∀ s ∈ (D k).1, s.size ≤ 9223372036854775807)
 (hL : Strs w v3 l) (hls : ∀ s ∈ l, s.size ≤ 9223372036854775807) :
 Calls Tryz.prog 57 #[dv vs, .int .i64 k, v3] w (PutsPost B w D k (putsF l (D k).1 (D k).2 0)) := by
 obtain ⟨a3, c3, rfl, hc31, hc32⟩ := Sl.shape hL
 obtain ⟨A0, hA01, hA02⟩ := heads (vs := vs) (fun i hi => by obtain ⟨a, c, b, d, e, _⟩ := (hV i hi).pair; exact ⟨_, _, _, _, _, _, e⟩)
 have hI0 : PuI B w vs k (D k).1 (D k).2 vs ((w.alloc (.cells (dcells vs).toArray 28)).alloc (.cells (dcells noV).toArray 28)) :=
  ⟨(Ext.alloc _ _).trans (Ext.alloc _ _), row_at (by simp), (RowAt.new w _ (dcells vs)).ext (Ext.alloc _ _), fun _ _ => rfl, .inl (hV k hk)⟩
 have hdn : (dcells noV).toArray = #[.slice none 0 0, .slice none 0 0, .slice none 0 0, .slice none 0 0, .slice none 0 0, .slice none 0 0, .slice none 0 0, .slice none 0 0, .slice none 0 0, .slice none 0 0] := rfl
 have hdc : (dcells vs).toArray = #[(vs 0).1, (vs 0).2, (vs 1).1, (vs 1).2, (vs 2).1, (vs 2).2, (vs 3).1, (vs 3).2, (vs 4).1, (vs 4).2] := rfl
 unfold dv
 generalize hpf : putsF l (D k).1 (D k).2 0 = pf
 have Hpf := Lib.hid hpf
 have Hls := Lib.hid hls
 have Hok := Lib.hid hok
 have HTs := Lib.hid hTs
 have HSz := Lib.hid hSz
 have HV := Lib.hid hV
 have HL := Lib.hid hL
 rw [hdn, hdc] at hI0
 rw [hdc]
 have HI0 := Lib.hid hI0
 clear hI0 hdn hdc hpf hls hok hTs hSz hV hL hA01 hA02
 go_enter Tryz.func57, Tryz.ntmps57
 go_upto_region 1 with fail
 replace HI0 := HI0.out
 generalize Value.agg #[(vs 0).1, (vs 0).2, (vs 1).1, (vs 1).2, (vs 2).1, (vs 2).2, (vs 3).1, (vs 3).2, (vs 4).1, (vs 4).2] = dvv
 generalize ((w.alloc (.cells #[(vs 0).1, (vs 0).2, (vs 1).1, (vs 1).2, (vs 2).1, (vs 2).2, (vs 3).1, (vs 3).2, (vs 4).1, (vs 4).2] 28)).alloc (.cells #[.slice none 0 0, .slice none 0 0, .slice none 0 0, .slice none 0 0, .slice none 0 0, .slice none 0 0, .slice none 0 0, .slice none 0 0, .slice none 0 0, .slice none 0 0] 28)) = w1 at *
 replace HI0 := Lib.hid HI0
 have hki : (k : Int) < 5 := by omega
 go_wp2_with fail
 go_loopg [9, 20] l.length (fun g id i wr => ∃ (j : Nat) (T : List ByteArray) (S : List Int) (n : Int) (ts : Nat → Value × Value), j ≤ l.length ∧ g = l.length - j ∧ i = .int .i64 j ∧ id = .int .i64 n ∧
  putsF (l.drop j) T S n = pf ∧ TabOK T S ∧ (∀ s ∈ T, s.size ≤ 9223372036854775807) ∧ S.length ≤ 4096 ∧ PuI B w vs k T S ts wr)
 case atStart => exact ⟨0, _, _, 0, _, Nat.zero_le _, rfl, rfl, rfl, Hpf.out, Hok.out, HTs.out, HSz.out, HI0.out⟩
 case round =>
  obtain ⟨j, T, S, n, ts, hj, hg, rfl, rfl, hall, hokT, hTsT, hSzT, hI⟩ := hrel
  have HI := Lib.hid hI
  have Hg := Lib.hid hg
  have Hall := Lib.hid hall
  have HokT := Lib.hid hokT
  have HTsT := Lib.hid hTsT
  clear hI hg HI0 hall hokT hTsT
  by_cases hlt : j < l.length
  ·obtain ⟨bl, ol, rfl, cl⟩ := (HL.out.ext HI.out.ext).at_ hlt
   obtain ⟨a, c, b, d, hv, hT, hS⟩ := HI.out.view
   obtain ⟨e1, e2⟩ := fst_eq hv
   have p1 := HI.out.d.cell (i := k * 2) (dcells_at ts hk).1
   have p2 := HI.out.d.cell (i := k * 2 + 1) (dcells_at ts hk).2
   have f1 := HI.out.d.frozen (k * 2)
   have f2 := HI.out.d.frozen (k * 2 + 1)
   rw [e1] at p1
   rw [e2] at p2
   have hs := Hls.out _ (List.getElem_mem hlt)
   have hdr : l.drop j = l[j] :: l.drop (j + 1) := List.drop_eq_getElem_cons hlt
   have Hall' : Hid (putsF (l[j] :: l.drop (j + 1)) T S n = pf) := Lib.hid (by rw [← hdr]; exact Hall.out)
   generalize l[j] = s at *
   have HT := Lib.hid hT
   have HS := Lib.hid hS
   have Hs := Lib.hid hs
   have hbx : RowAt (wr.alloc (.cells #[.slice a T.length c, .slice b S.length d] 25)) wr.heap.size 25 [.slice a T.length c, .slice b S.length d] := RowAt.new _ _ _
   clear hT hS hs hv e1 e2 hdr Hall
   have hdp : dputF T S s = if findF T s < 0 ∧ 128 ≤ T.length then none else putF T S s := rfl
   have hfp : ∀ w', Ext wr w' → Calls Tryz.prog 101 #[.agg #[.slice a T.length c, .slice b S.length d], .string s] w' fun e w'' => e = .returned (.tuple #[.int .i64 (max (findF T s) 0), .bool (decide (0 ≤ findF T s))]) ∧ Ext w' w'' :=
    fun w' hx => find_yes T S s a _ c b _ d _ (HT.out.ext hx) (HS.out.ext hx) (by omega) HTsT.out Hs.out HokT.out
   have hpp : ∀ w', Ext wr w' → Calls Tryz.prog 102 #[.agg #[.slice a T.length c, .slice b S.length d], .string s] w' (PutPost w' (putF T S s)) :=
    fun w' hx => put_yes T S s a _ c b _ d _ (HT.out.ext hx) (HS.out.ext hx) (by omega) HTsT.out Hs.out HokT.out
   have hmore : ¬ (findF T s < 0 ∧ 128 ≤ T.length) → ∃ T' S' n', putF T S s = some (T', S', n') ∧ TabOK T' S' ∧ (∀ x ∈ T', x.size ≤ 9223372036854775807) ∧ S'.length ≤ 4096 := fun h => by
    obtain ⟨T', S', n', hp⟩ : ∃ T' S' n', putF T S s = some (T', S', n') := by
     unfold putF
     split
     ·exact ⟨_, _, _, rfl⟩
     ·rw [if_neg (by omega)]; exact ⟨_, _, _, rfl⟩
    obtain ⟨h1, h2, h3, _⟩ := putF_ok HokT.out hp
    exact ⟨T', S', n', hp, h1, fun x hx => by rcases h2 x hx with h | rfl; exact HTsT.out _ h; exact Hs.out, by omega⟩
   have HFP := Lib.hid hfp
   have HPP := Lib.hid hpp
   have HM := Lib.hid hmore
   have HDP := Lib.hid hdp
   generalize findF T s = f at *
   clear hfp hpp hmore hdp
   by_cases hcase : f < 0 ∧ 128 ≤ T.length
   ·have Hpfn : Hid (pf = none) := Lib.hid (by rw [← Hall'.out]; unfold putsF; rw [HDP.out, if_pos hcase])
    have hd0 : decide (0 ≤ f) = false := by simp; omega
    have hd1 : decide ((128 : Int) ≤ (T.length : Int)) = true := by simp; omega
    clear hcase
    go_wp2_with fail
    refine (HFP.out _ (Ext.alloc _ _)).mono ?_
    rintro e w2 ⟨rfl, hx2⟩
    obtain ⟨q1, q2, _, _⟩ := (hbx.ext hx2).facts2
    rw [hd0]
    have hI2 := HI.out.grow ((Ext.alloc _ _).trans hx2)
    obtain ⟨d0, d1, d2, d3, d4, d5, d6, d7, d8, d9⟩ := RowAt.facts10 (vs := noV) hI2.out
    obtain ⟨g0, g1, g2, g3, g4, g5, g6, g7, g8, g9⟩ := hI2.out.facts10f
    have HI2 := Lib.hid hI2
    clear hI2 hd0 hbx p1 p2 f1 f2
    simp only [noV] at d0 d1 d2 d3 d4 d5 d6 d7 d8 d9
    go_wp2_with fail
    rw [set10]
    clear d0 d1 d2 d3 d4 d5 d6 d7 d8 d9 g0 g1 g2 g3 g4 g5 g6 g7 g8 g9
    obtain ⟨q0, q1, q2, q3, q4, q5, q6, q7, q8, q9⟩ := RowAt.facts10 (row_set10 noV HI2.out.out)
    unfold dcells noV at q0 q1 q2 q3 q4 q5 q6 q7 q8 q9
    dsimp only at q0 q1 q2 q3 q4 q5 q6 q7 q8 q9
    refine bodyPost_ret (v := .tuple #[dv noV, .int .i64 0, .int .i64 6]) (by unfold dv dcells noV; simp [results, Tryz.results57, go_sem, q0, q1, q2, q3, q4, q5, q6, q7, q8, q9]) rfl ⟨below_setL (Nat.le_succ _) (dcells noV) 0 HI2.out.ext, ?_⟩
    rw [Hpfn.out]
   ·obtain ⟨T', S', n', hp, hok', hTs', hSz'⟩ := HM.out hcase
    have Hall2 : Hid (putsF (l.drop (j + 1)) T' S' n' = pf) := Lib.hid (by rw [← Hall'.out]; conv => rhs; unfold putsF; rw [HDP.out, if_neg hcase, hp])
    have HP : Hid (∀ w', Ext wr w' → Calls Tryz.prog 102 #[.agg #[.slice a T.length c, .slice b S.length d], .string s] w' fun e w'' => Ext w' w'' ∧ ∃ v, e = .returned (.tuple #[v, .int .i64 n', .int .i64 0]) ∧ TabOwn w'.heap.size w'' v T' S') := Lib.hid (fun w' hx => (HPP.out w' hx).mono fun e w'' h => by
     obtain ⟨h1, h2⟩ := h
     rw [hp] at h2
     exact ⟨h1, h2⟩)
    have Hok' := Lib.hid hok'
    have HTs' := Lib.hid hTs'
    clear HPP HM HDP Hall' hp hok' hTs'
    have hd01 : decide (0 ≤ f) = true ∨ (decide (0 ≤ f) = false ∧ decide ((128 : Int) ≤ (T.length : Int)) = false) := by
     by_cases h : 0 ≤ f
     ·exact .inl (by simpa using h)
     ·exact .inr ⟨by simpa using h, by simp; omega⟩
    clear hcase
    go_wp2_with fail
    refine (HFP.out _ (Ext.alloc _ _)).mono ?_
    rintro e w2 ⟨rfl, hx2⟩
    obtain ⟨q1, q2, _, _⟩ := (hbx.ext hx2).facts2
    rcases hd01 with hd | ⟨hd, hd1⟩
    all_goals
     rw [hd]
     clear hd
     go_wp2_with fail
     refine (HP.out _ ((Ext.alloc _ _).trans hx2)).mono ?_
     rintro e w3 ⟨hx3, v, rfl, ht⟩
     obtain ⟨a', n1, c', b', m1, d', rfl, hto1, hto2⟩ := ht
     have hxr : Ext wr (w3.alloc (.cells #[.slice a' n1 c', .slice b' m1 d'] 25)) := (((Ext.alloc _ _).trans hx2).trans hx3).trans (Ext.alloc _ _)
     have hI3 := HI.out.grow hxr
     have hsz2 := hI3.ext.size
     have hn3 := hI3.next hk (x := .slice a' n1 c') (y := .slice b' m1 d') (b := w2.heap.size) (by have := ((HI.out.grow ((Ext.alloc _ _).trans hx2)).out).lt; omega) (⟨_, _, _, _, _, _, rfl, own_ext hto1 (Ext.alloc _ _), own_ext hto2 (Ext.alloc _ _)⟩ : TabOwn w2.heap.size _ _ T' S')
     have HN3 := Lib.hid hn3
     have y1 := hI3.d.cell (i := k * 2) (dcells_at ts hk).1
     have y2 := hI3.d.cell (i := k * 2 + 1) (dcells_at ts hk).2
     have z1 := hI3.d.frozen (k * 2)
     have z2 := hI3.d.frozen (k * 2 + 1)
     clear hn3 hI3 hxr p1 p2 f1 f2 hbx hto1 hto2
     go_wp2_with fail
     go_roundg (l.length - (j + 1))
     case measure => have := Hg.out; omega
     case rel => exact ⟨j + 1, _, _, _, _, by omega, rfl, by go_num, rfl, Hall2.out, Hok'.out, HTs'.out, hSz', HN3.out⟩
  ·have hr : pf = some (T, S, n) := by rw [← Hall.out, List.drop_eq_nil_of_le (by omega)]; rfl
   have Hr := Lib.hid hr
   obtain ⟨a, c, b, d, hvk, _, _⟩ := HI.out.view
   obtain ⟨A, hA1, hA2⟩ := heads (vs := ts) (fun i hi => by
    by_cases e : i = k
    ·subst e; exact ⟨_, _, _, _, _, _, hvk⟩
    ·rw [HI.out.rest i e]; obtain ⟨a, c, b, d, e, _⟩ := (HV.out i hi).pair; exact ⟨_, _, _, _, _, _, e⟩)
   have hd := HI.out.d
   rw [hA2] at hd
   obtain ⟨c0, c1, c2, c3, c4, c5, c6, c7, c8, c9⟩ := hd.facts10
   obtain ⟨d0, d1, d2, d3, d4, d5, d6, d7, d8, d9⟩ := RowAt.facts10 (vs := noV) HI.out.out
   obtain ⟨g0, g1, g2, g3, g4, g5, g6, g7, g8, g9⟩ := HI.out.out.facts10f
   simp only [noV] at d0 d1 d2 d3 d4 d5 d6 d7 d8 d9
   have HA := Lib.hid hA1
   clear hd hr Hall hvk hA1 hA2
   unfold hv at c0 c1 c2 c3 c4 c5 c6 c7 c8 c9
   dsimp only at c0 c1 c2 c3 c4 c5 c6 c7 c8 c9
   go_wp2_with fail
   rw [set10]
   clear d0 d1 d2 d3 d4 d5 d6 d7 d8 d9 c0 c1 c2 c3 c4 c5 c6 c7 c8 c9 g0 g1 g2 g3 g4 g5 g6 g7 g8 g9
   have hro := row_set10 (hv A) HI.out.out
   have hfin : DicOwn B (setL wr (w.heap.size + 1) 0 (dcells (hv A))) (hv A) (upd D k (T, S)) := fun i hi => by rw [← HA.out i hi]; exact HI.out.fin HV.out hB _ i hi
   have hbf := below_setL (Nat.le_succ w.heap.size) (dcells (hv A)) 0 HI.out.ext
   obtain ⟨q0, q1, q2, q3, q4, q5, q6, q7, q8, q9⟩ := RowAt.facts10 hro
   refine bodyPost_ret (v := .tuple #[dv (hv A), .int .i64 n, .int .i64 0]) ?_ rfl ⟨hbf, ?_⟩
   ·unfold dv dcells hv at *
    simp [results, Tryz.results57, go_sem, q0, q1, q2, q3, q4, q5, q6, q7, q8, q9]
   ·rw [Hr.out]
    exact ⟨_, rfl, hfin⟩
end Go.Proofs.YtkmbnghghbfkdaaGreat

/- A name is put. -/
namespace Go.Proofs.YtkmbnghghbfkdaaGreat
open Go.RowKit Go.Shelf Go.Sort
attribute [local go_sem] Oper.semAt_some wide_fn wide_depth
theorem mayB_kind {k : Int} {s : List UInt8} (h : mayB k s = true) : 0 ≤ k ∧ k < 5 := by
 unfold mayB at h
 simp only [Bool.and_eq_true, decide_eq_true_eq] at h
 omega
def putD (D : Dic) (kind : Int) (s : ByteArray) : Except Int (Dic × Int) :=
 if mayB kind (bts s) = true then match dputF (D kind.toNat).1 (D kind.toNat).2 s with
  | none => .error 6
  | some (T, S, n) => .ok (upd D kind.toNat (T, S), n)
 else .error 2
def DPutPost (w : World) (r : Except Int (Dic × Int)) (e : Ending) (w' : World) : Prop := Ext w w' ∧
 match r with
 | .ok (D', n) => ∃ us, e = .returned (.tuple #[dv us, .int .i64 n, .int .i64 0]) ∧ DicOwn w.heap.size w' us D'
 | .error c => e = .returned (.tuple #[dv noV, .int .i64 0, .int .i64 c])
def dnoV : Value := .agg #[.slice none 0 0, .slice none 0 0, .slice none 0 0, .slice none 0 0, .slice none 0 0, .slice none 0 0, .slice none 0 0, .slice none 0 0, .slice none 0 0, .slice none 0 0]
theorem dv_noV : dv noV = dnoV := rfl
set_option maxRecDepth 100000 in
set_option maxHeartbeats 2000000 in
theorem dPut_all (vs : Nat → Value × Value) (D : Dic) (kind : Int) (s : ByteArray) (w : World) (hV : DicV w vs D) (hS : DicS D) (hs : s.size ≤ 9223372036854775807) (ok : Bool) (hok : ok = true ↔ DicOK D) :
 Calls Tryz.prog 18 #[dv vs, .int .i64 kind, .string s] w (DPutPost w (if ok then putD D kind s else .error 160)) := by
 have hbd : RowAt ((w.alloc (.cells (dcells vs).toArray 28)).alloc (.cells (dcells noV).toArray 28)) (w.heap.size + 1) 28 (dcells noV) := row_at (by simp)
 have hbd0 : RowAt ((w.alloc (.cells (dcells vs).toArray 28)).alloc (.cells (dcells noV).toArray 28)) w.heap.size 28 (dcells vs) := (RowAt.new w _ (dcells vs)).ext (Ext.alloc _ _)
 have hx0 : Ext w ((w.alloc (.cells (dcells vs).toArray 28)).alloc (.cells (dcells noV).toArray 28)) := (Ext.alloc _ _).trans (Ext.alloc _ _)
 have hc : ∀ w', Ext w w' → Calls Tryz.prog 41 #[dv vs] w' fun e w'' => e = .returned (.int .i64 (if ok then 0 else 160)) ∧ Ext w' w'' := fun w' hx => by
  cases ok with
  | true => exact dcheck_yes vs D w' (hV.ext hx) hS (hok.1 rfl)
  | false => exact dcheck_no vs D w' (hV.ext hx) hS (fun h => by have := hok.2 h; cases this)
 have ho : ∀ w', Ext w w' → Calls Tryz.prog 58 #[dv vs] w' fun e w'' => ∃ us, e = .returned (dv us) ∧ DicOwn w'.heap.size w'' us D ∧ Ext w' w'' := fun w' hx => down_any vs D w' (hV.ext hx) hS
 have hm := fun w' => may_any kind s w' hs
 have hdn : (dcells noV).toArray = #[.slice none 0 0, .slice none 0 0, .slice none 0 0, .slice none 0 0, .slice none 0 0, .slice none 0 0, .slice none 0 0, .slice none 0 0, .slice none 0 0, .slice none 0 0] := rfl
 have hdc : (dcells vs).toArray = #[(vs 0).1, (vs 0).2, (vs 1).1, (vs 1).2, (vs 2).1, (vs 2).2, (vs 3).1, (vs 3).2, (vs 4).1, (vs 4).2] := rfl
 rw [hdn, hdc] at hbd hbd0 hx0
 have HB := Lib.hid hbd
 have HB0 := Lib.hid hbd0
 have HX0 := Lib.hid hx0
 have HO := Lib.hid ho
 have HM := Lib.hid hm
 have HS := Lib.hid hS
 have HOK := Lib.hid hok
 unfold dv at hc
 rw [hdc] at hc
 have HC := Lib.hid hc
 unfold dv
 rw [hdc]
 clear hbd hbd0 hx0 hc ho hm hdn hdc hS hok hV
 generalize hres : (if ok = true then putD D kind s else .error 160) = res
 have HRES := Lib.hid hres
 clear hres
 go_enter Tryz.func18, Tryz.ntmps18
 go_upto_region 1 with fail
 replace HB := HB.out
 replace HB0 := HB0.out
 replace HX0 := HX0.out
 generalize ((w.alloc (.cells #[(vs 0).1, (vs 0).2, (vs 1).1, (vs 1).2, (vs 2).1, (vs 2).2, (vs 3).1, (vs 3).2, (vs 4).1, (vs 4).2] 28)).alloc (.cells #[.slice none 0 0, .slice none 0 0, .slice none 0 0, .slice none 0 0, .slice none 0 0, .slice none 0 0, .slice none 0 0, .slice none 0 0, .slice none 0 0, .slice none 0 0] 28)) = w1 at *
 obtain ⟨c0, c1, c2, c3, c4, c5, c6, c7, c8, c9⟩ := HB0.facts10
 go_wp2_with fail
 have hcc := HC.out _ HX0
 obtain ⟨code, hcode⟩ : ∃ c : Int, (if ok = true then 0 else 160) = c := ⟨_, rfl⟩
 rw [hcode] at hcc
 clear HC
 refine hcc.mono ?_
 clear hcc
 rintro e w2 ⟨rfl, hx2⟩
 have HB2 := Lib.hid (HB.ext hx2)
 have hb02 := HB0.ext hx2
 clear HB HB0 c0 c1 c2 c3 c4 c5 c6 c7 c8 c9
 have HX2 := Lib.hid (HX0.trans hx2)
 cases ok with
 | false =>
  obtain rfl : 160 = code := hcode
  clear HOK HM HO
  obtain ⟨d0, d1, d2, d3, d4, d5, d6, d7, d8, d9⟩ := RowAt.facts10 (vs := noV) HB2.out
  obtain ⟨g0, g1, g2, g3, g4, g5, g6, g7, g8, g9⟩ := HB2.out.facts10f
  simp only [noV] at d0 d1 d2 d3 d4 d5 d6 d7 d8 d9
  go_wp2_with fail
  rw [set10]
  obtain ⟨q0, q1, q2, q3, q4, q5, q6, q7, q8, q9⟩ := RowAt.facts10 (row_set10 (vs := noV) noV HB2.out)
  unfold dcells noV at q0 q1 q2 q3 q4 q5 q6 q7 q8 q9
  dsimp only at q0 q1 q2 q3 q4 q5 q6 q7 q8 q9
  exact bodyPost_ret (v := .tuple #[dv noV, .int .i64 0, .int .i64 160]) (by rw [dv_noV]; unfold dnoV; simp [results, Tryz.results18, go_sem, q0, q1, q2, q3, q4, q5, q6, q7, q8, q9]) rfl ⟨below_setL (Nat.le_succ _) (dcells noV) 0 HX2.out, by rw [← HRES.out]; rfl⟩
 | true =>
  obtain rfl : 0 = code := hcode
  have Hok : Hid (DicOK D) := Lib.hid (HOK.out.1 rfl)
  obtain ⟨mb, hmb⟩ : ∃ mb, mayB kind (bts s) = mb := ⟨_, rfl⟩
  have HMB := Lib.hid hmb
  have hm := HM.out
  rw [hmb] at hm
  clear hmb HM HOK
  cases mb with
  | false =>
   have HR : Hid (putD D kind s = .error 2) := Lib.hid (by unfold putD; rw [HMB.out]; rfl)
   go_wp2_with fail
   refine (hm _).mono ?_
   rintro e w3 ⟨rfl, hx3⟩
   have hb3 := HB2.out.ext hx3
   obtain ⟨d0, d1, d2, d3, d4, d5, d6, d7, d8, d9⟩ := RowAt.facts10 (vs := noV) hb3
   obtain ⟨g0, g1, g2, g3, g4, g5, g6, g7, g8, g9⟩ := hb3.facts10f
   have HB3 := Lib.hid hb3
   clear hb3
   simp only [noV] at d0 d1 d2 d3 d4 d5 d6 d7 d8 d9
   go_wp2_with fail
   rw [set10]
   obtain ⟨q0, q1, q2, q3, q4, q5, q6, q7, q8, q9⟩ := RowAt.facts10 (row_set10 (vs := noV) noV HB3.out)
   unfold dcells noV at q0 q1 q2 q3 q4 q5 q6 q7 q8 q9
   dsimp only at q0 q1 q2 q3 q4 q5 q6 q7 q8 q9
   refine bodyPost_ret (v := .tuple #[dv noV, .int .i64 0, .int .i64 2]) (by rw [dv_noV]; unfold dnoV; simp [results, Tryz.results18, go_sem, q0, q1, q2, q3, q4, q5, q6, q7, q8, q9]) rfl ⟨below_setL (Nat.le_succ _) (dcells noV) 0 (HX2.out.trans hx3), ?_⟩
   first | rw [← HRES.out, if_pos rfl, HR.out] | rw [← HRES.out, HR.out]
   rfl
  | true =>
   have hk := mayB_kind HMB.out
   obtain ⟨k, rfl⟩ := Int.eq_ofNat_of_zero_le hk.1
   have hk5 : k < 5 := by omega
   have HR : Hid (putD D (k : Int) s = match putsF [s] (D k).1 (D k).2 0 with | none => .error 6 | some (T, S, n) => .ok (upd D k (T, S), n)) := Lib.hid (by
    unfold putD
    rw [HMB.out, if_pos rfl, show ((k : Int)).toNat = k from rfl]
    cases h : dputF (D k).1 (D k).2 s with
    | none => simp [putsF, h]
    | some r => obtain ⟨T, S, n⟩ := r; simp [putsF, h])
   go_wp2_with fail
   refine (hm _).mono ?_
   rintro e w3 ⟨rfl, hx3⟩
   obtain ⟨c0, c1, c2, c3, c4, c5, c6, c7, c8, c9⟩ := (hb02.ext hx3).facts10
   clear hm hb02
   go_wp2_with fail
   have hoo := HO.out w3 (HX2.out.trans hx3)
   refine hoo.mono ?_
   rintro e w4 ⟨us, rfl, hus, hx4⟩
   clear hoo c0 c1 c2 c3 c4 c5 c6 c7 c8 c9
   have HUS := Lib.hid hus
   clear hus
   generalize hdu : dv us = du
   have Hdu := Lib.hid hdu
   clear hdu
   go_wp2_with fail
   have hsl : Strs (w4.alloc (.cells #[.string s] 9)) (.slice (some ⟨w4.heap.size, 0, none⟩) 1 1) [s] := Sl.new _ _ _ 1 1 (Nat.le_refl _) (by unfold maxLen; omega)
   have hp := dput_any w3.heap.size us D k (.slice (some ⟨w4.heap.size, 0, none⟩) 1 1) [s] (w4.alloc (.cells #[.string s] 9)) (by have := hx4.size; simp; omega) (HUS.out.ext (Ext.alloc _ _)) hk5 (Hok.out k hk5).1 (HS.out k hk5).2.1 (HS.out k hk5).2.2 hsl (fun x hx => by rw [List.mem_singleton.1 hx]; exact hs)
   rw [Hdu.out] at hp
   generalize putsF [s] (D k).1 (D k).2 0 = pr at *
   refine hp.mono ?_
   rintro e w5 ⟨hx5, hm5⟩
   have hb5 := HB2.out.ext (((hx3.trans hx4).trans (Ext.alloc _ _)).trans hx5)
   obtain ⟨d0, d1, d2, d3, d4, d5, d6, d7, d8, d9⟩ := RowAt.facts10 (vs := noV) hb5
   obtain ⟨g0, g1, g2, g3, g4, g5, g6, g7, g8, g9⟩ := hb5.facts10f
   have HB5 := Lib.hid hb5
   have HX5 := Lib.hid (((HX2.out.trans hx3).trans hx4).trans ((Ext.alloc _ _).trans hx5))
   simp only [noV] at d0 d1 d2 d3 d4 d5 d6 d7 d8 d9
   clear hb5 hp hsl
   cases pr with
   | none =>
    obtain rfl := hm5
    rw [dv_noV]
    unfold dnoV
    go_wp2_with fail
    rw [set10]
    obtain ⟨q0, q1, q2, q3, q4, q5, q6, q7, q8, q9⟩ := RowAt.facts10 (row_set10 (vs := noV) noV HB5.out)
    unfold dcells noV at q0 q1 q2 q3 q4 q5 q6 q7 q8 q9
    dsimp only at q0 q1 q2 q3 q4 q5 q6 q7 q8 q9
    refine bodyPost_ret (v := .tuple #[dv noV, .int .i64 0, .int .i64 6]) (by rw [dv_noV]; unfold dnoV; simp [results, Tryz.results18, go_sem, q0, q1, q2, q3, q4, q5, q6, q7, q8, q9]) rfl ⟨below_setL (Nat.le_succ _) (dcells noV) 0 HX5.out, ?_⟩
    first | rw [← HRES.out, if_pos rfl, HR.out] | rw [← HRES.out, HR.out]
    rfl
   | some r =>
    obtain ⟨T, S, n⟩ := r
    obtain ⟨zs, rfl, hzs⟩ := hm5
    obtain ⟨A, hA1, hA2⟩ := heads (vs := zs) (fun i hi => by obtain ⟨a, c, b, d, e, _⟩ := (hzs i hi).pair; exact ⟨_, _, _, _, _, _, e⟩)
    have HZ : Hid (DicOwn w3.heap.size w5 (hv A) (upd D k (T, S))) := Lib.hid (fun i hi => by rw [← hA1 i hi]; exact hzs i hi)
    rw [show dv zs = dv (hv A) from by unfold dv; rw [hA2]]
    clear hA1 hA2 hzs
    unfold dv dcells hv
    dsimp only
    go_wp2_with fail
    rw [set10]
    clear d0 d1 d2 d3 d4 d5 d6 d7 d8 d9 g0 g1 g2 g3 g4 g5 g6 g7 g8 g9
    obtain ⟨q0, q1, q2, q3, q4, q5, q6, q7, q8, q9⟩ := RowAt.facts10 (row_set10 (vs := noV) (hv A) HB5.out)
    refine bodyPost_ret (v := .tuple #[dv (hv A), .int .i64 n, .int .i64 0]) ?_ rfl ⟨below_setL (Nat.le_succ _) (dcells (hv A)) 0 HX5.out, ?_⟩
    ·unfold dv dcells hv at *
     simp [results, Tryz.results18, go_sem, q0, q1, q2, q3, q4, q5, q6, q7, q8, q9]
    ·first | rw [← HRES.out, if_pos rfl, HR.out] | rw [← HRES.out, HR.out]
     refine ⟨_, rfl, ?_⟩
     have hz1 := HB2.out.lt
     have hz3 := hx3.size
     exact fun i hi => ((HZ.out i hi).setL (by omega) _ 0).base (by omega)
end Go.Proofs.YtkmbnghghbfkdaaGreat
