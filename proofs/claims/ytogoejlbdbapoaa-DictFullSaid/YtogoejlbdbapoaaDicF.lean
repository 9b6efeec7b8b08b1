/- Which dictionaries may be. -/
import Derived.Test.YtogoejlbdbapoaaDicE
import Derived.Test.YtogoejlbdbapoaaTabX2
namespace Go.Proofs.Ytogoejlbdbapoaa
set_option maxRecDepth 100000
set_option maxHeartbeats 2000000
set_option linter.unusedSimpArgs false
open Go.RowKit Go.Shelf Go.Sort
attribute [local go_sem] Oper.semAt_some wide_fn wide_depth
set_option linter.unusedVariables false

/-- A kind's table may be. -/
def KindOK (k : Nat) (t : List ByteArray × List Int) : Prop := TabOK t.1 t.2 ∧ t.1.length ≤ 128 ∧ badB k t.1 = false
def DicOK (D : Dic) : Prop := ∀ i, i < 5 → KindOK i (D i)
theorem Stab.row (B g : Nat) (t : TypeId) (xs : List Value) : Stab B (fun W => RowAt W g t xs) := fun W W' row h hg hr => by
  refine h.kept hg (fun e => ?_)
  obtain ⟨_, o, ho, hc⟩ := hr g e
  rw [show W.heap[g]? = _ from h] at ho
  cases ho; cases hc
theorem Stab.belowW (w : World) (B : Nat) (hB : w.heap.size ≤ B) : Stab B (fun W => Below w.heap.size w W) := fun W W' row h hg hr => h.grown hg h.size (fun k e => Nat.le_trans hB (hr k e).1)
theorem leave_markedC {P : Program} {fn : Func} {tmps : Array Value} {D : Nat} {W : World} {R : Ending → World → Prop} {v : Value} (hD : W.heap[D]? = some (.deferred (some [])))
    (hr : (results fn tmps).run P (W.putObj D (.deferred none)) = .ok v (W.putObj D (.deferred none))) (h : R (.returned v) (W.putObj D (.deferred none))) : bodyPostM Fence.wide 0 P fn R .ret { tmps, defers := [{ target := .collected D, args := #[] }] } W :=
  ⟨by simp, .inl ⟨_, _, rfl, run_takeDeferred hD, ⟨_, hr, h⟩⟩⟩
theorem row_mark {W : World} {D g : Nat} {t : TypeId} {xs : List Value} (h : RowAt W g t xs) (hD : W.heap[D]? = some (.deferred (some []))) : RowAt (W.putObj D (.deferred none)) g t xs :=
  (World.putObj_heap_other (fun e => by subst e; rw [show W.heap[_]? = _ from h] at hD; cases hD)).trans h
theorem fst_eq {v : Value × Value} {a : Option Addr} {n c : Nat} {b : Option Addr} {m d : Nat} (h : v = (.slice a n c, .slice b m d)) : v.1 = .slice a n c ∧ v.2 = .slice b m d := by rw [h]; exact ⟨rfl, rfl⟩
theorem DicV.shape {w : World} {vs : Nat → Value × Value} {D : Dic} (h : DicV w vs D) : ∀ i, i < 5 → ∃ a n c b m d, vs i = (.slice a n c, .slice b m d) := fun i hi => by
  obtain ⟨a, n, c, b, m, d, e, _⟩ := h i hi
  exact ⟨a, n, c, b, m, d, e⟩
/-- What holds when k kinds have been looked at. -/
structure CkI (w w1 : World) (vs : Nat → Value × Value) (D : Dic) (k : Nat) (W : World) : Prop where
  ext : Ext w1 W
  arg : RowAt W (w.heap.size + 1 + 1) 28 (dcells vs)
  out : RowAt W (w.heap.size + 1) 32 [.int .i64 0]
  ok : ∀ i, i < k → KindOK i (D i)
theorem CkI.stab (w w1 : World) (vs : Nat → Value × Value) (D : Dic) (k : Nat) : Stab w1.heap.size (CkI w w1 vs D k) := fun W W' row h hg hr =>
  ⟨Stab.ext_ _ W W' row h.ext hg hr, Stab.row _ _ _ _ W W' row h.arg hg hr, Stab.row _ _ _ _ W W' row h.out hg hr, h.ok⟩
theorem CkI.grow {w w1 : World} {vs : Nat → Value × Value} {D : Dic} {k : Nat} {W W' : World} (h : CkI w w1 vs D k W) (hx : Ext W W') : CkI w w1 vs D k W' :=
  ⟨h.ext.trans hx, h.arg.ext hx, h.out.ext hx, h.ok⟩
set_option maxRecDepth 100000 in
set_option maxHeartbeats 2000000 in
theorem dcheck_any (vs : Nat → Value × Value) (D : Dic) (w : World) (hV : DicV w vs D) (hS : DicS D) :
    Calls Try.prog 13 #[dv vs] w fun e w' => ∃ r : Int, e = .returned (.int .i64 r) ∧ (r = 0 ∨ r = 160) ∧ (r = 0 ↔ DicOK D) ∧ Ext w w' := by
  have hk := fun w => kinds_any vs w
  have hr1 : RowAt ((w.alloc (.cells (dcells vs).toArray 28)).alloc (.cells #[.int .i64 0] 32)) (w.heap.size + 1) 32 [.int .i64 0] := row_at (by simp)
  have hr2 := RowAt.new ((w.alloc (.cells (dcells vs).toArray 28)).alloc (.cells #[.int .i64 0] 32)) 28 (dcells vs)
  have hx0 : Ext w ((w.alloc (.cells (dcells vs).toArray 28)).alloc (.cells #[.int .i64 0] 32)) := (Ext.alloc _ _).trans (Ext.alloc _ _)
  have hsz : ((w.alloc (.cells (dcells vs).toArray 28)).alloc (.cells #[.int .i64 0] 32)).heap.size = w.heap.size + 1 + 1 := by simp
  have hx1 := Ext.alloc ((w.alloc (.cells (dcells vs).toArray 28)).alloc (.cells #[.int .i64 0] 32)) (.cells (dcells vs).toArray 28)
  rw [hsz] at hr2
  unfold dv
  unfold dv at hk
  have hdc : (dcells vs).toArray = #[(vs 0).1, (vs 0).2, (vs 1).1, (vs 1).2, (vs 2).1, (vs 2).2, (vs 3).1, (vs 3).2, (vs 4).1, (vs 4).2] := rfl
  rw [hdc]
  simp only [hdc] at hr1 hr2 hx0 hsz hx1 hk
  refine calls_of_wp_marks Try.func13 rfl ?_
  simp only [Try.ntmps13, List.size_toArray, List.length_cons, List.length_nil, Nat.reduceAdd, Nat.reduceSub, Array.replicate_succ, Array.replicate_zero, List.push_toArray, List.append_toArray, List.nil_append, List.cons_append]
  go_wp2_with (go_at_call 40; refine (hk _).mono ?_; rintro e w' ⟨rfl, rfl⟩)
  replace hr1 := hr1.ext hx1
  generalize ((w.alloc (.cells #[(vs 0).1, (vs 0).2, (vs 1).1, (vs 1).2, (vs 2).1, (vs 2).2, (vs 3).1, (vs 3).2, (vs 4).1, (vs 4).2] 28)).alloc (.cells #[.int .i64 0] 32)).alloc (.cells #[(vs 0).1, (vs 0).2, (vs 1).1, (vs 1).2, (vs 2).1, (vs 2).2, (vs 3).1, (vs 3).2, (vs 4).1, (vs 4).2] 28) = w1 at *
  have hxw := hx0.trans hx1
  have hsh := hV.shape
  have HV := Lib.hid (hV.ext hxw)
  have HS := Lib.hid hS
  have hwz := hxw.size
  have hI0 : CkI w w1 vs D 0 w1 := ⟨Ext.refl _, hr2, hr1, fun i h => by omega⟩
  have HXW := Lib.hid hxw
  clear hk hr1 hr2 hx0 hsz hx1 hdc hV hS hxw
  refine wp_overI rfl (enters_of Try.func63 (by kernel_rfl) rfl) (kinds_iter vs _ hsh)
    (by rintro k W args rfl; rfl) (fun k args => Stab.pure _ _)
    (fun k W => CkI w w1 vs D k W) (fun q W => q = .ret ∧ ¬ DicOK D ∧ Below w.heap.size w W ∧ RowAt W (w.heap.size + 1) 32 [.int .i64 160])
    (fun k => CkI.stab _ _ _ _ _) (fun q => (Stab.pure _ _).and ((Stab.pure _ _).and ((Stab.belowW w _ hwz).and (Stab.row _ _ _ _)))) (fun k W h => h.arg) hI0 ?_ ?_ ?_
  · rintro k args W L hk hL hI rfl
    obtain ⟨a, n, c, b, m, d, hv, hT, hSl⟩ := HV.out k hk
    obtain ⟨hD1, hD2, hD3⟩ := HS.out k hk
    obtain ⟨e1, e2⟩ := fst_eq hv
    rw [e1, e2]
    gi_wp2
    refine ⟨keeps_ext _ ((Ext.alloc _ _).trans (Ext.alloc _ _)), hI.grow ((Ext.alloc _ _).trans (Ext.alloc _ _)), trivial, ?_⟩
    have hb1 : RowAt ((W.alloc (.cells #[.int .i64 k] 3)).alloc (.cells #[.slice a n c, .slice b m d] 25)) W.heap.size 3 [.int .i64 k] := (RowAt.new W 3 [.int .i64 k]).ext (Ext.alloc _ _)
    have hb2 : RowAt ((W.alloc (.cells #[.int .i64 k] 3)).alloc (.cells #[.slice a n c, .slice b m d] 25)) (W.heap.size + 1) 25 [.slice a n c, .slice b m d] := row_at (by simp)
    rintro W2 hst hI2 -
    replace hb1 := hst _ (Stab.row _ _ _ _) hb1
    replace hb2 := hst _ (Stab.row _ _ _ _) hb2
    obtain ⟨p0, q0⟩ := hb1.facts1
    obtain ⟨p1, p2, q1, q2⟩ := hb2.facts2
    have hx2 := HXW.out.trans hI2.ext
    have HT := Lib.hid (hT.ext hI2.ext)
    have HSl := Lib.hid (hSl.ext hI2.ext)
    have HI := Lib.hid hI2
    obtain ⟨r0, u0⟩ := hI2.out.facts1
    clear hst hb1 hb2 hT hSl hI hI2
    gi_wp2
    have hslen : m ≤ 1048576 := by have := HSl.out.len; omega
    have hcall : ∀ {f : Nat} {args : Array Value} {w : World} {R : Ending → World → Prop}, Calls Try.prog f args w R → CallsIn (Fence.wide.inRound L) 0 Try.prog f args w R := fun h => (callsIn_wide (n := 0)).2 h
    have hn := HT.out.len
    have hnx : Hid (∀ W3, Ext W2 W3 → KindOK k (D k) → CkI w w1 vs D (k + 1) W3) := Lib.hid (fun W3 hx3 hok => ⟨(HI.out.grow hx3).ext, (HI.out.grow hx3).arg, (HI.out.grow hx3).out, fun i hi => by
      by_cases e : i = k
      · subst e; exact hok
      · exact HI.out.ok i (by omega)⟩)
    have hst : Hid (∀ W3, Ext W2 W3 → ¬ KindOK k (D k) → KeepsFrom w1.heap.size W2 (W3.setCell ⟨w.heap.size + 1, 0, none⟩ (.int .i64 160)) ∧ (¬ DicOK D ∧ Below w.heap.size w (W3.setCell ⟨w.heap.size + 1, 0, none⟩ (.int .i64 160)) ∧ RowAt (W3.setCell ⟨w.heap.size + 1, 0, none⟩ (.int .i64 160)) (w.heap.size + 1) 32 [.int .i64 160])) :=
      Lib.hid (fun W3 hx3 hno => ⟨(keeps_ext _ hx3).trans (keeps_set _ (HI.out.grow hx3).out.facts1.1 _), fun h => hno (h k hk), ((hx2.trans hx3).setCell (p := ⟨w.heap.size + 1, 0, none⟩) (Nat.le_succ _) _), (HI.out.grow hx3).out.set 0 _⟩)
    by_cases hc : TabOK (D k).1 (D k).2
    · refine (hcall (check_yes HT.out HSl.out hslen hD3 hc)).mono ?_
      rintro e W3 ⟨rfl, hx3⟩
      have p1' := ext_cell hx3 p1
      have p2' := ext_cell hx3 p2
      have p0' := ext_cell hx3 p0
      obtain ⟨r0', u0'⟩ := ((HI.out.grow hx3).out).facts1
      have hct := contains_any (k := (k : Int)) W.heap.size (.slice a n c) (D k).1 W3 (HT.out.ext hx3) hD3 p0'
      by_cases hl : 128 < n
      · have hd : decide ((128 : Int) < (n : Int)) = true := decide_eq_true (by omega)
        have hno : Hid (¬ KindOK k (D k)) := Lib.hid (fun h => by have := h.2.1; omega)
        have hs := Lib.hid (hst.out W3 hx3 hno.out)
        clear hct hnx hst hl hn
        gi_wp2
        exact ⟨hs.out.1, rfl, hs.out.2⟩
      · have hd : decide ((128 : Int) < (n : Int)) = false := decide_eq_false (by omega)
        generalize hb : badB (k : Int) (D k).1 = bb at *
        have HCT := Lib.hid hct
        have hok : Hid (bb = false → KindOK k (D k)) := Lib.hid (fun h => ⟨hc, by omega, by rw [hb, h]⟩)
        have hno : Hid (bb = true → ¬ KindOK k (D k)) := Lib.hid (fun h h' => by have := h'.2.2; rw [hb, h] at this; cases this)
        clear hct hl hn hb hc
        cases bb with
        | true =>
          gi_wp2
          refine (hcall HCT.out).mono ?_
          rintro e W4 ⟨rfl, hx4⟩
          have hs := Lib.hid (hst.out W4 (hx3.trans hx4) (hno.out trivial))
          obtain ⟨r0'', u0''⟩ := ((HI.out.grow (hx3.trans hx4)).out).facts1
          clear hnx hst hok hno r0' u0'
          gi_wp2
          exact ⟨hs.out.1, rfl, hs.out.2⟩
        | false =>
          gi_wp2
          refine (hcall HCT.out).mono ?_
          rintro e W4 ⟨rfl, hx4⟩
          have hs := Lib.hid (hnx.out W4 (hx3.trans hx4) (hok.out trivial))
          clear hnx hst hok hno
          gi_wp2
          exact ⟨keeps_ext _ (hx3.trans hx4), hs.out⟩
    · refine (hcall (check_no HT.out HSl.out hslen hD3 hc)).mono ?_
      rintro e W3 ⟨rfl, hx3⟩
      obtain ⟨r0', u0'⟩ := ((HI.out.grow hx3).out).facts1
      have hs := Lib.hid (hst.out W3 hx3 (fun h => hc h.1))
      clear hnx hst hc hn
      gi_wp2
      exact ⟨hs.out.1, rfl, hs.out.2⟩
  · rintro Dd W hD hI hdf
    obtain ⟨r0, u0⟩ := hI.out.facts1
    have HI := Lib.hid hI
    have hyes : Hid (DicOK D) := Lib.hid hI.ok
    clear hI0 hsh hI
    go_wp2
    have hdf' := (keeps_set 0 HI.out.out.facts1.1 (.int .i64 0)).same Dd _ (Nat.zero_le _) hdf rfl
    have q0 := (row_mark (HI.out.out.set 0 (.int .i64 0)) hdf').facts1.1
    refine leave_markedC hdf' (v := .int .i64 0) (by simp [results, Try.results13, go_sem, q0]) ⟨0, rfl, .inl rfl, ⟨fun _ => hyes.out, fun _ => rfl⟩, below_mark ((HXW.out.trans HI.out.ext).setCell (p := ⟨w.heap.size + 1, 0, none⟩) (Nat.le_succ _) _) (by omega)⟩
  · rintro Dd q W hD ⟨rfl, hno, hB, hR⟩ hdf
    have HB := Lib.hid hB
    have HN := Lib.hid hno
    have HR := Lib.hid hR
    clear hI0 hsh hB hno hR
    go_wp2
    have q0 := (row_mark HR.out hdf).facts1.1
    exact leave_markedC hdf (v := .int .i64 160) (by simp [results, Try.results13, go_sem, q0]) ⟨160, rfl, .inr rfl, ⟨fun h => (by simp at h), fun h => absurd h HN.out⟩, below_mark HB.out (by omega)⟩
end Go.Proofs.Ytogoejlbdbapoaa
