/- Read: the walk. -/
import Derived.Test.YtilbofkpjgcchaaDoorBatI
import Derived.BigRegionIn
namespace Go.Proofs.YtilbofkpjgcchaaDoor
set_option maxRecDepth 100000
set_option maxHeartbeats 2000000
set_option linter.unusedVariables false
set_option linter.unusedSimpArgs false
open Go.RowKit Go.Shelf Go.Sort
attribute [local go_sem] Oper.semAt_some wide_fn wide_depth

def ReadPost (w : World) (r : List Ch × Int × Int) (e : Ending) (w' : World) : Prop :=
  ∃ v, e = .returned (.tuple #[v, .int .i64 r.2.1, .int .i64 r.2.2]) ∧ w'.ownsRow w.heap.size 27 5 v r.1.length (r.1.flatMap Ch.cells) ∧ Ext w w'
theorem leave_markedC {P : Program} {fn : Func} {tmps : Array Value} {D : Nat} {W : World} {R : Ending → World → Prop} {v : Value} (hD : W.heap[D]? = some (.deferred (some [])))
    (hr : (results fn tmps).run P (W.putObj D (.deferred none)) = .ok v (W.putObj D (.deferred none))) (h : R (.returned v) (W.putObj D (.deferred none))) : bodyPostM Fence.wide 0 P fn R .ret { tmps, defers := [{ target := .collected D, args := #[] }] } W :=
  ⟨by simp, .inl ⟨_, _, rfl, run_takeDeferred hD, ⟨_, hr, h⟩⟩⟩
theorem row_mark {W : World} {D g : Nat} {t : TypeId} {xs : List Value} (h : RowAt W g t xs) (hD : W.heap[D]? = some (.deferred (some []))) : RowAt (W.putObj D (.deferred none)) g t xs :=
  PStab.row (T := 0) (X := g + 1) (B := 0) g t xs (.inr (Nat.lt_succ_self _)) W _ (Turn.put hD rfl (Nat.zero_le _) _) h
/-- The end: the results are laid in their boxes. -/
theorem fin3 {w W : World} {D : Nat} {v v0 : Value} {n1 n2 n : Int} {k : Nat} {xs : List Value} (h : RdX w v0 n1 n2 n W) (hD : w.heap.size + 1 + 1 + 1 ≤ D) (hdf : W.heap[D]? = some (.deferred (some []))) (hown : W.ownsRow (w.heap.size + 1 + 1 + 1) 27 5 v k xs) (u1 u2 : Int) {Wf : World}
    (hf : Ext (((W.setCell ⟨w.heap.size, 0, none⟩ v).setCell ⟨w.heap.size + 1, 0, none⟩ (.int .i64 u1)).setCell ⟨w.heap.size + 1 + 1, 0, none⟩ (.int .i64 u2)) Wf) :
    Wf.heap[D]? = some (.deferred (some [])) ∧ RowAt (Wf.putObj D (.deferred none)) w.heap.size 22 [v] ∧ RowAt (Wf.putObj D (.deferred none)) (w.heap.size + 1) 3 [.int .i64 u1] ∧ RowAt (Wf.putObj D (.deferred none)) (w.heap.size + 1 + 1) 29 [.int .i64 u2] ∧
      (Wf.putObj D (.deferred none)).ownsRow w.heap.size 27 5 v k xs ∧ Ext w (Wf.putObj D (.deferred none)) := by
  have r0 := ((h.r0.set 0 v).set_ne (g' := w.heap.size + 1) (i := 0) (v := .int .i64 u1) (by omega)).set_ne (g' := w.heap.size + 1 + 1) (i := 0) (v := .int .i64 u2) (by omega)
  have r1 := ((h.r1.set_ne (g' := w.heap.size) (i := 0) (v := v) (by omega)).set 0 (.int .i64 u1)).set_ne (g' := w.heap.size + 1 + 1) (i := 0) (v := .int .i64 u2) (by omega)
  have r2 := ((h.r2.set_ne (g' := w.heap.size) (i := 0) (v := v) (by omega)).set_ne (g' := w.heap.size + 1) (i := 0) (v := .int .i64 u1) (by omega)).set 0 (.int .i64 u2)
  have hb := ((h.below.setCell (p := ⟨w.heap.size, 0, none⟩) (Nat.le_refl _) v).setCell (p := ⟨w.heap.size + 1, 0, none⟩) (Nat.le_succ _) (.int .i64 u1)).setCell (p := ⟨w.heap.size + 1 + 1, 0, none⟩) (show w.heap.size ≤ w.heap.size + 1 + 1 by omega) (.int .i64 u2)
  have ho := own_kept (own_kept (own_kept hown (grown_set W w.heap.size 0 v) (fun r hr => by cases hr; omega)) (grown_set _ (w.heap.size + 1) 0 (.int .i64 u1)) (fun r hr => by cases hr; omega)) (grown_set _ (w.heap.size + 1 + 1) 0 (.int .i64 u2)) (fun r hr => by cases hr; omega)
  have hd := ((((keeps_set 0 h.r0.facts1.1 v).trans (keeps_set 0 (h.r1.set_ne (g' := w.heap.size) (i := 0) (v := v) (by omega)).facts1.1 (.int .i64 u1))).trans (keeps_set 0 ((h.r2.set_ne (g' := w.heap.size) (i := 0) (v := v) (by omega)).set_ne (g' := w.heap.size + 1) (i := 0) (v := .int .i64 u1) (by omega)).facts1.1 (.int .i64 u2))).trans (keeps_ext 0 hf)).same D _ (Nat.zero_le _) hdf rfl
  exact ⟨hd, row_mark (r0.ext hf) hd, row_mark (r1.ext hf) hd, row_mark (r2.ext hf) hd, own_mark (own_base (own_ext ho hf) (by omega)) hd, below_mark (Below.ext hb hf hb.size) (by omega)⟩
theorem sl_push (w : World) (o : Obj) (t : TypeId) (cs : Array Value) : Sl ((w.alloc o).alloc (.cells cs t)) (.slice (some ⟨w.heap.size + 1, 0, none⟩) 1 1) 1 cs.toList := by
  have := Sl.new (w.alloc o) cs t 1 1 (Nat.le_refl _) (by unfold maxLen; omega)
  simpa using this
theorem read_go (s : ByteArray) (w : World) (hs : s.size ≤ 1000000) (hW : Ways w) :
    Calls Tryd.prog 19 #[.string s] w (ReadPost w (readF (bts s))) := by
  refine calls_of_wp_marks Tryd.func19 rfl ?_
  simp only [Tryd.ntmps19, List.size_toArray, List.length_cons, List.length_nil, Nat.reduceAdd, Nat.reduceSub, Array.replicate_succ, Array.replicate_zero, List.push_toArray, List.append_toArray, List.nil_append, List.cons_append]
  have hbad := fun k hk h64 hg hb => readF_bad (l := bts s) (k := k) hk h64 hg hb
  have hgood := fun k hg hk => readF_good (l := bts s) (k := k) hg hk
  have hit := fun y X => blines_iter s y X hs
  have hmem : ∀ x ∈ linesL (bts s), x.length ≤ s.size := fun x hx => by have := (linesL_mem _ (bts s) (Nat.le_refl _) x hx).1; rw [bts_len] at this; exact this
  generalize linesL (bts s) = ls at *
  obtain ⟨R, hR⟩ : ∃ R, R = readF (bts s) := ⟨_, rfl⟩
  rw [← hR] at hbad hgood ⊢
  have Hbad := Lib.hid hbad
  have Hgood := Lib.hid hgood
  clear hbad hgood hR
  go_wp2_with fail
  go_step3
  go_wp2_with fail
  go_step3
  go_wp2_with (go_at_call 31; refine (blines_any _ _).mono ?_; rintro e w' ⟨rfl, rfl⟩)
  have hI0 : RdI w ls 0 ((0 : Nat) : Int) (.slice none 0 0) ((((((w.alloc (.cells #[.slice none 0 0] 22)).alloc (.cells #[.int .i64 0] 3)).alloc (.cells #[.int .i64 0] 29)).alloc (.cells #[.slice none 0 0] 22)).alloc (.cells #[.int .i64 0] 3)).alloc (.cells #[.string s] 9)) :=
    ⟨(show Ext w _ from (by repeat (first | exact Ext.refl _ | with_reducible assumption | with_reducible refine Ext.alloc_of ?_ _ | with_reducible refine Ext.drewN_of ?_ _ | with_reducible refine Ext.drew_of ?_ | (with_reducible refine Ext.set_of ?_ ?hsz _; case hsz => ((first | exact Nat.le_refl _ | omega | (simp; omega)))) | with_reducible refine Ext.via (by assumption) ?_))), (RowAt.new w _ [.slice none 0 0]).ext (by repeat (first | exact Ext.refl _ | with_reducible assumption | with_reducible refine Ext.alloc_of ?_ _ | with_reducible refine Ext.drewN_of ?_ _ | with_reducible refine Ext.drew_of ?_ | (with_reducible refine Ext.set_of ?_ ?hsz _; case hsz => ((first | exact Nat.le_refl _ | omega | (simp; omega)))) | with_reducible refine Ext.via (by assumption) ?_)), (row_at (by simp)).ext (((Ext.alloc _ _).trans (Ext.alloc _ _)).trans ((Ext.alloc _ _).trans (Ext.alloc _ _))), (row_at (by simp)).ext (((Ext.alloc _ _).trans (Ext.alloc _ _)).trans (Ext.alloc _ _)), (row_at (by simp)).ext ((Ext.alloc _ _).trans (Ext.alloc _ _)), (row_at (by simp)).ext (Ext.alloc _ _), World.ownsRow_nil _ _ _ _, fun j _ h => by omega, by omega⟩
  have hby : RowAt ((((((w.alloc (.cells #[.slice none 0 0] 22)).alloc (.cells #[.int .i64 0] 3)).alloc (.cells #[.int .i64 0] 29)).alloc (.cells #[.slice none 0 0] 22)).alloc (.cells #[.int .i64 0] 3)).alloc (.cells #[.string s] 9)) (w.heap.size + 1 + 1 + 1 + 1 + 1) 9 [.string s] := row_at (by simp)
  have hsz : ((((((w.alloc (.cells #[.slice none 0 0] 22)).alloc (.cells #[.int .i64 0] 3)).alloc (.cells #[.int .i64 0] 29)).alloc (.cells #[.slice none 0 0] 22)).alloc (.cells #[.int .i64 0] 3)).alloc (.cells #[.string s] 9)).heap.size = w.heap.size + 1 + 1 + 1 + 1 + 1 + 1 := by simp
  generalize ((((((w.alloc (.cells #[.slice none 0 0] 22)).alloc (.cells #[.int .i64 0] 3)).alloc (.cells #[.int .i64 0] 29)).alloc (.cells #[.slice none 0 0] 22)).alloc (.cells #[.int .i64 0] 3)).alloc (.cells #[.string s] 9)) = w1 at hI0 hby hsz ⊢
  have hI0' := Lib.hid hI0.below.size
  have HSZ := Lib.hid hsz
  refine wp_overP (X := w.heap.size + 1 + 1 + 1 + 1 + 1 + 1) rfl (enters_of Tryd.func39 (by kernel_rfl) rfl) (hit _ _) (by omega)
    (by
      rintro k W args ⟨h, hE⟩
      unfold LineArg at hE
      split at hE
      · obtain ⟨b, rfl, _⟩ := hE; rfl
      · subst hE; rfl) (fun k args => Stab.exP fun hk => by
      unfold LineArg
      split
      · exact Stab.ex fun b => (Stab.pure _ _).and (Stab.cell _ _ _)
      · exact Stab.pure _ _)
    (fun k W => ∃ v, RdI w ls k k v W) (fun q W => (q = .exit 0 ∧ 64 < ls.length ∧ Good ls 64 ∧ RdX w (.slice none 0 0) 0 0 65 W) ∨ (q = .ret ∧ ∃ k, ∃ hk : k < ls.length, k < 64 ∧ Good ls k ∧ (lineCh ls[k]).isNone = true ∧ RdX w (.slice none 0 0) ((k : Int) + 1) 191 ((k : Int) + 1) W))
    (fun k => PStab.ex (fun v => RdI.stab w ls k k v (by omega) (by omega))) (fun q => by
      rintro W W' ht (⟨h1, h2, h3, h4⟩ | ⟨h1, k, hk, h2, h3, h4, h5⟩)
      · exact .inl ⟨h1, h2, h3, RdX.stab w _ _ _ _ (by omega) (by omega) W W' ht h4⟩
      · exact .inr ⟨h1, k, hk, h2, h3, h4, RdX.stab w _ _ _ _ (by omega) (by omega) W W' ht h5⟩)
    (PStab.stab (PStab.row (T := 3) (X := 0) _ _ _ (.inl (by decide)))) hby ⟨_, hI0⟩ ?_ ?_ ?_
  · rintro k args W L hk hL ⟨v, hI⟩ ⟨_, hE⟩
    have hcall : ∀ {f : Nat} {args : Array Value} {w : World} {R : Ending → World → Prop}, Calls Tryd.prog f args w R → CallsIn (Fence.wide.inRound L) 0 Tryd.prog f args w R := fun h => (callsIn_wide (n := 0)).2 h
    have hlk := hmem _ (List.getElem_mem hk)
    have hsn := fun c => chsOf_snoc ls k hk (c := c)
    have hgs : (lineCh ls[k]).isNone = false → Good ls (k + 1) := fun h j hj hjk => by
      by_cases e : j = k
      · subst e; exact h
      · exact hI.good j hj (by omega)
    have hEnc : ∀ W' args, LineArg ls[k] W' args → ∃ h : k < ls.length, LineArg ls[k] W' args := fun _ _ h => ⟨hk, h⟩
    have HEnc := Lib.hid hEnc
    have HGS := Lib.hid hgs
    have HSN := Lib.hid hsn
    have hlc : lineCh ls[k] = if Lib.hasSuffix ls[k] [10] && saysB (txt (Lib.trimSuffix ls[k] [10])) then some (parseC (txt (Lib.trimSuffix ls[k] [10]))) else none := rfl
    have HLC := Lib.hid hlc
    clear hgs hsn hEnc hlc
    cases hsf : Lib.hasSuffix ls[k] [10] with
    | false =>
      have hE' := hE
      unfold LineArg at hE'
      rw [if_neg (by rw [hsf]; decide)] at hE'
      subst hE'
      have HE := Lib.hid hE
      clear hE
      gi_wp2
      refine ⟨keeps_ext _ (Ext.refl _), KeepsC.refl _ _ _, ⟨v, hI⟩, HEnc.out _ _ HE.out, ?_⟩
      rintro W2 - ⟨v2, hI2⟩ -
      clear hI v HE
      obtain ⟨c0, f0⟩ := hI2.n.facts1
      obtain ⟨d0, g0⟩ := hI2.r0.facts1
      obtain ⟨d1, g1⟩ := hI2.r1.facts1
      obtain ⟨d2, g2⟩ := hI2.r2.facts1
      have HI := Lib.hid hI2
      clear hI2
      have h64 := HI.out.k64
      by_cases hk64 : k = 64
      · have hx := HI.out.toX 65
        have hg := HI.out.good
        subst hk64
        gi_wp2_with fail
        exact ⟨keeps_set _ c0 _, KeepsC.set _ _ _ _ (by omega), .inl ⟨rfl, hk, hg, hx⟩⟩
      · have hx := HI.out.toX ((k : Int) + 1)
        obtain ⟨d0, g0⟩ := hx.r0.facts1
        obtain ⟨d1, g1⟩ := hx.r1.facts1
        obtain ⟨d2, g2⟩ := hx.r2.facts1
        obtain ⟨d3, g3⟩ := hx.n.facts1
        have HX := Lib.hid hx
        clear hx
        gi_wp2_with fail
        gi_region
        all_goals gi_wp2
        all_goals exact ⟨((keeps_set _ c0 _).trans (HX.out.finKeeps _ _ _)).trans (keeps_ext _ (Ext.drewN _ 1)), ((KeepsC.set _ _ _ _ (by omega)).trans (HX.out.finKeepsC _ _ (by omega))).trans (KeepsC.ext (Ext.drewN _ 1)), .inr ⟨rfl, k, hk, by omega, HI.out.good, by rw [HLC.out, hsf]; rfl, (HX.out.fin _ _).ext (Ext.drewN _ 1)⟩⟩
    | true =>
      have hE' := hE
      unfold LineArg at hE'
      rw [if_pos hsf] at hE'
      obtain ⟨b, rfl, -⟩ := hE'
      have HE := Lib.hid hE
      clear hE
      gi_wp2
      refine ⟨keeps_ext _ (Ext.refl _), KeepsC.refl _ _ _, ⟨v, hI⟩, HEnc.out _ _ HE.out, ?_⟩
      rintro W2 - ⟨v2, hI2⟩ ⟨_, hE2⟩
      clear hI v HE
      unfold LineArg at hE2
      rw [if_pos hsf] at hE2
      obtain ⟨b', e', hcb⟩ := hE2
      obtain rfl : b = b' := by simpa using e'
      clear e'
      have hne : b ≠ w.heap.size + 1 + 1 + 1 + 1 := by intro e; subst e; rw [hI2.n.facts1.1] at hcb; cases hcb
      have hcb3 : (W2.setCell ⟨w.heap.size + 1 + 1 + 1 + 1, 0, none⟩ (.int .i64 ((k : Int) + 1))).cell? ⟨b, 0, none⟩ = some (.string (txt (Lib.trimSuffix ls[k] [10]))) := by
        rw [World.cell?_setCell_other _ _ _ _ (by intro e; have := congrArg Addr.block e; simp at this; first | exact hne this | exact hne this.symm)]; exact hcb
      obtain ⟨c0, f0⟩ := hI2.n.facts1
      have h64 := hI2.k64
      by_cases hk64 : k = 64
      · have hx := hI2.toX 65
        have hg := hI2.good
        clear hI2 hcb hcb3
        subst hk64
        gi_wp2_with fail
        exact ⟨keeps_set _ c0 _, KeepsC.set _ _ _ _ (by omega), .inl ⟨rfl, hk, hg, hx⟩⟩
      · have hI3 := hI2.count ((k : Int) + 1)
        have hX3 := hI2.toX ((k : Int) + 1)
        have hkf : KeepsFrom w1.heap.size W2 (W2.setCell ⟨w.heap.size + 1 + 1 + 1 + 1, 0, none⟩ (.int .i64 ((k : Int) + 1))) := keeps_set _ c0 _
        have hkc : KeepsC KtB (w.heap.size + 1 + 1 + 1 + 1 + 1 + 1) W2 (W2.setCell ⟨w.heap.size + 1 + 1 + 1 + 1, 0, none⟩ (.int .i64 ((k : Int) + 1))) := KeepsC.set _ _ _ _ (by omega)
        have HW3 : Hid (Ways (W2.setCell ⟨w.heap.size + 1 + 1 + 1 + 1, 0, none⟩ (.int .i64 ((k : Int) + 1)))) := Lib.hid (hW.below hI3.below (Nat.le_refl _))
        have hq : (txt (Lib.trimSuffix ls[k] [10])).size ≤ 1000000 := by have := ts_len ls[k] [10]; rw [txt_size]; omega
        have hlp := line_parse (txt (Lib.trimSuffix ls[k] [10])) _ hq HW3.out
        rw [hsf, Bool.true_and] at HLC
        generalize txt (Lib.trimSuffix ls[k] [10]) = q at *
        have HLP := Lib.hid hlp
        have HI3 := Lib.hid hI3
        have HX3 := Lib.hid hX3
        have HKF := Lib.hid hkf
        have HKC := Lib.hid hkc
        clear hlp hI3 hX3 hkf hkc hI2 hcb
        gi_wp2_with fail
        refine (hcall HLP.out).mono ?_
        rintro e w5 ⟨rfl, hx5⟩
        obtain ⟨kd, key, name, val, to_, hpc⟩ : ∃ kd key name val to_, parseC q = ⟨kd, key, name, val, to_⟩ := ⟨_, _, _, _, _, rfl⟩
        rw [hpc] at HLC ⊢
        unfold Ch.v
        dsimp only
        have hbx := RowAt.new w5 27 [.int .i64 kd, .string key, .string name, .string val, .string to_]
        have hx6 := Ext.alloc w5 (.cells #[.int .i64 kd, .string key, .string name, .string val, .string to_] 27)
        cases hsy : saysB q with
        | false =>
          have HF : Hid ((lineCh ls[k]).isNone = true) := Lib.hid (by rw [HLC.out, hsy]; rfl)
          obtain ⟨d0, g0⟩ := (HX3.out.ext (hx5.trans hx6)).r0.facts1
          obtain ⟨d1, g1⟩ := (HX3.out.ext (hx5.trans hx6)).r1.facts1
          obtain ⟨d2, g2⟩ := (HX3.out.ext (hx5.trans hx6)).r2.facts1
          obtain ⟨d3, g3⟩ := (HX3.out.ext (hx5.trans hx6)).n.facts1
          have HX6 := Lib.hid (HX3.out.ext (hx5.trans hx6))
          have HK6 := Lib.hid (HKF.out.trans (keeps_ext _ (hx5.trans hx6)))
          have HC6 := Lib.hid (HKC.out.trans (KeepsC.ext (hx5.trans hx6)))
          have HG := Lib.hid HI3.out.good
          clear HLC HX3 HKF HKC HI3 hbx
          gi_wp2_with fail
          gi_region
          all_goals gi_wp2
          all_goals exact ⟨(HK6.out.trans (HX6.out.finKeeps _ _ _)).trans (keeps_ext _ (Ext.drewN _ 1)), (HC6.out.trans (HX6.out.finKeepsC _ _ (by omega))).trans (KeepsC.ext (Ext.drewN _ 1)), .inr ⟨rfl, k, hk, by omega, HG.out, HF.out, (HX6.out.fin _ _).ext (Ext.drewN _ 1)⟩⟩
        | true =>
          have hls : lineCh ls[k] = some ⟨kd, key, name, val, to_⟩ := by rw [HLC.out, hsy]; rfl
          have HN := Lib.hid (HSN.out _ hls)
          have HG := Lib.hid (HGS.out (by rw [hls]; rfl))
          obtain ⟨d0, d1, d2, d3, d4, g0, g1, g2, g3, g4⟩ := hbx.facts5
          have hI6 := HI3.out.ext (hx5.trans hx6)
          obtain ⟨e0, e1⟩ := hI6.out.facts1
          obtain ⟨av, cv, rfl⟩ := own_vw hI6.own
          have HI6 := Lib.hid hI6
          have HK6 := Lib.hid (HKF.out.trans (keeps_ext _ (hx5.trans hx6)))
          have HC6 := Lib.hid (HKC.out.trans (KeepsC.ext (hx5.trans hx6)))
          clear HLC HX3 HKF HKC HI3 hbx hls hI6
          have hown := HI6.out.own
          have hsz6 := HI6.out.n.lt
          have hSl := sl_push w5 (.cells #[.int .i64 kd, .string key, .string name, .string val, .string to_] 27) 27 #[.int .i64 kd, .string key, .string name, .string val, .string to_]
          gi_wp2_with (gi_at_builtin; refine wpListIn_append_sl _ rfl _ _ 22 rfl elCh rfl (own_ext hown (Ext.alloc _ _)) rfl hSl rfl ?_ ?_ ?_ ?_ ?_)
          · exact ⟨rfl, rfl, rfl, rfl, rfl⟩
          · omega
          · unfold maxLen; omega
          · simp at hsz6 ⊢; omega
          intro v4 w4 hown4 hB4 hg4 hat4
          obtain ⟨a4, c4, rfl⟩ := own_vw hown4
          have hI7 := HI6.out.ext (Ext.alloc _ (.cells #[.int .i64 kd, .string key, .string name, .string val, .string to_] 27))
          have hne4 : (Value.slice av k cv).ownBlock ≠ some (w.heap.size + 1 + 1 + 1) := fun e => by have := (own_lt hown e).1; omega
          obtain ⟨e2, e3⟩ := (hI7.out.kept hg4 hne4).facts1
          have HNX := Lib.hid (hI7.next (B := w1.heap.size) (X := w.heap.size + 1 + 1 + 1 + 1 + 1 + 1) (c := ⟨kd, key, name, val, to_⟩) hg4 hown4 HN.out HG.out (by omega) (by omega))
          clear hI7 hown4 hB4 hg4 hat4 hSl e0 e1 hne4
          gi_wp2_with fail
          exact ⟨HK6.out.trans ((keeps_ext _ (Ext.alloc _ _)).trans HNX.out.1), HC6.out.trans ((KeepsC.ext (Ext.alloc _ _)).trans HNX.out.2.1), _, HNX.out.2.2⟩
  · rintro D W hD ⟨v, hI⟩ hdf
    have hg := hI.good
    have h64 := hI.k64
    have hR : R = (chsOf ls, (ls.length : Int), 0) := by rw [Hgood.out _ hg (.inr (Nat.le_refl _)), if_neg (by omega)]
    obtain ⟨av, cv, rfl⟩ := own_vw hI.own
    obtain ⟨c0, f0⟩ := hI.out.facts1
    obtain ⟨c1, f1⟩ := hI.n.facts1
    obtain ⟨d0, g0⟩ := hI.r0.facts1
    obtain ⟨d1, g1⟩ := hI.r1.facts1
    obtain ⟨d2, g2⟩ := hI.r2.facts1
    have HR := Lib.hid hR
    have HI := Lib.hid hI
    clear hit hI0 hsz hby hI hR hg
    go_wp2_with fail
    go_region
    all_goals go_wp2
    all_goals
      rw [Exit.noGoto_ret]
      obtain ⟨hd, r0, r1, r2, ho, hx⟩ := fin3 (HI.out.asX) (D := D) (by have := HSZ.out; omega) hdf (own_base HI.out.own (by omega)) (ls.length : Int) 0 (Ext.drew_of (Ext.refl _))
      have q0 := r0.facts1.1
      have q1 := r1.facts1.1
      have q2 := r2.facts1.1
      refine leave_markedC hd (v := .tuple #[.slice av ls.length cv, .int .i64 ls.length, .int .i64 0]) (by simp [results, Tryd.results19, go_sem, q0, q1, q2]) ⟨_, by rw [HR.out], ?_, hx⟩
      rw [HR.out]
      dsimp only
      rw [chsOf_len _ (fun x hx => by obtain ⟨j, hj, rfl⟩ := List.getElem_of_mem hx; exact HI.out.good j hj hj)]
      rw [List.take_of_length_le (Nat.le_refl _)] at ho
      exact ho
  · rintro D q W hD (⟨rfl, hN, hg, hX⟩ | ⟨rfl, k, hk, hk64, hg, hb, hX⟩) hdf
    · have hR : R = ([], 0, 3) := by rw [Hgood.out _ hg (.inl (Nat.le_refl _)), if_pos hN]
      obtain ⟨c1, f1⟩ := hX.n.facts1
      obtain ⟨d0, g0⟩ := hX.r0.facts1
      obtain ⟨d1, g1⟩ := hX.r1.facts1
      obtain ⟨d2, g2⟩ := hX.r2.facts1
      have HR := Lib.hid hR
      have HX := Lib.hid hX
      clear hit hI0 hsz hby hX hR hg hN
      go_wp2_with fail
      rw [Exit.noGoto_ret]
      obtain ⟨hd, r0, r1, r2, ho, hx⟩ := fin3 HX.out (D := D) (v := .slice none 0 0) (k := 0) (xs := []) (by have := HSZ.out; omega) hdf (World.ownsRow_nil _ _ _ _) 0 3 (Ext.refl _)
      have q0 := r0.facts1.1
      have q1 := r1.facts1.1
      have q2 := r2.facts1.1
      refine leave_markedC hd (v := .tuple #[.slice none 0 0, .int .i64 0, .int .i64 3]) (by simp [results, Tryd.results19, go_sem, q0, q1, q2]) ⟨_, by rw [HR.out], by rw [HR.out]; exact World.ownsRow_nil _ _ _ _, hx⟩
    · have hR : R = ([], (k : Int) + 1, 191) := Hbad.out _ hk hk64 hg hb
      obtain ⟨d0, g0⟩ := hX.r0.facts1
      obtain ⟨d1, g1⟩ := hX.r1.facts1
      obtain ⟨d2, g2⟩ := hX.r2.facts1
      have HR := Lib.hid hR
      have HX := Lib.hid hX
      clear hit hI0 hsz hby hX hR hg hb
      go_wp2_with fail
      rw [Exit.noGoto_ret]
      have q0 := (row_mark HX.out.r0 hdf).facts1.1
      have q1 := (row_mark HX.out.r1 hdf).facts1.1
      have q2 := (row_mark HX.out.r2 hdf).facts1.1
      refine leave_markedC hdf (v := .tuple #[.slice none 0 0, .int .i64 ((k : Int) + 1), .int .i64 191]) (by simp [results, Tryd.results19, go_sem, q0, q1, q2]) ⟨_, by rw [HR.out], by rw [HR.out]; exact World.ownsRow_nil _ _ _ _, below_mark HX.out.below (by have := HSZ.out; omega)⟩
end Go.Proofs.YtilbofkpjgcchaaDoor
