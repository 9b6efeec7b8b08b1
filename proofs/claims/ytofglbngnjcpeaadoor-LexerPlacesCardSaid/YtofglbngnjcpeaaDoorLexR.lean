/- Read: the walk. -/
import Derived.Test.YtofglbngnjcpeaaDoorLexI
import Derived.Test.YtofglbngnjcpeaaDoorToks
namespace Go.Proofs.YtofglbngnjcpeaaDoor
set_option maxRecDepth 100000
set_option maxHeartbeats 2000000
set_option linter.unusedVariables false
set_option linter.unusedSimpArgs false
open Go.RowKit Go.Shelf Go.Sort
attribute [local go_sem] Oper.semAt_some wide_fn wide_depth

theorem elTok : ElT Tryd.prog 23 28 (.agg #[.int .i64 0, .string ⟨#[]⟩, .int .i64 0]) 3 32 := ⟨Tryd.underlying23, ⟨_, rfl, by kernel_rfl, by kernel_rfl, by kernel_rfl⟩, rfl, by decide⟩

theorem Stab.exP {p : Prop} {B : Nat} {I : p → World → Prop} (h : ∀ x, Stab B (I x)) : Stab B (fun W => ∃ x, I x W) := fun W W' row ⟨x, hi⟩ hg hr => ⟨x, h x W W' row hi hg hr⟩
theorem Stab.row (B g : Nat) (t : TypeId) (xs : List Value) : Stab B (fun W => RowAt W g t xs) := fun W W' row h hg hr => h.kept hg (fun e => by
  obtain ⟨_, o, ho, hc⟩ := hr g e
  rw [show W.heap[g]? = _ from h] at ho
  cases ho; cases hc)
/-- What holds when k tokens have been taken. -/
structure RdI (w : World) (s : ByteArray) (ys : List Tk) (k : Nat) (v : Value) (W : World) : Prop where
  below : Below w.heap.size w W
  out : RowAt W w.heap.size 23 [v]
  bad : RowAt W (w.heap.size + 1) 3 [.int .i64 (-1)]
  box : RowAt W (w.heap.size + 1 + 1) 9 [.string s]
  own : W.ownsRow (w.heap.size + 1 + 1 + 1) 28 3 v k ((ys.take k).flatMap tkCells)
  kinds : ∀ j (hj : j < ys.length), j < k → ys[j].kind ≠ 0
theorem RdI.stab (w : World) (s : ByteArray) (ys : List Tk) (k : Nat) (v : Value) (B : Nat) (hB : w.heap.size ≤ B) : Stab B (RdI w s ys k v) := fun W W' row h hg hr =>
  ⟨h.below.grown hg h.below.size (fun k e => Nat.le_trans hB (hr k e).1), Stab.row B _ _ _ W W' row h.out hg hr, Stab.row B _ _ _ W W' row h.bad hg hr, Stab.row B _ _ _ W W' row h.box hg hr, Stab.own B _ _ _ _ _ _ W W' row h.own hg hr, h.kinds⟩
theorem RdI.ext {w : World} {s : ByteArray} {ys : List Tk} {k : Nat} {v : Value} {W W' : World} (h : RdI w s ys k v W) (hx : Ext W W') : RdI w s ys k v W' :=
  ⟨Below.ext h.below hx h.below.size, h.out.ext hx, h.bad.ext hx, h.box.ext hx, own_ext h.own hx, h.kinds⟩
theorem RdI.next {w : World} {s : ByteArray} {ys : List Tk} {k : Nat} {v v4 : Value} {W2 w4 : World} {o : Obj} {B : Nat} {news : List Value} (h : RdI w s ys k v W2) (hg : (W2.alloc o).grownBy w4 v.ownBlock)
    (hown : w4.ownsRow (w.heap.size + 1 + 1 + 1) 28 3 v4 (k + 1) ((ys.take k).flatMap tkCells ++ news)) (hkk : (ys.take (k + 1)).flatMap tkCells = (ys.take k).flatMap tkCells ++ news) (hkinds : ∀ j (hj : j < ys.length), j < k + 1 → ys[j].kind ≠ 0) :
    KeepsFrom B W2 (w4.setCell ⟨w.heap.size, 0, none⟩ v4) ∧ ∃ v, RdI w s ys (k + 1) v (w4.setCell ⟨w.heap.size, 0, none⟩ v4) := by
  have h1 := h.ext (Ext.alloc W2 o)
  have hne : ∀ g, g < w.heap.size + 1 + 1 + 1 → v.ownBlock ≠ some g := fun g hg e => by have := (own_lt h1.own e).1; omega
  have hout := h1.out.kept hg (hne _ (by omega))
  have hbel : Below w.heap.size w w4 := h1.below.grown hg h1.below.size (fun r hr => by have := (own_lt h1.own hr).1; omega)
  refine ⟨((keeps_ext B (Ext.alloc W2 o)).trans (keeps_own h1.own hg)).trans (keeps_set B hout.facts1.1 v4), v4, ?_, ?_, ?_, ?_, ?_, hkinds⟩
  · exact hbel.setCell (p := ⟨w.heap.size, 0, none⟩) (Nat.le_refl _) _
  · exact hout.set 0 v4
  · exact (h1.bad.kept hg (hne _ (by omega))).kept (grown_set w4 _ 0 v4) (fun e => by have := Option.some.inj e; omega)
  · exact (h1.box.kept hg (hne _ (by omega))).kept (grown_set w4 _ 0 v4) (fun e => by have := Option.some.inj e; omega)
  · rw [hkk]
    exact own_kept hown (grown_set w4 _ 0 v4) (fun r hr => by cases hr; omega)
/-- Where none begins. -/
def RdX (w : World) (t : Int) (W : World) : Prop := Below w.heap.size w W ∧ RowAt W (w.heap.size + 1) 3 [.int .i64 t]
theorem RdX.stab (w : World) (t : Int) (B : Nat) (hB : w.heap.size ≤ B) : Stab B (RdX w t) := fun W W' row h hg hr =>
  ⟨h.1.grown hg h.1.size (fun k e => Nat.le_trans hB (hr k e).1), Stab.row B _ _ _ W W' row h.2 hg hr⟩

def ReadPost (w : World) (r : List Tk × Int × Int) (e : Ending) (w' : World) : Prop :=
  ∃ v, e = .returned (.tuple #[v, .int .i64 r.2.1, .int .i64 r.2.2]) ∧ w'.ownsRow w.heap.size 28 3 v r.1.length (r.1.flatMap tkCells) ∧ Ext w w'

theorem read_go (s : ByteArray) (w : World) (hs : s.size ≤ 500) :
    Calls Tryd.prog 5 #[.string s] w (ReadPost w (readF (bts s))) := by
  refine calls_of_wp_marks Tryd.func5 rfl ?_
  simp only [Tryd.ntmps5, List.size_toArray, List.length_cons, List.length_nil, Nat.reduceAdd, Nat.reduceSub, Array.replicate_succ, Array.replicate_zero, List.push_toArray, List.append_toArray, List.nil_append, List.cons_append]
  have hlen := yields_len (bts s)
  rw [bts_len] at hlen
  have hrf : readF (bts s) = match (yields (bts s)).find? (fun t => decide (t.kind = 0)) with | some t => ([], t.at_, 250) | none => (yields (bts s), ((s.size : Nat) : Int), 0) := by unfold readF; rw [bts_len, if_neg (by omega)]; rfl
  have hit := fun x => tokens_iter s x (by omega)
  have hpl : ∀ t ∈ yields (bts s), 0 ≤ t.at_ := fun t ht => (yields_at ht).1
  generalize yields (bts s) = ys at *
  generalize readF (bts s) = R at *
  have Hrf := Lib.hid hrf
  clear hrf
  go_wp2_with fail
  go_step3
  go_wp2_with fail
  go_step3
  go_wp2_with (go_at_call 10; refine (tokens_any _ _).mono ?_; rintro e w' ⟨rfl, rfl⟩)
  have hI0 : RdI w s ys 0 (.slice none 0 0) (((w.alloc (.cells #[.slice none 0 0] 23)).alloc (.cells #[.int .i64 (-1)] 3)).alloc (.cells #[.string s] 9)) :=
    ⟨(show Ext w _ from (by repeat (first | exact Ext.refl _ | with_reducible assumption | with_reducible refine Ext.alloc_of ?_ _ | with_reducible refine Ext.drewN_of ?_ _ | with_reducible refine Ext.drew_of ?_ | (with_reducible refine Ext.set_of ?_ ?hsz _; case hsz => ((first | exact Nat.le_refl _ | omega | (simp; omega)))) | with_reducible refine Ext.via (by assumption) ?_))), ((RowAt.new w _ [.slice none 0 0]).ext (Ext.alloc _ _)).ext (Ext.alloc _ _), (row_at (by simp)).ext (Ext.alloc _ _), row_at (by simp), World.ownsRow_nil _ _ _ _, fun j _ h => by omega⟩
  have hsz : (((w.alloc (.cells #[.slice none 0 0] 23)).alloc (.cells #[.int .i64 (-1)] 3)).alloc (.cells #[.string s] 9)).heap.size = w.heap.size + 1 + 1 + 1 := by simp
  generalize (((w.alloc (.cells #[.slice none 0 0] 23)).alloc (.cells #[.int .i64 (-1)] 3)).alloc (.cells #[.string s] 9)) = w1 at hI0 hsz ⊢
  have hI0' := Lib.hid hI0.below.size
  refine wp_overI (Inv := fun W => W.cell? ⟨w.heap.size + 1 + 1, 0, none⟩ = some (.string s)) rfl (enters_of Tryd.func21 (by kernel_rfl) rfl) (hit _)
    (by rintro k W args ⟨_, rfl⟩; rfl) (fun k args => Stab.pure _ _)
    (fun k W => ∃ v, RdI w s ys k v W) (fun q W => q = .exit 0 ∧ ∃ k, ∃ hk : k < ys.length, ys[k].kind = 0 ∧ (∀ j (hj : j < ys.length), j < k → ys[j].kind ≠ 0) ∧ RdX w ys[k].at_ W)
    (fun k => Stab.ex (fun v => RdI.stab w s ys k v _ hI0.below.size)) (fun q => (Stab.pure _ _).and (Stab.ex fun k => Stab.exP fun hk => (Stab.pure _ _).and ((Stab.pure _ _).and (RdX.stab w _ _ hI0.below.size)))) (fun k W ⟨v, h⟩ => h.box.facts1.1) ⟨_, hI0⟩ ?_ ?_ ?_
  · rintro k args W L hk hL ⟨v, hI⟩ ⟨_, rfl⟩
    obtain ⟨tk, tt, ta, ht⟩ : ∃ tk tt ta, ys[k] = ⟨tk, tt, ta⟩ := ⟨_, _, _, rfl⟩
    have hkk : (ys.take (k + 1)).flatMap tkCells = (ys.take k).flatMap tkCells ++ [.int .i64 tk, .string tt, .int .i64 ta] := by rw [take_snoc ys k hk, List.flatMap_append, ht]; simp [tkCells]
    have hEnc : ∃ h : k < ys.length, #[Value.agg #[.int .i64 tk, .string tt, .int .i64 ta]] = #[tkV ys[k]] := ⟨hk, by rw [ht]; rfl⟩
    have hX : Hid (tk = 0 → ∀ W' v', RdI w s ys k v' W' → (∃ k', ∃ hk : k' < ys.length, ys[k'].kind = 0 ∧ (∀ j (hj : j < ys.length), j < k' → ys[j].kind ≠ 0) ∧ RdX w ys[k'].at_ (W'.setCell ⟨w.heap.size + 1, 0, none⟩ (.int .i64 ta)))) :=
      Lib.hid (fun h0 W' v' hI => ⟨k, hk, by rw [ht]; exact h0, hI.kinds, hI.below.setCell (p := ⟨w.heap.size + 1, 0, none⟩) (Nat.le_succ _) _, by rw [ht]; exact hI.bad.set 0 _⟩)
    have hkinds : Hid (tk ≠ 0 → ∀ j (hj : j < ys.length), j < k + 1 → ys[j].kind ≠ 0) := Lib.hid (fun h0 j hj hjk => by
      by_cases e : j = k
      · subst e; rw [ht]; exact h0
      · exact hI.kinds j hj (by omega))
    rw [ht]
    unfold tkV
    dsimp only
    clear ht
    have hkk := Lib.hid hkk
    have hEnc := Lib.hid hEnc
    gi_wp2
    refine ⟨keeps_ext _ (Ext.alloc _ _), ⟨v, hI.ext (Ext.alloc _ _)⟩, hEnc.out, ?_⟩
    have hbx := RowAt.new W 28 [.int .i64 tk, .string tt, .int .i64 ta]
    have hlt : w.heap.size + 1 + 1 < W.heap.size := hI.box.lt
    rintro W2 hst ⟨v2, hI2⟩ -
    have HX : Hid (tk = 0 → (∃ k', ∃ hk : k' < ys.length, ys[k'].kind = 0 ∧ (∀ j (hj : j < ys.length), j < k' → ys[j].kind ≠ 0) ∧ RdX w ys[k'].at_ (W2.setCell ⟨w.heap.size + 1, 0, none⟩ (.int .i64 ta)))) := Lib.hid (fun h => hX.out h _ _ hI2)
    obtain ⟨d0, d1, d2, g0, g1, g2⟩ := (hst _ (Stab.row _ _ _ _) hbx).facts3
    obtain ⟨c0, f0⟩ := hI2.out.facts1
    obtain ⟨b0, e0⟩ := hI2.bad.facts1
    clear hI hit hst hbx hX
    by_cases h0 : tk = 0
    · subst h0
      clear hI2 hkk
      gi_wp2
      refine ⟨keeps_set _ b0 _, rfl, HX.out trivial⟩
    · have hd : (tk == 0) = false := by simpa using h0
      have HI := Lib.hid hI2
      have HK := Lib.hid (hkinds.out h0)
      have hown := hI2.own
      have hlt2 := hI2.box.lt
      have hlen2 : (ys.take k).length ≤ k := List.length_take_le _ _
      clear h0 hI2 hkinds HX
      gi_wp2_with (gi_at_builtin; refine wpListIn_append_sl _ rfl _ _ 23 rfl elTok rfl (own_ext hown (Ext.alloc _ _)) rfl (Sl.new _ _ _ 1 1 (Nat.le_refl _) ?_) rfl ?_ ?_ ?_ ?_ ?_)
      · unfold maxLen; omega
      · exact ⟨rfl, rfl, rfl⟩
      · omega
      · unfold maxLen; omega
      · have := HI.out.box.lt; simp; omega
      intro v4 w4 hown4 hB4 hg4 hat4
      obtain ⟨a4, c4, rfl⟩ := own_vw hown4
      have hne : v2.ownBlock ≠ some w.heap.size := fun e => by have := (own_lt hown e).1; omega
      have hrow := (HI.out.out.ext (Ext.alloc W2 _)).kept hg4 hne
      obtain ⟨c0, f0⟩ := hrow.facts1
      have HG := Lib.hid hg4
      have HO := Lib.hid hown4
      have HB := Lib.hid hB4
      clear hg4 hown4 hB4 hat4 hrow
      gi_wp2
      exact RdI.next HI.out HG.out HO.out hkk.out HK.out
  · rintro D W hD ⟨v, hI⟩ hdf
    have hR : R = (ys, ((s.size : Nat) : Int), 0) := by rw [Hrf.out, find_not (fun j hj => hI.kinds j hj hj)]
    obtain ⟨c0, f0⟩ := hI.out.facts1
    obtain ⟨c1, f1⟩ := hI.bad.facts1
    have hown := hI.own
    rw [List.take_of_length_le (Nat.le_refl _)] at hown
    have HO := Lib.hid (own_base hown (show w.heap.size ≤ w.heap.size + 1 + 1 + 1 by omega))
    have hB := hI.below
    have HR := Lib.hid hR
    clear hit Hrf hI0 hsz hI hown hR
    go_wp2
    rw [Exit.noGoto_ret]
    have hw : R.1.length = ys.length := by rw [HR.out]
    refine leave_marked hdf (fun _ => results_tmp3 rfl _ _ _) ⟨_, by rw [HR.out]; rfl, ?_, below_mark hB (Nat.le_trans hI0'.out hD)⟩
    rw [HR.out]
    exact own_mark HO.out hdf
  · rintro D q W hD ⟨rfl, k, hk, hk0, hkj, hX⟩ hdf
    have hR : R = ([], ys[k].at_, 250) := by rw [Hrf.out, find_at hk hkj hk0]
    have hat := hpl _ (List.getElem_mem hk)
    generalize ys[k].at_ = ta at *
    obtain ⟨c1, f1⟩ := hX.2.facts1
    have hB := hX.1
    have HR := Lib.hid hR
    clear hit Hrf hI0 hsz hk0 hkj hX hR
    go_wp2
    go_region
    all_goals go_wp2
    all_goals rw [Exit.noGoto_ret]
    all_goals exact leave_marked (W := W.drew) hdf (fun _ => results_tmp3 rfl _ _ _) ⟨_, by rw [HR.out]; rfl, by rw [HR.out]; exact World.ownsRow_nil _ _ _ _, below_mark (below_drewN hB 1) (Nat.le_trans hI0'.out hD)⟩

theorem read_any (s : ByteArray) (w : World) (hs : s.size ≤ 9223372036854775807) :
    Calls Tryd.prog 5 #[.string s] w (ReadPost w (readF (bts s))) := by
  by_cases h : s.size ≤ 500
  · exact read_go s w h
  · have hR : readF (bts s) = ([], 500, 3) := by unfold readF; rw [bts_len, if_pos (by omega)]
    rw [hR]
    have hd : decide ((500 : Int) < (s.size : Int)) = true := by simp; omega
    have hlt : (500 : Int) < (s.size : Int) := by omega
    clear h hR
    go_enter Tryd.func5, Tryd.ntmps5
    go_wp2_with fail
    go_step3
    go_wp2_with fail
    rw [Exit.noGoto_ret]
    go_ret3
    exact ⟨_, rfl, World.ownsRow_nil _ _ _ _, Ext.refl _⟩
end Go.Proofs.YtofglbngnjcpeaaDoor
