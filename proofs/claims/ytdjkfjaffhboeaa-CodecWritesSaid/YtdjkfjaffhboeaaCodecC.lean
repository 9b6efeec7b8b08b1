/- Number: a range over the bytes of a number. -/
import Derived.Test.YtdjkfjaffhboeaaCodecB
import Derived.Test.YtdjkfjaffhboeaaCodecP
import Derived.Test.YtdjkfjaffhboeaaIter
namespace Go.Proofs.Ytdjkfjaffhboeaa
open Go.RowKit Go.Shelf
attribute [local go_sem] Oper.semAt_some wide_fn wide_depth

def NumJ (w : World) (O N D L : Nat) (r : Loop) (pre : List Int) (m : Int) (W : World) : Prop :=
  W.heap[L]? = some (.loop r) ∧ W.heap[D]? = some (.deferred (some [])) ∧ (∃ v, Boxed W O 24 v ∧ W.ownsRow w.heap.size 5 1 v pre.length (pre.map (Value.int .u8))) ∧
    Boxed W N 22 (.int .u64 m) ∧ Below w.heap.size w W

theorem NumJ.put {w W : World} {O N D L : Nat} {r : Loop} {pre : List Int} {m : Int} (h : NumJ w O N D L r pre m W) (r' : Loop) (h1 : D < L) (h2 : w.heap.size ≤ L) : NumJ w O N D L r' pre m (W.putObj L (.loop r')) := by
  obtain ⟨a1, a2, ⟨v, a3, a4⟩, a5, a6⟩ := h
  have hL := (Array.getElem?_eq_some_iff.1 a1).1
  have hO : some O ≠ some L := by intro e; cases e; rw [Boxed, a1] at a3; cases a3
  have hN : some N ≠ some L := by intro e; cases e; rw [Boxed, a1] at a5; cases a5
  exact ⟨World.putObj_heap_same hL, (World.putObj_heap_other (by omega)).trans a2, ⟨v, a3.kept (grown_put _ _ _) hO, ownsRow_putObj a4 _ a1 rfl⟩, a5.kept (grown_put _ _ _) hN, below_put a6 h2 _⟩

theorem NumJ.set {w W : World} {O N D L : Nat} {r : Loop} {pre : List Int} {m : Int} (h : NumJ w O N D L r pre m W) (m' : Int) (hON : O ≠ N) (h2 : w.heap.size ≤ N) : NumJ w O N D L r pre m' (W.setCell ⟨N, 0, none⟩ (.int .u64 m')) := by
  obtain ⟨a1, a2, ⟨v, a3, a4⟩, a5, a6⟩ := h
  have hL : L ≠ N := by rintro rfl; rw [Boxed, a1] at a5; cases a5
  have hD : D ≠ N := by rintro rfl; rw [Boxed, a2] at a5; cases a5
  have hg := grownBy_setCell' W N (.int .u64 m')
  refine ⟨(hg.block L (Array.getElem?_eq_some_iff.1 a1).1 (by simpa using hL)).trans a1, (hg.block D (Array.getElem?_eq_some_iff.1 a2).1 (by simpa using hD)).trans a2,
    ⟨v, a3.kept hg (by simpa using hON), a4.kept hg (.inr (a5.not_row (by decide) a4).symm)⟩, a5.set _, a6.setCell (p := ⟨N, 0, none⟩) h2 _⟩

theorem num_bytes (n : Int) (w : World) : CallsIn Fence.wide 0 Try.prog 27 #[.int .u64 n] w fun e w' =>
    e = .returned (.func (.func 42) #[] #[.pointer (some ⟨w.heap.size, 0, none⟩)]) ∧ w' = w.alloc (.cells #[.int .u64 n] 22) := by
  refine callsIn_of_wp Try.func27 rfl trivial ?_
  simp only [Try.ntmps27, List.size_toArray, List.length_cons, List.length_nil, Nat.reduceAdd, Nat.reduceSub, Array.replicate_succ, Array.replicate_zero, List.push_toArray, List.append_toArray, List.nil_append, List.cons_append]
  gi_wp2
  go_ret
  exact ⟨rfl, rfl⟩

set_option maxHeartbeats 1000000 in
theorem number_in (n : Int) (w : World) (h0 : 0 ≤ n) (h1 : n < 18446744073709551616) :
    CallsIn Fence.wide 0 Try.prog 9 #[.int .u64 n] w fun e w' => ∃ u, e = .returned u ∧ Own w' w.heap.size 5 .u8 u (num 9 n) ∧ Ext w w' := by
  refine callsIn_of_wp_marks Try.func9 rfl trivial ?_
  simp only [Try.ntmps9, List.size_toArray, List.length_cons, List.length_nil, Nat.reduceAdd, Nat.reduceSub, Array.replicate_succ, Array.replicate_zero, List.push_toArray, List.append_toArray, List.nil_append, List.cons_append]
  gi_wp2_with (gi_at_call 27; refine (num_bytes _ _).mono ?_; rintro e w' ⟨rfl, rfl⟩)



  refine wp_range (gf := 42) (lb := #[.pointer (some ⟨w.heap.size + 1, 0, none⟩)]) rfl (enters_of Try.func42 (by kernel_rfl) rfl) (w.heap.size + 2) (w.heap.size + 3) (by simp) rfl _ rfl ?_
  intro fn W hW
  generalize hr : recOf fn _ _ _ _ _ _ _ = r at hW
  have hN : NumJ w w.heap.size (w.heap.size + 1) (w.heap.size + 2) (w.heap.size + 3) r [] n W := by
    have bO := Boxed.new w 24 (.slice none 0 0)
    have bN := Boxed.new (w.alloc (.cells #[.slice none 0 0] 24)) 22 (.int .u64 n)
    rw [World.size_alloc] at bN
    subst hW
    refine ⟨?_, ?_, ⟨_, ((bO.alloc _).alloc _).alloc _, World.ownsRow_nil _ _ _ _⟩, (bN.alloc _).alloc _, ?_⟩
    · have := World.alloc_heap_new (((w.alloc (.cells #[.slice none 0 0] 24)).alloc (.cells #[.int .u64 n] 22)).alloc (.deferred (some []))) (.loop r)
      simpa using this
    · have := World.alloc_heap_new ((w.alloc (.cells #[.slice none 0 0] 24)).alloc (.cells #[.int .u64 n] 22)) (.deferred (some []))
      rw [Below.heap_alloc _ _ _ (by simp)]
      simpa using this
    · exact ((((Below.refl _ _).alloc (Nat.le_refl _) _).alloc (by simp) _).alloc (by simp; omega) _).alloc (by simp; omega) _
  have hround : ∀ (pre : List Int) (m c : Int) (W : World), pre.length ≤ 10 → NumJ w w.heap.size (w.heap.size + 1) (w.heap.size + 2) (w.heap.size + 3) r pre m W →
      YieldAt Fence.wide 0 Try.prog (w.heap.size + 3) #[.int .u8 c] W fun e W' => e = .returned (.bool true) ∧ NumJ w w.heap.size (w.heap.size + 1) (w.heap.size + 2) (w.heap.size + 3) r (pre ++ [c]) m W' := by
    intro pre m c W hlen hJ
    refine yield_rec hr hJ.1 rfl ?_
    have hJ1 := hJ.put { r with state := .busy } (by omega) (by omega)
    have hL := hJ.1
    clear hJ
    gi_wp2
    refine ⟨hL, ?_⟩
    clear hL
    generalize W.putObj (w.heap.size + 3) (.loop { r with state := .busy }) = W2 at hJ1
    obtain ⟨a1, a2, ⟨v, a3, a4⟩, a5, a6⟩ := hJ1
    have hc := a3.cell
    gi_wp2_with (gi_at_builtin; refine wpListIn_append_sl _ rfl _ _ 24 rfl elB rfl (a4.alloc _) rfl (Sl.new _ _ _ 1 1 (Nat.le_refl _) ?_) rfl ?_ ?_ ?_ ?_ ?_)
    · unfold maxLen; omega
    · rfl
    · omega
    · unfold maxLen; omega
    · have := a6.size; simp; omega
    intro v1 w1 hown hb hg _
    obtain ⟨g', cap', rfl⟩ := ownsRow_succ hown
    obtain ⟨hv1, hv2, hr2, hk2, hb2⟩ := a3.appended (by decide) a4 a6.size (Nat.le_refl _) hown hg
    have hc1 := hv1.cell
    have hf1 := hv1.frozen
    have bN := ((a5.alloc _).kept hg (a5.not_row (by decide) a4)).kept (grownBy_setCell' w1 w.heap.size (.slice (some ⟨g', 0, none⟩) (pre.length + 1) cap')) (by simp)
    have bL := hk2.same _ _ a1 rfl
    have bD := hk2.same _ _ a2 rfl
    have hfin : NumJ w w.heap.size (w.heap.size + 1) (w.heap.size + 2) (w.heap.size + 3) { r with state := .busy } (pre ++ [c]) m (w1.setCell ⟨w.heap.size, 0, none⟩ (.slice (some ⟨g', 0, none⟩) (pre.length + 1) cap')) :=
      ⟨bL, bD, ⟨_, hv2, by simpa using hr2⟩, bN, a6.trans hb2⟩
    have Hfin := Lib.hid hfin
    clear hfin a1 a2 a3 a4 a5 hown hb hg hv1 hv2 hr2 hk2 hb2 bN bL bD hc
    gi_wp2
    have hJ2 := Hfin.out.put r (by omega) (by omega)
    exact ⟨Hfin.out.1, rfl, by rw [rec_ready hr]; exact hJ2⟩
  have hst : r.state = .ready := by rw [← hr]; rfl
  have hpe : r.pending = none := by rw [← hr]; rfl
  clear hr
  have hit : CallsIn Fence.wide 0 Try.prog 42 #[.func (.yield (w.heap.size + 3)) #[] #[], .pointer (some ⟨w.heap.size + 1, 0, none⟩)] W fun e W' =>
      (∃ v, e = .returned v) ∧ ∃ m, NumJ w w.heap.size (w.heap.size + 1) (w.heap.size + 2) (w.heap.size + 3) r (num 9 n) m W' := by
    refine callsIn_of_wp Try.func42 rfl trivial ?_
    simp only [Try.ntmps42, List.size_toArray, List.length_cons, List.length_nil, Nat.reduceAdd, Nat.reduceSub, Array.replicate_succ, Array.replicate_zero, List.push_toArray, List.append_toArray, List.nil_append, List.cons_append]
    clear hW
    gi_wp2
    gi_loopw [3] (fun _ wr => ∃ (f : Nat) (pre : List Int) (m : Int), num 9 n = pre ++ num f m ∧ 0 ≤ m ∧ m < 2 * 128 ^ f ∧ f + pre.length = 9 ∧ NumJ w w.heap.size (w.heap.size + 1) (w.heap.size + 2) (w.heap.size + 3) r pre m wr)
      (fun _ wr => (intOf ((wr.cell? ⟨w.heap.size + 1, 0, none⟩).getD undef)).toNat)
    case atStart => exact ⟨9, [], n, rfl, h0, by omega, rfl, hN⟩
    case round =>
      obtain ⟨f, pre, m, hnum, hm0, hmf, hfl, hJ⟩ := hrel
      have hc := hJ.2.2.2.1.cell
      by_cases hm : m < 128
      · have hd : decide (128 ≤ m) = false := by simp; omega
        obtain ⟨fn', tmps', assign', body', hy, hR⟩ := hround pre m m wr (by omega) hJ
        gi_wp2
        refine hR.mono ?_
        rintro e W3 ⟨rfl, hJ3⟩
        gi_wp2
        go_end0
        exact ⟨⟨_, rfl⟩, m, by rw [hnum, num_small f m hm]; exact hJ3⟩
      · have hd : decide (128 ≤ m) = true := by simp; omega
        obtain ⟨fn', tmps', assign', body', hy, hR⟩ := hround pre m (bits .or .u8 (m % 256) 128) wr (by omega) hJ
        gi_wp2
        refine hR.mono ?_
        rintro e W3 ⟨rfl, hJ3⟩
        have hc3 := hJ3.2.2.2.1.cell
        have hf3 := hJ3.2.2.2.1.frozen
        have hf' : ∃ f', f = f' + 1 := ⟨f - 1, by
          rcases Nat.eq_zero_or_pos f with h | h
          · subst h; simp at hmf; omega
          · omega⟩
        obtain ⟨f', rfl⟩ := hf'
        gi_wp2
        have hJ4 := hJ3.set (m / 128) (by omega) (by omega)
        refine ⟨⟨f', pre ++ [bits .or .u8 (m % 256) 128], m / 128, ?_, by omega, ?_, by simp; omega, hJ4⟩, ?_⟩
        · rw [hnum, num_big f' m (by omega), or128]; simp
        · have h2 : (128 : Int) ^ (f' + 1) = 128 ^ f' * 128 := Int.pow_succ _ _
          rw [h2] at hmf; omega
        · have e1 := hJ4.2.2.2.1.cell
          rw [e1, hc]; simp [intOf]; omega
  refine CallsIn.mono (n := 0) hit ?_
  rintro e W' ⟨⟨v, rfl⟩, m, hJ⟩
  refine ⟨v, rfl, r, hJ.1, by rw [hst]; decide, fun r' => ?_⟩
  rw [hpe]
  simp only []
  have hJ2 := hJ.put r' (by omega) (by omega)
  generalize W'.putObj (w.heap.size + 3) (.loop r') = W2 at hJ2
  obtain ⟨_, a2, ⟨v, a3, a4⟩, _, a6⟩ := hJ2
  have hc := a3.cell
  gi_wp2
  refine ⟨by simp, .inl ⟨_, _, rfl, run_takeDeferred a2, ?_⟩⟩
  exact ⟨_, results_tmp rfl _ _ _, v, rfl, ownsRow_putObj a4 _ a2 rfl, below_put a6 (by omega) _⟩

theorem number_any (n : Int) (w : World) (h0 : 0 ≤ n) (h1 : n < 18446744073709551616) :
    Calls Try.prog 9 #[.int .u64 n] w fun e w' => ∃ u, e = .returned u ∧ Own w' w.heap.size 5 .u8 u (num 9 n) ∧ Ext w w' :=
  callsIn_wide.1 (number_in n w h0 h1)
end Go.Proofs.Ytdjkfjaffhboeaa
