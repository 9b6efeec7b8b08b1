/- The slots of a text, and its place. -/
import Derived.Test.YtkhmkgobmfhchaaTabA
import Derived.Test.YtkhmkgobmfhchaaTabR
import Derived.Test.YtkhmkgobmfhchaaOver
import Derived.Test.YtkhmkgobmfhchaaOpenB
namespace Go.Proofs.Ytkhmkgobmfhchaa
open Go.RowKit Go.Shelf
attribute [local go_sem] Oper.semAt_some wide_fn wide_depth

theorem slots_any (a : Option Addr) (n c : Nat) (b : Option Addr) (m d : Nat) (s : ByteArray) (w : World) : Calls Try.prog 34 #[.agg #[.slice a n c, .slice b m d], .string s] w fun e w' =>
    e = .returned (.func (.func 36) #[] #[.pointer (some ⟨w.heap.size, 0, none⟩), .pointer (some ⟨w.heap.size + 1, 0, none⟩)]) ∧ w' = (w.alloc (.cells #[.slice a n c, .slice b m d] 63)).alloc (.cells #[.string s] 9) := by
  go_enter Try.func34, Try.ntmps34
  go_wp2
  go_ret
  exact ⟨rfl, rfl⟩

theorem slots_iter (a : Option Addr) (n c : Nat) (b : Option Addr) (m d : Nat) (s : ByteArray) (w : World) (x y : Nat) (hx0 : w.cell? ⟨x, 0, none⟩ = some (.slice a n c)) (hx1 : w.cell? ⟨x, 1, none⟩ = some (.slice b m d)) (hy : w.cell? ⟨y, 0, none⟩ = some (.string s))
    (hm : m ≤ 1048576) (hs : s.size ≤ 9223372036854775807) :
    IterOf Try.prog 36 #[.pointer (some ⟨x, 0, none⟩), .pointer (some ⟨y, 0, none⟩)] w m (fun k _ args => args = #[.int .i64 (probe m s k)]) := by
  intro L W J Js hB hJ hJs hround h0
  refine callsIn_of_wp Try.func36 rfl trivial ?_
  simp only [Try.ntmps36, List.size_toArray, List.length_cons, List.length_nil, Nat.reduceAdd, Nat.reduceSub, Array.replicate_succ, Array.replicate_zero, List.push_toArray, List.append_toArray, List.nil_append, List.cons_append]
  have hB0 := hB 0 W h0
  have c0 := (hB0.cell (p := ⟨x, 0, none⟩) (cell_lt hx0)).trans hx0
  have c1 := (hB0.cell (p := ⟨x, 1, none⟩) (cell_lt hx1)).trans hx1
  have c2 := (hB0.cell (p := ⟨y, 0, none⟩) (cell_lt hy)).trans hy
  gi_wp2_with (gi_at_call 16; refine (callsIn_wide.2 (hash_any _ _ hs)).mono ?_; rintro e w' ⟨rfl, rfl⟩)
  obtain ⟨hh0, hh1⟩ := hashL_range 14695981039346656037 (sbt s) (by omega) (by omega)
  have hH : (hashN s : Int) = hashL 14695981039346656037 (sbt s) := by unfold hashN; omega
  rw [← hH] at hh0 hh1
  rw [← hH]
  clear hH
  have hP : ∀ (k X : Nat), X % m = probe m s k → (X % m + 1) % m = probe m s (k + 1) := fun k X h => by
    unfold probe at *; rw [h, ← Nat.add_assoc, Nat.mod_add_mod]
  have hP0 : hashN s % m = probe m s 0 := rfl
  have HP := Lib.hid hP
  generalize hashN s = H at hh0 hh1 hP0
  have HP0 := Lib.hid hP0
  have Hh1 := Lib.hid hh1
  clear hP hP0 hB0 hx0 hx1 hy hh1
  gi_loopw [5, 17] (fun at_ i wr => ∃ k X : Nat, k ≤ m ∧ i = .int .i64 k ∧ at_ = .int .u64 X ∧ (X : Int) < 18446744073709551616 ∧ X % m = probe m s k ∧ J k wr) (fun _ i _ => m - (intOf i).toNat)
  case atStart => exact ⟨0, H, Nat.zero_le _, rfl, rfl, Hh1.out, HP0.out, h0⟩
  case round =>
    obtain ⟨k, X, hk, rfl, rfl, hX, hXm, hj⟩ := hrel
    have HX := Lib.hid hX
    have HXm := Lib.hid hXm
    have hXp : 0 ≤ (X : Int) := by omega
    have hk0 : 0 ≤ k := Nat.zero_le _
    clear hX hXm
    by_cases hlt : k < m
    · have hpl := probe_lt m s k (by omega)
      obtain ⟨fn', tmps', assign', body', hy, hR⟩ := hround k #[.int .i64 (probe m s k)] wr hlt hj rfl
      have e1 : ((X : Int) % (m : Int)) = ((probe m s k : Nat) : Int) := by rw [← HXm.out]; rfl
      have hm0 : 0 < (m : Int) := by omega
      gi_wp2
      refine hR.mono ?_
      rintro e W3 (⟨rfl, hj3⟩ | ⟨rfl, hj3⟩)
      · gi_wp2
        exact ⟨⟨k + 1, probe m s k + 1, by omega, by go_num, int_congr (by omega), by omega, by rw [← HP.out k X HXm.out, HXm.out], hj3⟩, by simp [intOf]; omega⟩
      · gi_wp2
        exact bodyPost_ret (results_none rfl _ _ _) rfl ⟨⟨_, rfl⟩, .inr hj3⟩
    · gi_wp2
      go_end0
      exact ⟨⟨_, rfl⟩, .inl (by rw [show m = k from by omega]; exact hj)⟩

theorem placeFrom_hit {T : List ByteArray} {S : List Int} {s : ByteArray} {m k : Nat} (hm : S.length = m) (h : k < m) (hh : hit T S s (probe m s k) = true) : placeFrom T S s (m - k) k = probe m s k := by
  obtain ⟨f, hf⟩ : ∃ f, m - k = f + 1 := ⟨m - k - 1, by omega⟩
  rw [hf]; unfold placeFrom; rw [hm, if_pos hh]
theorem placeFrom_miss {T : List ByteArray} {S : List Int} {s : ByteArray} {m k : Nat} (hm : S.length = m) (h : k < m) (hh : hit T S s (probe m s k) = false) : placeFrom T S s (m - k) k = placeFrom T S s (m - (k + 1)) (k + 1) := by
  obtain ⟨f, hf⟩ : ∃ f, m - k = f + 1 := ⟨m - k - 1, by omega⟩
  have e : placeFrom T S s (f + 1) k = if hit T S s (probe S.length s k) then (probe S.length s k : Int) else placeFrom T S s f (k + 1) := rfl
  rw [hf, e, hm, if_neg (by rw [hh]; simp), show m - (k + 1) = f from by omega]
/-- What place has found lies in its box. -/
def PlX (w : World) (h : Nat) (v : Int) (W : World) : Prop := Below w.heap.size w W ∧ Boxed W h 3 (.int .i64 v)
theorem PlX.stab (w : World) (h : Nat) (v : Int) (B : Nat) (hB : w.heap.size ≤ B) : Stab B (PlX w h v) := by
  intro W W' row ⟨h1, h2⟩ hg hr
  exact ⟨h1.grown hg h1.size (fun k e => Nat.le_trans hB (hr k e).1), Stab.boxed B _ _ _ W W' row h2 hg hr⟩
theorem Stab.ext_ (w : World) : Stab w.heap.size (fun W => Ext w W) := Stab.below _ _ _ (Nat.le_refl _) (Nat.le_refl _)

set_option maxRecDepth 100000 in
set_option maxHeartbeats 1000000 in
theorem place_any (T : List ByteArray) (S : List Int) (s : ByteArray) (a : Option Addr) (n c : Nat) (b : Option Addr) (m d : Nat) (w : World) (hT : Strs w (.slice a n c) T) (hS : Ints w .i64 (.slice b m d) S)
    (hr : ∀ x ∈ S, 0 ≤ x ∧ x ≤ T.length) (hm : m ≤ 1048576) (hs : s.size ≤ 9223372036854775807) : Calls Try.prog 31 #[.agg #[.slice a n c, .slice b m d], .string s] w fun e w' => e = .returned (.int .i64 (placeF T S s)) ∧ Ext w w' := by
  refine calls_of_wp_marks Try.func31 rfl ?_
  simp only [Try.ntmps31, List.size_toArray, List.length_cons, List.length_nil, Nat.reduceAdd, Nat.reduceSub, Array.replicate_succ, Array.replicate_zero, List.push_toArray, List.append_toArray, List.nil_append, List.cons_append]
  go_wp2_with fail
  go_step3
  go_wp2_with fail
  go_step3
  go_wp2_with (go_at_call 34; refine (slots_any _ _ _ _ _ _ _ _).mono ?_; rintro e w' ⟨rfl, rfl⟩)
  generalize hw1 : (((((w.alloc _).alloc _).alloc _).alloc _).alloc _) = w1
  have q0 : w1.cell? ⟨w.heap.size, 0, none⟩ = some (.slice a n c) := by subst hw1; simp [go_sem]
  have q1 : w1.cell? ⟨w.heap.size, 1, none⟩ = some (.slice b m d) := by subst hw1; simp [go_sem]
  have q2 : w1.cell? ⟨w.heap.size + 1, 0, none⟩ = some (.string s) := by subst hw1; simp [go_sem]
  have q3 : Boxed w1 (w.heap.size + 1 + 1) 3 (.int .i64 (-1)) := by
    subst hw1
    have := Boxed.new ((w.alloc (.cells #[.slice a n c, .slice b m d] 63)).alloc (.cells #[.string s] 9)) 3 (.int .i64 (-1))
    exact (((by simpa using this) : Boxed _ (w.heap.size + 1 + 1) _ _).alloc _).alloc _
  have hx1 : Ext w w1 := by subst hw1; exact ((((Ext.alloc _ _).trans (Ext.alloc _ _)).trans (Ext.alloc _ _)).trans (Ext.alloc _ _)).trans (Ext.alloc _ _)
  have hT1 := hT.ext hx1
  have hS1 := hS.ext hx1
  have hlen : S.length = m := by obtain ⟨_, _, e, _⟩ := hS; cases e; rfl
  have hlenT : T.length = n := by obtain ⟨_, _, e, _⟩ := hT; cases e; rfl
  refine wp_over (w0 := w1) rfl (enters_of Try.func36 (by kernel_rfl) rfl) (slots_iter a n c b m d s w1 _ _ (by subst hw1; simp [go_sem]) (by subst hw1; simp [go_sem]) (by subst hw1; simp [go_sem]) hm hs)
    (by rintro k W args rfl; rfl) (fun k args => Stab.pure _ _)
    (fun k W => Ext w1 W ∧ placeF T S s = placeFrom T S s (m - k) k) (fun q W => q = .exit 0 ∧ PlX w (w.heap.size + 1 + 1) (placeF T S s) W)
    (fun k => (Stab.ext_ _).and (Stab.pure _ _)) (fun q => (Stab.pure _ _).and (PlX.stab _ _ _ _ hx1.size)) (fun k W h => h.1) ⟨Ext.refl _, by unfold placeF; rw [hlen]; rfl⟩ ?_ ?_ ?_
  · rintro k args W L hk hL ⟨hxW, hpl⟩ rfl
    gi_wp2
    refine ⟨KeepsFrom.refl _ _, ⟨hxW, hpl⟩, trivial, ?_⟩
    rintro W2 ⟨hx2, _⟩ -
    have q0 := (hx2.cell (p := ⟨w.heap.size, 0, none⟩) (cell_lt q0)).trans q0
    have q1 := (hx2.cell (p := ⟨w.heap.size, 1, none⟩) (cell_lt q1)).trans q1
    have q2 := (hx2.cell (p := ⟨w.heap.size + 1, 0, none⟩) (cell_lt q2)).trans q2
    have q3 := q3.kept (grown_ext hx2) (by simp)
    have c3 := q3.cell
    have f3 := q3.frozen
    have Hb := Lib.hid (show Below w.heap.size w w1 from hx1)
    have Hw1 := Lib.hid hx1.size
    have Hpl := Lib.hid hpl
    have hpm := probe_lt m s k (by omega)
    have Hlen := Lib.hid hlen
    have HlenT := Lib.hid hlenT
    have hS2 := hS1.ext hx2
    have hT2 := hT1.ext hx2
    obtain ⟨sb, so, rfl, hck⟩ := hS2.atD (k := probe m s k) (by omega)
    have hrk := hr _ (getD_mem (show probe m s k < S.length by omega))
    generalize hxk : S.getD (probe m s k) 0 = x at hck hrk
    have Hxk := Lib.hid hxk
    clear hS2 hxk hx1 hxW hS hT hS1 hT1 hw1 hlen hlenT hpl
    by_cases hx0 : x = 0
    · subst hx0
      gi_wp2
      refine wpIn_round_quiet (by kernel_rfl) (by kernel_rfl) (by kernel_rfl) ?_
      repeat (any_goals (first | go_big_quiet_step (fail) | quiet_step (fail)))
      refine wpQuiet_nil ?_
      intro _ hw'
      obtain ⟨nq, hw''⟩ := hw'
      subst hw''
      gi_wp2
      rw [show (probe m s k : Int) = placeF T S s from by rw [Hpl.out, placeFrom_hit Hlen.out hk (hit_zero Hxk.out)]]
      exact ⟨(keeps_ext _ (Ext.drewN _ _)).trans (keeps_set _ (show (W2.drewN nq).cell? _ = _ from c3) _), rfl, (Below.ext (Below.ext Hb.out hx2 Hw1.out) (Ext.drewN _ _) (Nat.le_trans Hw1.out hx2.size)).setCell (p := ⟨w.heap.size + 1 + 1, 0, none⟩) (by show w.heap.size ≤ w.heap.size + 1 + 1; omega) _, (q3.kept (grown_ext (Ext.drewN _ _)) (by simp)).set _⟩
    · have hb0 : (x == 0) = false := by simpa using hx0
      have HT := HlenT.out
      have hxb : x ≤ 9223372036854775807 := by obtain ⟨_, _, e, h1, h2⟩ := Sl.shape hT2; simp only [Value.slice.injEq] at e; omega
      obtain ⟨tb, to, rfl, htk⟩ := hT2.atD (k := (x - 1).toNat) (by omega)
      have hx1 : 1 ≤ x := by omega
      generalize hyk : T.getD (x - 1).toNat ⟨#[]⟩ = y at htk
      rw [show (x - 1).toNat = x.toNat - 1 from by omega] at htk
      have hx3 : 0 ≤ x - 1 := by omega
      have hx4 : x - 1 < (n : Int) := by omega
      clear hT2 hx0 HT
      have Hyk := Lib.hid hyk
      clear hyk
      by_cases hys : y = s
      · have hys' := str_yes hys
        have Hys := Lib.hid hys
        clear hys
        gi_wp2
        refine wpIn_round_quiet (by kernel_rfl) (by kernel_rfl) (by kernel_rfl) ?_
        repeat (any_goals (first | go_big_quiet_step (fail) | quiet_step (fail)))
        refine wpQuiet_nil ?_
        intro _ hw'
        obtain ⟨nq, hw''⟩ := hw'
        subst hw''
        gi_wp2
        rw [show (probe m s k : Int) = placeF T S s from by rw [Hpl.out, placeFrom_hit Hlen.out hk]; unfold hit; rw [Hxk.out, Hyk.out, Hys.out]; simp]
        exact ⟨(keeps_ext _ (Ext.drewN _ _)).trans (keeps_set _ (show (W2.drewN nq).cell? _ = _ from c3) _), rfl, (Below.ext (Below.ext Hb.out hx2 Hw1.out) (Ext.drewN _ _) (Nat.le_trans Hw1.out hx2.size)).setCell (p := ⟨w.heap.size + 1 + 1, 0, none⟩) (by show w.heap.size ≤ w.heap.size + 1 + 1; omega) _, (q3.kept (grown_ext (Ext.drewN _ _)) (by simp)).set _⟩
      · have hys' := str_no hys
        have Hys := Lib.hid hys
        clear hys
        gi_wp2
        refine wpIn_round_quiet (by kernel_rfl) (by kernel_rfl) (by kernel_rfl) ?_
        repeat (any_goals (first | go_big_quiet_step (fail) | quiet_step (fail)))
        refine wpQuiet_nil ?_
        intro _ hw'
        obtain ⟨nq, hw''⟩ := hw'
        subst hw''
        gi_wp2
        exact ⟨keeps_ext _ (Ext.drewN _ _), hx2.trans (Ext.drewN _ _), by rw [Hpl.out]; exact placeFrom_miss Hlen.out hk (by unfold hit; rw [Hxk.out, Hyk.out, hb0, decide_eq_false Hys.out]; rfl)⟩
  · rintro D W hD ⟨hxW, hpl⟩ hdf
    have q3 := q3.kept (grown_ext hxW) (by simp)
    have c3 := q3.cell
    have hB := Below.ext hx1 hxW hx1.size
    rw [Nat.sub_self, show placeFrom T S s 0 m = -1 from rfl] at hpl
    have Hpl := Lib.hid hpl
    clear hpl hw1 hlen hlenT
    go_wp2
    rw [Exit.noGoto_ret]
    refine leave_marked hdf (fun _ => results_tmp rfl _ _ _) ⟨?_, below_mark hB (Nat.le_trans hx1.size hD)⟩
    show Ending.returned (.int .i64 (-1)) = _
    rw [Hpl.out]
  · rintro D q W hD ⟨rfl, hB, q3⟩ hdf
    have c3 := q3.cell
    clear hw1 hlen hlenT
    go_wp2
    rw [Exit.noGoto_ret]
    exact leave_marked hdf (fun _ => results_tmp rfl _ _ _) ⟨rfl, below_mark hB (Nat.le_trans hx1.size hD)⟩
end Go.Proofs.Ytkhmkgobmfhchaa
