/- read, at string. Written by genread.py out of read.in. -/
import Derived.Test.YtdjkfjaffhboeaaCodecH
namespace Go.Proofs.Ytdjkfjaffhboeaa
open Go.RowKit

theorem s_catch_idle (p q r : Addr) (w : World) :
    CallsD Try.prog 48 #[.pointer (some p), .pointer (some q), .pointer (some r)] .returning w fun e u' w' => e = .returned (.tuple #[]) ∧ u' = .returning ∧ w' = w := by
  refine callsD_of_wpS Try.func48 rfl fun c₀ cs hu => ?_
  simp only [Try.ntmps48, List.size_toArray, List.length_cons, List.length_nil, Nat.reduceAdd, Nat.reduceSub, Array.replicate_succ, Array.replicate_zero, List.push_toArray, List.append_toArray, List.nil_append, List.cons_append]
  apply wpS_seq
  apply wpS_region
  simp [wpOpsS, go_sem, recoverD, hu, Exit.thenS]
  refine wpS_of_wp ?_
  go_wp2
  refine ⟨rfl, .returning, ?_, .tuple #[], results_none rfl _ _ _, rfl, rfl, rfl⟩
  cases c₀
  simp_all

theorem s_catch_pan (p q r : Addr) (w : World) (c : Int) (pe : List PanicEntry) (x y z : Value) (hp : w.cell? p = some x) (hq : w.cell? q = some y) (hr : w.cell? r = some z) (fp : w.frozen? p = false) (fq : w.frozen? q = false) (fr : w.frozen? r = false) (hpq : p ≠ q) (hpr : p ≠ r) (hqr : q ≠ r) :
    CallsD Try.prog 48 #[.pointer (some p), .pointer (some q), .pointer (some r)] (.panicking ({ v := .iface 31 (.int .i64 c), recovered := false } :: pe)) w fun e u' w' =>
      e = .returned (.tuple #[]) ∧ u' = .panicking ({ v := .iface 31 (.int .i64 c), recovered := true } :: pe) ∧ w' = ((w.setCell p (.string ⟨#[]⟩)).setCell q (.int .i64 0)).setCell r (.int .i64 c) := by
  refine callsD_of_wpS Try.func48 rfl fun c₀ cs hu => ?_
  simp only [Try.ntmps48, List.size_toArray, List.length_cons, List.length_nil, Nat.reduceAdd, Nat.reduceSub, Array.replicate_succ, Array.replicate_zero, List.push_toArray, List.append_toArray, List.nil_append, List.cons_append]
  apply wpS_seq
  apply wpS_region
  simp [wpOpsS, go_sem, recoverD, hu, Exit.thenS]
  refine wpS_of_wp ?_
  have ha := assertErr
  go_wp2
  refine ⟨rfl, _, rfl, .tuple #[], results_none rfl _ _ _, rfl, rfl, rfl⟩

theorem sby (p : Value) (w : World) : Calls Try.prog 40 #[p] w fun e w' => e = .returned (.func (.func 41) #[p] #[]) ∧ w = w' := by
  go_enter Try.func40, Try.ntmps40
  go_wp2
  go_ret
  exact ⟨rfl, rfl⟩

theorem s_results {W : World} {A B C : Nat} {x y z : Value} {T : Array Value} (h6 : T.getD 6 undef = .pointer (some ⟨A, 0, none⟩)) (h7 : T.getD 7 undef = .pointer (some ⟨B, 0, none⟩)) (h8 : T.getD 8 undef = .pointer (some ⟨C, 0, none⟩))
    (bA : W.cell? ⟨A, 0, none⟩ = some x) (bB : W.cell? ⟨B, 0, none⟩ = some y) (bC : W.cell? ⟨C, 0, none⟩ = some z) :
    (results Try.f39 T).run Try.prog W = .ok (.tuple #[x, y, z]) W := by
  simp only [Array.getD_eq_getD_getElem?] at h6 h7 h8
  simp [results, Try.results39, go_sem, h6, h7, h8, bA, bB, bC]

theorem s_leave_pan {R : Ending → World → Prop} {W : World} {A B C : Nat} {x y z : Value} {T : Array Value} {c : Int} (h6 : T.getD 6 undef = .pointer (some ⟨A, 0, none⟩)) (h7 : T.getD 7 undef = .pointer (some ⟨B, 0, none⟩)) (h8 : T.getD 8 undef = .pointer (some ⟨C, 0, none⟩))
    (bA : Boxed W A 9 x) (bB : Boxed W B 3 y) (bC : Boxed W C 31 z) (hAB : A ≠ B) (hAC : A ≠ C) (hBC : B ≠ C)
    (hR : R (.returned (.tuple #[.string ⟨#[]⟩, .int .i64 0, .int .i64 c])) (((W.setCell ⟨A, 0, none⟩ (.string ⟨#[]⟩)).setCell ⟨B, 0, none⟩ (.int .i64 0)).setCell ⟨C, 0, none⟩ (.int .i64 c))) :
    Leaves Try.prog Try.f39 T R [{ target := .fn (.func 48) #[.pointer (some ⟨A, 0, none⟩), .pointer (some ⟨B, 0, none⟩), .pointer (some ⟨C, 0, none⟩)], args := #[] }] (.panicking [{ v := .iface 31 (.int .i64 c), recovered := false }]) W := by
  refine leaves_cons (f := 48) (args := #[.pointer (some ⟨A, 0, none⟩), .pointer (some ⟨B, 0, none⟩), .pointer (some ⟨C, 0, none⟩)]) (by simp) (by simp [go_sem]) ?_
  refine (s_catch_pan _ _ _ W c [] _ _ _ bA.cell bB.cell bC.cell bA.frozen bB.frozen bC.frozen (fun e => hAB (by cases e; rfl)) (fun e => hAC (by cases e; rfl)) (fun e => hBC (by cases e; rfl))).mono ?_
  rintro e u' w'' ⟨rfl, rfl, rfl⟩
  obtain ⟨b1, b2, b3⟩ := box3 bA bB bC hAB hAC hBC (.string ⟨#[]⟩) (.int .i64 0) (.int .i64 c)
  exact ⟨_, s_results h6 h7 h8 b1.cell b2.cell b3.cell, hR⟩

theorem s_leave_ret {R : Ending → World → Prop} {W : World} {A B C : Nat} {x y z : Value} {T : Array Value} (h6 : T.getD 6 undef = .pointer (some ⟨A, 0, none⟩)) (h7 : T.getD 7 undef = .pointer (some ⟨B, 0, none⟩)) (h8 : T.getD 8 undef = .pointer (some ⟨C, 0, none⟩))
    (bA : W.cell? ⟨A, 0, none⟩ = some x) (bB : W.cell? ⟨B, 0, none⟩ = some y) (bC : W.cell? ⟨C, 0, none⟩ = some z) (hR : R (.returned (.tuple #[x, y, z])) W) :
    Leaves Try.prog Try.f39 T R [{ target := .fn (.func 48) #[.pointer (some ⟨A, 0, none⟩), .pointer (some ⟨B, 0, none⟩), .pointer (some ⟨C, 0, none⟩)], args := #[] }] .returning W := by
  refine leaves_cons (f := 48) (args := #[.pointer (some ⟨A, 0, none⟩), .pointer (some ⟨B, 0, none⟩), .pointer (some ⟨C, 0, none⟩)]) (by simp) (by simp [go_sem]) ?_
  refine (s_catch_idle _ _ _ W).mono ?_
  rintro e u' w'' ⟨rfl, rfl, rfl⟩
  exact ⟨_, s_results h6 h7 h8 bA bB bC, hR⟩
set_option maxHeartbeats 800000 in
theorem sread_any (v : Value) (l : List Int) (k : Int) (w : World) (hl : Byt l) (hv : Ints w .u8 v l) (hlen : l.length ≤ 10000000) :
    Calls Try.prog 39 #[v, .int .i64 k, .func (.func 40) #[] #[]] w (ReadPost w k (rdAt k l rdText) VText (.string ⟨#[]⟩)) := by
  have hmf : ∀ (fn : Fn) (first cap : Array Value) (w : World), (Instr.makeFunc fn first cap).run Try.prog w = .ok (.func fn first cap) w := fun _ _ _ _ => rfl
  have hv' := hv
  obtain ⟨a, cap, rfl, hcap, hmax, _⟩ := hv'.open_
  have bA := ((Boxed.new w 9 (.string ⟨#[]⟩)).alloc (.cells #[.int .i64 0] 3)).alloc (.cells #[.int .i64 0] 31)
  have bB := (Boxed.new (w.alloc (.cells #[.string ⟨#[]⟩] 9)) 3 (.int .i64 0)).alloc (.cells #[.int .i64 0] 31)
  have bC := Boxed.new ((w.alloc (.cells #[.string ⟨#[]⟩] 9)).alloc (.cells #[.int .i64 0] 3)) 31 (.int .i64 0)
  simp only [World.size_alloc] at bB bC
  have hW : ∃ W, W = ((w.alloc (.cells #[.string ⟨#[]⟩] 9)).alloc (.cells #[.int .i64 0] 3)).alloc (.cells #[.int .i64 0] 31) := ⟨_, rfl⟩
  have hBW : Below w.heap.size w (((w.alloc (.cells #[.string ⟨#[]⟩] 9)).alloc (.cells #[.int .i64 0] 3)).alloc (.cells #[.int .i64 0] 31)) :=
    (((Below.refl _ _).alloc (Nat.le_refl _) _).alloc (by simp) _).alloc (by simp <;> omega) _
  have HA := Lib.hid bA
  have HB := Lib.hid bB
  have HC := Lib.hid bC
  have HW := Lib.hid hBW
  clear bA bB bC hBW hW
  by_cases hk : k < 0 ∨ (l.length : Int) < k
  · have hrd : rdAt k l rdText = .no 2 := by unfold rdAt; rw [if_pos hk]
    rw [hrd]
    by_cases hk0 : k < 0
    · have hd : decide (0 ≤ k) = false := by simp; omega
      go_enter_defers Try.func39, Try.ntmps39
      go_wp2_with fail
      refine (need_no _ _).mono ?_
      rintro e w' ⟨rfl, rfl⟩
      go_wp2
      exact s_leave_pan rfl rfl rfl HA.out HB.out HC.out (by omega) (by omega) (by omega) ⟨below_box3 HW.out (by omega) (by omega) (by omega) _ _ _, rfl⟩
    · have hd : decide (0 ≤ k) = true := by simp; omega
      have hd1 : decide (k ≤ (l.length : Int)) = false := by simp; omega
      go_enter_defers Try.func39, Try.ntmps39
      go_wp2_with fail
      refine (need_no _ _).mono ?_
      rintro e w' ⟨rfl, rfl⟩
      go_wp2
      exact s_leave_pan rfl rfl rfl HA.out HB.out HC.out (by omega) (by omega) (by omega) ⟨below_box3 HW.out (by omega) (by omega) (by omega) _ _ _, rfl⟩
  · have hrd : rdAt k l rdText = rdText (l.drop k.toNat) := by unfold rdAt; rw [if_neg hk]
    rw [hrd]
    have hd : decide (0 ≤ k) = true := by simp; omega
    obtain ⟨n, rfl⟩ := Int.eq_ofNat_of_zero_le (show 0 ≤ k by omega)
    have hd1 : decide (n ≤ l.length) = true := by simp; omega
    clear hrd
    rw [Int.toNat_natCast]
    generalize hrr : rdText (l.drop n) = r
    have Hrr := Lib.hid hrr
    clear hrr
    go_enter_defers Try.func39, Try.ntmps39
    go_wp2_with fail
    refine (need_ok _ _).mono ?_
    rintro e w' ⟨rfl, rfl⟩
    go_wp2_with fail
    refine (sby _ _).mono ?_
    rintro e w' ⟨rfl, rfl⟩
    go_wp2_with fail
    have hrd : RdAt ((((w.alloc (.cells #[.string ⟨#[]⟩] 9)).alloc (.cells #[.int .i64 0] 3)).alloc (.cells #[.int .i64 0] 31)).alloc (.cells #[.slice a l.length cap, .int .i64 n] 80)) (w.heap.size + 1 + 1 + 1) (.slice a l.length cap) n := by
      have := World.alloc_heap_new (((w.alloc (.cells #[.string ⟨#[]⟩] 9)).alloc (.cells #[.int .i64 0] 3)).alloc (.cells #[.int .i64 0] 31)) (.cells #[.slice a l.length cap, .int .i64 n] 80)
      simpa [RdAt] using this
    refine (rtext w _ (w.heap.size + 1 + 1 + 1) _ l n hl hv (HW.out.alloc (by simp <;> omega) _) (by omega) hrd (by omega) hlen (by simp)).mono ?_
    clear hrd
    rintro e w' ⟨hB', hO, hm⟩
    have bA := (HA.out.alloc (.cells #[.slice a l.length cap, .int .i64 n] 80)).kept hO (by simp <;> omega)
    have bB := (HB.out.alloc (.cells #[.slice a l.length cap, .int .i64 n] 80)).kept hO (by simp)
    have bC := (HC.out.alloc (.cells #[.slice a l.length cap, .int .i64 n] 80)).kept hO (by simp)
    rw [Hrr.out] at hm
    cases r with
    | no c =>
      obtain ⟨rfl, _⟩ := hm
      unfold pan
      go_wp2_with fail
      exact s_leave_pan rfl rfl rfl bA bB bC (by omega) (by omega) (by omega) ⟨below_box3 hB' (by omega) (by omega) (by omega) _ _ _, rfl⟩
    | ok x used =>
      obtain ⟨⟨u, rfl, hu⟩, hr'⟩ := hm
      obtain ⟨s', rfl, _⟩ := id hu
      have c0 := bA.cell
      have f0 := bA.frozen
      go_wp2_with fail
      have bA2 := bA.set (.string s')
      have bB2 := bB.kept (grownBy_setCell' w' w.heap.size (.string s')) (by simp)
      have bC2 := bC.kept (grownBy_setCell' w' w.heap.size (.string s')) (by simp <;> omega)
      have hr2 : RdAt (w'.setCell ⟨w.heap.size, 0, none⟩ (.string s')) (w.heap.size + 1 + 1 + 1) (.slice a l.length cap) (n + used : Nat) := by
        unfold RdAt at hr' ⊢
        rw [Below.heap_setCell _ _ _ _ (by simp <;> omega)]; exact hr'
      have hB2 := hB'.setCell (p := ⟨w.heap.size, 0, none⟩) (Nat.le_refl _) (.string s')
      have hu3 := vtext_ok.2 _ _ _ w.heap.size _ _ hu (Only.set w.heap.size 0 w' (.string s')) (by simp <;> omega)
      clear bA bB bC hr' hB' hO c0 f0 hu
      generalize w'.setCell ⟨w.heap.size, 0, none⟩ (.string s') = W2 at bA2 bB2 bC2 hr2 hB2 hu3 ⊢
      have c0 := bA2.cell
      have c1 := bB2.cell
      have c2 := bC2.cell
      have c3 := hr2.cell1
      have f0 := bA2.frozen
      have f1 := bB2.frozen
      have f2 := bC2.frozen
      go_region
      all_goals go_wp2
      obtain ⟨b1, b2, b3⟩ := box3 bA2 bB2 bC2 (by omega) (by omega) (by omega) (.string s') (.int .i64 (n + used)) (.int .i64 0)
      have hu4 : VText w.heap.size _ (.string s') x := vtext_ok.1 _ _ _ _ _ (Nat.le_of_lt (by simp <;> omega)) (vtext_ok.2 _ _ _ (w.heap.size + 1 + 1) _ _ (vtext_ok.2 _ _ _ (w.heap.size + 1) _ _ (vtext_ok.2 _ _ _ w.heap.size _ _ hu3 (Only.set w.heap.size 0 W2 (.string s')) (by simp <;> omega)) (Only.set (w.heap.size + 1) 0 _ (.int .i64 (n + used))) (by simp <;> omega)) ((Only.set (w.heap.size + 1 + 1) 0 _ (.int .i64 0)).trans (Only.drewN _ _ 1)) (by simp <;> omega))
      exact s_leave_ret rfl rfl rfl b1.cell b2.cell b3.cell ⟨below_drewN (below_box3 hB2 (by omega) (by omega) (by omega) _ _ _) 1, _, rfl, hu4⟩
end Go.Proofs.Ytdjkfjaffhboeaa
