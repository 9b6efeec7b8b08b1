/- The reader: number. -/
import Derived.Test.YtdjkfjaffhboeaaCodecD
namespace Go.Proofs.Ytdjkfjaffhboeaa
open Go.RowKit

/-- Only block R, and what is new, has changed. -/
def Only (R : Nat) (w w' : World) : Prop := w.grownBy w' (some R)
theorem Only.refl (R : Nat) (w : World) : Only R w w := ⟨rfl, rfl, rfl, Nat.le_refl _, fun _ _ _ => rfl⟩
theorem Only.trans {R : Nat} {a b c : World} (h : Only R a b) (k : Only R b c) : Only R a c :=
  ⟨k.os.trans h.os, k.tape.trans h.tape, k.output.trans h.output, Nat.le_trans h.size k.size, fun i hi hne => (k.block i (Nat.lt_of_lt_of_le hi h.size) hne).trans (h.block i hi hne)⟩
theorem Only.of_ext {R : Nat} {a b : World} (h : Ext a b) : Only R a b := ⟨h.os, h.tape, h.output, h.size, fun i hi _ => h.block i hi⟩
theorem Only.drewN (R : Nat) (w : World) (n : Nat) : Only R w (w.drewN n) := Only.of_ext (Ext.drewN _ _)
theorem Only.set (R o : Nat) (w : World) (u : Value) : Only R w (w.setCell ⟨R, o, none⟩ u) :=
  ⟨rfl, rfl, rfl, by simp [World.setCell], fun k _ hk => Below.heap_setCell _ _ _ k (fun e => hk (by rw [e]))⟩
theorem Only.below {R B : Nat} {w0 w w' : World} (h : Only R w w') (hB : Below B w0 w) (h1 : B ≤ w.heap.size) (h2 : B ≤ R) : Below B w0 w' := hB.grown h h1 (by simpa using h2)

/-- The reader's struct lies in block R. -/
def RdAt (w : World) (R : Nat) (v : Value) (at_ : Int) : Prop := w.heap[R]? = some (.cells #[v, .int .i64 at_] 80 (0, 0))
theorem RdAt.cell0 {w : World} {R : Nat} {v : Value} {k : Int} (h : RdAt w R v k) : w.cell? ⟨R, 0, none⟩ = some v := by simp [World.cell?, show w.heap[R]? = _ from h]
theorem RdAt.cell1 {w : World} {R : Nat} {v : Value} {k : Int} (h : RdAt w R v k) : w.cell? ⟨R, 1, none⟩ = some (.int .i64 k) := by simp [World.cell?, show w.heap[R]? = _ from h]
theorem RdAt.frozen {w : World} {R : Nat} {v : Value} {k : Int} (h : RdAt w R v k) (i : Nat) : w.frozen? ⟨R, i, none⟩ = false := by simp [World.frozen?, show w.heap[R]? = _ from h]
theorem RdAt.drewN {w : World} {R : Nat} {v : Value} {k : Int} (h : RdAt w R v k) (n : Nat) : RdAt (w.drewN n) R v k := h
theorem RdAt.set {w : World} {R : Nat} {v : Value} {k : Int} (h : RdAt w R v k) (k' : Int) : RdAt (w.setCell ⟨R, 1, none⟩ (.int .i64 k')) R v k' := by
  unfold RdAt at h ⊢
  simp [World.setCell, Array.getElem?_modify, h]

theorem need_okq (c : Int) (w : World) : Calls Try.prog 44 #[.bool true, .int .i64 c] w fun e w' => e = .returned (.tuple #[]) ∧ w' = w := (need_ok c w).mono fun _ _ h => ⟨h.1, h.2.symm⟩

/-- What reading a number comes to. -/
inductive Rd (α : Type) where
  | ok (x : α) (used : Nat)
  | no (e : Int)
def rdn : List Int → Nat → Int → Rd Int
  | [], i, _ => if i < 10 then .no 120 else .no 121
  | c :: l, i, acc =>
    if 10 ≤ i then .no 121
    else if 128 ≤ c then rdn l (i + 1) (acc + c % 128 * 128 ^ i % 18446744073709551616)
    else if (i = 0 ∨ 0 < c) ∧ (i < 9 ∨ c = 1) then .ok (acc + c % 128 * 128 ^ i % 18446744073709551616) (i + 1)
    else .no 121

theorem rdn_more (c : Int) (l : List Int) (i : Nat) (acc : Int) (h : i < 10) (hc : 128 ≤ c) : rdn (c :: l) i acc = rdn l (i + 1) (acc + c % 128 * 128 ^ i % 18446744073709551616) := by
  rw [rdn, if_neg (by omega), if_pos hc]
theorem rdn_yes (c : Int) (l : List Int) (i : Nat) (acc : Int) (h : i < 10) (hc : ¬ 128 ≤ c) (ht : (i = 0 ∨ 0 < c) ∧ (i < 9 ∨ c = 1)) : rdn (c :: l) i acc = .ok (acc + c % 128 * 128 ^ i % 18446744073709551616) (i + 1) := by
  rw [rdn, if_neg (by omega), if_neg hc, if_pos ht]
theorem rdn_no (c : Int) (l : List Int) (i : Nat) (acc : Int) (h : i < 10) (hc : ¬ 128 ≤ c) (ht : ¬ ((i = 0 ∨ 0 < c) ∧ (i < 9 ∨ c = 1))) : rdn (c :: l) i acc = .no 121 := by
  rw [rdn, if_neg (by omega), if_neg hc, if_neg ht]
theorem rdn_ten (l : List Int) (acc : Int) : rdn l 10 acc = .no 121 := by cases l <;> simp [rdn]
theorem rdn_end (i : Nat) (acc : Int) (h : i < 10) : rdn [] i acc = .no 120 := by simp [rdn, h]

/-- A panic of need. -/
def pan (c : Int) : Ending := .panicked [{ v := .iface 31 (.int .i64 c), recovered := false }]

/-- What a method of the reader leaves: a value that V says reads as x, the reader moved on; or the panic. -/
def RdPost {α : Type} (w0 w : World) (R : Nat) (v : Value) (k : Nat) (r : Rd α) (V : Nat → World → Value → α → Prop) (e : Ending) (w' : World) : Prop :=
  Below w0.heap.size w0 w' ∧ Only R w w' ∧
  match r with
  | .ok x used => (∃ u, e = .returned u ∧ V w.heap.size w' u x) ∧ RdAt w' R v (k + used : Nat)
  | .no c => e = pan c ∧ ∃ k', RdAt w' R v k'
def VNum (_ : Nat) (_ : World) (u : Value) (x : Int) : Prop := u = .int .u64 x

set_option maxHeartbeats 2000000 in
theorem rnumber (w0 w : World) (R : Nat) (v : Value) (l : List Int) (k : Nat) (hl : Byt l) (hv : Ints w0 .u8 v l) (hB : Below w0.heap.size w0 w) (hR : w0.heap.size ≤ R) (hr : RdAt w R v k) (hk : k ≤ l.length) :
    Calls Try.prog 38 #[.pointer (some ⟨R, 0, none⟩)] w (RdPost w0 w R v k (rdn (l.drop k) 0 0) VNum) := by
  obtain ⟨a, cap, rfl, hcap, hmax, _⟩ := hv.open_
  go_enter Try.func38, Try.ntmps38
  go_wp2_with fail
  go_step3
  go_wp2_with fail
  go_step3
  go_wp2_with fail
  go_loopw [3, 4, 5] (fun n i _ wr => ∃ (j p : Nat) (acc : Int), p = k + j ∧ j ≤ 10 ∧ p ≤ l.length ∧ i = .int .i64 j ∧ n = .int .u64 acc ∧ 0 ≤ acc ∧ acc < 128 ^ j ∧ acc < 18446744073709551616 ∧ rdn (l.drop k) 0 0 = rdn (l.drop p) j acc ∧
      Below w0.heap.size w0 wr ∧ Only R w wr ∧ RdAt wr R (.slice a l.length cap) p) (fun _ i _ _ => 11 - (intOf i).toNat)
  case atStart => exact ⟨0, k, 0, rfl, by omega, hk, rfl, rfl, by omega, by omega, by omega, rfl, hB, Only.refl _ _, hr⟩
  case round =>
    obtain ⟨j, p, acc, hp, hj, hpl, rfl, rfl, h0, h1, h1', heq, hB', hO, hr'⟩ := hrel
    have Heq := Lib.hid heq
    have Hp := Lib.hid hp
    have H1 := Lib.hid h1
    clear heq hp h1
    by_cases hj10 : j < 10
    · have hd : decide ((j : Int) < 10) = true := by simp; omega
      by_cases hlt : p < l.length
      · have hvr := hv.below hB' (Nat.le_refl _)
        obtain ⟨_, _, e1, _, _, hc⟩ := hvr.open_
        simp only [Value.slice.injEq] at e1
        obtain ⟨rfl, _, rfl⟩ := e1
        obtain ⟨b, o, rfl, hcell⟩ := hc p hlt
        have hck := hcell p hlt
        have hcb := hl.get hlt
        generalize hce : l[p] = c at hck hcb
        have Hce := Lib.hid hce
        have c0 := hr'.cell0
        have c1 := hr'.cell1
        have f1 := hr'.frozen 1
        have hd2 : decide ((p : Int) < (l.length : Int)) = true := by simp; omega
        have hdrop : l.drop p = c :: l.drop (p + 1) := by rw [← Hce.out]; exact List.drop_eq_getElem_cons hlt
        have Hdrop := Lib.hid hdrop
        clear hcell hc hvr hce hdrop
        by_cases hbig : 128 ≤ c
        · have hd3 : decide (c < 128) = false := by simp; omega
          go_wp2_with (go_at_call 44; refine (need_ok _ _).mono ?_; rintro e w' ⟨rfl, rfl⟩)
          go_quiet ((go_at_call 44; exact Calls.quiet_of_same (need_okq _ _)))
          go_wp2_with fail
          go_quiet (fail)
          go_wp2_with fail
          have hsl := shift_lt acc c j h0 H1.out (by omega) hcb.1
          have hos := or_shift acc c j h0 H1.out h1' (by omega) hcb.1 hcb.2
          have hpp := Hp.out
          refine ⟨⟨j + 1, p + 1, _, by omega, by omega, by omega, by go_num, int_congr hos, hsl.2.2, hsl.1, hsl.2.1, ?_,
            (Only.below ((Only.drewN R wr _).trans (Only.set R 1 _ _)) hB' hB'.size hR), hO.trans ((Only.drewN R wr _).trans (Only.set R 1 _ _)), by exact hr'.set (p + 1)⟩, by simp [intOf]; omega⟩
          rw [Heq.out, Hdrop.out, rdn_more _ _ _ _ (by omega) hbig]
        · have hd3 : decide (c < 128) = true := by simp; omega
          have hcases : j = 0 ∨ (j ≠ 0 ∧ 0 < c ∧ j < 9) ∨ (j ≠ 0 ∧ 0 < c ∧ ¬ j < 9 ∧ c = 1) ∨ (j ≠ 0 ∧ 0 < c ∧ ¬ j < 9 ∧ c ≠ 1) ∨ (j ≠ 0 ∧ ¬ 0 < c) := by omega
          rcases hcases with h | ⟨ha, hb, hc⟩ | ⟨ha, hb, hc, he⟩ | ⟨ha, hb, hc, he⟩ | ⟨ha, hb⟩
          · have t1 : ((j : Int) == 0) = true := by simp; omega
            have t2 : decide ((j : Int) < 9) = true := by simp; omega
            have Htst := Lib.hid (show (j = 0 ∨ 0 < c) ∧ (j < 9 ∨ c = 1) by omega)
            clear h
            go_wp2_with (go_at_call 44; refine (need_ok _ _).mono ?_; rintro e w' ⟨rfl, rfl⟩)
            go_quiet ((go_at_call 44; exact Calls.quiet_of_same (need_okq _ _)))
            go_wp2_with fail
            go_quiet (fail)
            go_wp2_with fail
            refine (need_ok _ _).mono ?_
            rintro e w' ⟨rfl, rfl⟩
            go_wp2
            rw [Exit.noGoto_ret]
            go_ret
            refine ⟨(Only.below ((Only.drewN R wr _).trans (Only.set R 1 _ _)) hB' hB'.size hR), hO.trans ((Only.drewN R wr _).trans (Only.set R 1 _ _)), ?_⟩
            rw [Heq.out, Hdrop.out, rdn_yes _ _ _ _ (by omega) (by omega) Htst.out]
            exact ⟨⟨_, rfl, int_congr (or_shift acc c j h0 H1.out h1' (by omega) hcb.1 hcb.2)⟩, by have := hr'.set (p + 1); have hpp := Hp.out; rw [show ((k + (j + 1) : Nat) : Int) = (p : Int) + 1 from by omega]; exact this⟩
          · have t1 : ((j : Int) == 0) = false := by simp; omega
            have t2 : decide ((j : Int) < 9) = true := by simp; omega
            have t3 : decide (0 < c) = true := by simp; omega
            have Htst := Lib.hid (show (j = 0 ∨ 0 < c) ∧ (j < 9 ∨ c = 1) by omega)
            clear ha
            go_wp2_with (go_at_call 44; refine (need_ok _ _).mono ?_; rintro e w' ⟨rfl, rfl⟩)
            go_quiet ((go_at_call 44; exact Calls.quiet_of_same (need_okq _ _)))
            go_wp2_with fail
            go_quiet (fail)
            go_wp2_with fail
            refine (need_ok _ _).mono ?_
            rintro e w' ⟨rfl, rfl⟩
            go_wp2
            rw [Exit.noGoto_ret]
            go_ret
            refine ⟨(Only.below ((Only.drewN R wr _).trans (Only.set R 1 _ _)) hB' hB'.size hR), hO.trans ((Only.drewN R wr _).trans (Only.set R 1 _ _)), ?_⟩
            rw [Heq.out, Hdrop.out, rdn_yes _ _ _ _ (by omega) (by omega) Htst.out]
            exact ⟨⟨_, rfl, int_congr (or_shift acc c j h0 H1.out h1' (by omega) hcb.1 hcb.2)⟩, by have := hr'.set (p + 1); have hpp := Hp.out; rw [show ((k + (j + 1) : Nat) : Int) = (p : Int) + 1 from by omega]; exact this⟩
          · have t1 : ((j : Int) == 0) = false := by simp; omega
            have t2 : decide ((j : Int) < 9) = false := by simp; omega
            have t3 : decide (0 < c) = true := by simp; omega
            have t4 : (c == 1) = true := by simp; omega
            have Htst := Lib.hid (show (j = 0 ∨ 0 < c) ∧ (j < 9 ∨ c = 1) by omega)
            clear ha he
            go_wp2_with (go_at_call 44; refine (need_ok _ _).mono ?_; rintro e w' ⟨rfl, rfl⟩)
            go_quiet ((go_at_call 44; exact Calls.quiet_of_same (need_okq _ _)))
            go_wp2_with fail
            go_quiet (fail)
            go_wp2_with fail
            refine (need_ok _ _).mono ?_
            rintro e w' ⟨rfl, rfl⟩
            go_wp2
            rw [Exit.noGoto_ret]
            go_ret
            refine ⟨(Only.below ((Only.drewN R wr _).trans (Only.set R 1 _ _)) hB' hB'.size hR), hO.trans ((Only.drewN R wr _).trans (Only.set R 1 _ _)), ?_⟩
            rw [Heq.out, Hdrop.out, rdn_yes _ _ _ _ (by omega) (by omega) Htst.out]
            exact ⟨⟨_, rfl, int_congr (or_shift acc c j h0 H1.out h1' (by omega) hcb.1 hcb.2)⟩, by have := hr'.set (p + 1); have hpp := Hp.out; rw [show ((k + (j + 1) : Nat) : Int) = (p : Int) + 1 from by omega]; exact this⟩
          · have t1 : ((j : Int) == 0) = false := by simp; omega
            have t2 : decide ((j : Int) < 9) = false := by simp; omega
            have t3 : decide (0 < c) = true := by simp; omega
            have t4 : (c == 1) = false := by simp; omega
            have Htst := Lib.hid (show ¬ ((j = 0 ∨ 0 < c) ∧ (j < 9 ∨ c = 1)) by omega)
            clear ha he
            go_wp2_with (go_at_call 44; refine (need_ok _ _).mono ?_; rintro e w' ⟨rfl, rfl⟩)
            go_quiet ((go_at_call 44; exact Calls.quiet_of_same (need_okq _ _)))
            go_wp2_with fail
            go_quiet (fail)
            go_wp2_with fail
            refine (need_no _ _).mono ?_
            rintro e w' ⟨rfl, rfl⟩
            go_wp2
            refine ⟨rfl, (Only.below ((Only.drewN R wr _).trans (Only.set R 1 _ _)) hB' hB'.size hR), hO.trans ((Only.drewN R wr _).trans (Only.set R 1 _ _)), ?_⟩
            rw [Heq.out, Hdrop.out, rdn_no _ _ _ _ (by omega) (by omega) Htst.out]
            exact ⟨rfl, _, hr'.set (p + 1)⟩
          · have t1 : ((j : Int) == 0) = false := by simp; omega
            have t3 : decide (0 < c) = false := by simp; omega
            have Htst := Lib.hid (show ¬ ((j = 0 ∨ 0 < c) ∧ (j < 9 ∨ c = 1)) by omega)
            clear ha
            go_wp2_with (go_at_call 44; refine (need_ok _ _).mono ?_; rintro e w' ⟨rfl, rfl⟩)
            go_quiet ((go_at_call 44; exact Calls.quiet_of_same (need_okq _ _)))
            go_wp2_with fail
            go_quiet (fail)
            go_wp2_with fail
            refine (need_no _ _).mono ?_
            rintro e w' ⟨rfl, rfl⟩
            go_wp2
            refine ⟨rfl, (Only.below ((Only.drewN R wr _).trans (Only.set R 1 _ _)) hB' hB'.size hR), hO.trans ((Only.drewN R wr _).trans (Only.set R 1 _ _)), ?_⟩
            rw [Heq.out, Hdrop.out, rdn_no _ _ _ _ (by omega) (by omega) Htst.out]
            exact ⟨rfl, _, hr'.set (p + 1)⟩
      · have c0 := hr'.cell0
        have c1 := hr'.cell1
        have hd2 : decide ((p : Int) < (l.length : Int)) = false := by simp; omega
        go_wp2_with (go_at_call 44; refine (need_ok _ _).mono ?_; rintro e w' ⟨rfl, rfl⟩)
        go_still_tail 10, (by kernel_rfl)
        change wpList _ _ _ _ _ wr.drew
        go_wp2_with fail
        refine (need_no _ _).mono ?_
        rintro e w' ⟨rfl, rfl⟩
        go_wp2
        refine ⟨rfl, Only.below (Only.drewN R wr 1) hB' hB'.size hR, hO.trans (Only.drewN R wr 1), ?_⟩
        rw [Heq.out, List.drop_eq_nil_of_le (by omega), rdn_end _ _ hj10]
        exact ⟨rfl, _, hr'⟩
    · have hd : decide ((j : Int) < 10) = false := by simp; omega
      go_wp2_with fail
      refine (need_no _ _).mono ?_
      rintro e w' ⟨rfl, rfl⟩
      go_wp2
      refine ⟨rfl, hB', hO, ?_⟩
      have hj' : j = 10 := by omega
      rw [Heq.out, hj', rdn_ten]
      exact ⟨rfl, _, hr'⟩
end Go.Proofs.Ytdjkfjaffhboeaa
