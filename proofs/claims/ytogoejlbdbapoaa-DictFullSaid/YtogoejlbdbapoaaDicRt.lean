/- Reading numbers and texts. -/
import Derived.Test.YtogoejlbdbapoaaDicRn
import Derived.Test.YtogoejlbdbapoaaCodX
namespace Go.Proofs.Ytogoejlbdbapoaa
set_option maxRecDepth 100000
set_option maxHeartbeats 2000000
set_option linter.unusedSimpArgs false
open Go.RowKit
set_option linter.unusedVariables false

theorem readNumber_any (v : Value) (l : List Int) (k : Int) (w : World) (hl : Byt l) (hv : Ints w .u8 v l) (hlen : l.length ≤ 10000000) :
    Calls Try.prog 70 #[v, .int .i64 k] w (ReadPost w k (rdAt k l rdNum) VNum (.int .u64 0)) := by
  generalize hrr : rdAt k l rdNum = r
  have Hrr := Lib.hid hrr
  clear hrr
  go_enter Try.func70, Try.ntmps70
  go_wp2_with fail
  refine (uread_any _ l k _ hl hv).mono ?_
  rintro e w' ⟨hx, hm⟩
  rw [Hrr.out] at hm
  cases r with
  | ok x used =>
    obtain ⟨u, rfl, hu⟩ := hm
    go_wp2
    go_ret3
    exact ⟨hx, u, rfl, hu⟩
  | no c =>
    obtain rfl := hm
    go_wp2
    go_ret3
    exact ⟨hx, rfl⟩
theorem readNumber_yes (v : Value) (l : List Int) (k : Int) (w : World) (hl : Byt l) (hv : Ints w .u8 v l) (hlen : l.length ≤ 10000000) {x : Int} {used : Nat} (h : rdAt k l rdNum = .ok x used) :
    Calls Try.prog 70 #[v, .int .i64 k] w fun e w' => ∃ u, e = .returned (.tuple #[u, .int .i64 (k + used), .int .i64 0]) ∧ VNum w.heap.size w' u x ∧ Ext w w' :=
  (readNumber_any v l k w hl hv hlen).mono fun e w' ⟨hx, hm⟩ => by rw [h] at hm; obtain ⟨u, he, hu⟩ := hm; exact ⟨u, he, hu, hx⟩
theorem readNumber_no (v : Value) (l : List Int) (k : Int) (w : World) (hl : Byt l) (hv : Ints w .u8 v l) (hlen : l.length ≤ 10000000) {c : Int} (h : rdAt k l rdNum = .no c) :
    Calls Try.prog 70 #[v, .int .i64 k] w fun e w' => e = .returned (.tuple #[.int .u64 0, .int .i64 0, .int .i64 c]) ∧ Ext w w' :=
  (readNumber_any v l k w hl hv hlen).mono fun e w' ⟨hx, hm⟩ => by rw [h] at hm; exact ⟨hm, hx⟩
theorem readText_any (v : Value) (l : List Int) (k : Int) (w : World) (hl : Byt l) (hv : Ints w .u8 v l) (hlen : l.length ≤ 10000000) :
    Calls Try.prog 71 #[v, .int .i64 k] w (ReadPost w k (rdAt k l rdText) VText (.string ⟨#[]⟩)) := by
  generalize hrr : rdAt k l rdText = r
  have Hrr := Lib.hid hrr
  clear hrr
  go_enter Try.func71, Try.ntmps71
  go_wp2_with fail
  refine (sread_any _ l k _ hl hv hlen).mono ?_
  rintro e w' ⟨hx, hm⟩
  rw [Hrr.out] at hm
  cases r with
  | ok x used =>
    obtain ⟨u, rfl, hu⟩ := hm
    go_wp2
    go_ret3
    exact ⟨hx, u, rfl, hu⟩
  | no c =>
    obtain rfl := hm
    go_wp2
    go_ret3
    exact ⟨hx, rfl⟩
theorem readText_yes (v : Value) (l : List Int) (k : Int) (w : World) (hl : Byt l) (hv : Ints w .u8 v l) (hlen : l.length ≤ 10000000) {x : List Int} {used : Nat} (h : rdAt k l rdText = .ok x used) :
    Calls Try.prog 71 #[v, .int .i64 k] w fun e w' => ∃ u, e = .returned (.tuple #[u, .int .i64 (k + used), .int .i64 0]) ∧ VText w.heap.size w' u x ∧ Ext w w' :=
  (readText_any v l k w hl hv hlen).mono fun e w' ⟨hx, hm⟩ => by rw [h] at hm; obtain ⟨u, he, hu⟩ := hm; exact ⟨u, he, hu, hx⟩
theorem readText_no (v : Value) (l : List Int) (k : Int) (w : World) (hl : Byt l) (hv : Ints w .u8 v l) (hlen : l.length ≤ 10000000) {c : Int} (h : rdAt k l rdText = .no c) :
    Calls Try.prog 71 #[v, .int .i64 k] w fun e w' => e = .returned (.tuple #[.string ⟨#[]⟩, .int .i64 0, .int .i64 c]) ∧ Ext w w' :=
  (readText_any v l k w hl hv hlen).mono fun e w' ⟨hx, hm⟩ => by rw [h] at hm; exact ⟨hm, hx⟩
theorem Ints.between {w : World} {kd : IntKind} {a : Option Addr} {len cap : Nat} {l : List Int} (h : Ints w kd (.slice a len cap) l) (k m : Nat) (hk : k ≤ m) (hm : m ≤ l.length) :
    Ints w kd (.slice (if cap = k then a else a.map (fun x => x.add k)) (m - k) (cap - k)) ((l.drop k).take (m - k)) := by
  have h' := h
  obtain ⟨a', cap', e, h1, h2, h3⟩ := h'
  simp only [Value.slice.injEq] at e
  obtain ⟨rfl, rfl, rfl⟩ := e
  rcases Nat.eq_zero_or_pos (m - k) with h0 | h0
  · rw [h0, List.take_zero]
    exact ints_zero _ _ _ (by omega)
  · rw [if_neg (by omega)]
    exact h.sub k (m - k) (cap - k) h0 (by omega) (by omega) (by omega)

/-- A cut of a slice, its address not looked into. -/
def cutV (a : Option Addr) (cap l h : Nat) : Value := .slice (if cap = l then a else a.map (fun x => x.add l)) (h - l) (cap - l)
theorem run_cutB (a : Option Addr) (len cap l h : Nat) (i j : Int) (hi : i = l) (hj : j = h) (h1 : l ≤ h) (h2 : h ≤ cap) (w : World) :
    (Instr.slice 51 (.slice a len cap) (some (.int .i64 i)) (some (.int .i64 j)) none).run Try.prog w = .ok (cutV a cap l h) w := by
  subst hi hj
  rw [run_slice_lh w 51 a len cap (by kernel_rfl) .i64 .i64 (l : Int) (h : Int) (by omega) (by omega) (by omega)]
  obtain ⟨i, hi, hz, hsz, hby⟩ := elB.info
  have he : Try.prog.elem 51 = 5 := by kernel_rfl
  rw [he]
  simp [sizeOf, typeInfo, hi, hsz, sliced, cutV]

theorem rdn_no0 (l : List Int) (i : Nat) (acc c : Int) (h : rdn l i acc = .no c) : c ≠ 0 := by
  induction l generalizing i acc with
  | nil => unfold rdn at h; split at h <;> cases h <;> decide
  | cons x l ih =>
    unfold rdn at h
    split at h
    · cases h; decide
    · split at h
      · exact ih _ _ h
      · split at h
        · cases h
        · cases h; decide
def RTPost (k : Int) (r : Rd (List Int)) (w : World) (e : Ending) (w' : World) : Prop := w = w' ∧
  match r with
  | .ok x used => ∃ s, sb s = x ∧ e = .returned (.tuple #[.string s, .int .i64 (k + used), .int .i64 0])
  | .no c => e = .returned (.tuple #[.string ⟨#[]⟩, .int .i64 0, .int .i64 c])
set_option maxHeartbeats 2000000 in
theorem refReadText_any (v : Value) (l : List Int) (k : Nat) (w : World) (hl : Byt l) (hv : Ints w .u8 v l) (hk : k ≤ l.length) (hn : l.length ≤ 10000000) :
    Calls Try.prog 57 #[v, .int .i64 k] w (RTPost k (rdText (l.drop k)) w) := by
  have hr := refReadNumber_any v l k w hl hv hk hn
  have hbd := hl.drop k
  have hdl : (l.drop k).length = l.length - k := List.length_drop
  obtain ⟨a, cap, rfl, hcap, hmax, _⟩ := hv.open_
  obtain ⟨res, hres⟩ : ∃ r, rdText (l.drop k) = r := ⟨_, rfl⟩
  rw [hres]
  unfold rdText at hres
  cases hnum : rdNum (l.drop k) with
  | no c =>
    rw [hnum] at hres hr
    subst hres
    have hc := rdn_no0 _ _ _ _ hnum
    have HR := Lib.hid hr
    clear hr hnum
    go_enter Try.func57, Try.ntmps57
    go_wp2_with fail
    refine HR.out.mono ?_
    rintro e w2 ⟨rfl, rfl⟩
    go_wp2_with fail
    go_ret3
    exact ⟨rfl, rfl⟩
  | ok n used =>
    rw [hnum] at hres hr
    have hb := rdNum_ok hbd hnum
    obtain ⟨hb1, hb2, hb3, hb4⟩ := hb
    have HR := Lib.hid hr
    have Hv := Lib.hid hv
    have Hl := Lib.hid hl
    obtain ⟨q, hq⟩ : ∃ q : Nat, k + used = q := ⟨_, rfl⟩
    have HQ : Hid ((k : Int) + (used : Int) = (q : Int)) := Lib.hid (by omega)
    have hql : q ≤ l.length := by omega
    dsimp only at hres
    clear hr hnum hv hl
    by_cases h1 : n ≤ 4000
    · rw [if_pos h1] at hres
      obtain ⟨m, rfl⟩ := Int.eq_ofNat_of_zero_le hb3
      by_cases h2 : (m : Int) ≤ ((l.drop k).length : Int) - used
      · rw [if_pos h2] at hres
        have hqm : q + m ≤ l.length := by omega
        have hsl := run_cutB a l.length cap q (q + m) (q : Int) ((q : Int) + (m : Int)) rfl (by omega) (by omega) (by omega)
        have hv2 := Hv.out.between q (q + m) (by omega) (by omega)
        have hcv := run_conv_str hv2
        have hdt : ((l.drop k).drop used).take ((m : Int)).toNat = (l.drop q).take m := by rw [List.drop_drop, hq]; rfl
        rw [Nat.add_sub_cancel_left] at hcv hv2
        have hbt : Byt ((l.drop q).take m) := (Hl.out.drop q).take m
        have hss : sb (strOfNums ((l.drop q).take m)) = ((l.drop k).drop used).take ((m : Int)).toNat := by rw [hdt]; exact sb_str hbt
        have HSS := Lib.hid hss
        generalize strOfNums ((l.drop q).take m) = S at *
        have HP : Hid (RTPost k res w (.returned (.tuple #[.string S, .int .i64 ((q : Int) + (m : Int)), .int .i64 0])) w) := Lib.hid (by
          rw [← hres]
          refine ⟨rfl, S, HSS.out, ?_⟩
          rw [show (k : Int) + ((used + (m : Int).toNat : Nat) : Int) = (q : Int) + (m : Int) from by have := HQ.out; simp; omega])
        have hd1 : decide ((4000 : Int) < (m : Int)) = false := decide_eq_false (by omega)
        have hwm : IntKind.i64.wrap (m : Int) = (m : Int) := IntWalk.i64_in _ (by omega)
        have hd2 : decide ((l.length : Int) - (q : Int) < (m : Int)) = false := decide_eq_false (by omega)
        have hcut : cutV a cap q (q + m) = .slice (if cap = q then a else a.map (fun x => x.add q)) m (cap - q) := by unfold cutV; rw [Nat.add_sub_cancel_left]
        rw [hcut] at hsl
        generalize (if cap = q then a else a.map (fun x => x.add q)) = a2 at *
        clear hv2 hss hdt h2 hcut hbd hb1 hb2 hb3 hb4 hbt hres
        go_enter Try.func57, Try.ntmps57
        go_wp2_with fail
        refine HR.out.mono ?_
        rintro e w2 ⟨rfl, rfl⟩
        rw [HQ.out]
        go_wp2_with fail
        go_ret3
        exact HP.out
      · rw [if_neg h2] at hres
        subst hres
        have hd1 : decide ((4000 : Int) < (m : Int)) = false := decide_eq_false (by omega)
        have hwm : IntKind.i64.wrap (m : Int) = (m : Int) := IntWalk.i64_in _ (by omega)
        have hd2 : decide ((l.length : Int) - (q : Int) < (m : Int)) = true := decide_eq_true (by omega)
        clear hbd h2 hb1 hb2 hb3 hb4
        go_enter Try.func57, Try.ntmps57
        go_wp2_with fail
        refine HR.out.mono ?_
        rintro e w2 ⟨rfl, rfl⟩
        rw [HQ.out]
        go_wp2_with fail
        go_ret3
        exact ⟨rfl, rfl⟩
    · rw [if_neg h1] at hres
      subst hres
      have hd1 : decide ((4000 : Int) < n) = true := decide_eq_true (by omega)
      clear hbd hb2 hb3 hb4
      go_enter Try.func57, Try.ntmps57
      go_wp2_with fail
      refine HR.out.mono ?_
      rintro e w2 ⟨rfl, rfl⟩
      rw [HQ.out]
      go_wp2_with fail
      go_ret3
      exact ⟨rfl, rfl⟩
end Go.Proofs.Ytogoejlbdbapoaa
