/- The reader: some, text; sums as bytes; Grow and Concat. -/
import Derived.Test.YtdjkfjaffhboeaaCodecG
import Derived.Laws.BytesArg
import Derived.Laws.CopyOwn
namespace Go.Proofs.Ytdjkfjaffhboeaa
open Go.RowKit

/-- append of so many zeros onto nil. -/
theorem run_append_zeros {P : Program} (w : World) {t ti ty e : TypeId} {z : Value} {size bytes : Nat} (T : ElT P t e z size bytes) (hti : P.underlying ti = some (.int .i64)) (n : Nat) (h0 : 0 < n) (hb : n * bytes ≤ 140737488355328) (h63 : n ≤ 1099511627776) :
    (Builtin.append_ #[t, ti] ty #[.slice none 0 0, .int .i64 n]).run P w =
      .ok (.slice (some ⟨w.heap.size, 0, none⟩) n (grownCap w n 0 e)) (w.drew.alloc (.cells (Builtin.zeroCells z.cells n ++ Builtin.zeroCells z.cells (grownCap w n 0 e - n)) e)) := by
  obtain ⟨i, hi, hz, hsz, hby⟩ := T.info
  have hn : n ≠ 0 := by omega
  have h63' : ¬ (9223372036854775807 < (n : Int)) := by omega
  have hw : IntKind.i64.wrap (n : Int) = n := by rw [IntKind.wrap_i64]; omega
  have hneg : ¬ ((n : Int) < 0) := by omega
  have hp := T.pos
  have h48 : ¬ (281474976710656 < (n : Int) * (bytes : Int)) := by
    have : ((n * bytes : Nat) : Int) ≤ 140737488355328 := by omega
    rw [Int.natCast_mul] at this; omega
  have h48' : ¬ (281474976710656 < Builtin.nextslicecap n 0 * bytes) := by rw [nextslicecap_zero h0]; omega
  have hns : n * size ≠ 0 := by have := Nat.mul_pos h0 hp; omega
  subst hsz hby
  simp [Builtin.append_, run_underlying T.under, run_underlying hti, sizeOf, typeInfo, zeroValue, hi, hz, asInt, asIntOf, hw, hneg, h48, hn, h63', h48', hns, Question.forced, run_firstCells_none, newRow, grownCap]

theorem Ints.sub {w : World} {kd : IntKind} {a : Option Addr} {len cap : Nat} {l : List Int} (h : Ints w kd (.slice a len cap) l) (k n c : Nat) (hn : 0 < n) (hk : k + n ≤ l.length) (hc : n ≤ c) (hm : c ≤ maxLen) :
    Ints w kd (.slice (a.map (fun x => x.add k)) n c) ((l.drop k).take n) := by
  obtain ⟨a', cap', e, h1, h2, h3⟩ := h
  simp only [Value.slice.injEq] at e
  obtain ⟨rfl, rfl, rfl⟩ := e
  have hlen : ((l.drop k).take n).length = n := by simp; omega
  obtain ⟨b, o, rfl, hcell⟩ := h3 (by simp; omega)
  refine ⟨_, c, by rw [hlen], by rw [hlen]; exact hc, hm, fun _ => ⟨b, o + k, by simp [addr_add], fun i u hu => ?_⟩⟩
  rw [List.getElem?_map, List.getElem?_take] at hu
  split at hu
  · rw [List.getElem?_drop] at hu
    rw [Nat.add_assoc]
    exact hcell (k + i) u (by rw [List.getElem?_map]; exact hu)
  · simp at hu
theorem ints_zero {w : World} (kd : IntKind) (a : Option Addr) (c : Nat) (h : c ≤ maxLen) : Ints w kd (.slice a 0 c) [] := ⟨a, c, rfl, Nat.zero_le _, h, fun h => by simp at h⟩

set_option maxHeartbeats 1000000 in
theorem rsome (w0 w : World) (R : Nat) (v : Value) (l : List Int) (k n : Nat) (hv : Ints w0 .u8 v l) (hB : Below w0.heap.size w0 w) (hR : w0.heap.size ≤ R) (hr : RdAt w R v k) (hk : k ≤ l.length) (hn : n ≤ 1099511627776) :
    Calls Try.prog 45 #[.pointer (some ⟨R, 0, none⟩), .int .i64 n] w (RdPost w0 w R v k (if n ≤ l.length - k then .ok ((l.drop k).take n) n else .no 120) (fun _ _ u x => Ints w0 .u8 u x)) := by
  obtain ⟨a, cap, rfl, hcap, hmax, _⟩ := hv.open_
  have c0 := hr.cell0
  have c1 := hr.cell1
  have f1 := hr.frozen 1
  by_cases hnk : n ≤ l.length - k
  · have hd : decide ((n : Int) ≤ (l.length : Int) - (k : Int)) = true := by simp; omega
    rw [if_pos hnk]
    go_enter Try.func45, Try.ntmps45
    go_wp2_with fail
    go_quiet ((go_at_call 44; exact Calls.quiet_of_same (need_okq _ _)))
    go_wp2_with fail
    go_quiet (fail)
    go_wp2_with fail
    all_goals go_ret
    · have hn0 : n = 0 := by first | assumption | omega
      refine ⟨Only.below ((Only.drewN R w _).trans (Only.set R 1 _ _)) hB hB.size hR, (Only.drewN R w _).trans (Only.set R 1 _ _), ⟨_, rfl, ?_⟩, hr.set _⟩
      rw [hn0]; simp only [List.take_zero]
      exact ints_zero _ _ _ (by unfold maxLen; omega)
    · have hn0 : ¬ n = 0 := by first | assumption | omega
      refine ⟨Only.below ((Only.drewN R w _).trans (Only.set R 1 _ _)) hB hB.size hR, (Only.drewN R w _).trans (Only.set R 1 _ _), ⟨_, rfl, ?_⟩, hr.set _⟩
      exact hv.sub k n n (by omega) (by omega) (Nat.le_refl _) (by unfold maxLen; omega)
  · have hd : decide ((n : Int) ≤ (l.length : Int) - (k : Int)) = false := by simp; omega
    rw [if_neg hnk]
    go_enter Try.func45, Try.ntmps45
    go_wp2_with fail
    go_still_tail 12, (by kernel_rfl)
    change wpList _ _ _ _ _ w.drew
    go_wp2_with fail
    rw [hd]
    refine (need_no _ _).mono ?_
    rintro e w' ⟨rfl, rfl⟩
    go_wp2
    exact ⟨rfl, Only.below (Only.drewN R w 1) hB hB.size hR, Only.drewN R w 1, rfl, _, hr⟩

/-- Bytes turned into a text. -/
theorem run_conv_str {w : World} {v : Value} {l : List Int} (hv : Ints w .u8 v l) : (convert 24 9 v).run Try.prog w = .ok (.string (strOfNums l)) w := by
  obtain ⟨a, cap, rfl, h1, h2, h3⟩ := hv
  cases l with
  | nil =>
    cases a with
    | none => exact run_convert_bytes_nil w _ 5 Try.underlying24 Try.underlying5 _ _ _ Try.underlying9
    | some ad =>
      obtain ⟨b, o, sp⟩ := ad
      rw [run_convert_bytes_string w _ _ 5 _ _ _ Try.underlying24 Try.underlying5 Try.underlying9]
      show Sem.run Try.prog (Conv.bytesToString (.slice (some ⟨b, o, sp⟩) 0 cap)) w = _
      rw [run_bytesToString w ⟨b, o, sp⟩ 0 cap [] (by simp [loadCells, loadCellsFrom])]
      rfl
  | cons c l =>
    obtain ⟨b, o, rfl, hc⟩ := h3 (by simp)
    refine run_convert_bytes_arg w _ 5 Try.underlying24 Try.underlying5 b o _ cap (c :: l) rfl (fun i hi => ?_) _ Try.underlying9
    refine hc i _ ?_
    rw [List.getElem?_map, List.getElem?_eq_getElem hi]
    simp [List.getD, List.getElem?_eq_getElem hi]
theorem sb_str {l : List Int} (h : Byt l) : sb (strOfNums l) = l := by
  unfold sb
  rw [strOfNums_data, List.map_map]
  conv => rhs; rw [← List.map_id l]
  refine List.map_congr_left fun c hc => ?_
  have := h c hc
  simp
  omega

def VText (_ : Nat) (_ : World) (u : Value) (x : List Int) : Prop := ∃ s, u = .string s ∧ sb s = x
theorem vtext_ok : VOk VText := ⟨fun _ _ _ _ _ _ h => h, fun _ _ _ _ _ _ h _ _ => h⟩
def rdText (l : List Int) : Rd (List Int) :=
  match rdNum l with
  | .no e => .no e
  | .ok n used => if n ≤ 4000 then (if n ≤ (l.length : Int) - used then .ok ((l.drop used).take n.toNat) (used + n.toNat) else .no 120) else .no 3

set_option maxHeartbeats 1000000 in
theorem rtext (w0 w : World) (R : Nat) (v : Value) (l : List Int) (k : Nat) (hl : Byt l) (hv : Ints w0 .u8 v l) (hB : Below w0.heap.size w0 w) (hR : w0.heap.size ≤ R) (hr : RdAt w R v k) (hk : k ≤ l.length) (_hn : l.length ≤ 10000000) (_hRw : R < w.heap.size) :
    Calls Try.prog 41 #[.pointer (some ⟨R, 0, none⟩)] w (RdPost w0 w R v k (rdText (l.drop k)) VText) := by
  obtain ⟨a, cap, rfl, hcap, hmax, _⟩ := hv.open_
  generalize hrr : rdText (l.drop k) = r
  unfold rdText at hrr
  go_enter Try.func41, Try.ntmps41
  have Hrr := Lib.hid hrr
  clear hrr
  go_wp2_with fail
  refine (rnumberN w0 w R _ l k hl hv hB hR hr hk).mono ?_
  rintro e w1 ⟨hB1, hO1, hm⟩
  have hrr := Hrr.out
  generalize hnn : rdNum (l.drop k) = n1 at hm hrr
  cases n1 with
  | no c =>
    obtain ⟨rfl, hm⟩ := hm
    unfold pan
    go_wp2_with fail
    refine ⟨rfl, hB1, hO1, ?_⟩
    obtain rfl := hrr
    exact ⟨rfl, hm⟩
  | ok many used =>
    obtain ⟨⟨u, rfl, hu⟩, hr1⟩ := hm
    obtain rfl : u = .int .u64 many := hu
    have hok := rdNum_ok (hl.drop k) hnn
    rw [List.length_drop] at hok
    simp only [List.length_drop] at hrr
    obtain ⟨m, rfl⟩ := Int.eq_ofNat_of_zero_le hok.2.2.1
    rw [Int.toNat_natCast, List.drop_drop] at hrr
    have hmlt := hok.2.2.2
    have Hrr := Lib.hid hrr
    clear hrr hnn
    generalize hp : k + used = p at hr1
    have Hp := Lib.hid hp
    have hpl : p ≤ l.length := by omega
    clear hp hok
    by_cases hmany : m ≤ 4000
    · have hd : decide ((m : Int) ≤ 4000) = true := by simp; omega
      go_wp2_with fail
      refine (need_ok _ _).mono ?_
      rintro e w' ⟨rfl, rfl⟩
      go_wp2_with fail
      refine (rsome w0 w1 R _ l p m hv hB1 hR hr1 hpl (by omega)).mono ?_
      rintro e w2 ⟨hB2, hO2, hm2⟩
      by_cases hml : m ≤ l.length - p
      · rw [if_pos hml] at hm2
        obtain ⟨⟨u, rfl, hu⟩, hr2⟩ := hm2
        have hcv := run_conv_str (hu.below hB2 (Nat.le_refl _))
        have Hl := Lib.hid hr2
        go_wp2_with fail
        go_ret
        refine ⟨hB2, hO1.trans hO2, ?_⟩
        have hrr := Hrr.out
        have hpp := Hp.out
        rw [if_pos (by omega), if_pos (by omega), hpp] at hrr
        obtain rfl := hrr
        exact ⟨⟨_, rfl, _, rfl, sb_str ((hl.drop p).take m)⟩, by rw [show k + (used + m) = p + m from by omega]; exact hr2⟩
      · rw [if_neg hml] at hm2
        obtain ⟨rfl, hm2⟩ := hm2
        unfold pan
        go_wp2_with fail
        refine ⟨rfl, hB2, hO1.trans hO2, ?_⟩
        have hrr := Hrr.out
        have hpp := Hp.out
        rw [if_pos (by omega), if_neg (by omega)] at hrr
        obtain rfl := hrr
        exact ⟨rfl, hm2⟩
    · have hd : decide ((m : Int) ≤ 4000) = false := by simp; omega
      go_wp2_with fail
      refine (need_no _ _).mono ?_
      rintro e w' ⟨rfl, rfl⟩
      go_wp2
      refine ⟨rfl, hB1, hO1, ?_⟩
      have hrr := Hrr.out
      rw [if_neg (by omega)] at hrr
      obtain rfl := hrr
      exact ⟨rfl, _, hr1⟩

/-- The four bytes of a sum. -/
def fourB (n : Int) : List Int := [n % 256, n / 256 % 256, n / 65536 % 256, n / 16777216 % 256]
def fourC (n : Int) (k : Nat) : List Value := ((fourB n).take k ++ (([0, 0, 0, 0] : List Int).drop k)).map (Value.int .u8)

set_option maxHeartbeats 1000000 in
theorem four_any (n : Int) (w : World) (h0 : 0 ≤ n) (h1 : n < 4294967296) :
    Calls Try.prog 28 #[.int .u32 n] w fun e w' => ∃ u, e = .returned u ∧ Own w' w.heap.size 5 .u8 u (fourB n) ∧ Ext w w' := by
  have hmk : ∀ w : World, (Instr.makeSlice 24 (.int .i64 4) (.int .i64 4)).run Try.prog w = .ok (.slice (some ⟨w.heap.size, 0, none⟩) 4 4) (w.alloc (.cells #[.int .u8 0, .int .u8 0, .int .u8 0, .int .u8 0] 5)) := fun _ => by kernel_rfl
  go_enter Try.func28, Try.ntmps28
  go_wp2_with fail
  clear hmk
  go_loopw [4, 8] (fun _ i wr => ∃ k : Nat, k ≤ 4 ∧ i = .int .i64 k ∧ wr = w.alloc (.cells (fourC n k).toArray 5)) (fun _ i _ => 4 - (intOf i).toNat)
  case atStart => exact ⟨0, by omega, rfl, rfl⟩
  case round =>
    obtain ⟨k, hk, rfl, rfl⟩ := hrel
    have hc : k = 0 ∨ k = 1 ∨ k = 2 ∨ k = 3 ∨ k = 4 := by omega
    rcases hc with rfl | rfl | rfl | rfl | rfl
    · simp only [fourC, fourB]
      go_wp2_with fail
      refine ⟨⟨1, by omega, rfl, ?_⟩, by simp [intOf]⟩
      simp
    · simp only [fourC, fourB]
      go_wp2_with fail
      refine ⟨⟨2, by omega, rfl, ?_⟩, by simp [intOf]⟩
      simp
    · simp only [fourC, fourB]
      go_wp2_with fail
      refine ⟨⟨3, by omega, rfl, ?_⟩, by simp [intOf]⟩
      simp
    · simp only [fourC, fourB]
      go_wp2_with fail
      refine ⟨⟨4, by omega, rfl, ?_⟩, by simp [intOf]⟩
      have e4 : n / 16777216 % 256 = n / 16777216 := by omega
      simp [e4]
    · simp only [fourC, fourB]
      go_wp2_with fail
      go_ret
      refine ⟨_, rfl, ?_, Ext.alloc _ _⟩
      have := own_new w w.heap.size ((fourB n).map (Value.int .u8)).toArray 5 1 4 (Nat.le_refl _) (by simp [fourB]) (by decide)
      simpa [Own, fourB] using this
end Go.Proofs.Ytdjkfjaffhboeaa
