/- The reader: row. -/
import Derived.Test.YtdjkfjaffhboeaaCodecF
namespace Go.Proofs.Ytdjkfjaffhboeaa
open Go.RowKit

theorem own_shape {w : World} {B : Nat} {e : TypeId} {k : IntKind} {v : Value} {l : List Int} (h : Own w B e k v l) : ∃ a n c, v = .slice a n c := by
  rcases h.2 with ⟨rfl, _⟩ | ⟨g, cap, cur, rfl, _⟩
  · exact ⟨_, _, _, rfl⟩
  · exact ⟨_, _, _, rfl⟩
theorem own_only {w w' : World} {B row : Nat} {e : TypeId} {k : IntKind} {v : Value} {l : List Int} (h : Own w B e k v l) (ho : Only row w w') (hr : row < B) : Own w' B e k v l := by
  refine World.ownsRow.kept h ho ?_
  cases hv : v.ownBlock with
  | none => exact .inl rfl
  | some g => right; intro e; cases e; have := own_ge h _ hv; omega
theorem Only.then_below {R : Nat} {a b c : World} (h : Only R a b) (k : Below a.heap.size b c) : Only R a c :=
  ⟨k.os.trans h.os, k.tape.trans h.tape, k.output.trans h.output, Nat.le_trans h.size k.size, fun i hi hne => (k.block i hi).trans (h.block i hi hne)⟩
def VRow (B : Nat) (w : World) (u : Value) (x : List Int) : Prop := Own w B 22 .u64 u x
theorem vrow_ok : VOk VRow := ⟨fun _ _ _ _ _ hB h => own_base h hB, fun _ _ _ _ _ _ h ho hr => own_only h ho hr⟩

def rdRows : Nat → List Int → Nat → List Int → Rd (List Int)
  | 0, _, used, acc => .ok acc used
  | m + 1, l, used, acc => match rdNum l with
    | .no e => .no e
    | .ok x u => rdRows m (l.drop u) (used + u) (acc ++ [x])
theorem rdRows_succ (m : Nat) (l : List Int) (used : Nat) (acc : List Int) : rdRows (m + 1) l used acc = match rdNum l with
    | .no e => .no e
    | .ok x u => rdRows m (l.drop u) (used + u) (acc ++ [x]) := rfl
def rdRow (l : List Int) : Rd (List Int) :=
  match rdNum l with
  | .no e => .no e
  | .ok many used => if many ≤ (l.length : Int) - used then rdRows many.toNat (l.drop used) used [] else .no 120

set_option maxHeartbeats 1000000 in
theorem rrow (w0 w : World) (R : Nat) (v : Value) (l : List Int) (k : Nat) (hl : Byt l) (hv : Ints w0 .u8 v l) (hB : Below w0.heap.size w0 w) (hR : w0.heap.size ≤ R) (hr : RdAt w R v k) (hk : k ≤ l.length) (hn : l.length ≤ 10000000) (hRw : R < w.heap.size) :
    Calls Try.prog 35 #[.pointer (some ⟨R, 0, none⟩)] w (RdPost w0 w R v k (rdRow (l.drop k)) VRow) := by
  obtain ⟨a, cap, rfl, hcap, hmax, _⟩ := hv.open_
  generalize hrr : rdRow (l.drop k) = r
  unfold rdRow at hrr
  go_enter Try.func35, Try.ntmps35
  have Hrr := Lib.hid hrr
  clear hrr
  go_wp2_with fail
  refine (rnumberN w0 w R _ l k hl hv hB hR hr hk).mono ?_
  rintro e w1 ⟨hB1, hO1, hm⟩
  have hrr := Hrr.out
  generalize hnn : rdNum (l.drop k) = n1 at hm hrr
  cases n1 with
  | no c =>
    obtain ⟨rfl, hm⟩ := hm
    unfold pan
    go_wp2_with fail
    refine ⟨rfl, hB1, hO1, ?_⟩
    obtain rfl := hrr
    exact ⟨rfl, hm⟩
  | ok many used =>
    obtain ⟨⟨u, rfl, hu⟩, hr1⟩ := hm
    obtain rfl : u = .int .u64 many := hu
    have hok := rdNum_ok (hl.drop k) hnn
    rw [List.length_drop] at hok
    simp only [List.length_drop] at hrr
    obtain ⟨m, rfl⟩ := Int.eq_ofNat_of_zero_le hok.2.2.1
    have hmlt := hok.2.2.2
    have Hrr := Lib.hid hrr
    clear hrr hnn
    generalize hp : k + used = p at hr1
    have Hp := Lib.hid hp
    have hpl : p ≤ l.length := by omega
    clear hp hok
    have c0 := hr1.cell0
    have c1 := hr1.cell1
    by_cases hmany : m ≤ l.length - p
    · have hd : decide ((m : Int) ≤ (l.length : Int) - (p : Int)) = true := by simp; omega
      go_wp2_with fail
      go_quiet ((go_at_call 44; exact Calls.quiet_of_same (need_okq _ _)))
      go_wp2_with fail
      go_loopw [4, 22] (fun v i wr => ∃ (j us : Nat) (acc : List Int), i = .int .u64 j ∧ j ≤ m ∧ acc.length = j ∧ p + us ≤ l.length ∧ rdRows m (l.drop p) used [] = rdRows (m - j) (l.drop (p + us)) (used + us) acc ∧
        Own wr w.heap.size 22 .u64 v acc ∧ Below w0.heap.size w0 wr ∧ Only R w wr ∧ RdAt wr R (.slice a l.length cap) (p + us : Nat)) (fun _ i _ => m - (intOf i).toNat)
      case atStart => exact ⟨0, 0, [], rfl, by omega, rfl, by omega, rfl, World.ownsRow_nil _ _ _ _, Only.below (Only.drewN R w1 nq) hB1 hB1.size hR, hO1.trans (Only.drewN R w1 nq), hr1⟩
      case round =>
        obtain ⟨j, us, acc, rfl, hj, hacc, hus, heq, hown, hB2, hO2, hr2⟩ := hrel
        have Heq := Lib.hid heq
        have Hacc := Lib.hid hacc
        clear heq hacc
        by_cases hjm : j < m
        · obtain ⟨t, ht⟩ : ∃ t, m - j = t + 1 := ⟨m - j - 1, by omega⟩
          have heq := Heq.out
          rw [ht, rdRows_succ] at heq
          generalize hnn : rdNum (l.drop (p + us)) = n1 at heq
          have hokk : ∀ x u, n1 = .ok x u → 0 < u ∧ u ≤ l.length - (p + us) ∧ 0 ≤ x ∧ x < 18446744073709551616 := fun x u e => by
            have := rdNum_ok (hl.drop (p + us)) (hnn.trans e)
            rwa [List.length_drop] at this
          have Heq := Lib.hid heq
          have Hnn := Lib.hid hnn
          have Ht := Lib.hid ht
          have Hokk := Lib.hid hokk
          clear heq hnn ht hokk
          go_wp2_with fail
          refine (rnumberN w0 wr R _ l (p + us) hl hv hB2 hR hr2 hus).mono ?_
          rintro e w3 ⟨hB3, hO3, hm3⟩
          rw [Hnn.out] at hm3
          cases n1 with
          | no c =>
            obtain ⟨rfl, hm3⟩ := hm3
            unfold pan
            go_wp2_with fail
            refine ⟨rfl, hB3, hO2.trans hO3, ?_⟩
            have hrr := Hrr.out
            have hpp := Hp.out
            rw [if_pos (by omega), Int.toNat_natCast, List.drop_drop, hpp, Heq.out] at hrr
            obtain rfl := hrr
            exact ⟨rfl, hm3⟩
          | ok x u =>
            obtain ⟨⟨_, rfl, hu⟩, hr3⟩ := hm3
            obtain rfl := vnum_shape hu
            have hown3 : Own w3 w.heap.size 22 .u64 _ acc := own_only hown hO3 hRw
            have hsz : w.heap.size ≤ w3.heap.size := (hO2.trans hO3).size
            go_wp2_with (at_builtin; refine wpList_append_sl _ rfl _ _ 28 rfl elU rfl (hown3.alloc _) rfl (Sl.new _ _ _ 1 1 (Nat.le_refl _) ?_) rfl ?_ ?_ ?_ ?_ ?_)
            · unfold maxLen; omega
            · rfl
            · have := Hacc.out; omega
            · have := Hacc.out; unfold maxLen; omega
            · simp; omega
            intro v4 w4 hown4 hb4 hg4 _
            obtain ⟨g', cap', rfl⟩ := ownsRow_succ hown4
            have hge : w.heap.size ≤ g' := (own_lt hown4 (g := g') rfl).1
            have hb34 : Below w.heap.size w3 w4 := ((Below.refl _ _).alloc hsz _).trans hb4
            have hO4 : Only R w w4 := (hO2.trans hO3).then_below hb34
            have hr4 : RdAt w4 R (.slice a l.length cap) (p + us + u : Nat) := (hb34.block R hRw).trans hr3
            have hB4 : Below w0.heap.size w0 w4 := hB3.trans (hb34.mono hB.size)
            have hfin : Own w4 w.heap.size 22 .u64 (.slice (some ⟨g', 0, none⟩) (acc.length + 1) cap') (acc ++ [x]) := by simpa [Own] using hown4
            clear hown4 hb4 hg4 hown hown3
            go_wp2
            have hokk := Hokk.out x u rfl
            have hac := Hacc.out
            refine ⟨⟨j + 1, us + u, acc ++ [x], by go_num, by omega, by simp; omega, by omega, ?_, hfin, hB4, hO4, by rw [← Nat.add_assoc]; exact hr4⟩, by simp [intOf]; omega⟩
            have htt := Ht.out
            rw [Heq.out, List.drop_drop, show m - (j + 1) = t from by omega, Nat.add_assoc, Nat.add_assoc]
        · have hje : j = m := by omega
          have Hje := Lib.hid hje
          clear hje
          go_wp2
          go_ret
          refine ⟨hB2, hO2, ?_⟩
          have hrr := Hrr.out
          have hpp := Hp.out
          have h1 := Heq.out
          rw [Hje.out, Nat.sub_self] at h1
          rw [if_pos (by omega), Int.toNat_natCast, List.drop_drop, hpp, h1] at hrr
          obtain rfl := hrr
          exact ⟨⟨_, rfl, hown⟩, by rw [show k + (used + us) = p + us from by omega]; exact hr2⟩
    · have hd : decide ((m : Int) ≤ (l.length : Int) - (p : Int)) = false := by simp; omega
      go_wp2_with fail
      go_still_tail 13, (by kernel_rfl)
      change wpList _ _ _ _ _ w1.drew
      go_wp2_with fail
      rw [hd]
      refine (need_no _ _).mono ?_
      rintro e w' ⟨rfl, rfl⟩
      go_wp2
      refine ⟨rfl, Only.below (Only.drewN R w1 1) hB1 hB1.size hR, hO1.trans (Only.drewN R w1 1), ?_⟩
      have hrr := Hrr.out
      have hpp := Hp.out
      rw [if_neg (by omega)] at hrr
      obtain rfl := hrr
      exact ⟨rfl, _, hr1⟩
end Go.Proofs.Ytdjkfjaffhboeaa
