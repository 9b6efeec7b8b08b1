/- The reader: frame. -/
import Derived.Test.YtdjkfjaffhboeaaCodecI
namespace Go.Proofs.Ytdjkfjaffhboeaa
open Go.RowKit

theorem run_make_el {P : Program} {t e : TypeId} {z : Value} {size bytes : Nat} (T : ElT P t e z size bytes) (n : Nat) (hb : bytes * n ≤ 281474976710656) (h63 : n ≤ 9223372036854775807) (w : World) :
    (Instr.makeSlice t (.int .i64 n) (.int .i64 n)).run P w = .ok (.slice (some ⟨w.heap.size, 0, none⟩) n n) (w.alloc (.cells (madeCells z.cells (n * size)) e)) := by
  obtain ⟨i, hi, hz, hsz, hby⟩ := T.info
  subst hsz hby
  have h1 : (i.bytes : Int) * (n : Int) ≤ 281474976710656 := by
    have : ((i.bytes * n : Nat) : Int) ≤ 281474976710656 := by omega
    rwa [Int.natCast_mul] at this
  have hr := run_make (P := P) w t e i z T.under hi hz .i64 .i64 (n : Int) (n : Int) (by omega) (by omega) h1 (by omega)
  simpa using hr

theorem wpList_copy_all {P : Program} {w : World} {ops : Array Oper} {rest : List Oper} {o : Oper} {a : Act} {Q : Exit → Act → World → Prop} (hgd : o.guard = none) (d s : Operand) (dT sT : TypeId)
    (ho : o.op = .call { callee := .builtin .copy, args := #[d, s], argTypes := #[dT, sT] }) {e : TypeId} {z : Value} {bytes : Nat} (T : ElT P dT e z 1 bytes)
    {n : Nat} {g : Nat} {cap : Nat} (hd : a.eval d = .slice (some ⟨g, 0, none⟩) n cap) {u : Value} (hs : a.eval s = u) {xs : List Value} (hu : Sl w u n xs) (hxs : xs.length = n) (h1 : ∀ x ∈ xs, x.oneCell' = true)
    {cur : Array Value} {t : TypeId} (hg : w.heap[g]? = some (.cells cur t (0, 0))) (hcur : cur.size = n) (B : Nat) (hB : B ≤ g)
    (h : ∀ w', Hid (w'.heap[g]? = some (.cells xs.toArray t (0, 0))) → Below B w w' → wpList P ops Q rest (a.put o.dst (goInt xs.length)) w') : wpList P ops Q (o :: rest) a w := by
  obtain ⟨sp, sc, rfl, h2, h3, hc⟩ := hu
  obtain ⟨i, hi, hz, hsz, hby⟩ := T.info
  have hlen : cur.toList.length = n := by simpa using hcur
  refine wpList_copy_splice hgd d s dT sT ho e T.under (by rw [hi]; simp [hsz]) (some ⟨g, 0, none⟩) sp n cap n sc hd hs g 0 cur.toList t (by simpa using hg) xs (by simp [hxs]) ?_ (by omega) h1 B w (Below.refl _ _) hB ?_
  · intro hp
    obtain ⟨b, o, rfl, hcell⟩ := hc hp
    exact ⟨rfl, _, rfl, fun j v hj => by rw [addr_add]; exact hcell j v hj⟩
  · intro w' hw' hb
    refine h w' ?_ hb
    have h5 : splice cur.toList 0 xs = xs := by
      unfold splice
      rw [List.take_zero, List.nil_append, List.drop_eq_nil_of_le (by omega), List.append_nil]
    rw [h5] at hw'
    exact hw'

def VByt (B : Nat) (w : World) (u : Value) (x : List Int) : Prop := Own w B 5 .u8 u x
theorem vbyt_ok : VOk VByt := ⟨fun _ _ _ _ _ hB h => own_base h hB, fun _ _ _ _ _ _ h ho hr => own_only h ho hr⟩
def rdFrame (l : List Int) : Rd (List Int) :=
  match rdNum l with
  | .no e => .no e
  | .ok n used =>
    if n ≤ 1048576 then
      if n + 4 ≤ (l.length : Int) - used then
        if (l.drop (used + n.toNat)).take 4 = fourB (sumL 1 ((l.drop used).take n.toNat)) then .ok ((l.drop used).take n.toNat) (used + n.toNat + 4)
        else .no 122
      else .no 120
    else .no 3

set_option maxHeartbeats 2000000 in
theorem rframe (w0 w : World) (R : Nat) (v : Value) (l : List Int) (k : Nat) (hl : Byt l) (hv : Ints w0 .u8 v l) (hB : Below w0.heap.size w0 w) (hR : w0.heap.size ≤ R) (hr : RdAt w R v k) (hk : k ≤ l.length) (_hn : l.length ≤ 10000000) (hRw : R < w.heap.size) :
    Calls Try.prog 31 #[.pointer (some ⟨R, 0, none⟩)] w (RdPost w0 w R v k (rdFrame (l.drop k)) VByt) := by
  obtain ⟨a, cap, rfl, hcap, hmax, _⟩ := hv.open_
  generalize hrr : rdFrame (l.drop k) = r
  unfold rdFrame at hrr
  go_enter Try.func31, Try.ntmps31
  have Hrr := Lib.hid hrr
  clear hrr
  go_wp2_with fail
  refine (rnumberN w0 w R _ l k hl hv hB hR hr hk).mono ?_
  rintro e w1 ⟨hB1, hO1, hm⟩
  have hrr := Hrr.out
  generalize hnn : rdNum (l.drop k) = n1 at hm hrr
  cases n1 with
  | no c =>
    obtain ⟨rfl, hm⟩ := hm
    unfold pan
    go_wp2_with fail
    refine ⟨rfl, hB1, hO1, ?_⟩
    obtain rfl := hrr
    exact ⟨rfl, hm⟩
  | ok many used =>
    obtain ⟨⟨u, rfl, hu⟩, hr1⟩ := hm
    obtain rfl : u = .int .u64 many := hu
    have hok := rdNum_ok (hl.drop k) hnn
    rw [List.length_drop] at hok
    simp only [List.length_drop] at hrr
    obtain ⟨m, rfl⟩ := Int.eq_ofNat_of_zero_le hok.2.2.1
    rw [Int.toNat_natCast, List.drop_drop, List.drop_drop] at hrr
    have hmlt := hok.2.2.2
    have Hrr := Lib.hid hrr
    clear hrr hnn
    generalize hp : k + used = p at hr1
    have Hp := Lib.hid hp
    have hpl : p ≤ l.length := by omega
    clear hp hok
    by_cases hmany : m ≤ 1048576
    · have hd : decide ((m : Int) ≤ 1048576) = true := by simp; omega
      go_wp2_with fail
      refine (need_ok _ _).mono ?_
      rintro e w' ⟨rfl, rfl⟩
      have c0 := hr1.cell0
      have c1 := hr1.cell1
      by_cases hml : m + 4 ≤ l.length - p
      · have hd1 : decide ((m : Int) + 4 ≤ (l.length : Int) - (p : Int)) = true := by simp; omega
        go_wp2_with fail
        go_quiet ((go_at_call 44; exact Calls.quiet_of_same (need_okq _ _)))
        go_wp2_with fail
        refine (rsome w0 _ R _ l p m hv (Only.below (Only.drewN R w1 _) hB1 hB1.size hR) hR hr1 hpl (by omega)).mono ?_
        rintro e w2 ⟨hB2, hO2, hm2⟩
        rw [if_pos (by omega)] at hm2
        obtain ⟨⟨u, rfl, hu⟩, hr2⟩ := hm2
        go_wp2_with fail
        refine (rsome w0 w2 R _ l (p + m) 4 hv hB2 hR hr2 (by omega) (by omega)).mono ?_
        rintro e w3 ⟨hB3, hO3, hm3⟩
        rw [if_pos (by omega)] at hm3
        obtain ⟨⟨t, rfl, ht⟩, hr3⟩ := hm3
        have hO123 := hO1.trans ((Only.drewN R w1 _).trans (hO2.trans hO3))
        have hx : Byt ((l.drop p).take m) := (hl.drop p).take m
        have hxl : ((l.drop p).take m).length = m := by simp; omega
        generalize hxx : (l.drop p).take m = x at hu hx hxl
        have Hxx := Lib.hid hxx
        have Hxl := Lib.hid hxl
        generalize htt : (l.drop (p + m)).take 4 = y at ht
        have Htt := Lib.hid htt
        clear hxx hxl htt c0 c1 hr1 hr2
        have hs := sumL_range 1 x (by omega) (by omega)
        go_wp2_with fail
        refine (sum_any _ x _ hx (hu.below hB3 (Nat.le_refl _))).mono ?_
        rintro e w' ⟨rfl, rfl⟩
        go_wp2_with fail
        refine (four_any _ _ hs.1 hs.2).mono ?_
        rintro e w4 ⟨u4, rfl, ho4, hx4⟩
        have hB4 := Below.ext hB3 hx4 hB3.size
        have hr4 : RdAt w4 R (.slice a l.length cap) ((p + m + 4 : Nat) : Int) := (hx4.block R (by have := hO123.size; omega)).trans hr3
        by_cases heq : y = fourB (sumL 1 x)
        · have Heq := Lib.hid heq
          go_wp2_with fail
          refine (equalB_yes _ _ _ _ _ (ht.below hB4 (Nat.le_refl _)) ho4.ints heq).mono ?_
          clear heq
          rintro e w5 ⟨rfl, n5, rfl⟩
          go_wp2_with fail
          refine (need_ok _ _).mono ?_
          rintro e w' ⟨rfl, rfl⟩
          obtain ⟨ua, uc, rfl, hu1, hu2, _⟩ := hu.open_
          have hmk := fun w => run_make_el elB x.length (by have := Hxl.out; omega) (by omega) w
          have hu5 := (hu.below hB4 (Nat.le_refl _)).below (below_drewN (Below.refl w4.heap.size w4) n5) (Nat.le_refl _)
          have hgo := heap_alloc_new (w4.drewN n5) (.cells (madeCells #[Value.int .u8 0] x.length) 5)
          go_wp2_with (refine wpList_copy_all (o := ⟨some 42, _, _, _, _, _⟩) rfl _ _ 24 24 rfl elB rfl rfl (Sl.ext hu5 (Ext.alloc _ _)) ?_ ?_ hgo ?_ w4.heap.size ?_ ?_)
          · simp
          · exact ints_one _ _
          · exact size_madeCells _ _
          · exact Nat.le_refl _
          intro w6 Hg6 hb6
          go_wp2_with fail
          go_ret
          have hw46 : Below w4.heap.size w4 w6 := ((below_drewN (Below.refl _ w4) n5).alloc (Nat.le_refl _) _).trans hb6
          have hB6 : Below w0.heap.size w0 w6 := hB4.trans (hw46.mono hB4.size)
          have hO6 : Only R w w6 := (hO123.trans (Only.of_ext hx4)).trans (Only.of_ext hw46)
          have hr6 : RdAt w6 R (.slice a l.length cap) ((p + m + 4 : Nat) : Int) := (hw46.block R (by have := (hO123.trans (Only.of_ext hx4)).size; omega)).trans hr4
          refine ⟨hB6, hO6, ?_⟩
          have hrr := Hrr.out
          have hpp := Hp.out
          rw [if_pos (by omega), if_pos (by omega), ← Nat.add_assoc, hpp, Htt.out, Hxx.out, if_pos Heq.out] at hrr
          obtain rfl := hrr
          refine ⟨⟨_, rfl, ⟨by simp, .inr ⟨w4.heap.size, x.length, _, rfl, (hO123.trans (Only.of_ext hx4)).size, Hg6.out, Nat.le_refl _, by have := Hxl.out; unfold maxLen; omega, by simp, by rw [Nat.mul_one, List.take_of_length_le (by simp)]⟩⟩⟩, ?_⟩
          rw [show k + (used + m + 4) = p + m + 4 from by omega]; exact hr6
        · go_wp2_with fail
          refine (equalB_no _ _ _ _ _ (ht.below hB4 (Nat.le_refl _)) ho4.ints heq).mono ?_
          rintro e w5 ⟨rfl, n5, rfl⟩
          go_wp2_with fail
          refine (need_no _ _).mono ?_
          rintro e w' ⟨rfl, rfl⟩
          go_wp2
          refine ⟨rfl, below_drewN hB4 _, (hO123.trans (Only.of_ext hx4)).trans (Only.drewN R w4 n5), ?_⟩
          have hrr := Hrr.out
          have hpp := Hp.out
          rw [if_pos (by omega), if_pos (by omega), ← Nat.add_assoc, hpp, Htt.out, Hxx.out, if_neg heq] at hrr
          obtain rfl := hrr
          exact ⟨rfl, _, hr4⟩
      · have hd1 : decide ((m : Int) + 4 ≤ (l.length : Int) - (p : Int)) = false := by simp; omega
        go_wp2_with fail
        go_still_tail 14, (by kernel_rfl)
        change wpList _ _ _ _ _ w1.drew
        go_wp2_with fail
        rw [hd1]
        refine (need_no _ _).mono ?_
        rintro e w' ⟨rfl, rfl⟩
        go_wp2
        refine ⟨rfl, Only.below (Only.drewN R w1 1) hB1 hB1.size hR, hO1.trans (Only.drewN R w1 1), ?_⟩
        have hrr := Hrr.out
        have hpp := Hp.out
        rw [if_pos (by omega), if_neg (by omega)] at hrr
        obtain rfl := hrr
        exact ⟨rfl, _, hr1⟩
    · have hd : decide ((m : Int) ≤ 1048576) = false := by simp; omega
      go_wp2_with fail
      refine (need_no _ _).mono ?_
      rintro e w' ⟨rfl, rfl⟩
      go_wp2
      refine ⟨rfl, hB1, hO1, ?_⟩
      have hrr := Hrr.out
      rw [if_neg (by omega)] at hrr
      obtain rfl := hrr
      exact ⟨rfl, _, hr1⟩
end Go.Proofs.Ytdjkfjaffhboeaa
