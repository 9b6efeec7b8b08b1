/- ReadNumber, ReadRow; the small call that wakes the layer. -/
import Derived.Test.YtdjkfjaffhboeaaReadU
import Derived.Test.YtdjkfjaffhboeaaReadR
namespace Go.Proofs.Ytdjkfjaffhboeaa
open Go.RowKit

theorem readNumber_any (v : Value) (l : List Int) (k : Int) (w : World) (hl : Byt l) (hv : Ints w .u8 v l) (hlen : l.length ≤ 10000000) :
    Calls Try.prog 25 #[v, .int .i64 k] w (ReadPost w k (rdAt k l rdNum) VNum (.int .u64 0)) := by
  generalize hrr : rdAt k l rdNum = r
  have Hrr := Lib.hid hrr
  clear hrr
  go_enter Try.func25, Try.ntmps25
  go_wp2_with fail
  refine (uread_any _ l k _ hl hv).mono ?_
  rintro e w' ⟨hx, hm⟩
  rw [Hrr.out] at hm
  cases r with
  | ok x used =>
    obtain ⟨u, rfl, hu⟩ := hm
    go_wp2
    go_ret3
    exact ⟨hx, u, rfl, hu⟩
  | no c =>
    obtain rfl := hm
    go_wp2
    go_ret3
    exact ⟨hx, rfl⟩
theorem readNumber_yes (v : Value) (l : List Int) (k : Int) (w : World) (hl : Byt l) (hv : Ints w .u8 v l) (hlen : l.length ≤ 10000000) {x : Int} {used : Nat} (h : rdAt k l rdNum = .ok x used) :
    Calls Try.prog 25 #[v, .int .i64 k] w fun e w' => ∃ u, e = .returned (.tuple #[u, .int .i64 (k + used), .int .i64 0]) ∧ VNum w.heap.size w' u x ∧ Ext w w' :=
  (readNumber_any v l k w hl hv hlen).mono fun e w' ⟨hx, hm⟩ => by rw [h] at hm; obtain ⟨u, he, hu⟩ := hm; exact ⟨u, he, hu, hx⟩
theorem readNumber_no (v : Value) (l : List Int) (k : Int) (w : World) (hl : Byt l) (hv : Ints w .u8 v l) (hlen : l.length ≤ 10000000) {c : Int} (h : rdAt k l rdNum = .no c) :
    Calls Try.prog 25 #[v, .int .i64 k] w fun e w' => e = .returned (.tuple #[.int .u64 0, .int .i64 0, .int .i64 c]) ∧ Ext w w' :=
  (readNumber_any v l k w hl hv hlen).mono fun e w' ⟨hx, hm⟩ => by rw [h] at hm; exact ⟨hm, hx⟩
theorem readRow_any (v : Value) (l : List Int) (k : Int) (w : World) (hl : Byt l) (hv : Ints w .u8 v l) (hlen : l.length ≤ 10000000) :
    Calls Try.prog 24 #[v, .int .i64 k] w (ReadPost w k (rdAt k l rdRow) VRow (.slice none 0 0)) := by
  generalize hrr : rdAt k l rdRow = r
  have Hrr := Lib.hid hrr
  clear hrr
  go_enter Try.func24, Try.ntmps24
  go_wp2_with fail
  refine (rread_any _ l k _ hl hv hlen).mono ?_
  rintro e w' ⟨hx, hm⟩
  rw [Hrr.out] at hm
  cases r with
  | ok x used =>
    obtain ⟨u, rfl, hu⟩ := hm
    go_wp2
    go_ret3
    exact ⟨hx, u, rfl, hu⟩
  | no c =>
    obtain rfl := hm
    go_wp2
    go_ret3
    exact ⟨hx, rfl⟩
theorem readRow_yes (v : Value) (l : List Int) (k : Int) (w : World) (hl : Byt l) (hv : Ints w .u8 v l) (hlen : l.length ≤ 10000000) {x : List Int} {used : Nat} (h : rdAt k l rdRow = .ok x used) :
    Calls Try.prog 24 #[v, .int .i64 k] w fun e w' => ∃ u, e = .returned (.tuple #[u, .int .i64 (k + used), .int .i64 0]) ∧ VRow w.heap.size w' u x ∧ Ext w w' :=
  (readRow_any v l k w hl hv hlen).mono fun e w' ⟨hx, hm⟩ => by rw [h] at hm; obtain ⟨u, he, hu⟩ := hm; exact ⟨u, he, hu, hx⟩
theorem readRow_no (v : Value) (l : List Int) (k : Int) (w : World) (hl : Byt l) (hv : Ints w .u8 v l) (hlen : l.length ≤ 10000000) {c : Int} (h : rdAt k l rdRow = .no c) :
    Calls Try.prog 24 #[v, .int .i64 k] w fun e w' => e = .returned (.tuple #[.slice none 0 0, .int .i64 0, .int .i64 c]) ∧ Ext w w' :=
  (readRow_any v l k w hl hv hlen).mono fun e w' ⟨hx, hm⟩ => by rw [h] at hm; exact ⟨hm, hx⟩

theorem ints_new (w : World) (k : IntKind) (l : List Int) (t : TypeId) (h : l.length ≤ maxLen) : Ints (w.alloc (.cells (l.map (Value.int k)).toArray t)) k (.slice (some ⟨w.heap.size, 0, none⟩) l.length l.length) l := by
  have := Sl.new w (l.map (Value.int k)).toArray t l.length l.length (Nat.le_refl _) h
  simpa [Ints] using this

theorem num9_byt {m : Int} (h0 : 0 ≤ m) (h1 : m < 18446744073709551616) : Byt (num 9 m) := num_byt 9 m h0 (by omega)
theorem rowB_byt {l : List Int} (h : U64 l) (hn : l.length ≤ 1000000) : Byt (rowB l) := by
  refine (num9_byt (by omega) (by omega)).append ?_
  intro c hc
  simp only [List.mem_flatMap] at hc
  obtain ⟨x, hx, hc⟩ := hc
  exact num9_byt (h x hx).1 (h x hx).2 c hc

theorem ints_at (w : World) (k : IntKind) (l : List Int) (t : TypeId) (b n : Nat) (hb : w.heap.size = b) (hn : l.length = n) (h : n ≤ maxLen) : Ints (w.alloc (.cells (l.map (Value.int k)).toArray t)) k (.slice (some ⟨b, 0, none⟩) n n) l := by
  subst hb hn; exact ints_new w k l t h

set_option maxHeartbeats 1000000 in
theorem wakes_any (w : World) : Calls Try.prog 8 #[] w fun e w' => e = .returned (.bool true) ∧ Ext w w' := by
  have e1 : rdAt 1 [7, 172, 2, 9] rdNum = .ok 300 2 := by rfl
  have e2 : rdAt 0 (rowB [1, 300]) rdRow = .ok [1, 300] 4 := by rfl
  have e3 : rdAt 0 [128, 0] rdNum = .no 121 := by rfl
  have H1 := Lib.hid e1
  have H2 := Lib.hid e2
  have H3 := Lib.hid e3
  clear e1 e2 e3
  go_enter Try.func8, Try.ntmps8
  go_wp2_with fail
  refine (readNumber_yes _ [7, 172, 2, 9] 1 _ (by unfold Byt; decide) (ints_new w .u8 [7, 172, 2, 9] 5 (by decide)) (by decide) H1.out).mono ?_
  rintro e w1 ⟨u, rfl, hu, hx1⟩
  obtain rfl := vnum_shape hu
  go_wp2_with fail
  refine (row_any _ [1, 300] _ (by unfold U64; decide) (by decide) (ints_new w1 .u64 [1, 300] 22 (by decide))).mono ?_
  rintro e w2 ⟨u2, rfl, ho2, hx2⟩
  go_wp2_with fail
  refine (readRow_yes _ _ 0 _ (rowB_byt (by unfold U64; decide) (by decide)) ho2.ints (by decide) H2.out).mono ?_
  rintro e w3 ⟨u3, rfl, ho3, hx3⟩
  go_wp2_with fail
  refine (readNumber_no _ [128, 0] 0 _ (by unfold Byt; decide) (ints_new w3 .u8 [128, 0] 5 (by decide)) (by decide) H3.out).mono ?_
  rintro e w4 ⟨rfl, hx4⟩
  have hl4 : Ints w4 .u64 u3 [1, 300] := ((Own.ints ho3).ext (Ext.alloc _ _)).ext hx4
  go_wp2_with fail
  refine (equalU _ _ [1, 300] [1, 300] _ (hl4.ext (Ext.alloc _ _)) (ints_new w4 .u64 [1, 300] 22 (by decide))).mono ?_
  rintro e w5 ⟨rfl, n5, rfl⟩
  go_wp2_with fail
  refine (sum_any _ [0] _ (by unfold Byt; decide) (ints_at _ .u8 [0] 5 _ _ (by simp) rfl (by decide))).mono ?_
  rintro e w6 ⟨rfl, rfl⟩
  go_wp2_with fail
  refine (number_any 300 _ (by decide) (by decide)).mono ?_
  rintro e w7 ⟨u7, rfl, ho7, hx7⟩
  go_wp2_with fail
  refine (equalB _ _ [172, 2] [172, 2] _ (Ints.ext ho7.ints (Ext.alloc _ _)) (ints_at w7 .u8 [172, 2] 5 _ _ rfl rfl (by decide))).mono ?_
  rintro e w8 ⟨rfl, n8, rfl⟩
  go_wp2_with fail
  go_ret
  refine ⟨rfl, ?_⟩
  have x1 : Ext w w3 := (((Ext.alloc w _).trans hx1).trans (Ext.alloc w1 _)).trans (hx2.trans hx3)
  have x2 : Ext w3 w4 := (Ext.alloc w3 _).trans hx4
  have x3 : Ext w4 w7 := (((Ext.alloc w4 _).trans (Ext.drewN _ n5)).trans (Ext.alloc _ _)).trans hx7
  exact ((x1.trans x2).trans x3).trans ((Ext.alloc w7 _).trans (Ext.drewN _ n8))
end Go.Proofs.Ytdjkfjaffhboeaa
