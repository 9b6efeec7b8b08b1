/- ReadText, ReadFrame. -/
import Derived.Test.YtdjkfjaffhboeaaCodecW
import Derived.Test.YtdjkfjaffhboeaaReadB
import Derived.Test.YtdjkfjaffhboeaaReadS
namespace Go.Proofs.Ytdjkfjaffhboeaa
open Go.RowKit
set_option linter.unusedVariables false

theorem readText_any (v : Value) (l : List Int) (k : Int) (w : World) (hl : Byt l) (hv : Ints w .u8 v l) (hlen : l.length ≤ 10000000) :
    Calls Try.prog 26 #[v, .int .i64 k] w (ReadPost w k (rdAt k l rdText) VText (.string ⟨#[]⟩)) := by
  generalize hrr : rdAt k l rdText = r
  have Hrr := Lib.hid hrr
  clear hrr
  go_enter Try.func26, Try.ntmps26
  go_wp2_with fail
  refine (sread_any _ l k _ hl hv hlen).mono ?_
  rintro e w' ⟨hx, hm⟩
  rw [Hrr.out] at hm
  cases r with
  | ok x used =>
    obtain ⟨u, rfl, hu⟩ := hm
    go_wp2
    go_ret3
    exact ⟨hx, u, rfl, hu⟩
  | no c =>
    obtain rfl := hm
    go_wp2
    go_ret3
    exact ⟨hx, rfl⟩
theorem readText_yes (v : Value) (l : List Int) (k : Int) (w : World) (hl : Byt l) (hv : Ints w .u8 v l) (hlen : l.length ≤ 10000000) {x : List Int} {used : Nat} (h : rdAt k l rdText = .ok x used) :
    Calls Try.prog 26 #[v, .int .i64 k] w fun e w' => ∃ u, e = .returned (.tuple #[u, .int .i64 (k + used), .int .i64 0]) ∧ VText w.heap.size w' u x ∧ Ext w w' :=
  (readText_any v l k w hl hv hlen).mono fun e w' ⟨hx, hm⟩ => by rw [h] at hm; obtain ⟨u, he, hu⟩ := hm; exact ⟨u, he, hu, hx⟩
theorem readText_no (v : Value) (l : List Int) (k : Int) (w : World) (hl : Byt l) (hv : Ints w .u8 v l) (hlen : l.length ≤ 10000000) {c : Int} (h : rdAt k l rdText = .no c) :
    Calls Try.prog 26 #[v, .int .i64 k] w fun e w' => e = .returned (.tuple #[.string ⟨#[]⟩, .int .i64 0, .int .i64 c]) ∧ Ext w w' :=
  (readText_any v l k w hl hv hlen).mono fun e w' ⟨hx, hm⟩ => by rw [h] at hm; exact ⟨hm, hx⟩
theorem readFrame_any (v : Value) (l : List Int) (k : Int) (w : World) (hl : Byt l) (hv : Ints w .u8 v l) (hlen : l.length ≤ 10000000) :
    Calls Try.prog 22 #[v, .int .i64 k] w (ReadPost w k (rdAt k l rdFrame) VByt (.slice none 0 0)) := by
  generalize hrr : rdAt k l rdFrame = r
  have Hrr := Lib.hid hrr
  clear hrr
  go_enter Try.func22, Try.ntmps22
  go_wp2_with fail
  refine (bread_any _ l k _ hl hv hlen).mono ?_
  rintro e w' ⟨hx, hm⟩
  rw [Hrr.out] at hm
  cases r with
  | ok x used =>
    obtain ⟨u, rfl, hu⟩ := hm
    go_wp2
    go_ret3
    exact ⟨hx, u, rfl, hu⟩
  | no c =>
    obtain rfl := hm
    go_wp2
    go_ret3
    exact ⟨hx, rfl⟩
theorem readFrame_yes (v : Value) (l : List Int) (k : Int) (w : World) (hl : Byt l) (hv : Ints w .u8 v l) (hlen : l.length ≤ 10000000) {x : List Int} {used : Nat} (h : rdAt k l rdFrame = .ok x used) :
    Calls Try.prog 22 #[v, .int .i64 k] w fun e w' => ∃ u, e = .returned (.tuple #[u, .int .i64 (k + used), .int .i64 0]) ∧ VByt w.heap.size w' u x ∧ Ext w w' :=
  (readFrame_any v l k w hl hv hlen).mono fun e w' ⟨hx, hm⟩ => by rw [h] at hm; obtain ⟨u, he, hu⟩ := hm; exact ⟨u, he, hu, hx⟩
theorem readFrame_no (v : Value) (l : List Int) (k : Int) (w : World) (hl : Byt l) (hv : Ints w .u8 v l) (hlen : l.length ≤ 10000000) {c : Int} (h : rdAt k l rdFrame = .no c) :
    Calls Try.prog 22 #[v, .int .i64 k] w fun e w' => e = .returned (.tuple #[.slice none 0 0, .int .i64 0, .int .i64 c]) ∧ Ext w w' :=
  (readFrame_any v l k w hl hv hlen).mono fun e w' ⟨hx, hm⟩ => by rw [h] at hm; exact ⟨hm, hx⟩
end Go.Proofs.Ytdjkfjaffhboeaa
