/- What a dictionary tells, right or not. -/
import Derived.Test.YtogoejlbdbapoaaDicLw
namespace Go.Proofs.Ytogoejlbdbapoaa
set_option maxRecDepth 100000
set_option maxHeartbeats 2000000
set_option linter.unusedSimpArgs false
open Go.RowKit Go.Shelf Go.Sort
attribute [local go_sem] Oper.semAt_some wide_fn wide_depth
set_option linter.unusedVariables false

/-- The names that the law sees: a dictionary's, or none. -/
def seenN (r : Bool) (D : Dic) : Nms := if r then ofD D else fun _ => []
def allN (N : Nms) (kind : Int) : List ByteArray := if 0 ≤ kind ∧ kind < 5 then N kind.toNat else []
def wantN (r : Bool) (N : Nms) (kind q : Int) : Value := if r then (if 0 ≤ kind ∧ kind < 5 then textF (N kind.toNat) q else .tuple #[.string ⟨#[]⟩, .int .i64 2]) else .tuple #[.string ⟨#[]⟩, .int .i64 160]
theorem tellId (r : Bool) (vs : Nat → Value × Value) (D : Dic) (w : World) (hV : DicV w vs D) (hS : DicS D) (hr : r = true ↔ DicOK D) (kind : Int) (s : ByteArray) (hs : s.size ≤ 9223372036854775807) :
    Calls Try.prog 33 #[dv vs, .int .i64 kind, .string s] w fun e w' => e = idRes (idN (seenN r D) kind s) ∧ Ext w w' := by
  cases r with
  | true => exact id_yes vs D w hV hS (hr.1 rfl) kind s hs
  | false =>
    refine (id_no vs D w hV hS (fun h => by have := hr.2 h; cases this) kind s).mono ?_
    rintro e w' ⟨rfl, hx⟩
    refine ⟨?_, hx⟩
    have h : idN (seenN false D) kind s = -1 := by
      unfold idN seenN
      split
      · exact findF_no.2 (by simp)
      · rfl
    rw [h]; rfl
theorem tellName (r : Bool) (vs : Nat → Value × Value) (D : Dic) (w : World) (hV : DicV w vs D) (hS : DicS D) (hr : r = true ↔ DicOK D) (kind q : Int) :
    Calls Try.prog 35 #[dv vs, .int .i64 kind, .int .i64 q] w fun e w' => e = .returned (wantN r (seenN r D) kind q) ∧ Ext w w' := by
  cases r with
  | true => exact name_yes vs D w hV hS (hr.1 rfl) kind q
  | false => exact name_no vs D w hV hS (fun h => by have := hr.2 h; cases this) kind q
theorem tellNames (r : Bool) (vs : Nat → Value × Value) (D : Dic) (w : World) (hV : DicV w vs D) (hS : DicS D) (hr : r = true ↔ DicOK D) (kind : Int) :
    Calls Try.prog 31 #[dv vs, .int .i64 kind] w fun e w' => ∃ u, e = .returned u ∧ w'.ownsRow w.heap.size 9 1 u (allN (seenN r D) kind).length ((allN (seenN r D) kind).map Value.string) ∧ Ext w w' := by
  cases r with
  | true => exact names_yes vs D w hV hS (hr.1 rfl) kind
  | false =>
    have h : allN (seenN false D) kind = [] := by unfold allN seenN; split <;> rfl
    rw [h]
    exact names_no vs D w hV hS (fun h => by have := hr.2 h; cases this) kind
theorem wantN_no {N : Nms} {kind q : Int} : wantN false N kind q = .tuple #[.string ⟨#[]⟩, .int .i64 160] := rfl
theorem wantN_neg {N : Nms} {kind q : Int} (h : ¬ (0 ≤ kind ∧ kind < 5)) : wantN true N kind q = .tuple #[.string ⟨#[]⟩, .int .i64 2] := by
  unfold wantN
  rw [if_pos rfl, if_neg h]
theorem wantN_in {N : Nms} {k : Nat} {all : List ByteArray} (hk : k < 5) (he : allN N (k : Int) = all) {p : Nat} (hp : p < all.length) : wantN true N (k : Int) (p : Int) = .tuple #[.string (all.getD p ⟨#[]⟩), .int .i64 0] := by
  unfold allN at he
  rw [if_pos (by omega)] at he
  unfold wantN textF
  rw [if_pos rfl, if_pos (by omega), he, if_pos (by omega)]
  rfl
theorem wantN_off {N : Nms} {k : Nat} {all : List ByteArray} (hk : k < 5) (he : allN N (k : Int) = all) {q : Int} (hq : ¬ (0 ≤ q ∧ q < (all.length : Int))) : wantN true N (k : Int) q = .tuple #[.string ⟨#[]⟩, .int .i64 4] := by
  unfold allN at he
  rw [if_pos (by omega)] at he
  unfold wantN textF
  rw [if_pos rfl, if_pos (by omega), he, if_neg hq]
def groT46 : Nat → Gro
  | 0 => .read
  | 1 => .read
  | 2 => .grow
  | 3 => .grow
  | _ => .pure
end Go.Proofs.Ytogoejlbdbapoaa
