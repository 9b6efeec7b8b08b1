/- Changes, and their lines: plain. -/
import Derived.Test.YtilbofkpjgcchaaDoorLexP
namespace Go.Proofs.YtilbofkpjgcchaaDoor
set_option maxRecDepth 100000
set_option maxHeartbeats 2000000
set_option linter.unusedVariables false
set_option linter.unusedSimpArgs false
open Go.RowKit

/-- All bytes hold, and so many there are. -/
def allB (p : Int → Bool) (lo hi : Nat) (l : List UInt8) : Bool := decide (spanL p l = l.length) && (decide (lo ≤ l.length) && decide (l.length ≤ hi))
theorem allB_iff {p : Int → Bool} {lo hi : Nat} {l : List UInt8} : allB p lo hi l = true ↔ spanL p l = l.length ∧ lo ≤ l.length ∧ l.length ≤ hi := by
  unfold allB
  simp
theorem spanL_full {p : Int → Bool} {l : List UInt8} : spanL p l = l.length ↔ ∀ c ∈ l, p c.toNat = true := by
  constructor
  · intro h
    have := spanL_all p l
    rw [h, List.take_of_length_le (Nat.le_refl _)] at this
    exact this
  · intro h
    have := spanL_append p l [] h
    simpa [spanL] using this
/-- A change. -/
structure Ch where
  kind : Int
  key : ByteArray
  name : ByteArray
  val : ByteArray
  to_ : ByteArray
def Ch.cells (c : Ch) : List Value := [.int .i64 c.kind, .string c.key, .string c.name, .string c.val, .string c.to_]
def Ch.v (c : Ch) : Value := .agg #[.int .i64 c.kind, .string c.key, .string c.name, .string c.val, .string c.to_]
def Ch.f (c : Ch) : Nat → ByteArray
  | 0 => c.key
  | 1 => c.name
  | 2 => c.val
  | _ => c.to_
def Ch.put (c : Ch) (i : Nat) (s : ByteArray) : Ch := match i with
  | 0 => { c with key := s }
  | 1 => { c with name := s }
  | 2 => { c with val := s }
  | _ => { c with to_ := s }
def Ch.none : Ch := ⟨0, ⟨#[]⟩, ⟨#[]⟩, ⟨#[]⟩, ⟨#[]⟩⟩
theorem Ch.ext' {a b : Ch} (h0 : a.kind = b.kind) (h1 : a.key = b.key) (h2 : a.name = b.name) (h3 : a.val = b.val) (h4 : a.to_ = b.to_) : a = b := by
  cases a; cases b; simp_all

/-- Which fields a kind has. -/
def hasOf (k i : Nat) : Bool := match i with
  | 0 => decide (1 ≤ k)
  | 1 => decide (3 ≤ k)
  | 2 => decide (k = 5)
  | _ => decide (7 ≤ k)
def wordOf : Nat → List UInt8
  | 1 => [97, 100, 100]
  | 2 => [100, 114, 111, 112]
  | 3 => [108, 97, 98, 101, 108]
  | 4 => [117, 110, 108, 97, 98, 101, 108]
  | 5 => [115, 101, 116]
  | 6 => [117, 110, 115, 101, 116]
  | 7 => [108, 105, 110, 107]
  | 8 => [117, 110, 108, 105, 110, 107]
  | _ => []
def nameB (s : ByteArray) : Bool := allB letterC 1 32 (bts s)
def valB (s : ByteArray) : Bool := allB quotedC 0 40 (bts s)
/-- May a field be? -/
def okF (i : Nat) (has : Bool) (s : ByteArray) : Bool := if has then (if i = 2 then valB s else nameB s) else decide (s = ⟨#[]⟩)
def okC (c : Ch) : Bool := decide (1 ≤ c.kind) && (decide (c.kind ≤ 8) && (okF 0 (hasOf c.kind.toNat 0) c.key && (okF 1 (hasOf c.kind.toNat 1) c.name && (okF 2 (hasOf c.kind.toNat 2) c.val && okF 3 (hasOf c.kind.toNat 3) c.to_))))
def errC (c : Ch) : Int := if okC c then 0 else 190
/-- A field's part of the line. -/
def partL (i : Nat) (has : Bool) (s : ByteArray) : List UInt8 := if has then (if i = 2 then [32, 34] ++ (bts s ++ [34]) else 32 :: bts s) else []
def lineL (c : Ch) : List UInt8 := wordOf c.kind.toNat ++ (partL 0 (hasOf c.kind.toNat 0) c.key ++ (partL 1 (hasOf c.kind.toNat 1) c.name ++ (partL 2 (hasOf c.kind.toNat 2) c.val ++ partL 3 (hasOf c.kind.toNat 3) c.to_)))
theorem okC_iff {c : Ch} : okC c = true ↔ 1 ≤ c.kind ∧ c.kind ≤ 8 ∧ okF 0 (hasOf c.kind.toNat 0) c.key = true ∧ okF 1 (hasOf c.kind.toNat 1) c.name = true ∧ okF 2 (hasOf c.kind.toNat 2) c.val = true ∧ okF 3 (hasOf c.kind.toNat 3) c.to_ = true := by
  unfold okC
  simp
theorem empty_iff (s : ByteArray) : s = ⟨#[]⟩ ↔ bts s = [] := by
  constructor
  · rintro rfl; rfl
  · intro h; rw [← txt_bts s, h]; rfl
end Go.Proofs.YtilbofkpjgcchaaDoor
