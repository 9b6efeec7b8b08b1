/- read: what all its instances share. -/
import Derived.Test.YtdjkfjaffhboeaaCodecE
namespace Go.Proofs.Ytdjkfjaffhboeaa
open Go.RowKit

theorem assertErr (c : Int) (w : World) : (Instr.typeAssert (.iface 31 (.int .i64 c)) 20 31 true).run Try.prog w = .ok (.tuple #[.int .i64 c, .bool true]) w := by kernel_rfl

theorem box3 {W : World} {A B C : Nat} {tA tB tC : TypeId} {x y z : Value} (bA : Boxed W A tA x) (bB : Boxed W B tB y) (bC : Boxed W C tC z) (hAB : A ≠ B) (hAC : A ≠ C) (hBC : B ≠ C) (x' y' z' : Value) :
    Boxed (((W.setCell ⟨A, 0, none⟩ x').setCell ⟨B, 0, none⟩ y').setCell ⟨C, 0, none⟩ z') A tA x' ∧ Boxed (((W.setCell ⟨A, 0, none⟩ x').setCell ⟨B, 0, none⟩ y').setCell ⟨C, 0, none⟩ z') B tB y' ∧
      Boxed (((W.setCell ⟨A, 0, none⟩ x').setCell ⟨B, 0, none⟩ y').setCell ⟨C, 0, none⟩ z') C tC z' := by
  have sA := bA.set x'
  have sB := bB.kept (grownBy_setCell' W A x') (by simpa using hAB.symm)
  have sC := bC.kept (grownBy_setCell' W A x') (by simpa using hAC.symm)
  have tA' := sA.kept (grownBy_setCell' _ B y') (by simpa using hAB)
  have tB' := sB.set y'
  have tC' := sC.kept (grownBy_setCell' _ B y') (by simpa using hBC.symm)
  exact ⟨tA'.kept (grownBy_setCell' _ C z') (by simpa using hAC), tB'.kept (grownBy_setCell' _ C z') (by simpa using hBC), tC'.set z'⟩
theorem below_box3 {B0 : Nat} {w W : World} (h : Below B0 w W) {A B C : Nat} (hA : B0 ≤ A) (hB : B0 ≤ B) (hC : B0 ≤ C) (x y z : Value) :
    Below B0 w (((W.setCell ⟨A, 0, none⟩ x).setCell ⟨B, 0, none⟩ y).setCell ⟨C, 0, none⟩ z) :=
  ((h.setCell (p := ⟨A, 0, none⟩) hA x).setCell (p := ⟨B, 0, none⟩) hB y).setCell (p := ⟨C, 0, none⟩) hC z

/-- What is said of a result is kept where blocks ahead of it turn. -/
def VOk {α : Type} (V : Nat → World → Value → α → Prop) : Prop :=
  (∀ B B' w u x, B' ≤ B → V B w u x → V B' w u x) ∧ (∀ B w w' row u x, V B w u x → Only row w w' → row < B → V B w' u x)
theorem vnum_ok : VOk VNum := ⟨fun _ _ _ _ _ _ h => h, fun _ _ _ _ _ _ h _ _ => h⟩
theorem vnum_shape {B : Nat} {w : World} {u : Value} {x : Int} (h : VNum B w u x) : u = .int .u64 x := h

def rdNum (l : List Int) : Rd Int := rdn l 0 0
theorem rnumberN (w0 w : World) (R : Nat) (v : Value) (l : List Int) (k : Nat) (hl : Byt l) (hv : Ints w0 .u8 v l) (hB : Below w0.heap.size w0 w) (hR : w0.heap.size ≤ R) (hr : RdAt w R v k) (hk : k ≤ l.length) :
    Calls Try.prog 38 #[.pointer (some ⟨R, 0, none⟩)] w (RdPost w0 w R v k (rdNum (l.drop k)) VNum) := rnumber w0 w R v l k hl hv hB hR hr hk
theorem rdn_ok (l : List Int) (i : Nat) (acc x : Int) (u : Nat) (hl : Byt l) (h0 : 0 ≤ acc) (h1 : acc < 128 ^ i) (h : rdn l i acc = .ok x u) : i < u ∧ u ≤ i + l.length ∧ u ≤ 10 ∧ 0 ≤ x ∧ x < 18446744073709551616 := by
  induction l generalizing i acc with
  | nil => unfold rdn at h; split at h <;> cases h
  | cons c l ih =>
    unfold rdn at h
    have hc := hl c (by simp)
    by_cases h10 : 10 ≤ i
    · rw [if_pos h10] at h; cases h
    · have hs := shift_lt acc c i h0 h1 (by omega) hc.1
      rw [if_neg h10] at h
      by_cases hb : 128 ≤ c
      · rw [if_pos hb] at h
        have := ih (i + 1) _ (fun d hd => hl d (by simp [hd])) hs.2.2 hs.1 h
        simp only [List.length_cons]; omega
      · rw [if_neg hb] at h
        split at h
        · cases h
          simp only [List.length_cons]
          exact ⟨by omega, by omega, by omega, hs.2.2, hs.2.1⟩
        · cases h
theorem rdNum_ok {l : List Int} {x : Int} {u : Nat} (hl : Byt l) (h : rdNum l = .ok x u) : 0 < u ∧ u ≤ l.length ∧ 0 ≤ x ∧ x < 18446744073709551616 := by
  have := rdn_ok l 0 0 x u hl (by omega) (by simp) h
  omega
theorem Byt.drop {l : List Int} (h : Byt l) (k : Nat) : Byt (l.drop k) := fun c hc => h c (List.mem_of_mem_drop hc)
theorem Byt.take {l : List Int} (h : Byt l) (k : Nat) : Byt (l.take k) := fun c hc => h c (List.mem_of_mem_take hc)
/-- What read leaves: the value, the place behind it, no error; or nothing, and the error. -/
def ReadPost {α : Type} (w : World) (k : Int) (r : Rd α) (V : Nat → World → Value → α → Prop) (zero : Value) (e : Ending) (w' : World) : Prop :=
  Ext w w' ∧
  match r with
  | .ok x used => ∃ u, e = .returned (.tuple #[u, .int .i64 (k + used), .int .i64 0]) ∧ V w.heap.size w' u x
  | .no c => e = .returned (.tuple #[zero, .int .i64 0, .int .i64 c])
/-- What stands at a place, if there is such a place. -/
def rdAt {α : Type} (k : Int) (l : List Int) (f : List Int → Rd α) : Rd α := if k < 0 ∨ (l.length : Int) < k then .no 2 else f (l.drop k.toNat)

end Go.Proofs.Ytdjkfjaffhboeaa
