/- The reference's Read. -/
import Derived.Test.YtofglbngnjcpeaaDoorLexV
import Derived.Test.YtofglbngnjcpeaaDoorLexR
namespace Go.Proofs.YtofglbngnjcpeaaDoor
set_option maxRecDepth 100000
set_option maxHeartbeats 2000000
set_option linter.unusedVariables false
set_option linter.unusedSimpArgs false
open Go.RowKit

theorem begL_kind0 {l : List UInt8} (h : (begL l).2.2 = 0) : (begL l).1 = 0 := by rw [begL_zero h]; rfl
theorem begL_kind1 {l : List UInt8} (h : (begL l).2.2 ≠ 0) : (begL l).1 ≠ 0 := by have := (begL_is (Nat.pos_of_ne_zero h)).kind; omega
theorem skipL_yes {s : ByteArray} {p : Nat} (h : p < s.size) (hb : blankC s[p].toNat = true) : skipL (bts s) p = skipL (bts s) (p + 1) := by
  unfold skipL; rw [spanL_drop_yes h hb]; omega
theorem skipL_no {s : ByteArray} {p : Nat} (h : p < s.size) (hb : blankC s[p].toNat = false) : skipL (bts s) p = p := by
  unfold skipL; rw [spanL_drop_no h hb]; rfl
theorem readF_bad {s : List UInt8} (hs : s.length ≤ 500) {toks : List Tk} {t : Tk} (h : yields s = toks ++ [t]) (hk : ∀ x ∈ toks, x.kind ≠ 0) (h0 : t.kind = 0) : readF s = ([], t.at_, 250) := by
  unfold readF
  rw [if_neg (by omega), h, List.find?_append, List.find?_eq_none.2 (fun x hx => by simpa using hk x hx)]
  simp [h0]
theorem readF_good {s : List UInt8} (hs : s.length ≤ 500) (hk : ∀ x ∈ yields s, x.kind ≠ 0) : readF s = (yields s, ((s.length : Nat) : Int), 0) := by
  unfold readF
  rw [if_neg (by omega), List.find?_eq_none.2 (fun x hx => by simpa using hk x hx)]

end Go.Proofs.YtofglbngnjcpeaaDoor
