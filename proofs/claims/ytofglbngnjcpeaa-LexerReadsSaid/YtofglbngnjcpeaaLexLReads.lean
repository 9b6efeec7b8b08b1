/- LexerReads: the walk. -/
import Derived.Test.YtofglbngnjcpeaaLexK
import Derived.Test.YtofglbngnjcpeaaLexW
namespace Go.Proofs.Ytofglbngnjcpeaa
set_option maxRecDepth 100000
set_option maxHeartbeats 2000000
set_option linter.unusedVariables false
set_option linter.unusedSimpArgs false
open Go.RowKit

theorem reads_walk (s : ByteArray) (w : World) (hs : s.size ≤ 9223372036854775807) :
    Calls Try.prog 3 #[.string s] w fun e w' => e = .returned (.bool true) ∧ Ext w w' := by
  go_enter Try.func3, Try.ntmps3
  go_wp2_with fail
  refine (wakes_any _).mono ?_
  rintro e w1 ⟨rfl, hx1⟩
  go_wp2_with fail
  have hcs : (s.extract 0 (min (s.size : Int) 600).toNat).size ≤ 9223372036854775807 := by simp; omega
  generalize s.extract 0 (min (s.size : Int) 600).toNat = s' at hcs
  refine (read_any s' _ hcs).mono ?_
  rintro e w2 hp1
  obtain ⟨v1, rfl, ht1, hx2⟩ := hp1.toks
  go_wp2_with fail
  refine (refRead_any s' _ hcs).mono ?_
  rintro e w3 hp2
  obtain ⟨v2, rfl, ht2, hx3⟩ := hp2.toks
  have HT1 := Lib.hid (ht1.ext hx3)
  have HT2 := Lib.hid ht2
  clear hp1 hp2 ht1 ht2
  generalize readF (bts s') = R at *
  obtain ⟨l, n, er⟩ := R
  dsimp only at *
  go_wp2_with fail
  refine (eqToks_yes _ _ l _ HT1.out HT2.out).mono ?_
  rintro e w4 ⟨rfl, hx4⟩
  go_wp2_with fail
  go_ret
  exact ⟨rfl, (by repeat (first | exact Ext.refl _ | with_reducible refine Ext.alloc_of ?_ _ | with_reducible refine Ext.drewN_of ?_ _ | with_reducible refine Ext.drew_of ?_ | (with_reducible refine Ext.set_of ?_ ?hsz _; case hsz => ((first | exact Nat.le_refl _ | omega | (simp; omega)))) | with_reducible refine Ext.via (by assumption) ?_))⟩
end Go.Proofs.Ytofglbngnjcpeaa
