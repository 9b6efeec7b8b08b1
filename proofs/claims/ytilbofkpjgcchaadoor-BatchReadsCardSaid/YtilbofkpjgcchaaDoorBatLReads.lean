/- The walk of BatchReads. -/
import Derived.Test.YtilbofkpjgcchaaDoorBatRr
namespace Go.Proofs.YtilbofkpjgcchaaDoor
set_option maxRecDepth 100000
set_option maxHeartbeats 2000000
set_option linter.unusedVariables false
set_option linter.unusedSimpArgs false
open Go.RowKit

theorem reads_walk (s : ByteArray) (w : World) (hs : s.size ≤ 9223372036854775807) (hW : Ways w) :
    Calls Tryd.prog 5 #[.string s] w fun e w' => e = .returned (.bool true) ∧ Ext w w' := by
  go_enter Tryd.func5, Tryd.ntmps5
  go_wp2_with fail
  refine (wakes_any _ hW).mono ?_
  rintro e w1 ⟨rfl, hx1⟩
  go_upto_region 4 with fail
  have z1 : (s.extract 0 (min (s.size : Int) 5000).toNat).size ≤ 5000 := by simp; omega
  generalize s.extract 0 (min (s.size : Int) 5000).toNat = s' at *
  have hra := read_go s' w1 (by omega) (hW.ext hx1)
  have hrr := fun w => refRead_any s' w (by omega)
  obtain ⟨⟨l, p, q⟩, hR⟩ : ∃ R, readF (bts s') = R := ⟨_, rfl⟩
  rw [hR] at hra hrr
  dsimp only at hrr
  have HRA := Lib.hid hra
  have HRR := Lib.hid hrr
  clear hra hrr hR
  go_wp2_with fail
  refine HRA.out.mono ?_
  rintro e wa hp
  obtain ⟨v1, rfl, hb1, hxa⟩ := hp.chs
  clear hp
  dsimp only at hb1 ⊢
  go_wp2_with fail
  refine (HRR.out _).mono ?_
  rintro e wb ⟨v2, rfl, hb2, hxb⟩
  have heq := eqChs_yes v1 v2 l wb (hb1.ext hxb) hb2
  have HEQ := Lib.hid heq
  clear heq hb1 hb2
  go_wp2_with fail
  refine HEQ.out.mono ?_
  rintro e wc ⟨rfl, hxc⟩
  go_wp2_with fail
  go_ret
  exact ⟨rfl, hx1.trans (hxa.trans (hxb.trans hxc))⟩
end Go.Proofs.YtilbofkpjgcchaaDoor
