/- An argument that is a row of bools. -/
import Derived.Test.YtofglbngnjcpeaaOpenB
import Derived.Test.YtofglbngnjcpeaaProg
namespace Go.Proofs.Ytofglbngnjcpeaa
set_option maxRecDepth 100000
set_option maxHeartbeats 2000000
set_option linter.unusedVariables false
set_option linter.unusedSimpArgs false
open Go.ChangeShapes Go.WideShapes Go.ChangeAt Go.RowKit

def Bools (w : World) (v : Value) (l : List Bool) : Prop := Sl w v l.length (l.map Value.bool)
theorem Bools.ext {w w' : World} {v : Value} {l : List Bool} (h : Bools w v l) (hx : Ext w w') : Bools w' v l := Sl.ext h hx
theorem Bools.shape {w : World} {v : Value} {l : List Bool} (h : Bools w v l) : ∃ a c, v = .slice a l.length c ∧ l.length ≤ c ∧ c ≤ 9223372036854775807 := Sl.shape h
theorem Bools.at_ {w : World} {a : Option Addr} {n c : Nat} {l : List Bool} (h : Bools w (.slice a n c) l) {k : Nat} (hk : k < l.length) : ∃ b o, a = some ⟨b, o, none⟩ ∧ w.cell? ⟨b, o + k, none⟩ = some (.bool l[k]) := by
  obtain ⟨a', c', e, h1⟩ := id h
  simp only [Value.slice.injEq] at e
  obtain ⟨_, rfl, _⟩ := e
  obtain ⟨b, o, rfl, hc⟩ := Sl.at_ h (by simpa using hk : k < (l.map Value.bool).length)
  exact ⟨b, o, rfl, by simpa using hc⟩
theorem open_bools {H : Type} {enc : TypeId × Value → H} {w : World} {M : Reach} {base base' : Nat} {spare : Nat → Bool} {held : Bool} {v : Value} {d : DataW H} {p : List MemPlace}
    (ho : Value.okWide Try.prog w M base' 31 v) (h : DataW.Trod enc Try.prog w base spare held 31 v d p) : ∃ l, Bools w v l := by
  obtain ⟨a, len, cap, rfl⟩ := okWide_slice Try.underlying31 ho
  obtain ⟨xs, h1, h2⟩ := open_Sl1 Try.underlying31 (by kernel_rfl) h (fun v (b : Bool) => v = .bool b) (fun v y n hy => by
    obtain ⟨b, e1, _⟩ := DataW.trod_bool Try.underlying4 hy
    simp at e1
    exact ⟨b, e1⟩)
  refine ⟨xs.map Prod.snd, ?_⟩
  unfold Bools
  rw [List.length_map, ← pairs_eq Value.bool xs h2]
  exact h1
end Go.Proofs.Ytofglbngnjcpeaa
