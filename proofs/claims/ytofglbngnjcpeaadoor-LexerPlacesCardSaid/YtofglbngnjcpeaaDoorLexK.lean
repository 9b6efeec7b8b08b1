/- Does the layer do anything? It does. -/
import Derived.Test.YtofglbngnjcpeaaDoorLexR
import Derived.Test.YtofglbngnjcpeaaDoorLexN
import Derived.Test.YtofglbngnjcpeaaDoorLexX
namespace Go.Proofs.YtofglbngnjcpeaaDoor
set_option maxRecDepth 100000
set_option maxHeartbeats 2000000
set_option linter.unusedVariables false
set_option linter.unusedSimpArgs false
open Go.RowKit

def wakeToks : List Tk := [⟨4, txt [], 0⟩, ⟨1, txt [120], 1⟩, ⟨5, txt [], 2⟩, ⟨10, txt [], 3⟩, ⟨1, txt [107, 110, 111, 119, 115], 5⟩, ⟨11, txt [], 10⟩, ⟨4, txt [], 13⟩, ⟨2, txt [98, 111, 98], 14⟩, ⟨5, txt [], 18⟩]
theorem wake1 : readF (bts ⟨#[40, 120, 41, 45, 91, 107, 110, 111, 119, 115, 93, 45, 62, 40, 64, 98, 111, 98, 41]⟩) = (wakeToks, 19, 0) := by kernel_rfl
theorem wake2 : readF (bts ⟨#[120, 32, 59, 32, 121]⟩) = ([], 2, 250) := by kernel_rfl
theorem wake3 : Tk.number ⟨1, ⟨#[49, 48]⟩, 0⟩ = some 10 := by kernel_rfl
theorem ReadPost.toks {w w' : World} {r : List Tk × Int × Int} {e : Ending} (h : ReadPost w r e w') : ∃ v, e = .returned (.tuple #[v, .int .i64 r.2.1, .int .i64 r.2.2]) ∧ Toks w' v r.1 ∧ Ext w w' := by
  obtain ⟨v, he, ho, hx⟩ := h
  exact ⟨v, he, Sl.of_own ho, hx⟩
theorem wakes_any (w : World) : Calls Tryd.prog 4 #[] w fun e w' => e = .returned (.bool true) ∧ Ext w w' := by
  go_enter Tryd.func4, Tryd.ntmps4
  go_wp2_with fail
  refine (read_any _ _ (by decide)).mono ?_
  rintro e w1 hp1
  rw [wake1] at hp1
  obtain ⟨v1, rfl, ht1, hx1⟩ := hp1.toks
  dsimp only at ht1
  go_wp2_with fail
  refine (read_any _ _ (by decide)).mono ?_
  rintro e w2 hp2
  rw [wake2] at hp2
  obtain ⟨v2, rfl, _, hx2⟩ := hp2.toks
  dsimp only
  go_wp2_with fail
  refine (number_any ⟨1, ⟨#[49, 48]⟩, 0⟩ _ (by decide)).mono ?_
  rintro e w3 ⟨rfl, hx3⟩
  rw [wake3]
  unfold numE
  dsimp only
  have ht3 := (ht1.ext hx2).ext hx3
  obtain ⟨a, c, rfl, _, _⟩ := ht3.shape
  obtain ⟨b, o, rfl, p0, p1, p2⟩ := ht3.at_ (k := 3) (by decide)
  obtain ⟨_, _, e1, q0, q1, q2⟩ := ht3.at_ (k := 5) (by decide)
  cases e1
  obtain ⟨_, _, e1, s0, s1, s2⟩ := ht3.at_ (k := 7) (by decide)
  cases e1
  replace p0 : w3.cell? ⟨b, o + 3 * 3, none⟩ = some (.int .i64 10) := p0
  replace q0 : w3.cell? ⟨b, o + 5 * 3, none⟩ = some (.int .i64 11) := q0
  replace s0 : w3.cell? ⟨b, o + 7 * 3, none⟩ = some (.int .i64 2) := s0
  replace s1 : w3.cell? ⟨b, o + 7 * 3 + 1, none⟩ = some (.string ⟨#[98, 111, 98]⟩) := s1
  replace s2 : w3.cell? ⟨b, o + 7 * 3 + 2, none⟩ = some (.int .i64 14) := s2
  have hlen : wakeToks.length = 9 := rfl
  rw [hlen]
  clear hp1 hp2 ht1 ht3 p1 p2 q1 q2
  go_wp2_with fail
  go_ret
  exact ⟨rfl, (by repeat (first | exact Ext.refl _ | with_reducible assumption | with_reducible refine Ext.alloc_of ?_ _ | with_reducible refine Ext.drewN_of ?_ _ | with_reducible refine Ext.drew_of ?_ | (with_reducible refine Ext.set_of ?_ ?hsz _; case hsz => ((first | exact Nat.le_refl _ | omega | (simp; omega)))) | with_reducible refine Ext.via (by assumption) ?_))⟩
end Go.Proofs.YtofglbngnjcpeaaDoor
