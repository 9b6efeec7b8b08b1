/- The document's Put; a row of numbers struck to zero. -/
import Derived.Test.YtkhmkgobmfhchaaTabX
namespace Go.Proofs.Ytkhmkgobmfhchaa
set_option linter.unusedVariables false
set_option linter.unusedSimpArgs false
open Go.RowKit Go.Shelf Go.Sort

/-- What the document's Put answers while there is room. -/
def refPutN (T : List ByteArray) (s : ByteArray) : Int := if 0 ≤ findF T s then findF T s else T.length
def refPutT (T : List ByteArray) (s : ByteArray) : List ByteArray := if 0 ≤ findF T s then T else T ++ [s]
theorem refPut_is {T : List ByteArray} {S : List Int} {s : ByteArray} {T' : List ByteArray} {S' : List Int} {n : Int} (hp : putF T S s = some (T', S', n)) : refPutN T s = n ∧ refPutT T s = T' := by
  unfold putF at hp
  unfold refPutN refPutT
  split at hp
  · rename_i h
    cases hp
    exact ⟨if_pos h, if_pos h⟩
  · rename_i h
    split at hp
    · cases hp
    · cases hp
      exact ⟨if_neg h, if_neg h⟩

set_option maxHeartbeats 1000000 in
theorem refPut_any (T : List ByteArray) (s : ByteArray) (v : Value) (B : Nat) (w : World) (hT : w.ownsRow B 9 1 v T.length (T.map Value.string)) (hl : T.length < 1024) (hB : B ≤ w.heap.size) :
    Calls Try.prog 21 #[v, .string s] w fun e w' => ∃ u, e = .returned (.tuple #[u, .int .i64 (refPutN T s), .bool true]) ∧ w'.ownsRow B 9 1 u (refPutT T s).length ((refPutT T s).map Value.string) ∧ Ext w w' ∧ ∀ g, u.ownBlock = some g → v.ownBlock = some g ∨ w.heap.size ≤ g := by
  have hS : Strs w v T := Sl.of_own hT
  obtain ⟨a, c, rfl, hc1, hc2⟩ := Sl.shape hS
  have hrf := refFind_any T s _ w hS
  have hfr := findF_range T s
  unfold refPutN refPutT
  generalize findF T s = f at hrf hfr
  have Hrf := Lib.hid hrf
  have HS := Lib.hid hS
  clear hrf hS
  by_cases hf : 0 ≤ f
  · rw [if_pos hf, if_pos hf]
    go_enter Try.func21, Try.ntmps21
    go_wp2_with fail
    refine Hrf.out.mono ?_
    rintro e w' ⟨rfl, rfl⟩
    go_wp2_with fail
    exact bodyPost_ret (v := .tuple #[.slice a T.length c, .int .i64 f, .bool true]) (by simp [results, Try.results21, go_sem]) rfl ⟨_, rfl, hT, Ext.refl _, fun g hg => .inl hg⟩
  · rw [if_neg hf, if_neg hf]
    obtain rfl : f = -1 := by omega
    have hne : ((T.length : Int) == 1024) = false := by simp; omega
    go_enter Try.func21, Try.ntmps21
    go_wp2_with fail
    refine Hrf.out.mono ?_
    rintro e w' ⟨rfl, rfl⟩
    have hx1 := Ext.alloc w (.cells #[] 9)
    go_wp2_with (at_builtin; refine wpList_append_sl _ rfl _ _ 22 rfl elS rfl (own_new w w.heap.size #[] 9 1 0 (Nat.le_refl _) rfl (Nat.zero_le _)) rfl (Strs.ext HS.out hx1) ?_ ?_ ?_ ?_ ?_ ?_)
    · simp
    · intro x hx
      obtain ⟨y, _, rfl⟩ := List.mem_map.1 hx
      rfl
    · omega
    · unfold maxLen; omega
    · simp
    intro v1 w1 hown hb _ _
    have hB1 : Below w.heap.size w w1 := Below.trans hx1 hb
    clear hb hx1
    obtain ⟨g1, c1, rfl⟩ := own_sl hown
    go_wp2_with (at_builtin; refine wpList_append_sl _ rfl _ _ 22 rfl elS rfl (hown.alloc _) rfl (Sl.new _ #[.string s] 9 1 1 (Nat.le_refl _) ?_) rfl ?_ ?_ ?_ ?_ ?_)
    · unfold maxLen; omega
    · rfl
    · omega
    · unfold maxLen; omega
    · have := hB1.size; simp; omega
    intro v2 w2 hown2 hb2 _ _
    have hB2 := (below_step hB1 (Ext.alloc w1 (.cells #[.string s] 9))).trans hb2
    have hlo : ∀ g, v2.ownBlock = some g → w.heap.size ≤ g := fun g hg => (own_lt hown2 hg).1
    have hfin : w2.ownsRow B 9 1 v2 (T ++ [s]).length ((T ++ [s]).map Value.string) := own_base (by rw [List.length_append, List.map_append]; exact hown2) hB
    clear hb2 hown hown2
    obtain ⟨g2, c2, rfl⟩ := own_sl hfin
    go_wp2_with fail
    exact bodyPost_ret (v := .tuple #[.slice g2 _ c2, .int .i64 T.length, .bool true]) (by simp [results, Try.results21, go_sem]) rfl ⟨_, rfl, hfin, hB2, fun g hg => .inr (hlo g hg)⟩

/-- An owned row of numbers, known whole. -/
theorem own_row {w : World} {B n : Nat} {e : TypeId} {a : Option Addr} {m c : Nat} {xs : List Value} (h : w.ownsRow B e 1 (.slice a m c) n xs) (h0 : 0 < n) : ∃ g ys, a = some ⟨g, 0, none⟩ ∧ B ≤ g ∧ RowAt w g e ys ∧ n ≤ ys.length := by
  rcases h.2 with ⟨_, h2⟩ | ⟨g, cap, cur, h1, hb, hg, hn, hm, hc, hx⟩
  · omega
  · cases h1
    exact ⟨g, cur.toList, rfl, hb, hg, by simp; omega⟩
end Go.Proofs.Ytkhmkgobmfhchaa
