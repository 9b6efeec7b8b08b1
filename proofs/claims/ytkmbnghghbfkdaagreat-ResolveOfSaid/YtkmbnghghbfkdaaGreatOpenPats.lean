/- An argument that is a row of patterns. -/
import Derived.Test.YtkmbnghghbfkdaaGreatGp21
import Derived.Test.YtkmbnghghbfkdaaGreatGp36
set_option linter.unusedSimpArgs false
set_option linter.unusedVariables false
set_option maxHeartbeats 2000000
set_option maxRecDepth 100000

namespace Go.Proofs.YtkmbnghghbfkdaaGreat
open Go.ChangeShapes Go.WideShapes Go.ChangeAt Go.RowKit Go.Deep
abbrev PatM := (Value × Value × Value) × Pat
def patmL (x : PatM) : List Value := patL x.1.1 x.1.2.1 x.1.2.2 x.2
def PatmAt (w : World) (x : PatM) : Prop := Ats w x.1.1 x.2.atoms ∧ Strs w x.1.2.1 x.2.ret ∧ Strs w x.1.2.2 x.2.hint
def PatsV (w : World) (v : Value) (xs : List PatM) : Prop := Sl w v xs.length (xs.flatMap patmL) ∧ ∀ x ∈ xs, PatmAt w x
theorem PatsV.ext {w w' : World} {v : Value} {xs : List PatM} (h : PatsV w v xs) (hx : Ext w w') : PatsV w' v xs :=
 ⟨Sl.ext h.1 hx, fun x hm => ⟨(h.2 x hm).1.ext hx, Strs.ext (h.2 x hm).2.1 hx, Strs.ext (h.2 x hm).2.2 hx⟩⟩
theorem PatsV.at_ {w : World} {a : Option Addr} {n c : Nat} {xs : List PatM} (h : PatsV w (.slice a n c) xs) {k : Nat} (hk : k < xs.length) : ∃ b o, a = some ⟨b, o, none⟩ ∧ ∀ j v, (patmL xs[k])[j]? = some v → w.cell? ⟨b, o + k * 8 + j, none⟩ = some v := by
 obtain ⟨a', c', e, _, _, hc⟩ := h.1
 simp only [Value.slice.injEq] at e
 obtain ⟨rfl, _, rfl⟩ := e
 have hlen := flatMap_len patmL 8 (fun _ => rfl) xs
 obtain ⟨b, o, rfl, hcell⟩ := hc (by omega)
 refine ⟨b, o, rfl, fun j v hj => ?_⟩
 have hj8 : j < 8 := (List.getElem?_eq_some_iff.1 hj).1
 have hh := flatMap_at patmL 8 (fun _ => rfl) xs k j hk hj8
 rw [Nat.add_assoc]
 exact hcell _ _ (hh.trans hj)
theorem eightL {α : Type} {cs : List α} (h : cs.length = 8) : ∃ c0 c1 c2 c3 c4 c5 c6 c7, cs = [c0, c1, c2, c3, c4, c5, c6, c7] := by
 match cs, h with
 | [c0, c1, c2, c3, c4, c5, c6, c7], _ => exact ⟨c0, c1, c2, c3, c4, c5, c6, c7, rfl⟩
theorem open_patm {H : Type} {enc : TypeId × Value → H} {w : World} {base : Nat} {spare : Nat → Bool} {held : Bool} {m : Nat} {cs : List Value} {z : DataW H × List MemPlace}
 (hf0 : DataW.trod enc Tryz.prog w base spare held m 35 cs = some z) (hl : Light Tryz.prog 35 z.1) : ∃ x : PatM, cs = patmL x ∧ PatmAt w x ∧ x.2.Near := by
 obtain ⟨xs, n, _, hz, hlc, hlen, hf⟩ := DataW.trod_struct Tryz.underlying35 hf0
 rw [hz] at hl
 rw [show Tryz.prog.cellsOf 35 = 8 from by kernel_rfl] at hlc
 obtain ⟨c0, c1, c2, c3, c4, c5, c6, c7, rfl⟩ := eightL hlc
 have hlen' : xs.length = 8 := hlen
 obtain ⟨x0, x1, x2, x3, x4, x5, x6, x7, rfl⟩ : ∃ x0 x1 x2 x3 x4 x5 x6 x7, xs = [x0, x1, x2, x3, x4, x5, x6, x7] := by
  match xs, hlen' with
  | [x0, x1, x2, x3, x4, x5, x6, x7], _ => exact ⟨x0, x1, x2, x3, x4, x5, x6, x7, rfl⟩
 have h0 : DataW.trod enc Tryz.prog w base spare held n 33 [c0] = some x0 := hf 0 _ rfl
 have h1 : DataW.trod enc Tryz.prog w base spare held n 22 [c1] = some x1 := hf 1 _ rfl
 have h2 : DataW.trod enc Tryz.prog w base spare held n 4 [c2] = some x2 := hf 2 _ rfl
 have h3 : DataW.trod enc Tryz.prog w base spare held n 4 [c3] = some x3 := hf 3 _ rfl
 have h4 : DataW.trod enc Tryz.prog w base spare held n 4 [c4] = some x4 := hf 4 _ rfl
 have h5 : DataW.trod enc Tryz.prog w base spare held n 3 [c5] = some x5 := hf 5 _ rfl
 have h6 : DataW.trod enc Tryz.prog w base spare held n 3 [c6] = some x6 := hf 6 _ rfl
 have h7 : DataW.trod enc Tryz.prog w base spare held n 22 [c7] = some x7 := hf 7 _ rfl
 have l0 : Light Tryz.prog 33 x0.1 := light_part (i := 0) Tryz.underlying35 hl rfl rfl
 obtain ⟨A, hA, hAn⟩ := open_atoms h0 l0
 obtain ⟨R, hR⟩ := open_texts h1
 obtain ⟨K, hK⟩ := open_texts h7
 obtain ⟨b2, e2, _⟩ := DataW.trod_bool Tryz.underlying4 h2
 obtain ⟨b3, e3, _⟩ := DataW.trod_bool Tryz.underlying4 h3
 obtain ⟨b4, e4, _⟩ := DataW.trod_bool Tryz.underlying4 h4
 obtain ⟨q5, e5, _, w5⟩ := DataW.trod_int Tryz.underlying3 h5
 obtain ⟨q6, e6, _, w6⟩ := DataW.trod_int Tryz.underlying3 h6
 simp at e2 e3 e4 e5 e6
 subst e2 e3 e4 e5 e6
 have b5 := bd_i64 w5
 have b6 := bd_i64 w6
 exact ⟨((c0, c1, c7), ⟨A, R, b2, b3, b4, q5, q6, K⟩), rfl, ⟨hA, hR, hK⟩, hAn, b5.1, b5.2, b6.1, b6.2⟩
theorem open_pats {H : Type} {enc : TypeId × Value → H} {w : World} {M : Reach} {base base' : Nat} {spare : Nat → Bool} {held : Bool} {v : Value} {d : DataW H} {p : List MemPlace}
 (ho : Value.okWide Tryz.prog w M base' 29 v) (h : DataW.Trod enc Tryz.prog w base spare held 29 v d p) (hl : Light Tryz.prog 29 d) :
 ∃ xs : List PatM, PatsV w v xs ∧ ∀ x ∈ xs, x.2.Near := by
 obtain ⟨a0, len0, cap0, rfl⟩ := okWide_slice Tryz.underlying29 ho
 obtain ⟨fuel, hf⟩ := h
 have hf' : DataW.trod enc Tryz.prog w base spare held fuel 29 [.slice a0 len0 cap0] = some (d, p) := by simpa [Value.cells] using hf
 have hC : Tryz.prog.cellsOf 35 = 8 := by kernel_rfl
 rcases open_slice Tryz.underlying29 hf' with ⟨hcs, _⟩ | ⟨x, len, cap, m, n, D, Pl, hcs, _, hlc, hm, hz, hx, hcell⟩
 ·simp at hcs
  obtain ⟨rfl, rfl, rfl⟩ := hcs
  exact ⟨[], ⟨Sl.nil w, fun t ht => by cases ht⟩, fun t ht => by cases ht⟩
 ·simp at hcs
  obtain ⟨rfl, rfl, rfl⟩ := hcs
  have hlm : len0 ≤ m := by split at hz <;> omega
  obtain ⟨rfl, _⟩ := Prod.mk.inj hx
  rw [hC] at hcell
  obtain ⟨xs, hx1, hx2⟩ := choose_row len0 (fun i (t : PatM) => (∀ j v, (patmL t)[j]? = some v → w.cell? (x.add (i * 8 + j)) = some v) ∧ PatmAt w t ∧ t.2.Near) (fun i hi => by
   obtain ⟨cs', hc, ht⟩ := hcell i (by omega)
   obtain ⟨a, rfl, hn1, hn2⟩ := open_patm ht (light_elem Tryz.underlying29 hl (List.mem_map.2 ⟨i, by simpa using hi, rfl⟩))
   obtain ⟨_, hcl, hat⟩ := World.cells?_some hc
   refine ⟨a, fun j v hj => ?_, hn1, hn2⟩
   have hjl : j < 8 := (List.getElem?_eq_some_iff.1 hj).1
   have := hat j hjl
   rw [Go.Deep.add_add] at this
   rw [this, hj])
  refine ⟨xs, ⟨?_, fun t ht => ?_⟩, fun t ht => ?_⟩
  ·have := sl_of_rows (w := w) (x := x) patmL (m := 8) (fun _ => rfl) (by omega) hlc hm xs hx1 (fun i hi j v hj => (hx2 i hi).1 j v hj)
   rw [hx1]; exact this
  ·obtain ⟨i, hi, rfl⟩ := List.getElem_of_mem ht
   exact (hx2 i hi).2.1
  ·obtain ⟨i, hi, rfl⟩ := List.getElem_of_mem ht
   exact (hx2 i hi).2.2
end Go.Proofs.YtkmbnghghbfkdaaGreat
