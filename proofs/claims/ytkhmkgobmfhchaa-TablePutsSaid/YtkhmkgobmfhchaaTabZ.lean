/- What TablePuts holds from round to round. -/
import Derived.Test.YtkhmkgobmfhchaaTabX
import Derived.Test.YtkhmkgobmfhchaaTabT
namespace Go.Proofs.Ytkhmkgobmfhchaa
set_option linter.unusedVariables false
set_option linter.unusedSimpArgs false
open Go.RowKit Go.Shelf Go.Sort

def cutL (L : List ByteArray) (k : Nat) : List ByteArray := (L.take k).map cutT
theorem cutL_snoc (L : List ByteArray) (k : Nat) (h : k < L.length) : cutL L (k + 1) = cutL L k ++ [cutT L[k]] := by unfold cutL; rw [take_snoc L k h, List.map_append]; rfl
theorem cutL_len (L : List ByteArray) (k : Nat) : (cutL L k).length = min k L.length := by simp [cutL]
theorem cutL_sizes (L : List ByteArray) (k : Nat) : ∀ s ∈ cutL L k, s.size ≤ 9223372036854775807 := by
  intro s hs
  obtain ⟨x, _, rfl⟩ := List.mem_map.1 hs
  have := cutT_size x
  omega

def Apart (u v : Value) : Prop := ∀ g, u.ownBlock = some g → v.ownBlock ≠ some g
theorem own_kept_ne {w w' : World} {B size n : Nat} {e : TypeId} {v : Value} {xs : List Value} {row : Option Nat} (h : w.ownsRow B e size v n xs) (hg : w.grownBy w' row) (hne : ∀ g, row = some g → v.ownBlock ≠ some g) : w'.ownsRow B e size v n xs := by
  refine ⟨h.1, ?_⟩
  rcases h.2 with hn | ⟨k, cap, cur, rfl, hbg, hgg, rest⟩
  · exact .inl hn
  · refine .inr ⟨k, cap, cur, rfl, hbg, ?_, rest⟩
    rw [hg.block k (Array.getElem?_eq_some_iff.1 hgg).1 (fun e => hne k e.symm rfl)]
    exact hgg
theorem own_apart_type {w : World} {B B' size size' n n' : Nat} {e e' : TypeId} {u v : Value} {xs ys : List Value} (h : w.ownsRow B e size u n xs) (h' : w.ownsRow B' e' size' v n' ys) (hne : e ≠ e') : Apart u v := by
  intro g hu hv
  rcases h.2 with ⟨rfl, _⟩ | ⟨k, cap, cur, rfl, _, hk, _⟩
  · cases hu
  · rcases h'.2 with ⟨rfl, _⟩ | ⟨k', cap', cur', rfl, _, hk', _⟩
    · cases hv
    · cases hu
      cases hv
      rw [hk] at hk'
      simp only [Option.some.injEq, Obj.cells.injEq] at hk'
      exact hne hk'.2.1
theorem apart_old {w : World} {B size n : Nat} {e : TypeId} {u v : Value} {xs : List Value} (h : w.ownsRow B e size u n xs) {b : Nat} (hb : w.heap.size ≤ b) (hv : ∀ g, v.ownBlock = some g → b ≤ g) : Apart u v := by
  intro g hu hg
  have h1 := (own_lt h hu).2
  have h2 := hv g hg
  omega
theorem apart_app {w : World} {B size n : Nat} {e : TypeId} {u u' v : Value} {xs : List Value} (h : Apart u v) (happ : AppAt u u' w) (ho : w.ownsRow B e size v n xs) : Apart u' v := by
  intro g hu hv
  rcases happ with e | e
  · exact h g (by rw [← e]; exact hu) hv
  · rw [e] at hu
    cases hu
    have := (own_lt ho hv).2
    omega
theorem row_ne {w : World} {g g' : Nat} {t t' : TypeId} {xs ys : List Value} (h : RowAt w g t xs) (h' : RowAt w g' t' ys) (hne : t ≠ t') : g ≠ g' := by
  rintro rfl
  have h1 : w.heap[g]? = some _ := h
  have h2 : w.heap[g]? = some _ := h'
  rw [h1] at h2
  simp only [Option.some.injEq, Obj.cells.injEq] at h2
  exact hne h2.2.1

structure PutsAt (w3 : World) (X : Nat) (L : List ByteArray) (k8 k : Nat) (s7 s8 s9 : Value) (w : World) (T' : List ByteArray) (S' ns : List Int) (a : Option Addr) (c : Nat) (b : Option Addr) (d : Nat) : Prop where
  ext : Ext w3 w
  o8 : w.ownsRow w3.heap.size 9 1 s8 k8 ((cutL L k8).map Value.string)
  o7 : w.ownsRow w3.heap.size 9 1 s7 T'.length (T'.map Value.string)
  o9 : w.ownsRow w3.heap.size 3 1 s9 k (ns.map (Value.int .i64))
  box : RowAt w X 25 [.slice a T'.length c, .slice b S'.length d]
  oT : w.ownsRow w3.heap.size 9 1 (.slice a T'.length c) T'.length (T'.map Value.string)
  oS : w.ownsRow w3.heap.size 3 1 (.slice b S'.length d) S'.length (S'.map (Value.int .i64))
  a87 : Apart s8 s7
  a8T : Apart s8 (.slice a T'.length c)
  a9S : Apart s9 (.slice b S'.length d)
theorem PutsAt.lift {w3 : World} {X : Nat} {L : List ByteArray} {k8 k : Nat} {s7 s8 s9 : Value} {w w' : World} {T' : List ByteArray} {S' ns : List Int} {a : Option Addr} {c : Nat} {b : Option Addr} {d : Nat} (h : PutsAt w3 X L k8 k s7 s8 s9 w T' S' ns a c b d) (hx : Ext w w') : PutsAt w3 X L k8 k s7 s8 s9 w' T' S' ns a c b d :=
  ⟨h.ext.trans hx, own_ext h.o8 hx, own_ext h.o7 hx, own_ext h.o9 hx, h.box.ext hx, own_ext h.oT hx, own_ext h.oS hx, h.a87, h.a8T, h.a9S⟩
theorem PutsAt.grow8 {w3 : World} {X : Nat} {L : List ByteArray} {k8 k : Nat} {s7 s8 s9 v8 : Value} {w w' : World} {T' : List ByteArray} {S' ns : List Int} {a : Option Addr} {c : Nat} {b : Option Addr} {d : Nat} (h : PutsAt w3 X L k8 k s7 s8 s9 w T' S' ns a c b d)
    (hown : w'.ownsRow w3.heap.size 9 1 v8 (k8 + 1) ((cutL L (k8 + 1)).map Value.string)) (hb : Below w3.heap.size w w') (hg : w.grownBy w' s8.ownBlock) (happ : AppAt s8 v8 w) : PutsAt w3 X L (k8 + 1) k s7 v8 s9 w' T' S' ns a c b d where
  ext := h.ext.trans' hb
  o8 := hown
  o7 := own_kept_ne h.o7 hg h.a87
  o9 := own_kept_ne h.o9 hg (own_apart_type h.o8 h.o9 (by decide))
  box := h.box.kept hg (row_not_own h.box (by decide) h.o8)
  oT := own_kept_ne h.oT hg h.a8T
  oS := own_kept_ne h.oS hg (own_apart_type h.o8 h.oS (by decide))
  a87 := apart_app h.a87 happ h.o7
  a8T := apart_app h.a8T happ h.oT
  a9S := h.a9S

structure PutsIs (L T : List ByteArray) (S : List Int) (k : Nat) (T' : List ByteArray) (S' ns : List Int) : Prop where
  ok : TabOK T' S'
  sizes : ∀ s ∈ T', s.size ≤ 9223372036854775807
  slots : S'.length ≤ 4096
  texts : T'.length ≤ T.length + k
  all : allF (cutL L k) T S [] = some (T', S', ns)
  len : ns.length = k
theorem PutsIs.zero {L T : List ByteArray} {S : List Int} (h : TabOK T S) (hs : ∀ s ∈ T, s.size ≤ 9223372036854775807) (hl : S.length ≤ 4096) : PutsIs L T S 0 T S [] := ⟨h, hs, hl, by omega, rfl, rfl⟩
theorem PutsIs.next {L T : List ByteArray} {S : List Int} {k : Nat} {T' : List ByteArray} {S' ns : List Int} (h : PutsIs L T S k T' S' ns) (hk : k < L.length) (ht : T'.length < 1024) :
    ∃ T2 S2, ∃ n : Nat, Hid (putF T' S' (cutT L[k]) = some (T2, S2, (n : Int))) ∧ PutsIs L T S (k + 1) T2 S2 (ns ++ [(n : Int)]) ∧ n < T2.length := by
  obtain ⟨T2, S2, n, hp⟩ := putF_some (S := S') (s := cutT L[k]) ht
  have ho := putF_ok h.ok hp
  have hn := putF_len hp
  obtain ⟨m, rfl⟩ := Int.eq_ofNat_of_zero_le ho.2.2.2.1
  refine ⟨T2, S2, m, Lib.hid hp, ⟨ho.1, fun s hs => ?_, by have := ho.2.2.1; have := h.slots; omega, by have := h.texts; omega, ?_, by simp [h.len]⟩, by have := ho.2.2.2.2; omega⟩
  · rcases ho.2.1 s hs with h2 | h2
    · exact h.sizes s h2
    · have := cutT_size L[k]
      rw [h2]
      omega
  · rw [cutL_snoc L k hk, allF_append, h.all]
    simp only [allF]
    rw [hp]

/-- What a call of Put left in a box. -/
def PutAt (w0 : World) (T : List ByteArray) (S : List Int) (n : Nat) (s1 s2 s3 : Value) (w : World) : Prop :=
  ∃ B a c b d, s1 = .pointer (some ⟨B, 0, none⟩) ∧ RowAt w B 25 [.slice a T.length c, .slice b S.length d] ∧ w.ownsRow w0.heap.size 9 1 (.slice a T.length c) T.length (T.map Value.string) ∧ w.ownsRow w0.heap.size 3 1 (.slice b S.length d) S.length (S.map (Value.int .i64)) ∧
    s2 = .int .i64 n ∧ s3 = .int .i64 0 ∧ Ext w0 w
theorem PutAt.new {w0 wB wb : World} {T : List ByteArray} {S : List Int} {n : Nat} {a : Option Addr} {c : Nat} {b : Option Addr} {d : Nat} (hx : Ext w0 wb) (hT : wb.ownsRow wB.heap.size 9 1 (.slice a T.length c) T.length (T.map Value.string)) (hS : wb.ownsRow wB.heap.size 3 1 (.slice b S.length d) S.length (S.map (Value.int .i64))) (hs : w0.heap.size ≤ wB.heap.size) :
    PutAt w0 T S n (.pointer (some ⟨wb.heap.size, 0, none⟩)) (.int .i64 n) (.int .i64 0) (wb.alloc (.cells #[.slice a T.length c, .slice b S.length d] 25)) :=
  ⟨_, _, _, _, _, rfl, RowAt.new wb 25 [.slice a T.length c, .slice b S.length d], own_base (own_ext hT (Ext.alloc _ _)) hs, own_base (own_ext hS (Ext.alloc _ _)) hs, rfl, rfl, hx.trans (Ext.alloc _ _)⟩
theorem PutAt.put {w0 wB wb : World} {T : List ByteArray} {S : List Int} {n : Nat} {a : Option Addr} {c : Nat} {b : Option Addr} {d g : Nat} (hx : Ext w0 wb) (hT : wb.ownsRow wB.heap.size 9 1 (.slice a T.length c) T.length (T.map Value.string)) (hS : wb.ownsRow wB.heap.size 3 1 (.slice b S.length d) S.length (S.map (Value.int .i64))) (hs : w0.heap.size ≤ wB.heap.size)
    {u0 u1 : Value} (hz : RowAt wb g 25 [u0, u1]) (hg : w0.heap.size ≤ g) :
    PutAt w0 T S n (.pointer (some ⟨g, 0, none⟩)) (.int .i64 n) (.int .i64 0) ((wb.setCell ⟨g, 0, none⟩ (.slice a T.length c)).setCell ⟨g, 1, none⟩ (.slice b S.length d)) :=
  ⟨_, _, _, _, _, rfl, (hz.set 0 _).set 1 _, own_base (own_set_ne (own_set_ne hT (row_not_own hz (by decide) hT) 0 _) (row_not_own hz (by decide) hT) 1 _) hs, own_base (own_set_ne (own_set_ne hS (row_not_own hz (by decide) hS) 0 _) (row_not_own hz (by decide) hS) 1 _) hs, rfl, rfl, below_set2 hx hg _ _⟩
theorem RowAt.facts {w : World} {g : Nat} {t : TypeId} {u0 u1 : Value} (h : RowAt w g t [u0, u1]) : w.cell? ⟨g, 0, none⟩ = some u0 ∧ w.cell? ⟨g, 1, none⟩ = some u1 ∧ w.frozen? ⟨g, 0, none⟩ = false ∧ w.frozen? ⟨g, 1, none⟩ = false :=
  ⟨h.cell (i := 0) rfl, h.cell (i := 1) rfl, h.frozen 0, h.frozen 1⟩

/-- All that stands behind a Put, until the row of slots is struck. -/
structure GotAt (w3 : World) (P X X12 X13 : Nat) (L : List ByteArray) (k : Nat) (s7 s8 s9 s16 : Value) (w : World) (T' : List ByteArray) (S' ns : List Int) (a : Option Addr) (c : Nat) (b : Option Addr) (d : Nat)
    (a12 : Option Addr) (c12 : Nat) (b12 : Option Addr) (d12 : Nat) (T2 : List ByteArray) (S2 : List Int) (a13 : Option Addr) (c13 : Nat) (b13 : Option Addr) (d13 : Nat) : Prop where
  puts : PutsAt w3 X L (k + 1) k s7 s8 s9 w T' S' ns a c b d
  r12 : RowAt w X12 25 [.slice a12 T'.length c12, .slice b12 S'.length d12]
  t12 : Strs w (.slice a12 T'.length c12) T'
  s12 : Ints w .i64 (.slice b12 S'.length d12) S'
  r13 : RowAt w X13 25 [.slice a13 T2.length c13, .slice b13 S2.length d13]
  o13T : w.ownsRow P 9 1 (.slice a13 T2.length c13) T2.length (T2.map Value.string)
  o13S : w.ownsRow P 3 1 (.slice b13 S2.length d13) S2.length (S2.map (Value.int .i64))
  o16 : w.ownsRow w3.heap.size 9 1 s16 T2.length (T2.map Value.string)
theorem GotAt.lift {w3 : World} {P X X12 X13 : Nat} {L : List ByteArray} {k : Nat} {s7 s8 s9 s16 : Value} {w w' : World} {T' : List ByteArray} {S' ns : List Int} {a : Option Addr} {c : Nat} {b : Option Addr} {d : Nat}
    {a12 : Option Addr} {c12 : Nat} {b12 : Option Addr} {d12 : Nat} {T2 : List ByteArray} {S2 : List Int} {a13 : Option Addr} {c13 : Nat} {b13 : Option Addr} {d13 : Nat}
    (h : GotAt w3 P X X12 X13 L k s7 s8 s9 s16 w T' S' ns a c b d a12 c12 b12 d12 T2 S2 a13 c13 b13 d13) (hx : Ext w w') : GotAt w3 P X X12 X13 L k s7 s8 s9 s16 w' T' S' ns a c b d a12 c12 b12 d12 T2 S2 a13 c13 b13 d13 :=
  ⟨h.puts.lift hx, h.r12.ext hx, h.t12.ext hx, h.s12.ext hx, h.r13.ext hx, own_ext h.o13T hx, own_ext h.o13S hx, own_ext h.o16 hx⟩
theorem PutsAt.turn {w3 : World} {X : Nat} {L : List ByteArray} {k : Nat} {s7 s8 s9 v9 s16 : Value} {w w' : World} {T' : List ByteArray} {S' ns : List Int} {a : Option Addr} {c : Nat} {b : Option Addr} {d : Nat} (h : PutsAt w3 X L (k + 1) k s7 s8 s9 w T' S' ns a c b d) (hX : w3.heap.size ≤ X)
    {T2 : List ByteArray} {S2 ns2 : List Int} {aH : Option Addr} {cH : Nat} {bH : Option Addr} {dH : Nat}
    (hown : w'.ownsRow w3.heap.size 3 1 v9 (k + 1) (ns2.map (Value.int .i64))) (hb : Below w3.heap.size w w') (hg : w.grownBy w' s9.ownBlock) (happ : AppAt s9 v9 w)
    (h16 : w.ownsRow w3.heap.size 9 1 s16 T2.length (T2.map Value.string)) (hHT : w.ownsRow w3.heap.size 9 1 (.slice aH T2.length cH) T2.length (T2.map Value.string)) (hHS : w.ownsRow w3.heap.size 3 1 (.slice bH S2.length dH) S2.length (S2.map (Value.int .i64)))
    (a816 : Apart s8 s16) (a8H : Apart s8 (.slice aH T2.length cH)) (a9H : Apart s9 (.slice bH S2.length dH)) :
    PutsAt w3 X L (k + 1) (k + 1) s16 s8 v9 ((w'.setCell ⟨X, 0, none⟩ (.slice aH T2.length cH)).setCell ⟨X, 1, none⟩ (.slice bH S2.length dH)) T2 S2 ns2 aH cH bH dH :=
  have hbx := h.box.kept hg (row_not_own h.box (by decide) h.o9)
  have o8 := own_kept_ne h.o8 hg (own_apart_type h.o9 h.o8 (by decide))
  have o7 := own_kept_ne h16 hg (own_apart_type h.o9 h16 (by decide))
  have oT := own_kept_ne hHT hg (own_apart_type h.o9 hHT (by decide))
  have oS := own_kept_ne hHS hg a9H
  { ext := below_set2 (h.ext.trans' hb) hX _ _
    o8 := own_set_ne (own_set_ne o8 (row_not_own hbx (by decide) o8) 0 _) (row_not_own hbx (by decide) o8) 1 _
    o7 := own_set_ne (own_set_ne o7 (row_not_own hbx (by decide) o7) 0 _) (row_not_own hbx (by decide) o7) 1 _
    o9 := own_set_ne (own_set_ne hown (row_not_own hbx (by decide) hown) 0 _) (row_not_own hbx (by decide) hown) 1 _
    box := (hbx.set 0 _).set 1 _
    oT := own_set_ne (own_set_ne oT (row_not_own hbx (by decide) oT) 0 _) (row_not_own hbx (by decide) oT) 1 _
    oS := own_set_ne (own_set_ne oS (row_not_own hbx (by decide) oS) 0 _) (row_not_own hbx (by decide) oS) 1 _
    a87 := a816
    a8T := a8H
    a9S := apart_app a9H happ hHS }
end Go.Proofs.Ytkhmkgobmfhchaa
