/- Made rows, copied onto. No program in sight. -/
import Derived.Test.YtogoejlbdbapoaaOpenB
import Derived.Test.YtogoejlbdbapoaaOver
import Derived.Laws.CopyOwn
import Derived.Laws.IdiomCopy
import Derived.Laws.MakeOwn
namespace Go.Proofs.Ytogoejlbdbapoaa
set_option maxRecDepth 100000
set_option maxHeartbeats 2000000
set_option linter.unusedSimpArgs false
open Go.RowKit Go.Sort
set_option linter.unusedVariables false

theorem run_make_el {P : Program} {t e : TypeId} {z : Value} {size bytes : Nat} (T : ElT P t e z size bytes) (n : Nat) (hb : bytes * n ≤ 281474976710656) (h63 : n ≤ 9223372036854775807) (w : World) :
    (Instr.makeSlice t (.int .i64 n) (.int .i64 n)).run P w = .ok (.slice (some ⟨w.heap.size, 0, none⟩) n n) (w.alloc (.cells (madeCells z.cells (n * size)) e)) := by
  obtain ⟨i, hi, hz, hsz, hby⟩ := T.info
  subst hsz hby
  have h1 : (i.bytes : Int) * (n : Int) ≤ 281474976710656 := by
    have : ((i.bytes * n : Nat) : Int) ≤ 281474976710656 := by omega
    rwa [Int.natCast_mul] at this
  have hr := run_make (P := P) w t e i z T.under hi hz .i64 .i64 (n : Int) (n : Int) (by omega) (by omega) h1 (by omega)
  simpa using hr

/-- A row whose cells are known whole. -/
def RowAt (w : World) (g : Nat) (t : TypeId) (xs : List Value) : Prop := w.heap[g]? = some (.cells xs.toArray t (0, 0))
theorem RowAt.lt {w : World} {g : Nat} {t : TypeId} {xs : List Value} (h : RowAt w g t xs) : g < w.heap.size := (Array.getElem?_eq_some_iff.1 h).1
theorem RowAt.kept {w w' : World} {g : Nat} {t : TypeId} {xs : List Value} {row : Option Nat} (h : RowAt w g t xs) (hg : w.grownBy w' row) (hne : row ≠ some g) : RowAt w' g t xs := (hg.block g h.lt (fun e => hne e.symm)).trans h
theorem RowAt.ext {w w' : World} {g : Nat} {t : TypeId} {xs : List Value} (h : RowAt w g t xs) (hx : Ext w w') : RowAt w' g t xs := (hx.block g h.lt).trans h
theorem RowAt.below {B : Nat} {w w' : World} {g : Nat} {t : TypeId} {xs : List Value} (h : RowAt w g t xs) (hx : Below B w w') (hB : g < B) : RowAt w' g t xs := (hx.block g hB).trans h
theorem RowAt.new (w : World) (t : TypeId) (xs : List Value) : RowAt (w.alloc (.cells xs.toArray t)) w.heap.size t xs := World.alloc_heap_new w _
theorem row_at {w : World} {t : TypeId} {xs : List Value} {h : Nat} (hh : w.heap.size = h) : RowAt (w.alloc (.cells xs.toArray t)) h t xs := hh ▸ RowAt.new w t xs
theorem RowAt.cell {w : World} {g : Nat} {t : TypeId} {xs : List Value} (h : RowAt w g t xs) {i : Nat} {v : Value} (hi : xs[i]? = some v) : w.cell? ⟨g, i, none⟩ = some v := by
  simp [World.cell?, show w.heap[g]? = _ from h, hi]
theorem RowAt.frozen {w : World} {g : Nat} {t : TypeId} {xs : List Value} (h : RowAt w g t xs) (i : Nat) : w.frozen? ⟨g, i, none⟩ = false := by simp [World.frozen?, show w.heap[g]? = _ from h]
theorem RowAt.set {w : World} {g : Nat} {t : TypeId} {xs : List Value} (h : RowAt w g t xs) (i : Nat) (v : Value) : RowAt (w.setCell ⟨g, i, none⟩ v) g t (xs.set i v) := by
  obtain ⟨hlt, hk⟩ := Array.getElem?_eq_some_iff.1 h
  show (w.heap.modify g _)[g]? = _
  rw [Array.getElem?_eq_getElem (by rw [Array.size_modify]; exact hlt), Array.getElem_modify_self, hk]
  simp
theorem RowAt.sl {w : World} {g : Nat} {t : TypeId} {xs : List Value} (h : RowAt w g t xs) (n cap : Nat) (hn : n ≤ cap) (hc : cap ≤ maxLen) : Sl w (.slice (some ⟨g, 0, none⟩) n cap) n xs :=
  ⟨_, cap, rfl, hn, hc, fun _ => ⟨g, 0, rfl, fun i u hu => by rw [Nat.zero_add]; exact h.cell hu⟩⟩
theorem RowAt.own {w : World} {g base : Nat} {t : TypeId} {xs : List Value} (h : RowAt w g t xs) (hb : base ≤ g) (hc : xs.length ≤ maxLen) : w.ownsRow base t 1 (.slice (some ⟨g, 0, none⟩) xs.length xs.length) xs.length xs :=
  ⟨by simp, .inr ⟨g, xs.length, xs.toArray, rfl, hb, h, Nat.le_refl _, hc, by simp, by simp⟩⟩
theorem made_toList (z : Value) (n : Nat) (h : z.cells = #[z]) : madeCells z.cells (n * 1) = (List.replicate n z).toArray := by
  rw [h, Nat.mul_one]
  apply Array.ext_getElem?
  intro i
  unfold madeCells
  by_cases hi : i < n <;> simp [hi, Nat.mod_one, Array.getElem?_replicate, List.getElem?_replicate]
theorem grown_set (w : World) (g i : Nat) (v : Value) : w.grownBy (w.setCell ⟨g, i, none⟩ v) (some g) := ⟨rfl, rfl, rfl, by simp [World.setCell], fun k _ hk => Below.heap_setCell _ _ _ k (fun e => hk (by rw [e]))⟩

theorem run_copy_onto {P : Program} {w : World} (dT sT ty : TypeId) {e : TypeId} {z : Value} {bytes : Nat} (T : ElT P dT e z 1 bytes)
    {n g cap : Nat} {u : Value} {xs : List Value} (hu : Sl w u n xs) (hxs : xs.length = n) (h1 : ∀ x ∈ xs, x.oneCell' = true)
    {cur : List Value} {t : TypeId} (hg : RowAt w g t cur) (hcur : cur.length = n) :
    ∃ w', (Builtin.copy_ #[dT, sT] ty #[.slice (some ⟨g, 0, none⟩) n cap, u]).run P w = .ok (goInt n) w' ∧ RowAt w' g t xs ∧ w.grownBy w' (some g) := by
  obtain ⟨sp, sc, rfl, h2, h3, hc⟩ := hu
  obtain ⟨i, hi, hz, hsz, hby⟩ := T.info
  by_cases hp : 0 < xs.length
  · obtain ⟨b, off, rfl, hcell⟩ := hc hp
    refine ⟨_, by
      have := run_copy_row (P := P) w dT sT ty e g 0 n cap ⟨b, off, none⟩ n sc cur.toArray t xs T.under (by rw [hi]; simp [hsz]) hg (by simp [hxs]) (fun j v hj => by rw [addr_add]; exact hcell j v hj) (by simp [hxs, hcur]) h1
      rw [hxs] at this; exact this, ?_, ?_⟩
    · unfold RowAt
      have hlt := hg.lt
      have e1 : cur.toArray.toList.take 0 ++ xs ++ cur.toArray.toList.drop (0 + n) = xs := by simp [List.drop_eq_nil_of_le (show cur.length ≤ n by omega)]
      rw [e1]
      unfold World.setRow
      simp only [Array.getElem?_modify, show w.heap[g]? = _ from hg, if_true, Option.map_some]
    · refine ⟨rfl, rfl, rfl, by simp [World.setRow], fun k _ hk => ?_⟩
      unfold World.setRow
      simp only [Array.getElem?_modify]
      rw [if_neg (fun e => hk (by rw [e]))]
  · have hx0 : xs = [] := List.eq_nil_of_length_eq_zero (by omega)
    subst hx0
    simp at hxs
    subst hxs
    have hc0 : cur = [] := List.eq_nil_of_length_eq_zero hcur
    subst hc0
    exact ⟨w, run_copy_none (P := P) w dT sT ty e _ _ 0 cap 0 sc T.under (by rw [hi]; simp [hsz]) (by simp), hg, ⟨rfl, rfl, rfl, Nat.le_refl _, fun _ _ _ => rfl⟩⟩
theorem own_vw {w : World} {B size n : Nat} {e : TypeId} {v : Value} {xs : List Value} (h : w.ownsRow B e size v n xs) : ∃ a c, v = .slice a n c := by
  obtain ⟨_, c, rfl, _⟩ := Sl.of_own h
  exact ⟨_, c, rfl⟩
theorem own_kept {w w' : World} {base size n : Nat} {e : TypeId} {v : Value} {xs : List Value} {row : Option Nat} (h : w.ownsRow base e size v n xs) (hg : w.grownBy w' row) (hr : ∀ r, row = some r → r < base) : w'.ownsRow base e size v n xs := by
  refine ⟨h.1, ?_⟩
  rcases h.2 with hn | ⟨g, cap, cur, rfl, hbg, hgg, rest⟩
  · exact .inl hn
  · refine .inr ⟨g, cap, cur, rfl, hbg, ?_, rest⟩
    exact (hg.block g (Array.getElem?_eq_some_iff.1 hgg).1 (fun e => by have := hr g e.symm; omega)).trans hgg
theorem keeps_own {w w' : World} {B base size n : Nat} {e : TypeId} {v : Value} {xs : List Value} (h : w.ownsRow base e size v n xs) (hg : w.grownBy w' v.ownBlock) : KeepsFrom B w w' := by
  refine keeps_grown B hg (fun r hr => ?_)
  rcases h.2 with ⟨rfl, _⟩ | ⟨g, cap, cur, rfl, _, hgg, _⟩
  · simp [Value.ownBlock] at hr
  · simp [Value.ownBlock] at hr
    subst hr
    exact ⟨_, hgg, rfl⟩
/-! Steps, to be laid end to end. -/
theorem Ext.via {a b c : World} (k : Ext b c) (h : Ext a b) : Ext a c := h.trans k
theorem Ext.alloc_of {a w : World} (h : Ext a w) (o : Obj) : Ext a (w.alloc o) := h.trans (Ext.alloc w o)
theorem Ext.drewN_of {a w : World} (h : Ext a w) (n : Nat) : Ext a (w.drewN n) := h.trans (Ext.drewN w n)
theorem Ext.drew_of {a w : World} (h : Ext a w) : Ext a w.drew := h.trans (Ext.drewN w 1)
theorem Ext.set_of {a w : World} {b o : Nat} (h : Ext a w) (hb : a.heap.size ≤ b) (v : Value) : Ext a (w.setCell ⟨b, o, none⟩ v) := Below.setCell (p := ⟨b, o, none⟩) h hb v
theorem RowAt.facts2 {w : World} {g : Nat} {t : TypeId} {u0 u1 : Value} (h : RowAt w g t [u0, u1]) : w.cell? ⟨g, 0, none⟩ = some u0 ∧ w.cell? ⟨g, 1, none⟩ = some u1 ∧ w.frozen? ⟨g, 0, none⟩ = false ∧ w.frozen? ⟨g, 1, none⟩ = false := ⟨h.cell (i := 0) rfl, h.cell (i := 1) rfl, h.frozen 0, h.frozen 1⟩
theorem RowAt.facts1 {w : World} {g : Nat} {t : TypeId} {u0 : Value} (h : RowAt w g t [u0]) : w.cell? ⟨g, 0, none⟩ = some u0 ∧ w.frozen? ⟨g, 0, none⟩ = false := ⟨h.cell (i := 0) rfl, h.frozen 0⟩
theorem RowAt.facts3 {w : World} {g : Nat} {t : TypeId} {u0 u1 u2 : Value} (h : RowAt w g t [u0, u1, u2]) : w.cell? ⟨g, 0, none⟩ = some u0 ∧ w.cell? ⟨g, 1, none⟩ = some u1 ∧ w.cell? ⟨g, 2, none⟩ = some u2 ∧ w.frozen? ⟨g, 0, none⟩ = false ∧ w.frozen? ⟨g, 1, none⟩ = false ∧ w.frozen? ⟨g, 2, none⟩ = false :=
  ⟨h.cell (i := 0) rfl, h.cell (i := 1) rfl, h.cell (i := 2) rfl, h.frozen 0, h.frozen 1, h.frozen 2⟩
end Go.Proofs.Ytogoejlbdbapoaa
