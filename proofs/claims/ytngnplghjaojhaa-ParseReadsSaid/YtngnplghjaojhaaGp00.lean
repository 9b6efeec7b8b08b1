/- Views of slices in memory, and small laws about worlds: no program in sight. -/
import Derived.WalkKit
import Derived.WalkLawsBesides
import Derived.WalkSpells
import Derived.Deep.QuietTactic
import Derived.BigQuiet
import Derived.Lib.Hide
import Derived.StillTailTactics
import Derived.Maps.AppendAt
import Derived.ProofKit
import Derived.OpenShut
import Derived.Deep.Slices
import Derived.SliceStrings
import Derived.Test.YtngnplghjaojhaaProg
import Derived.RangeFuncNested
import Derived.RangeFuncCalls
import Derived.RangeFuncLeaves
import Derived.OwnWalkIn
import Derived.TacticsInMore
import Derived.LoopNIn
import Derived.LoopIn
import Derived.Shelf.Abstract
import Derived.OrdersIn
import Derived.Lib.QuietBelow
import Derived.StillTail
import Derived.Laws.CopyOwn
import Derived.Laws.IdiomCopy
import Derived.Laws.MakeOwn
import Derived.Deep.DeepCutAuto
import Derived.Deep.CutBlock
import Derived.Deep.LoopGhost
import Derived.Deep.RegionHeld3
import Derived.Deep.RegionLaw
import Derived.Deep.RegionWith
import Derived.IntWalk
import Derived.Outline
import Derived.Maps.RangeRun
import Derived.Laws.RangeAny
import Derived.Laws.EntriesVeiled
namespace Go.Proofs.Ytngnplghjaojhaa
set_option maxRecDepth 100000
set_option maxHeartbeats 2000000
set_option linter.unusedVariables false
set_option linter.unusedSimpArgs false
open Go.RowKit

/-- A slice value that reads as the cells xs (the elements; each may be of several cells). -/
def Sl (w : World) (v : Value) (n : Nat) (xs : List Value) : Prop :=
  ∃ (a : Option Addr) (cap : Nat), v = .slice a n cap ∧ n ≤ cap ∧ cap ≤ maxLen ∧
    (0 < xs.length → ∃ b o, a = some ⟨b, o, none⟩ ∧ ∀ i u, xs[i]? = some u → w.cell? ⟨b, o + i, none⟩ = some u)

/-- Nothing that was there has changed. -/
def Ext (w w' : World) : Prop := Below w.heap.size w w'

theorem Ext.refl (w : World) : Ext w w := Below.refl _ _
theorem Ext.trans {a b c : World} (h : Ext a b) (k : Ext b c) : Ext a c := Below.trans h (Below.mono k h.size)
theorem Ext.drewN (w : World) (n : Nat) : Ext w (w.drewN n) := ⟨rfl, rfl, rfl, Nat.le_refl _, fun _ _ => rfl⟩
theorem Ext.alloc (w : World) (o : Obj) : Ext w (w.alloc o) := (Below.refl _ _).alloc (Nat.le_refl _) _
theorem below_drewN {B : Nat} {a w : World} (h : Below B a w) (n : Nat) : Below B a (w.drewN n) := ⟨h.os, h.tape, h.output, h.size, h.block⟩
theorem Below.ext {B : Nat} {a w w' : World} (h : Below B a w) (k : Ext w w') (hB : B ≤ w.heap.size) : Below B a w' := h.trans (Below.mono k hB)

theorem cell_lt {w : World} {b o : Nat} {u : Value} (h : w.cell? ⟨b, o, none⟩ = some u) : b < w.heap.size := World.block_lt_of_cell? w ⟨b, o, none⟩ h

theorem Sl.below {B : Nat} {w w' : World} {v : Value} {n : Nat} {xs : List Value} (h : Sl w v n xs) (hb : Below B w w') (hB : w.heap.size ≤ B) : Sl w' v n xs := by
  obtain ⟨a, cap, rfl, h1, h2, h3⟩ := h
  refine ⟨a, cap, rfl, h1, h2, fun hp => ?_⟩
  obtain ⟨b, o, rfl, hc⟩ := h3 hp
  exact ⟨b, o, rfl, fun i u hu => (hb.cell (p := ⟨b, o + i, none⟩) (Nat.lt_of_lt_of_le (cell_lt (hc i u hu)) hB)).trans (hc i u hu)⟩
theorem Sl.ext {w w' : World} {v : Value} {n : Nat} {xs : List Value} (h : Sl w v n xs) (hb : Ext w w') : Sl w' v n xs := Sl.below h hb (Nat.le_refl _)
theorem Sl.nil (w : World) : Sl w (.slice none 0 0) 0 [] := ⟨none, 0, rfl, Nat.le_refl _, by unfold maxLen; omega, fun h => by simp at h⟩

/-- What the walk wants of a slice: its shape, and its cells inside a round. -/
theorem Sl.open_ {w : World} {v : Value} {n : Nat} {xs : List Value} (h : Sl w v n xs) : ∃ a cap, v = .slice a n cap ∧ n ≤ cap ∧ cap ≤ 9223372036854775807 ∧
    ∀ i, i < xs.length → ∃ b o, a = some ⟨b, o, none⟩ ∧ ∀ j u, xs[j]? = some u → w.cell? ⟨b, o + j, none⟩ = some u := by
  obtain ⟨a, cap, rfl, h1, h2, h3⟩ := h
  unfold maxLen at h2
  exact ⟨a, cap, rfl, h1, h2, fun i hi => h3 (by omega)⟩

theorem Sl.of_own {w : World} {base : Nat} {e : TypeId} {size n : Nat} {v : Value} {xs : List Value} (h : w.ownsRow base e size v n xs) : Sl w v n xs := by
  obtain ⟨hl, h | ⟨g, cap, cur, rfl, hg, hh, h1, h2, h3, h4⟩⟩ := h
  · obtain ⟨rfl, rfl⟩ := h
    have : xs = [] := List.eq_nil_of_length_eq_zero (by simpa using hl)
    subst this
    exact Sl.nil w
  · refine ⟨_, cap, rfl, h1, h2, fun _ => ⟨g, 0, rfl, fun i u hu => ?_⟩⟩
    rw [Nat.zero_add, cell_of_row w g i cur e (0, 0) hh]
    rw [← h4, List.getElem?_take] at hu
    split at hu
    · simpa using hu
    · cases hu

theorem own_lt {w : World} {base : Nat} {e : TypeId} {size n : Nat} {v : Value} {xs : List Value} (h : w.ownsRow base e size v n xs) {g : Nat} (hg : v.ownBlock = some g) : base ≤ g ∧ g < w.heap.size := h.lt g hg

/-- What is owned stays so where only blocks elsewhere turn. -/
theorem own_below {w w' : World} {base B : Nat} {e : TypeId} {size n : Nat} {v : Value} {xs : List Value} (h : w.ownsRow base e size v n xs) (hb : Below B w w') (hB : w.heap.size ≤ B) : w'.ownsRow base e size v n xs := by
  refine ⟨h.1, ?_⟩
  rcases h.2 with hn | ⟨g, cap, cur, rfl, hbg, hgg, rest⟩
  · exact .inl hn
  · refine .inr ⟨g, cap, cur, rfl, hbg, ?_, rest⟩
    rw [hb.block g (Nat.lt_of_lt_of_le (Array.getElem?_eq_some_iff.1 hgg).1 hB)]
    exact hgg
theorem own_ext {w w' : World} {base : Nat} {e : TypeId} {size n : Nat} {v : Value} {xs : List Value} (h : w.ownsRow base e size v n xs) (hb : Ext w w') : w'.ownsRow base e size v n xs := own_below h hb (Nat.le_refl _)
theorem own_base {w : World} {base base' : Nat} {e : TypeId} {size n : Nat} {v : Value} {xs : List Value} (h : w.ownsRow base e size v n xs) (hb : base' ≤ base) : w.ownsRow base' e size v n xs := by
  refine ⟨h.1, ?_⟩
  rcases h.2 with hn | ⟨g, cap, cur, rfl, hbg, rest⟩
  · exact .inl hn
  · exact .inr ⟨g, cap, cur, rfl, Nat.le_trans hb hbg, rest⟩

theorem ret_int {k : IntKind} {a b : Int} (h : a = b) : Ending.returned (.int k a) = .returned (.int k b) := by rw [h]
theorem ret_bool {a b : Bool} (h : a = b) : Ending.returned (.bool a) = .returned (.bool b) := by rw [h]
theorem int_congr {k : IntKind} {a b : Int} (h : a = b) : Value.int k a = Value.int k b := by rw [h]
theorem take_snoc {α : Type} (l : List α) (k : Nat) (h : k < l.length) : l.take (k + 1) = l.take k ++ [l[k]] := by
  rw [List.take_succ_eq_append_getElem h]

/-- What the laws on append ask of an element's type. -/
structure ElT (P : Program) (t e : TypeId) (z : Value) (size bytes : Nat) : Prop where
  under : P.underlying t = some (.slice e)
  info : ∃ i, P.info? e = some i ∧ i.zero = some z ∧ i.size = size ∧ i.bytes = bytes
  cells : z.cells.size = size
  pos : 0 < size

theorem addr_add (b o i : Nat) : (⟨b, o, none⟩ : Addr).add i = ⟨b, o + i, none⟩ := by unfold Addr.add; split <;> simp_all

theorem own_ge {w : World} {base : Nat} {e : TypeId} {size n : Nat} {v : Value} {xs : List Value} (h : w.ownsRow base e size v n xs) : ∀ k, v.ownBlock = some k → base ≤ k := fun k hk => (h.lt k hk).1
/-- Where the row lies behind an append: where it lay, or in a new block. -/
def AppAt (v v' : Value) (w : World) : Prop := v'.ownBlock = v.ownBlock ∨ v'.ownBlock = some w.heap.size

/-- append onto a row of the call's own, whatever the source: nil, empty or not. -/
theorem run_append_sl {P : Program} (w : World) {base : Nat} {t ty e : TypeId} {z : Value} {size bytes : Nat} (T : ElT P t e z size bytes)
    {v : Value} {n : Nat} {xs : List Value} (hown : w.ownsRow base e size v n xs) {u : Value} {m : Nat} {news : List Value} (hs : Sl w u m news) (hl : news.length = m * size)
    (h1 : ∀ x ∈ news, x.oneCell' = true) (hb : (n + m) * bytes ≤ 140737488355328) (h63 : n + m ≤ maxLen) (hbase : base ≤ w.heap.size) :
    ∃ v' w', (Builtin.append_ #[t, t] ty #[v, u]).run P w = .ok v' w' ∧ w'.ownsRow base e size v' (n + m) (xs ++ news) ∧ w.grownBy w' v.ownBlock ∧
      (v' = .slice none 0 0 ↔ v = .slice none 0 0 ∧ m = 0) ∧ (v'.ownBlock = v.ownBlock ∨ v'.ownBlock = some w.heap.size) := by
  obtain ⟨i, hi, hz, hsz, hby⟩ := T.info
  obtain ⟨a, c, rfl, hmc, hcm, hc⟩ := hs
  by_cases hp : 0 < news.length
  · obtain ⟨b, o, rfl, hcell⟩ := hc hp
    exact run_append_own_at (P := P) w base t ty e i z size bytes T.under hi hz hsz hby T.cells T.pos v n xs hown ⟨b, o, none⟩ m c news hl (fun j u hu => by rw [addr_add]; exact hcell j u hu) h1 h63 hb hbase
  · have hnil : news = [] := List.eq_nil_of_length_eq_zero (by omega)
    subst hnil
    have hm : m = 0 := by
      have h0 := T.pos
      rcases Nat.eq_zero_or_pos m with h | h
      · exact h
      · have := Nat.mul_pos h h0; simp at hl; omega
    subst hm
    cases a with
    | some ad => exact run_append_own_at (P := P) w base t ty e i z size bytes T.under hi hz hsz hby T.cells T.pos v n xs hown ad 0 c [] hl (fun j u hu => by simp at hu) h1 h63 hb hbase
    | none =>
      refine ⟨v, w, ?_, by simpa using hown, ⟨rfl, rfl, rfl, Nat.le_refl _, fun _ _ _ => rfl⟩, by simp, .inl rfl⟩
      rcases hown.2 with ⟨rfl, rfl⟩ | ⟨g, cap, cur, rfl, _, _, hnc, _⟩
      · simp [Builtin.append_, run_underlying T.under, sizeOf, typeInfo, hi, Builtin.lenOf, Builtin.firstCells]
      · simp [Builtin.append_, run_underlying T.under, sizeOf, typeInfo, hi, Builtin.lenOf, Builtin.firstCells, hnc, storeCells]

theorem wp_append_sl {P : Program} (w : World) {o : Oper} {a : Act} {K : Act → World → Prop} {Q : Exit → Act → World → Prop} (s x : Operand) (t : TypeId)
    (ho : o.op = .call { callee := .builtin .append, args := #[s, x], argTypes := #[t, t] })
    {base : Nat} {e : TypeId} {z : Value} {size bytes : Nat} (T : ElT P t e z size bytes) {v : Value} {n : Nat} {xs : List Value} (hs : a.eval s = v) (hown : w.ownsRow base e size v n xs)
    {u : Value} {m : Nat} {news : List Value} (hx : a.eval x = u) (hu : Sl w u m news) (hl : news.length = m * size)
    (h1 : ∀ x ∈ news, x.oneCell' = true) (hb : (n + m) * bytes ≤ 140737488355328) (h63 : n + m ≤ maxLen) (hbase : base ≤ w.heap.size)
    (h : ∀ v' w', w'.ownsRow base e size v' (n + m) (xs ++ news) → Below base w w' → w.grownBy w' v.ownBlock → AppAt v v' w → K (a.put o.dst v') w') : o.wp P a w K Q := by
  obtain ⟨v', w', hrun, h2, h3, h4, h5⟩ := run_append_sl (P := P) w (ty := o.type) T hown hu hl h1 hb h63 hbase
  unfold Oper.wp execOp
  simp only [ho, resolve, invoke, builtin, Sem.run_bind, Sem.run_pure, Result.andThen_ok, List.map_toArray, List.map_cons, List.map_nil, hs, hx, hrun]
  exact h v' w' h2 ((Below.refl _ _).grown h3 hbase (own_ge hown)) h3 h5

theorem wpList_append_sl {P : Program} (w : World) {ops : Array Oper} {rest : List Oper} {o : Oper} {a : Act} {Q : Exit → Act → World → Prop} (hgd : o.guard = none) (s x : Operand) (t : TypeId)
    (ho : o.op = .call { callee := .builtin .append, args := #[s, x], argTypes := #[t, t] })
    {base : Nat} {e : TypeId} {z : Value} {size bytes : Nat} (T : ElT P t e z size bytes) {v : Value} {n : Nat} {xs : List Value} (hs : a.eval s = v) (hown : w.ownsRow base e size v n xs)
    {u : Value} {m : Nat} {news : List Value} (hx : a.eval x = u) (hu : Sl w u m news) (hl : news.length = m * size)
    (h1 : ∀ x ∈ news, x.oneCell' = true) (hb : (n + m) * bytes ≤ 140737488355328) (h63 : n + m ≤ maxLen) (hbase : base ≤ w.heap.size)
    (h : ∀ v' w', w'.ownsRow base e size v' (n + m) (xs ++ news) → Below base w w' → w.grownBy w' v.ownBlock → AppAt v v' w → wpList P ops Q rest (a.put o.dst v') w') : wpList P ops Q (o :: rest) a w :=
  wpList_plain hgd fun _ hK => wp_append_sl w s x t ho T hs hown hx hu hl h1 hb h63 hbase fun v' w' h2 h3 h4 h5 => hK _ _ (h v' w' h2 h3 h4 h5)

/-- A row just laid, read as a slice. -/
theorem Sl.new (w : World) (cs : Array Value) (t : TypeId) (n cap : Nat) (h : n ≤ cap) (hm : cap ≤ maxLen) : Sl (w.alloc (.cells cs t)) (.slice (some ⟨w.heap.size, 0, none⟩) n cap) n cs.toList :=
  ⟨_, cap, rfl, h, hm, fun _ => ⟨w.heap.size, 0, rfl, fun i u hu => by
    rw [Nat.zero_add, cell_of_row (w.alloc (.cells cs t)) w.heap.size i cs t (0, 0) (heap_alloc_new w _)]
    simpa using hu⟩⟩
/-- A row just laid, owned. -/
theorem own_new (w : World) (base : Nat) (cs : Array Value) (t : TypeId) (size n : Nat) (hb : base ≤ w.heap.size) (hn : cs.size = n * size) (hm : n ≤ maxLen) :
    (w.alloc (.cells cs t)).ownsRow base t size (.slice (some ⟨w.heap.size, 0, none⟩) n n) n cs.toList :=
  ⟨by simpa using hn, .inr ⟨w.heap.size, n, cs, rfl, hb, heap_alloc_new w _, Nat.le_refl _, hm, hn, by rw [List.take_of_length_le (by simp [hn])]⟩⟩
theorem below_grown {B : Nat} {a w w' : World} {row : Option Nat} (h : Below B a w) (hg : w.grownBy w' row) (hB : B ≤ w.heap.size) (hr : ∀ k, row = some k → B ≤ k) : Below B a w' := h.grown hg hB hr
end Go.Proofs.Ytngnplghjaojhaa

/- From the form's reading of an argument to my own views. -/
namespace Go.Proofs.Ytngnplghjaojhaa
set_option maxRecDepth 100000
set_option maxHeartbeats 2000000
set_option linter.unusedVariables false
set_option linter.unusedSimpArgs false
open Go.ChangeShapes Go.WideShapes Go.ChangeAt Go.RowKit

end Go.Proofs.Ytngnplghjaojhaa

/- Arguments that are slices of one-cell elements: texts, rows. -/
namespace Go.Proofs.Ytngnplghjaojhaa
set_option maxRecDepth 100000
set_option maxHeartbeats 2000000
set_option linter.unusedVariables false
set_option linter.unusedSimpArgs false
open Go.ChangeShapes Go.WideShapes Go.ChangeAt Go.RowKit Go.Deep

theorem choose_pairs {α : Type} (n : Nat) (V : Nat → Value) (Q : Value → α → Prop) (h : ∀ i, i < n → ∃ x, Q (V i) x) : ∃ xs : List (Value × α), xs.length = n ∧ (∀ x ∈ xs, Q x.1 x.2) ∧ ∀ i, i < n → (xs.map Prod.fst)[i]? = some (V i) := by
  induction n with
  | zero => exact ⟨[], rfl, fun x hx => by simp at hx, fun i hi => by omega⟩
  | succ n ih =>
    obtain ⟨xs, h1, h2, h3⟩ := ih (fun i hi => h i (by omega))
    obtain ⟨x, hx⟩ := h n (by omega)
    refine ⟨xs ++ [(V n, x)], by simp [h1], ?_, ?_⟩
    · intro y hy
      rcases List.mem_append.1 hy with hy | hy
      · exact h2 y hy
      · simp at hy; subst hy; exact hx
    · intro i hi
      rw [List.map_append]
      by_cases hin : i < n
      · rw [List.getElem?_append_left (by simp [h1]; omega)]; exact h3 i hin
      · obtain rfl : i = n := by omega
        rw [List.getElem?_append_right (by simp [h1])]; simp [h1]

theorem open_Sl1 {α H : Type} {enc : TypeId × Value → H} {P : Program} {w : World} {base : Nat} {spare : Nat → Bool} {held : Bool} {t e : TypeId} {a : Option Addr} {len cap : Nat} {d : DataW H} {p : List MemPlace}
    (ht : P.underlying t = some (.slice e)) (hC : P.cellsOf e = 1) (h : DataW.Trod enc P w base spare held t (.slice a len cap) d p) (Q : Value → α → Prop)
    (hQ : ∀ v y n, DataW.trod enc P w base spare held n e [v] = some y → ∃ x, Q v x) :
    ∃ xs : List (Value × α), Sl w (.slice a len cap) xs.length (xs.map Prod.fst) ∧ ∀ x ∈ xs, Q x.1 x.2 := by
  obtain ⟨fuel, hf⟩ := h
  rcases open_slice1 ht hC hf with ⟨hcs, _⟩ | ⟨x, l, c, m, n, V, D, Pl, hcs, _, hl, hm, hz, _, hcell⟩
  · simp [Value.cells] at hcs
    obtain ⟨rfl, rfl, rfl⟩ := hcs
    exact ⟨[], Sl.nil w, fun x hx => by simp at hx⟩
  · simp [Value.cells] at hcs
    obtain ⟨rfl, rfl, rfl⟩ := hcs
    have hlm : len ≤ m := by split at hz <;> omega
    obtain ⟨xs, h1, h2, h3⟩ := choose_pairs len V Q (fun i hi => hQ _ _ _ (hcell i (by omega)).2)
    refine ⟨xs, ⟨_, _, by rw [h1], by omega, hm, fun hp => ?_⟩, h2⟩
    obtain ⟨b, o, spot⟩ := x
    have h0 : 0 < m := by simp at hp; omega
    have hs : spot = none := by
      have := (hcell 0 h0).1
      simpa [Addr.add] using World.cell?_spot this
    subst hs
    refine ⟨b, o, rfl, fun i u hu => ?_⟩
    have hi : i < len := by
      have := (List.getElem?_eq_some_iff.1 hu).1
      rwa [List.length_map, h1] at this
    rw [h3 i hi] at hu
    cases hu
    have := (hcell i (by omega)).1
    rwa [addr_add] at this

/-- Texts. -/
def Strs (w : World) (v : Value) (ss : List ByteArray) : Prop := Sl w v ss.length (ss.map Value.string)
theorem pairs_eq {α : Type} (f : α → Value) (xs : List (Value × α)) (h : ∀ x ∈ xs, x.1 = f x.2) : xs.map Prod.fst = (xs.map Prod.snd).map f := by
  rw [List.map_map]
  exact List.map_congr_left fun x hx => h x hx
theorem open_Strs {H : Type} {enc : TypeId × Value → H} {P : Program} {w : World} {base : Nat} {spare : Nat → Bool} {held : Bool} {t e : TypeId} {a : Option Addr} {len cap : Nat} {d : DataW H} {p : List MemPlace}
    (ht : P.underlying t = some (.slice e)) (he : P.underlying e = some .string) (hC : P.cellsOf e = 1) (h : DataW.Trod enc P w base spare held t (.slice a len cap) d p) :
    ∃ ss, Strs w (.slice a len cap) ss ∧ ∀ s ∈ ss, s.size ≤ 9223372036854775807 := by
  obtain ⟨xs, h1, h2⟩ := open_Sl1 ht hC h (fun v (s : ByteArray) => v = .string s ∧ s.size ≤ 9223372036854775807) (fun v y n hy => by
    obtain ⟨s, e1, rfl, hs⟩ := DataW.trod_string he hy
    simp at e1
    unfold maxLen at hs
    exact ⟨s, e1, hs⟩)
  refine ⟨xs.map Prod.snd, ?_, ?_⟩
  · unfold Strs
    rw [List.length_map, ← pairs_eq Value.string xs (fun x hx => (h2 x hx).1)]
    exact h1
  · intro s hs
    obtain ⟨x, hx, rfl⟩ := List.mem_map.1 hs
    exact (h2 x hx).2

/-- A cell of a slice of one-cell elements. -/
theorem Sl.at_ {w : World} {a : Option Addr} {n c : Nat} {xs : List Value} (h : Sl w (.slice a n c) n xs) {k : Nat} (hk : k < xs.length) : ∃ b o, a = some ⟨b, o, none⟩ ∧ w.cell? ⟨b, o + k, none⟩ = some xs[k] := by
  obtain ⟨a', c', e, _, _, hc⟩ := h
  simp only [Value.slice.injEq] at e
  obtain ⟨rfl, _, rfl⟩ := e
  obtain ⟨b, o, rfl, hcell⟩ := hc (by omega)
  exact ⟨b, o, rfl, hcell k _ (List.getElem?_eq_getElem hk)⟩
theorem Sl.shape {w : World} {v : Value} {n : Nat} {xs : List Value} (h : Sl w v n xs) : ∃ a c, v = .slice a n c ∧ n ≤ c ∧ c ≤ 9223372036854775807 := by
  obtain ⟨a, c, h0, h1, h2, _⟩ := h
  unfold maxLen at h2
  exact ⟨a, c, h0, h1, h2⟩
theorem Strs.ext {w w' : World} {v : Value} {ss : List ByteArray} (h : Strs w v ss) (hx : Ext w w') : Strs w' v ss := Sl.ext h hx
theorem Strs.at_ {w : World} {a : Option Addr} {n c : Nat} {ss : List ByteArray} (h : Strs w (.slice a n c) ss) {k : Nat} (hk : k < ss.length) : ∃ b o, a = some ⟨b, o, none⟩ ∧ w.cell? ⟨b, o + k, none⟩ = some (.string ss[k]) := by
  obtain ⟨a', c', e, h1⟩ := id h
  simp only [Value.slice.injEq] at e
  obtain ⟨_, rfl, _⟩ := e
  obtain ⟨b, o, rfl, hc⟩ := Sl.at_ h (by simpa using hk : k < (ss.map Value.string).length)
  exact ⟨b, o, rfl, by simpa using hc⟩
/-- Texts held against one another. -/
theorem str_beq (x y : ByteArray) : (x.toList == y.toList) = decide (x = y) := by
  rw [Bool.eq_iff_iff, beq_iff_eq, ByteArray.toList_eq, ByteArray.toList_eq, decide_eq_true_iff]
  exact ⟨fun h => ByteArray.ext (Array.toList_inj.mp h), fun h => by rw [h]⟩
theorem str_yes {x y : ByteArray} (h : x = y) : (x.toList == y.toList) = true := by rw [str_beq]; exact decide_eq_true h
theorem str_no {x y : ByteArray} (h : x ≠ y) : (x.toList == y.toList) = false := by rw [str_beq]; exact decide_eq_false h
theorem Strs.len {w : World} {a : Option Addr} {n c : Nat} {l : List ByteArray} (h : Strs w (.slice a n c) l) : l.length = n := by obtain ⟨_, _, e, _⟩ := h; cases e; rfl
end Go.Proofs.Ytngnplghjaojhaa

/- Arguments that are texts, numbers. -/
namespace Go.Proofs.Ytngnplghjaojhaa
set_option maxRecDepth 100000
set_option maxHeartbeats 2000000
set_option linter.unusedVariables false
set_option linter.unusedSimpArgs false
open Go.ChangeShapes Go.WideShapes Go.ChangeAt Go.RowKit

theorem open_strs {H : Type} {enc : TypeId × Value → H} {w : World} {M : Reach} {base base' : Nat} {spare : Nat → Bool} {held : Bool} {v : Value} {d : DataW H} {p : List MemPlace}
    (ho : Value.okWide Try.prog w M base' 22 v) (h : DataW.Trod enc Try.prog w base spare held 22 v d p) :
    ∃ ss, Strs w v ss ∧ ∀ s ∈ ss, s.size ≤ 9223372036854775807 := by
  obtain ⟨a, len, cap, rfl⟩ := okWide_slice Try.underlying22 ho
  exact open_Strs Try.underlying22 Try.underlying9 (by kernel_rfl) h
end Go.Proofs.Ytngnplghjaojhaa

/- A range over a function, at the wide fence: the statement, and one round. -/
namespace Go.Proofs.Ytngnplghjaojhaa
set_option maxRecDepth 100000
set_option maxHeartbeats 2000000
set_option linter.unusedVariables false
set_option linter.unusedSimpArgs false
open Go.RowKit


theorem wide_fn (f : FuncId) : Fence.wide.fn f = True := rfl
theorem wide_depth : Fence.wide.depth = none := rfl
/-- The loop's record as it lies when a round may begin. -/
def recOf (fn : Nat) (a : Act) (ps : Array Tmp) (assign body : Code) (D : Nat) (st : LoopState) (pe : Option Code) : Loop :=
  { state := st, pending := pe, fn, tmps := a.tmps, params := ps, assign, body, defers := D }

/-- What a range over a function owes when the iterator has returned. -/
def overPost (P : Program) (l : Nat) (Q : Exit → Act → World → Prop) (a' : Act) : Ending → World → Prop := fun e W =>
  ∃ v, e = .returned v ∧ ∃ r : Loop, W.heap[l]? = some (.loop r) ∧ r.state ≠ .busy ∧ ∀ r' : Loop,
    (match r.pending with
     | none => Q .normal a' (W.putObj l (.loop r'))
     | some c => c.wpIn Fence.wide 0 P Q a' (W.putObj l (.loop r')))

/-- The statement: the two blocks are laid, the iterator is called. -/
theorem wp_range {P : Program} {g : Operand} {ps : Array Tmp} {assign body : Code} {Q : Exit → Act → World → Prop} {a : Act} {w : World} {gf : Nat} {lb : Array Value}
    (hg : a.eval g = .func (.func gf) #[] lb) (eg : ∀ args w, (callFunc gf args).run P w = .ok (.enter gf args) w) (D L : Nat) (hD : w.heap.size = D) (hL : D + 1 = L) (args : Array Value) (hargs : #[.func (.yield L) #[] #[]] ++ lb = args)
    (h : ∀ fn W, W = (w.alloc (.deferred (some []))).alloc (.loop (recOf fn a ps assign body D .ready none)) →
      CallsIn Fence.wide 0 P gf args W (overPost P L Q { a with defers := { target := .collected D, args := #[] } :: a.defers })) :
    (Code.rangeFunc g ps assign body).wpIn Fence.wide 0 P Q a w := by
  subst hD hL hargs
  refine wpIn_rangeFunc ?_
  intro fn _
  obtain ⟨W, hW⟩ : ∃ W, W = (w.alloc (.deferred (some []))).alloc (.loop (recOf fn a ps assign body w.heap.size .ready none)) := ⟨_, rfl⟩
  have hc := h fn W hW
  refine ⟨w.heap.size + 1, [{ target := .collected w.heap.size, args := #[] }], W, { target := .fn (.func gf) lb, args := #[.func (.yield (w.heap.size + 1)) #[] #[]] }, W, gf,
    #[.func (.yield (w.heap.size + 1)) #[] #[]] ++ lb, W, ?_, ?_, ?_, ?_, ?_, ?_⟩
  · rw [hW]; exact run_enterLoop_outer _ _ _ _ _
  · simp only [resolve, hg]
    simp [go_sem]
  · intro f' _; trivial
  · simp [invoke, go_sem, eg]
  · intro hd; simp [Fence.wide] at hd
  · refine CallsIn.mono (n := 0) hc ?_
    rintro e W ⟨v, rfl, r, hr, hb, hk⟩
    refine ⟨r.pending, _, run_endLoop hr hb, ?_⟩
    cases hp : r.pending with
    | none => rw [hp] at hk; exact hk _
    | some c => rw [hp] at hk; exact hk _

/-- What a round's body owes. -/
def roundQ (l : Nat) (r : Loop) (R : Ending → World → Prop) : Exit → Act → World → Prop := fun e _ W =>
  W.heap[l]? = some (.loop { r with state := .busy }) ∧
  match e with
  | .normal => R (.returned (.bool true)) (W.putObj l (.loop { r with state := .ready, pending := none }))
  | .ret => R (.returned (.bool false)) (W.putObj l (.loop { r with state := .done, pending := some .ret }))
  | .exit id => R (.returned (.bool false)) (W.putObj l (.loop { r with state := .done, pending := some (.exit id) }))
  | .goto t => R (.returned (.bool false)) (W.putObj l (.loop { r with state := .done, pending := some (.goto t) }))
  | _ => False

/-- One round. -/
theorem yield_round {P : Program} {l : Nat} {r : Loop} {args : Array Value} {W : World} {R : Ending → World → Prop} (hl : W.heap[l]? = some (.loop r)) (hs : args.size = r.params.size) (hst : r.state = .ready)
    (h : r.assign.wpIn (Fence.wide.inRound l) 0 P (Exit.then (fun a₁ w₁ => w₁.heap[l]? = some (.loop r) ∧ r.body.wpIn (Fence.wide.inRound l) 0 P (roundQ l r R) a₁ (w₁.putObj l (.loop { r with state := .busy }))) (fun _ _ _ => False))
      { tmps := (r.params.zip args).foldl (fun tmps (t, a) => tmps.setIfInBounds t a) r.tmps, defers := [] } W) :
    YieldAt Fence.wide 0 P l args W R := by
  refine ⟨r.fn, _, r.assign, r.body, run_yield hl hs, roundIn_of_wpIn trivial (wpIn_mono h ?_)⟩
  rintro e a₁ w₁ hq
  cases e with
  | normal =>
    obtain ⟨h1, h2⟩ := hq
    refine ⟨_, run_beginRound h1 hst, wpIn_mono h2 ?_⟩
    rintro e a₂ w₂ ⟨h3, h4⟩
    cases e with
    | normal => exact ⟨_, _, run_endRound none h3, by simpa using h4⟩
    | ret => exact ⟨_, _, run_endRound (some .ret) h3, by simpa using h4⟩
    | exit id => exact ⟨_, _, run_endRound (some (.exit id)) h3, by simpa using h4⟩
    | goto t => exact ⟨_, _, run_endRound (some (.goto t)) h3, by simpa using h4⟩
    | panic _ => exact h4
    | outgrown => exact h4
  | _ => exact hq

theorem yield_rec {P : Program} {l : Nat} {r : Loop} {args : Array Value} {W : World} {R : Ending → World → Prop} {fn : Nat} {a : Act} {ps : Array Tmp} {assign body : Code} {D : Nat}
    (hr : recOf fn a ps assign body D .ready none = r) (hl : W.heap[l]? = some (.loop r)) (hs : args.size = ps.size)
    (h : assign.wpIn (Fence.wide.inRound l) 0 P (Exit.then (fun a₁ w₁ => w₁.heap[l]? = some (.loop r) ∧ body.wpIn (Fence.wide.inRound l) 0 P (roundQ l r R) a₁ (w₁.putObj l (.loop { r with state := .busy }))) (fun _ _ _ => False))
      { tmps := (ps.zip args).foldl (fun tmps (t, a) => tmps.setIfInBounds t a) a.tmps, defers := [] } W) :
    YieldAt Fence.wide 0 P l args W R := by
  subst hr
  exact yield_round hl hs rfl h
theorem rec_ready {fn : Nat} {a : Act} {ps : Array Tmp} {assign body : Code} {D : Nat} {r : Loop} (hr : recOf fn a ps assign body D .ready none = r) : { r with state := .ready, pending := none } = r := by
  subst hr; rfl

theorem below_put {B : Nat} {w W : World} (h : Below B w W) {l : Nat} (hl : B ≤ l) (o : Obj) : Below B w (W.putObj l o) :=
  h.trans ⟨rfl, rfl, rfl, by simp, fun k hk => World.putObj_heap_other (by omega)⟩

theorem wpListIn_append_sl {F : Fence} {nn : Nat} {P : Program} (w : World) {ops : Array Oper} {rest : List Oper} {o : Oper} {a : Act} {Q : Exit → Act → World → Prop} (hgd : o.guard = none) (s x : Operand) (t : TypeId)
    (ho : o.op = .call { callee := .builtin .append, args := #[s, x], argTypes := #[t, t] })
    {base : Nat} {e : TypeId} {z : Value} {size bytes : Nat} (T : ElT P t e z size bytes) {v : Value} {n : Nat} {xs : List Value} (hs : a.eval s = v) (hown : w.ownsRow base e size v n xs)
    {u : Value} {m : Nat} {news : List Value} (hx : a.eval x = u) (hu : Sl w u m news) (hl : news.length = m * size)
    (h1 : ∀ x ∈ news, x.oneCell' = true) (hb : (n + m) * bytes ≤ 140737488355328) (h63 : n + m ≤ maxLen) (hbase : base ≤ w.heap.size)
    (h : ∀ v' w', w'.ownsRow base e size v' (n + m) (xs ++ news) → Below base w w' → w.grownBy w' v.ownBlock → AppAt v v' w → wpListIn F nn P ops Q rest (a.put o.dst v') w') : wpListIn F nn P ops Q (o :: rest) a w := by
  refine wpListIn_plain hgd fun K hK' => ?_
  obtain ⟨v', w', hrun, h2, h3, _, h5⟩ := run_append_sl (P := P) w (ty := o.type) T hown hu hl h1 hb h63 hbase
  unfold Oper.wpIn
  refine ⟨?_, ?_⟩
  · simp [Oper.about, ho, resolve, Target.leads, Sem.run_pure]
  · rw [Oper.semAt_plain F _ _ (by rw [ho]; intro c hc'; cases hc')]
    simp only [execOp, ho, resolve, invoke, builtin, Sem.run_bind, Sem.run_pure, Result.andThen_ok, List.map_toArray, List.map_cons, List.map_nil, hs, hx, hrun]
    exact hK' _ _ (h v' w' h2 ((Below.refl _ _).grown h3 hbase (own_ge hown)) h3 h5)
end Go.Proofs.Ytngnplghjaojhaa

/- A range over a function: an iterator's contract, and what the caller owes. No program in sight. -/
namespace Go.Proofs.Ytngnplghjaojhaa
set_option maxRecDepth 100000
set_option maxHeartbeats 2000000
set_option linter.unusedSimpArgs false
open Go.RowKit Go.Sort
set_option linter.unusedVariables false

theorem calls_of_wp_marks {P : Program} {f : FuncId} {fn : Func} {c : Code} {args : Array Value} {w : World} {R : Ending → World → Prop} (hf : P.funcs[f]? = some fn) (hb : fn.body = some c)
    (h : c.wp P (bodyPostM Fence.wide 0 P fn R) { tmps := args ++ Array.replicate (fn.ntmps - args.size) undef, defers := [] } w) : Calls P f args w R :=
  callsIn_wide.1 (callsIn_of_wp_marks hf hb trivial (wpIn_wide.2 h))

/-- What abides the turn of a block of no cells from B on. -/
def Stab (B : Nat) (I : World → Prop) : Prop := ∀ W W' row, I W → W.grownBy W' row → (∀ r, row = some r → B ≤ r ∧ ∃ o : Obj, W.heap[r]? = some o ∧ o.isCells = false) → I W'
theorem grown_ext {W W' : World} (h : Ext W W') : W.grownBy W' none := ⟨h.os, h.tape, h.output, h.size, fun i hi _ => h.block i hi⟩
theorem ext_cell {w w' : World} {b o : Nat} {v : Value} (hx : Ext w w') (h : w.cell? ⟨b, o, none⟩ = some v) : w'.cell? ⟨b, o, none⟩ = some v := (Below.cell (p := ⟨b, o, none⟩) hx (cell_lt h)).trans h
theorem below_step {w W W' : World} (h : Below w.heap.size w W) (hx : Ext W W') : Below w.heap.size w W' := Below.ext h hx h.size
theorem Stab.ext {B : Nat} {I : World → Prop} (h : Stab B I) {W W' : World} (hi : I W) (hx : Ext W W') : I W' := h W W' none hi (grown_ext hx) (fun r e => by cases e)
theorem Stab.put {B : Nat} {I : World → Prop} (h : Stab B I) {W : World} (hi : I W) {l : Nat} {o : Obj} (hl : W.heap[l]? = some o) (ho : o.isCells = false) (hB : B ≤ l) (o' : Obj) : I (W.putObj l o') :=
  h W _ (some l) hi (grownBy_putObj' W l o') (fun r e => by cases e; exact ⟨hB, o, hl, ho⟩)
theorem Stab.and {B : Nat} {I I' : World → Prop} (h : Stab B I) (h' : Stab B I') : Stab B (fun W => I W ∧ I' W) := fun W W' row hi hg hr => ⟨h W W' row hi.1 hg hr, h' W W' row hi.2 hg hr⟩
theorem Stab.pure (B : Nat) (p : Prop) : Stab B (fun _ => p) := fun _ _ _ h _ _ => h
theorem Stab.ex {α : Type} {B : Nat} {I : α → World → Prop} (h : ∀ x, Stab B (I x)) : Stab B (fun W => ∃ x, I x W) := fun W W' row ⟨x, hi⟩ hg hr => ⟨x, h x W W' row hi hg hr⟩
theorem Stab.own (B base n size : Nat) (e : TypeId) (v : Value) (xs : List Value) : Stab B (fun W => W.ownsRow base e size v n xs) := fun W W' row h hg hr => by
  refine ⟨h.1, ?_⟩
  rcases h.2 with hn | ⟨g, cap, cur, rfl, hbg, hgg, rest⟩
  · exact .inl hn
  · refine .inr ⟨g, cap, cur, rfl, hbg, ?_, rest⟩
    refine (hg.block g (Array.getElem?_eq_some_iff.1 hgg).1 (fun e' => ?_)).trans hgg
    obtain ⟨_, o, ho, hc⟩ := hr g e'.symm
    rw [hgg] at ho
    cases ho; cases hc
/-- What a round's body owes. -/
def overQ (B : Nat) (I : Nat → World → Prop) (Ix : Code → World → Prop) (k : Nat) (W : World) : Exit → Act → World → Prop := fun e _ W' =>
  KeepsFrom B W W' ∧ match e with
  | .normal => I (k + 1) W'
  | .ret => Ix .ret W'
  | .exit id => Ix (.exit id) W'
  | .goto t => Ix (.goto t) W'
  | _ => False

theorem keeps_ext (B : Nat) {W W' : World} (h : Ext W W') : KeepsFrom B W W' := ⟨h.size, fun k _ _ hk _ => (h.block k (Array.getElem?_eq_some_iff.1 hk).1).trans hk⟩
theorem keeps_set (B : Nat) {W : World} {a : Addr} {u : Value} (h : W.cell? a = some u) (v : Value) : KeepsFrom B W (W.setCell a v) := by
  obtain ⟨o, ho, hc⟩ := cells_of_cell h
  refine ⟨by simp [World.setCell], fun k o' _ hk ho' => ?_⟩
  have hne : k ≠ a.block := by rintro rfl; rw [ho] at hk; cases hk; rw [hc] at ho'; cases ho'
  rw [Below.heap_setCell _ _ _ k hne]; exact hk
theorem keeps_grown (B : Nat) {W W' : World} {row : Option Nat} (hg : W.grownBy W' row) (hr : ∀ r, row = some r → ∃ o : Obj, W.heap[r]? = some o ∧ o.isCells = true) : KeepsFrom B W W' :=
  ⟨hg.size, fun k o _ hk ho => (hg.block k (Array.getElem?_eq_some_iff.1 hk).1 (fun e => by
    obtain ⟨o', ho', hc⟩ := hr k e.symm
    rw [hk] at ho'; cases ho'; rw [ho] at hc; cases hc)).trans hk⟩

/-- The end of a function that held one range over a function: the block of the rounds' deferred calls is turned once more. -/
theorem leave_marked {P : Program} {fn : Func} {tmps : Array Value} {D : Nat} {W : World} {R : Ending → World → Prop} {v : Value} (hD : W.heap[D]? = some (.deferred (some [])))
    (hr : ∀ w', (results fn tmps).run P w' = .ok v w') (h : R (.returned v) (W.putObj D (.deferred none))) : bodyPostM Fence.wide 0 P fn R .ret { tmps, defers := [{ target := .collected D, args := #[] }] } W :=
  ⟨by simp, .inl ⟨_, _, rfl, run_takeDeferred hD, ⟨_, hr _, h⟩⟩⟩
theorem below_mark {B : Nat} {w W : World} {D : Nat} (h : Below B w W) (hD : B ≤ D) : Below B w (W.putObj D (.deferred none)) := below_put h hD _
theorem own_mark {W : World} {D : Nat} {base size n : Nat} {e : TypeId} {v : Value} {xs : List Value} (h : W.ownsRow base e size v n xs) (hD : W.heap[D]? = some (.deferred (some []))) : (W.putObj D (.deferred none)).ownsRow base e size v n xs :=
  (Stab.own 0 base n size e v xs).put h hD rfl (Nat.zero_le _) _

/-! A region that draws its order, within a round: what only reads. -/
/-! A region that draws its order, whose callees leave all as it was (they may make memory). -/
end Go.Proofs.Ytngnplghjaojhaa

/- A region that draws its order: operations that leave all as it was (their callees may make memory), ahead of a forced tail that writes. No program in sight. -/
namespace Go.Proofs.Ytngnplghjaojhaa
set_option maxRecDepth 100000
set_option maxHeartbeats 2000000
set_option linter.unusedSimpArgs false
open Go.RowKit Go.Sort
set_option linter.unusedVariables false

section
variable {P : Program} {md : Region.Mode} {ops : Array Oper} {C : World → Prop}

/-! The same within a round. -/
end
end Go.Proofs.Ytngnplghjaojhaa

/- Made rows, copied onto. No program in sight. -/
namespace Go.Proofs.Ytngnplghjaojhaa
set_option maxRecDepth 100000
set_option maxHeartbeats 2000000
set_option linter.unusedSimpArgs false
open Go.RowKit Go.Sort
set_option linter.unusedVariables false

/-- A row whose cells are known whole. -/
def RowAt (w : World) (g : Nat) (t : TypeId) (xs : List Value) : Prop := w.heap[g]? = some (.cells xs.toArray t (0, 0))
theorem RowAt.lt {w : World} {g : Nat} {t : TypeId} {xs : List Value} (h : RowAt w g t xs) : g < w.heap.size := (Array.getElem?_eq_some_iff.1 h).1
theorem RowAt.kept {w w' : World} {g : Nat} {t : TypeId} {xs : List Value} {row : Option Nat} (h : RowAt w g t xs) (hg : w.grownBy w' row) (hne : row ≠ some g) : RowAt w' g t xs := (hg.block g h.lt (fun e => hne e.symm)).trans h
theorem RowAt.ext {w w' : World} {g : Nat} {t : TypeId} {xs : List Value} (h : RowAt w g t xs) (hx : Ext w w') : RowAt w' g t xs := (hx.block g h.lt).trans h
theorem RowAt.new (w : World) (t : TypeId) (xs : List Value) : RowAt (w.alloc (.cells xs.toArray t)) w.heap.size t xs := World.alloc_heap_new w _
theorem row_at {w : World} {t : TypeId} {xs : List Value} {h : Nat} (hh : w.heap.size = h) : RowAt (w.alloc (.cells xs.toArray t)) h t xs := hh ▸ RowAt.new w t xs
theorem RowAt.cell {w : World} {g : Nat} {t : TypeId} {xs : List Value} (h : RowAt w g t xs) {i : Nat} {v : Value} (hi : xs[i]? = some v) : w.cell? ⟨g, i, none⟩ = some v := by
  simp [World.cell?, show w.heap[g]? = _ from h, hi]
theorem RowAt.frozen {w : World} {g : Nat} {t : TypeId} {xs : List Value} (h : RowAt w g t xs) (i : Nat) : w.frozen? ⟨g, i, none⟩ = false := by simp [World.frozen?, show w.heap[g]? = _ from h]
theorem RowAt.set {w : World} {g : Nat} {t : TypeId} {xs : List Value} (h : RowAt w g t xs) (i : Nat) (v : Value) : RowAt (w.setCell ⟨g, i, none⟩ v) g t (xs.set i v) := by
  obtain ⟨hlt, hk⟩ := Array.getElem?_eq_some_iff.1 h
  show (w.heap.modify g _)[g]? = _
  rw [Array.getElem?_eq_getElem (by rw [Array.size_modify]; exact hlt), Array.getElem_modify_self, hk]
  simp
theorem grown_set (w : World) (g i : Nat) (v : Value) : w.grownBy (w.setCell ⟨g, i, none⟩ v) (some g) := ⟨rfl, rfl, rfl, by simp [World.setCell], fun k _ hk => Below.heap_setCell _ _ _ k (fun e => hk (by rw [e]))⟩

theorem own_vw {w : World} {B size n : Nat} {e : TypeId} {v : Value} {xs : List Value} (h : w.ownsRow B e size v n xs) : ∃ a c, v = .slice a n c := by
  obtain ⟨_, c, rfl, _⟩ := Sl.of_own h
  exact ⟨_, c, rfl⟩
theorem own_kept {w w' : World} {base size n : Nat} {e : TypeId} {v : Value} {xs : List Value} {row : Option Nat} (h : w.ownsRow base e size v n xs) (hg : w.grownBy w' row) (hr : ∀ r, row = some r → r < base) : w'.ownsRow base e size v n xs := by
  refine ⟨h.1, ?_⟩
  rcases h.2 with hn | ⟨g, cap, cur, rfl, hbg, hgg, rest⟩
  · exact .inl hn
  · refine .inr ⟨g, cap, cur, rfl, hbg, ?_, rest⟩
    exact (hg.block g (Array.getElem?_eq_some_iff.1 hgg).1 (fun e => by have := hr g e.symm; omega)).trans hgg
theorem keeps_own {w w' : World} {B base size n : Nat} {e : TypeId} {v : Value} {xs : List Value} (h : w.ownsRow base e size v n xs) (hg : w.grownBy w' v.ownBlock) : KeepsFrom B w w' := by
  refine keeps_grown B hg (fun r hr => ?_)
  rcases h.2 with ⟨rfl, _⟩ | ⟨g, cap, cur, rfl, _, hgg, _⟩
  · simp [Value.ownBlock] at hr
  · simp [Value.ownBlock] at hr
    subst hr
    exact ⟨_, hgg, rfl⟩
/-! Steps, to be laid end to end. -/
theorem Ext.via {a b c : World} (k : Ext b c) (h : Ext a b) : Ext a c := h.trans k
theorem Ext.alloc_of {a w : World} (h : Ext a w) (o : Obj) : Ext a (w.alloc o) := h.trans (Ext.alloc w o)
theorem Ext.drewN_of {a w : World} (h : Ext a w) (n : Nat) : Ext a (w.drewN n) := h.trans (Ext.drewN w n)
theorem Ext.drew_of {a w : World} (h : Ext a w) : Ext a w.drew := h.trans (Ext.drewN w 1)
theorem Ext.set_of {a w : World} {b o : Nat} (h : Ext a w) (hb : a.heap.size ≤ b) (v : Value) : Ext a (w.setCell ⟨b, o, none⟩ v) := Below.setCell (p := ⟨b, o, none⟩) h hb v
theorem RowAt.facts2 {w : World} {g : Nat} {t : TypeId} {u0 u1 : Value} (h : RowAt w g t [u0, u1]) : w.cell? ⟨g, 0, none⟩ = some u0 ∧ w.cell? ⟨g, 1, none⟩ = some u1 ∧ w.frozen? ⟨g, 0, none⟩ = false ∧ w.frozen? ⟨g, 1, none⟩ = false := ⟨h.cell (i := 0) rfl, h.cell (i := 1) rfl, h.frozen 0, h.frozen 1⟩
theorem RowAt.facts1 {w : World} {g : Nat} {t : TypeId} {u0 : Value} (h : RowAt w g t [u0]) : w.cell? ⟨g, 0, none⟩ = some u0 ∧ w.frozen? ⟨g, 0, none⟩ = false := ⟨h.cell (i := 0) rfl, h.frozen 0⟩
theorem RowAt.facts3 {w : World} {g : Nat} {t : TypeId} {u0 u1 u2 : Value} (h : RowAt w g t [u0, u1, u2]) : w.cell? ⟨g, 0, none⟩ = some u0 ∧ w.cell? ⟨g, 1, none⟩ = some u1 ∧ w.cell? ⟨g, 2, none⟩ = some u2 ∧ w.frozen? ⟨g, 0, none⟩ = false ∧ w.frozen? ⟨g, 1, none⟩ = false ∧ w.frozen? ⟨g, 2, none⟩ = false :=
  ⟨h.cell (i := 0) rfl, h.cell (i := 1) rfl, h.cell (i := 2) rfl, h.frozen 0, h.frozen 1, h.frozen 2⟩
end Go.Proofs.Ytngnplghjaojhaa

/- What my walks lean on, in one place. No program in sight. -/
namespace Go.Proofs.Ytngnplghjaojhaa
set_option maxRecDepth 100000
set_option maxHeartbeats 2000000
set_option linter.unusedVariables false
set_option linter.unusedSimpArgs false
end Go.Proofs.Ytngnplghjaojhaa
