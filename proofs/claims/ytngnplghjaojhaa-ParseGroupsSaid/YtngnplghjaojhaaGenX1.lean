/- Views of slices in memory, and small laws about worlds: no program in sight. -/
import Derived.WalkKit
import Derived.WalkLawsBesides
import Derived.WalkSpells
import Derived.Deep.QuietTactic
import Derived.BigQuiet
import Derived.Lib.Hide
import Derived.StillTailTactics
import Derived.Maps.AppendAt
import Derived.ProofKit
import Derived.OpenShut
import Derived.Deep.Slices
import Derived.SliceStrings
import Derived.Test.YtngnplghjaojhaaProg
namespace Go.Proofs.Ytngnplghjaojhaa
set_option maxRecDepth 100000
set_option maxHeartbeats 2000000
set_option linter.unusedVariables false
set_option linter.unusedSimpArgs false
open Go.RowKit

/-- A slice value that reads as the cells xs (the elements; each may be of several cells). -/
def Sl (w : World) (v : Value) (n : Nat) (xs : List Value) : Prop :=
  ∃ (a : Option Addr) (cap : Nat), v = .slice a n cap ∧ n ≤ cap ∧ cap ≤ maxLen ∧
    (0 < xs.length → ∃ b o, a = some ⟨b, o, none⟩ ∧ ∀ i u, xs[i]? = some u → w.cell? ⟨b, o + i, none⟩ = some u)

/-- Nothing that was there has changed. -/
def Ext (w w' : World) : Prop := Below w.heap.size w w'

theorem Ext.refl (w : World) : Ext w w := Below.refl _ _
theorem Ext.trans {a b c : World} (h : Ext a b) (k : Ext b c) : Ext a c := Below.trans h (Below.mono k h.size)
theorem Ext.drewN (w : World) (n : Nat) : Ext w (w.drewN n) := ⟨rfl, rfl, rfl, Nat.le_refl _, fun _ _ => rfl⟩
theorem Ext.alloc (w : World) (o : Obj) : Ext w (w.alloc o) := (Below.refl _ _).alloc (Nat.le_refl _) _
theorem Ext.of_drewN {w w' : World} {n : Nat} (h : w' = w.drewN n) : Ext w w' := by subst h; exact Ext.drewN _ _
theorem below_drewN {B : Nat} {a w : World} (h : Below B a w) (n : Nat) : Below B a (w.drewN n) := ⟨h.os, h.tape, h.output, h.size, h.block⟩
theorem Below.ext {B : Nat} {a w w' : World} (h : Below B a w) (k : Ext w w') (hB : B ≤ w.heap.size) : Below B a w' := h.trans (Below.mono k hB)

theorem cell_lt {w : World} {b o : Nat} {u : Value} (h : w.cell? ⟨b, o, none⟩ = some u) : b < w.heap.size := World.block_lt_of_cell? w ⟨b, o, none⟩ h

theorem Sl.below {B : Nat} {w w' : World} {v : Value} {n : Nat} {xs : List Value} (h : Sl w v n xs) (hb : Below B w w') (hB : w.heap.size ≤ B) : Sl w' v n xs := by
  obtain ⟨a, cap, rfl, h1, h2, h3⟩ := h
  refine ⟨a, cap, rfl, h1, h2, fun hp => ?_⟩
  obtain ⟨b, o, rfl, hc⟩ := h3 hp
  exact ⟨b, o, rfl, fun i u hu => (hb.cell (p := ⟨b, o + i, none⟩) (Nat.lt_of_lt_of_le (cell_lt (hc i u hu)) hB)).trans (hc i u hu)⟩
theorem Sl.ext {w w' : World} {v : Value} {n : Nat} {xs : List Value} (h : Sl w v n xs) (hb : Ext w w') : Sl w' v n xs := Sl.below h hb (Nat.le_refl _)
theorem Sl.drewN {w : World} {v : Value} {n : Nat} {xs : List Value} (h : Sl w v n xs) (k : Nat) : Sl (w.drewN k) v n xs := h.ext (Ext.drewN _ _)
theorem Sl.nil (w : World) : Sl w (.slice none 0 0) 0 [] := ⟨none, 0, rfl, Nat.le_refl _, by unfold maxLen; omega, fun h => by simp at h⟩

/-- What the walk wants of a slice: its shape, and its cells inside a round. -/
theorem Sl.open_ {w : World} {v : Value} {n : Nat} {xs : List Value} (h : Sl w v n xs) : ∃ a cap, v = .slice a n cap ∧ n ≤ cap ∧ cap ≤ 9223372036854775807 ∧
    ∀ i, i < xs.length → ∃ b o, a = some ⟨b, o, none⟩ ∧ ∀ j u, xs[j]? = some u → w.cell? ⟨b, o + j, none⟩ = some u := by
  obtain ⟨a, cap, rfl, h1, h2, h3⟩ := h
  unfold maxLen at h2
  exact ⟨a, cap, rfl, h1, h2, fun i hi => h3 (by omega)⟩

theorem Sl.of_own {w : World} {base : Nat} {e : TypeId} {size n : Nat} {v : Value} {xs : List Value} (h : w.ownsRow base e size v n xs) : Sl w v n xs := by
  obtain ⟨hl, h | ⟨g, cap, cur, rfl, hg, hh, h1, h2, h3, h4⟩⟩ := h
  · obtain ⟨rfl, rfl⟩ := h
    have : xs = [] := List.eq_nil_of_length_eq_zero (by simpa using hl)
    subst this
    exact Sl.nil w
  · refine ⟨_, cap, rfl, h1, h2, fun _ => ⟨g, 0, rfl, fun i u hu => ?_⟩⟩
    rw [Nat.zero_add, cell_of_row w g i cur e (0, 0) hh]
    rw [← h4, List.getElem?_take] at hu
    split at hu
    · simpa using hu
    · cases hu

theorem own_lt {w : World} {base : Nat} {e : TypeId} {size n : Nat} {v : Value} {xs : List Value} (h : w.ownsRow base e size v n xs) {g : Nat} (hg : v.ownBlock = some g) : base ≤ g ∧ g < w.heap.size := h.lt g hg

/-- What is owned stays so where only blocks elsewhere turn. -/
theorem own_below {w w' : World} {base B : Nat} {e : TypeId} {size n : Nat} {v : Value} {xs : List Value} (h : w.ownsRow base e size v n xs) (hb : Below B w w') (hB : w.heap.size ≤ B) : w'.ownsRow base e size v n xs := by
  refine ⟨h.1, ?_⟩
  rcases h.2 with hn | ⟨g, cap, cur, rfl, hbg, hgg, rest⟩
  · exact .inl hn
  · refine .inr ⟨g, cap, cur, rfl, hbg, ?_, rest⟩
    rw [hb.block g (Nat.lt_of_lt_of_le (Array.getElem?_eq_some_iff.1 hgg).1 hB)]
    exact hgg
theorem own_ext {w w' : World} {base : Nat} {e : TypeId} {size n : Nat} {v : Value} {xs : List Value} (h : w.ownsRow base e size v n xs) (hb : Ext w w') : w'.ownsRow base e size v n xs := own_below h hb (Nat.le_refl _)
theorem own_base {w : World} {base base' : Nat} {e : TypeId} {size n : Nat} {v : Value} {xs : List Value} (h : w.ownsRow base e size v n xs) (hb : base' ≤ base) : w.ownsRow base' e size v n xs := by
  refine ⟨h.1, ?_⟩
  rcases h.2 with hn | ⟨g, cap, cur, rfl, hbg, rest⟩
  · exact .inl hn
  · exact .inr ⟨g, cap, cur, rfl, Nat.le_trans hb hbg, rest⟩

theorem ret_int {k : IntKind} {a b : Int} (h : a = b) : Ending.returned (.int k a) = .returned (.int k b) := by rw [h]
theorem ret_bool {a b : Bool} (h : a = b) : Ending.returned (.bool a) = .returned (.bool b) := by rw [h]
theorem int_congr {k : IntKind} {a b : Int} (h : a = b) : Value.int k a = Value.int k b := by rw [h]
theorem bool_congr {a b : Bool} (h : a = b) : Value.bool a = Value.bool b := by rw [h]

/-- A slice of integers. -/
def Ints (w : World) (k : IntKind) (v : Value) (l : List Int) : Prop := Sl w v l.length (l.map (Value.int k))
theorem Ints.ext {w w' : World} {k : IntKind} {v : Value} {l : List Int} (h : Ints w k v l) (hb : Ext w w') : Ints w' k v l := Sl.ext h hb
theorem Ints.below {B : Nat} {w w' : World} {k : IntKind} {v : Value} {l : List Int} (h : Ints w k v l) (hb : Below B w w') (hB : w.heap.size ≤ B) : Ints w' k v l := Sl.below h hb hB
theorem Ints.open_ {w : World} {k : IntKind} {v : Value} {l : List Int} (h : Ints w k v l) : ∃ a cap, v = .slice a l.length cap ∧ l.length ≤ cap ∧ cap ≤ 9223372036854775807 ∧
    ∀ i, i < l.length → ∃ b o, a = some ⟨b, o, none⟩ ∧ ∀ (j : Nat) (hj : j < l.length), w.cell? ⟨b, o + j, none⟩ = some (.int k l[j]) := by
  obtain ⟨a, cap, h1, h2, h3, h4⟩ := Sl.open_ h
  refine ⟨a, cap, h1, h2, h3, fun i hi => ?_⟩
  obtain ⟨b, o, e, hc⟩ := h4 i (by simpa using hi)
  exact ⟨b, o, e, fun j hj => hc j _ (by simp [hj])⟩
/-- Bytes: each below 256. -/
def Byt (l : List Int) : Prop := ∀ c ∈ l, 0 ≤ c ∧ c < 256
theorem Byt.nil : Byt [] := fun c h => by simp at h
theorem Byt.get {l : List Int} (h : Byt l) {k : Nat} (hk : k < l.length) : 0 ≤ l[k] ∧ l[k] < 256 := h _ (List.getElem_mem hk)
theorem Byt.append {l m : List Int} (h : Byt l) (h' : Byt m) : Byt (l ++ m) := fun c hc => (List.mem_append.1 hc).elim (h c) (h' c)
theorem Byt.cons {c : Int} {m : List Int} (h : 0 ≤ c ∧ c < 256) (h' : Byt m) : Byt (c :: m) := fun x hx => (List.mem_cons.1 hx).elim (fun e => e ▸ h) (h' x)
theorem take_snoc {α : Type} (l : List α) (k : Nat) (h : k < l.length) : l.take (k + 1) = l.take k ++ [l[k]] := by
  rw [List.take_succ_eq_append_getElem h]

/-- What the laws on append ask of an element's type. -/
structure ElT (P : Program) (t e : TypeId) (z : Value) (size bytes : Nat) : Prop where
  under : P.underlying t = some (.slice e)
  info : ∃ i, P.info? e = some i ∧ i.zero = some z ∧ i.size = size ∧ i.bytes = bytes
  cells : z.cells.size = size
  pos : 0 < size

theorem addr_add (b o i : Nat) : (⟨b, o, none⟩ : Addr).add i = ⟨b, o + i, none⟩ := by unfold Addr.add; split <;> simp_all

theorem own_ge {w : World} {base : Nat} {e : TypeId} {size n : Nat} {v : Value} {xs : List Value} (h : w.ownsRow base e size v n xs) : ∀ k, v.ownBlock = some k → base ≤ k := fun k hk => (h.lt k hk).1
/-- Where the row lies behind an append: where it lay, or in a new block. -/
def AppAt (v v' : Value) (w : World) : Prop := v'.ownBlock = v.ownBlock ∨ v'.ownBlock = some w.heap.size

/-- append onto a row of the call's own, whatever the source: nil, empty or not. -/
theorem run_append_sl {P : Program} (w : World) {base : Nat} {t ty e : TypeId} {z : Value} {size bytes : Nat} (T : ElT P t e z size bytes)
    {v : Value} {n : Nat} {xs : List Value} (hown : w.ownsRow base e size v n xs) {u : Value} {m : Nat} {news : List Value} (hs : Sl w u m news) (hl : news.length = m * size)
    (h1 : ∀ x ∈ news, x.oneCell' = true) (hb : (n + m) * bytes ≤ 140737488355328) (h63 : n + m ≤ maxLen) (hbase : base ≤ w.heap.size) :
    ∃ v' w', (Builtin.append_ #[t, t] ty #[v, u]).run P w = .ok v' w' ∧ w'.ownsRow base e size v' (n + m) (xs ++ news) ∧ w.grownBy w' v.ownBlock ∧
      (v' = .slice none 0 0 ↔ v = .slice none 0 0 ∧ m = 0) ∧ (v'.ownBlock = v.ownBlock ∨ v'.ownBlock = some w.heap.size) := by
  obtain ⟨i, hi, hz, hsz, hby⟩ := T.info
  obtain ⟨a, c, rfl, hmc, hcm, hc⟩ := hs
  by_cases hp : 0 < news.length
  · obtain ⟨b, o, rfl, hcell⟩ := hc hp
    exact run_append_own_at (P := P) w base t ty e i z size bytes T.under hi hz hsz hby T.cells T.pos v n xs hown ⟨b, o, none⟩ m c news hl (fun j u hu => by rw [addr_add]; exact hcell j u hu) h1 h63 hb hbase
  · have hnil : news = [] := List.eq_nil_of_length_eq_zero (by omega)
    subst hnil
    have hm : m = 0 := by
      have h0 := T.pos
      rcases Nat.eq_zero_or_pos m with h | h
      · exact h
      · have := Nat.mul_pos h h0; simp at hl; omega
    subst hm
    cases a with
    | some ad => exact run_append_own_at (P := P) w base t ty e i z size bytes T.under hi hz hsz hby T.cells T.pos v n xs hown ad 0 c [] hl (fun j u hu => by simp at hu) h1 h63 hb hbase
    | none =>
      refine ⟨v, w, ?_, by simpa using hown, ⟨rfl, rfl, rfl, Nat.le_refl _, fun _ _ _ => rfl⟩, by simp, .inl rfl⟩
      rcases hown.2 with ⟨rfl, rfl⟩ | ⟨g, cap, cur, rfl, _, _, hnc, _⟩
      · simp [Builtin.append_, run_underlying T.under, sizeOf, typeInfo, hi, Builtin.lenOf, Builtin.firstCells]
      · simp [Builtin.append_, run_underlying T.under, sizeOf, typeInfo, hi, Builtin.lenOf, Builtin.firstCells, hnc, storeCells]

theorem wp_append_sl {P : Program} (w : World) {o : Oper} {a : Act} {K : Act → World → Prop} {Q : Exit → Act → World → Prop} (s x : Operand) (t : TypeId)
    (ho : o.op = .call { callee := .builtin .append, args := #[s, x], argTypes := #[t, t] })
    {base : Nat} {e : TypeId} {z : Value} {size bytes : Nat} (T : ElT P t e z size bytes) {v : Value} {n : Nat} {xs : List Value} (hs : a.eval s = v) (hown : w.ownsRow base e size v n xs)
    {u : Value} {m : Nat} {news : List Value} (hx : a.eval x = u) (hu : Sl w u m news) (hl : news.length = m * size)
    (h1 : ∀ x ∈ news, x.oneCell' = true) (hb : (n + m) * bytes ≤ 140737488355328) (h63 : n + m ≤ maxLen) (hbase : base ≤ w.heap.size)
    (h : ∀ v' w', w'.ownsRow base e size v' (n + m) (xs ++ news) → Below base w w' → w.grownBy w' v.ownBlock → AppAt v v' w → K (a.put o.dst v') w') : o.wp P a w K Q := by
  obtain ⟨v', w', hrun, h2, h3, h4, h5⟩ := run_append_sl (P := P) w (ty := o.type) T hown hu hl h1 hb h63 hbase
  unfold Oper.wp execOp
  simp only [ho, resolve, invoke, builtin, Sem.run_bind, Sem.run_pure, Result.andThen_ok, List.map_toArray, List.map_cons, List.map_nil, hs, hx, hrun]
  exact h v' w' h2 ((Below.refl _ _).grown h3 hbase (own_ge hown)) h3 h5

theorem wpList_append_sl {P : Program} (w : World) {ops : Array Oper} {rest : List Oper} {o : Oper} {a : Act} {Q : Exit → Act → World → Prop} (hgd : o.guard = none) (s x : Operand) (t : TypeId)
    (ho : o.op = .call { callee := .builtin .append, args := #[s, x], argTypes := #[t, t] })
    {base : Nat} {e : TypeId} {z : Value} {size bytes : Nat} (T : ElT P t e z size bytes) {v : Value} {n : Nat} {xs : List Value} (hs : a.eval s = v) (hown : w.ownsRow base e size v n xs)
    {u : Value} {m : Nat} {news : List Value} (hx : a.eval x = u) (hu : Sl w u m news) (hl : news.length = m * size)
    (h1 : ∀ x ∈ news, x.oneCell' = true) (hb : (n + m) * bytes ≤ 140737488355328) (h63 : n + m ≤ maxLen) (hbase : base ≤ w.heap.size)
    (h : ∀ v' w', w'.ownsRow base e size v' (n + m) (xs ++ news) → Below base w w' → w.grownBy w' v.ownBlock → AppAt v v' w → wpList P ops Q rest (a.put o.dst v') w') : wpList P ops Q (o :: rest) a w :=
  wpList_plain hgd fun _ hK => wp_append_sl w s x t ho T hs hown hx hu hl h1 hb h63 hbase fun v' w' h2 h3 h4 h5 => hK _ _ (h v' w' h2 h3 h4 h5)

/-- A row just laid, read as a slice. -/
theorem Sl.new (w : World) (cs : Array Value) (t : TypeId) (n cap : Nat) (h : n ≤ cap) (hm : cap ≤ maxLen) : Sl (w.alloc (.cells cs t)) (.slice (some ⟨w.heap.size, 0, none⟩) n cap) n cs.toList :=
  ⟨_, cap, rfl, h, hm, fun _ => ⟨w.heap.size, 0, rfl, fun i u hu => by
    rw [Nat.zero_add, cell_of_row (w.alloc (.cells cs t)) w.heap.size i cs t (0, 0) (heap_alloc_new w _)]
    simpa using hu⟩⟩
/-- A row just laid, owned. -/
theorem own_new (w : World) (base : Nat) (cs : Array Value) (t : TypeId) (size n : Nat) (hb : base ≤ w.heap.size) (hn : cs.size = n * size) (hm : n ≤ maxLen) :
    (w.alloc (.cells cs t)).ownsRow base t size (.slice (some ⟨w.heap.size, 0, none⟩) n n) n cs.toList :=
  ⟨by simpa using hn, .inr ⟨w.heap.size, n, cs, rfl, hb, heap_alloc_new w _, Nat.le_refl _, hm, hn, by rw [List.take_of_length_le (by simp [hn])]⟩⟩
theorem ints_one (k : IntKind) (l : List Int) : ∀ x ∈ l.map (Value.int k), x.oneCell' = true := by
  intro u hu
  obtain ⟨_, _, rfl⟩ := List.mem_map.1 hu
  rfl
theorem below_grown {B : Nat} {a w w' : World} {row : Option Nat} (h : Below B a w) (hg : w.grownBy w' row) (hB : B ≤ w.heap.size) (hr : ∀ k, row = some k → B ≤ k) : Below B a w' := h.grown hg hB hr
end Go.Proofs.Ytngnplghjaojhaa

/- From the form's reading of an argument to my own views. -/
namespace Go.Proofs.Ytngnplghjaojhaa
set_option maxRecDepth 100000
set_option maxHeartbeats 2000000
set_option linter.unusedVariables false
set_option linter.unusedSimpArgs false
open Go.ChangeShapes Go.WideShapes Go.ChangeAt Go.RowKit

theorem bd_u64 {a : Int} (h : (Lit.int .u64 a).wf = true) : 0 ≤ a ∧ a < 18446744073709551616 := by have := bounds_u64 h; omega
theorem bd_u8 {a : Int} (h : (Lit.int .u8 a).wf = true) : 0 ≤ a ∧ a < 256 := by have := bounds_u8 h; omega
theorem bd_i64 {a : Int} (h : (Lit.int .i64 a).wf = true) : -9223372036854775808 ≤ a ∧ a ≤ 9223372036854775807 := bounds_i64 h

theorem open_Ints {H : Type} {enc : TypeId × Value → H} {P : Program} {w : World} {base : Nat} {spare : Nat → Bool} {held : Bool} {t e : TypeId} {k : IntKind} {a : Option Addr} {len cap : Nat} {d : DataW H} {p : List MemPlace}
    (ht : P.underlying t = some (.slice e)) (he : P.underlying e = some (.int k)) (hC : P.cellsOf e = 1) (h : DataW.Trod enc P w base spare held t (.slice a len cap) d p) :
    ∃ zs, Ints w k (.slice a len cap) zs ∧ ∀ n ∈ zs, (Lit.int k n).wf = true := by
  obtain ⟨fuel, hf⟩ := h
  rcases open_ints ht he hC hf with ⟨hcs, _⟩ | ⟨x, l, c, zs, hcs, _, hl, hm, hz, _, hcell, hwz⟩
  · simp [Value.cells] at hcs
    obtain ⟨rfl, rfl, rfl⟩ := hcs
    exact ⟨[], Sl.nil w, by simp⟩
  · simp [Value.cells] at hcs
    obtain ⟨rfl, rfl, rfl⟩ := hcs
    have hlen : (zs.take len).length = len := by rw [List.length_take]; split at hz <;> omega
    refine ⟨zs.take len, ⟨_, _, by rw [hlen], by omega, hm, fun hp => ?_⟩, fun n hn => hwz n (List.mem_of_mem_take hn)⟩
    obtain ⟨b, o, spot⟩ := x
    have h0 : 0 < zs.length := by simp at hp; omega
    have hs : spot = none := by
      have := hcell 0 h0
      simpa [Addr.add] using World.cell?_spot this
    subst hs
    refine ⟨b, o, rfl, fun i u hu => ?_⟩
    rw [List.getElem?_map, List.getElem?_take] at hu
    by_cases hi : i < len
    · rw [if_pos hi] at hu
      have hiz : i < zs.length := by split at hz <;> omega
      rw [List.getElem?_eq_getElem hiz] at hu
      simp at hu
      have := hcell i hiz
      rw [addr_add] at this
      rw [this, ← hu]
      simp [List.getD, hiz]
    · rw [if_neg hi] at hu; simp at hu
end Go.Proofs.Ytngnplghjaojhaa

/- Arguments that are slices of one-cell elements: texts, rows. -/
namespace Go.Proofs.Ytngnplghjaojhaa
set_option maxRecDepth 100000
set_option maxHeartbeats 2000000
set_option linter.unusedVariables false
set_option linter.unusedSimpArgs false
open Go.ChangeShapes Go.WideShapes Go.ChangeAt Go.RowKit Go.Deep

theorem choose_pairs {α : Type} (n : Nat) (V : Nat → Value) (Q : Value → α → Prop) (h : ∀ i, i < n → ∃ x, Q (V i) x) : ∃ xs : List (Value × α), xs.length = n ∧ (∀ x ∈ xs, Q x.1 x.2) ∧ ∀ i, i < n → (xs.map Prod.fst)[i]? = some (V i) := by
  induction n with
  | zero => exact ⟨[], rfl, fun x hx => by simp at hx, fun i hi => by omega⟩
  | succ n ih =>
    obtain ⟨xs, h1, h2, h3⟩ := ih (fun i hi => h i (by omega))
    obtain ⟨x, hx⟩ := h n (by omega)
    refine ⟨xs ++ [(V n, x)], by simp [h1], ?_, ?_⟩
    · intro y hy
      rcases List.mem_append.1 hy with hy | hy
      · exact h2 y hy
      · simp at hy; subst hy; exact hx
    · intro i hi
      rw [List.map_append]
      by_cases hin : i < n
      · rw [List.getElem?_append_left (by simp [h1]; omega)]; exact h3 i hin
      · obtain rfl : i = n := by omega
        rw [List.getElem?_append_right (by simp [h1])]; simp [h1]

theorem open_Sl1 {α H : Type} {enc : TypeId × Value → H} {P : Program} {w : World} {base : Nat} {spare : Nat → Bool} {held : Bool} {t e : TypeId} {a : Option Addr} {len cap : Nat} {d : DataW H} {p : List MemPlace}
    (ht : P.underlying t = some (.slice e)) (hC : P.cellsOf e = 1) (h : DataW.Trod enc P w base spare held t (.slice a len cap) d p) (Q : Value → α → Prop)
    (hQ : ∀ v y n, DataW.trod enc P w base spare held n e [v] = some y → ∃ x, Q v x) :
    ∃ xs : List (Value × α), Sl w (.slice a len cap) xs.length (xs.map Prod.fst) ∧ ∀ x ∈ xs, Q x.1 x.2 := by
  obtain ⟨fuel, hf⟩ := h
  rcases open_slice1 ht hC hf with ⟨hcs, _⟩ | ⟨x, l, c, m, n, V, D, Pl, hcs, _, hl, hm, hz, _, hcell⟩
  · simp [Value.cells] at hcs
    obtain ⟨rfl, rfl, rfl⟩ := hcs
    exact ⟨[], Sl.nil w, fun x hx => by simp at hx⟩
  · simp [Value.cells] at hcs
    obtain ⟨rfl, rfl, rfl⟩ := hcs
    have hlm : len ≤ m := by split at hz <;> omega
    obtain ⟨xs, h1, h2, h3⟩ := choose_pairs len V Q (fun i hi => hQ _ _ _ (hcell i (by omega)).2)
    refine ⟨xs, ⟨_, _, by rw [h1], by omega, hm, fun hp => ?_⟩, h2⟩
    obtain ⟨b, o, spot⟩ := x
    have h0 : 0 < m := by simp at hp; omega
    have hs : spot = none := by
      have := (hcell 0 h0).1
      simpa [Addr.add] using World.cell?_spot this
    subst hs
    refine ⟨b, o, rfl, fun i u hu => ?_⟩
    have hi : i < len := by
      have := (List.getElem?_eq_some_iff.1 hu).1
      rwa [List.length_map, h1] at this
    rw [h3 i hi] at hu
    cases hu
    have := (hcell i (by omega)).1
    rwa [addr_add] at this

/-- Texts. -/
def Strs (w : World) (v : Value) (ss : List ByteArray) : Prop := Sl w v ss.length (ss.map Value.string)
theorem pairs_eq {α : Type} (f : α → Value) (xs : List (Value × α)) (h : ∀ x ∈ xs, x.1 = f x.2) : xs.map Prod.fst = (xs.map Prod.snd).map f := by
  rw [List.map_map]
  exact List.map_congr_left fun x hx => h x hx
theorem open_Strs {H : Type} {enc : TypeId × Value → H} {P : Program} {w : World} {base : Nat} {spare : Nat → Bool} {held : Bool} {t e : TypeId} {a : Option Addr} {len cap : Nat} {d : DataW H} {p : List MemPlace}
    (ht : P.underlying t = some (.slice e)) (he : P.underlying e = some .string) (hC : P.cellsOf e = 1) (h : DataW.Trod enc P w base spare held t (.slice a len cap) d p) :
    ∃ ss, Strs w (.slice a len cap) ss ∧ ∀ s ∈ ss, s.size ≤ 9223372036854775807 := by
  obtain ⟨xs, h1, h2⟩ := open_Sl1 ht hC h (fun v (s : ByteArray) => v = .string s ∧ s.size ≤ 9223372036854775807) (fun v y n hy => by
    obtain ⟨s, e1, rfl, hs⟩ := DataW.trod_string he hy
    simp at e1
    unfold maxLen at hs
    exact ⟨s, e1, hs⟩)
  refine ⟨xs.map Prod.snd, ?_, ?_⟩
  · unfold Strs
    rw [List.length_map, ← pairs_eq Value.string xs (fun x hx => (h2 x hx).1)]
    exact h1
  · intro s hs
    obtain ⟨x, hx, rfl⟩ := List.mem_map.1 hs
    exact (h2 x hx).2

/-- Rows of numbers. -/
def RowsV (w : World) (k : IntKind) (v : Value) (xs : List (Value × List Int)) : Prop := Sl w v xs.length (xs.map Prod.fst) ∧ ∀ x ∈ xs, Ints w k x.1 x.2
theorem open_Rows {H : Type} {enc : TypeId × Value → H} {P : Program} {w : World} {base : Nat} {spare : Nat → Bool} {held : Bool} {t e q : TypeId} {k : IntKind} {a : Option Addr} {len cap : Nat} {d : DataW H} {p : List MemPlace}
    (ht : P.underlying t = some (.slice e)) (he : P.underlying e = some (.slice q)) (hq : P.underlying q = some (.int k)) (hC : P.cellsOf e = 1) (hCq : P.cellsOf q = 1) (h : DataW.Trod enc P w base spare held t (.slice a len cap) d p) :
    ∃ xs, RowsV w k (.slice a len cap) xs ∧ ∀ x ∈ xs, ∀ n ∈ x.2, (Lit.int k n).wf = true := by
  obtain ⟨xs, h1, h2⟩ := open_Sl1 ht hC h (fun v (l : List Int) => Ints w k v l ∧ ∀ n ∈ l, (Lit.int k n).wf = true) (fun v y n hy => by
    have hv : ∃ a len cap, v = .slice a len cap := by
      rcases open_ints he hq hCq hy with ⟨hcs, _⟩ | ⟨x, l, c, zs, hcs, _⟩
      · simp at hcs; exact ⟨_, _, _, hcs⟩
      · simp at hcs; exact ⟨_, _, _, hcs⟩
    obtain ⟨a', len', cap', rfl⟩ := hv
    obtain ⟨zs, hz1, hz2⟩ := open_Ints he hq hCq (d := y.1) (p := y.2) ⟨n, by simpa [Value.cells] using hy⟩
    exact ⟨zs, hz1, hz2⟩)
  exact ⟨xs, ⟨h1, fun x hx => (h2 x hx).1⟩, fun x hx => (h2 x hx).2⟩

/-- A cell of a slice of one-cell elements. -/
theorem Sl.at_ {w : World} {a : Option Addr} {n c : Nat} {xs : List Value} (h : Sl w (.slice a n c) n xs) {k : Nat} (hk : k < xs.length) : ∃ b o, a = some ⟨b, o, none⟩ ∧ w.cell? ⟨b, o + k, none⟩ = some xs[k] := by
  obtain ⟨a', c', e, _, _, hc⟩ := h
  simp only [Value.slice.injEq] at e
  obtain ⟨rfl, _, rfl⟩ := e
  obtain ⟨b, o, rfl, hcell⟩ := hc (by omega)
  exact ⟨b, o, rfl, hcell k _ (List.getElem?_eq_getElem hk)⟩
theorem Sl.shape {w : World} {v : Value} {n : Nat} {xs : List Value} (h : Sl w v n xs) : ∃ a c, v = .slice a n c ∧ n ≤ c ∧ c ≤ 9223372036854775807 := by
  obtain ⟨a, c, h0, h1, h2, _⟩ := h
  unfold maxLen at h2
  exact ⟨a, c, h0, h1, h2⟩
theorem Strs.ext {w w' : World} {v : Value} {ss : List ByteArray} (h : Strs w v ss) (hx : Ext w w') : Strs w' v ss := Sl.ext h hx
theorem Strs.at_ {w : World} {a : Option Addr} {n c : Nat} {ss : List ByteArray} (h : Strs w (.slice a n c) ss) {k : Nat} (hk : k < ss.length) : ∃ b o, a = some ⟨b, o, none⟩ ∧ w.cell? ⟨b, o + k, none⟩ = some (.string ss[k]) := by
  obtain ⟨a', c', e, h1⟩ := id h
  simp only [Value.slice.injEq] at e
  obtain ⟨_, rfl, _⟩ := e
  obtain ⟨b, o, rfl, hc⟩ := Sl.at_ h (by simpa using hk : k < (ss.map Value.string).length)
  exact ⟨b, o, rfl, by simpa using hc⟩
theorem RowsV.ext {w w' : World} {k : IntKind} {v : Value} {xs : List (Value × List Int)} (h : RowsV w k v xs) (hx : Ext w w') : RowsV w' k v xs := ⟨Sl.ext h.1 hx, fun x hm => (h.2 x hm).ext hx⟩
theorem RowsV.at_ {w : World} {kd : IntKind} {a : Option Addr} {n c : Nat} {xs : List (Value × List Int)} (h : RowsV w kd (.slice a n c) xs) {k : Nat} (hk : k < xs.length) : (∃ b o, a = some ⟨b, o, none⟩ ∧ w.cell? ⟨b, o + k, none⟩ = some xs[k].1) ∧ Ints w kd xs[k].1 xs[k].2 := by
  obtain ⟨a', c', e, h1⟩ := id h.1
  simp only [Value.slice.injEq] at e
  obtain ⟨_, rfl, _⟩ := e
  obtain ⟨b, o, rfl, hc⟩ := Sl.at_ h.1 (by simpa using hk : k < (xs.map Prod.fst).length)
  exact ⟨⟨b, o, rfl, by simpa using hc⟩, h.2 _ (List.getElem_mem hk)⟩
/-- Texts held against one another. -/
theorem str_beq (x y : ByteArray) : (x.toList == y.toList) = decide (x = y) := by
  rw [Bool.eq_iff_iff, beq_iff_eq, ByteArray.toList_eq, ByteArray.toList_eq, decide_eq_true_iff]
  exact ⟨fun h => ByteArray.ext (Array.toList_inj.mp h), fun h => by rw [h]⟩
theorem str_yes {x y : ByteArray} (h : x = y) : (x.toList == y.toList) = true := by rw [str_beq]; exact decide_eq_true h
theorem str_no {x y : ByteArray} (h : x ≠ y) : (x.toList == y.toList) = false := by rw [str_beq]; exact decide_eq_false h
theorem Ints.atD {w : World} {kd : IntKind} {a : Option Addr} {n c : Nat} {l : List Int} (h : Ints w kd (.slice a n c) l) {k : Nat} (hk : k < l.length) : ∃ b o, a = some ⟨b, o, none⟩ ∧ w.cell? ⟨b, o + k, none⟩ = some (.int kd (l.getD k 0)) := by
  obtain ⟨a', c', e, h1⟩ := id h
  simp only [Value.slice.injEq] at e
  obtain ⟨_, rfl, _⟩ := e
  obtain ⟨b, o, rfl, hc⟩ := Sl.at_ h (by simpa using hk : k < (l.map (Value.int kd)).length)
  exact ⟨b, o, rfl, by simpa [List.getD, hk] using hc⟩
theorem Strs.atD {w : World} {a : Option Addr} {n c : Nat} {l : List ByteArray} (h : Strs w (.slice a n c) l) {k : Nat} (hk : k < l.length) : ∃ b o, a = some ⟨b, o, none⟩ ∧ w.cell? ⟨b, o + k, none⟩ = some (.string (l.getD k ⟨#[]⟩)) := by
  obtain ⟨b, o, rfl, hc⟩ := h.at_ hk
  exact ⟨b, o, rfl, by simpa [List.getD, hk] using hc⟩
theorem Ints.len {w : World} {kd : IntKind} {a : Option Addr} {n c : Nat} {l : List Int} (h : Ints w kd (.slice a n c) l) : l.length = n := by obtain ⟨_, _, e, _⟩ := h; cases e; rfl
theorem Strs.len {w : World} {a : Option Addr} {n c : Nat} {l : List ByteArray} (h : Strs w (.slice a n c) l) : l.length = n := by obtain ⟨_, _, e, _⟩ := h; cases e; rfl
end Go.Proofs.Ytngnplghjaojhaa

/- Arguments that are texts, numbers. -/
namespace Go.Proofs.Ytngnplghjaojhaa
set_option maxRecDepth 100000
set_option maxHeartbeats 2000000
set_option linter.unusedVariables false
set_option linter.unusedSimpArgs false
open Go.ChangeShapes Go.WideShapes Go.ChangeAt Go.RowKit

theorem open_strs {H : Type} {enc : TypeId × Value → H} {w : World} {M : Reach} {base base' : Nat} {spare : Nat → Bool} {held : Bool} {v : Value} {d : DataW H} {p : List MemPlace}
    (ho : Value.okWide Try.prog w M base' 22 v) (h : DataW.Trod enc Try.prog w base spare held 22 v d p) :
    ∃ ss, Strs w v ss ∧ ∀ s ∈ ss, s.size ≤ 9223372036854775807 := by
  obtain ⟨a, len, cap, rfl⟩ := okWide_slice Try.underlying22 ho
  exact open_Strs Try.underlying22 Try.underlying9 (by kernel_rfl) h
end Go.Proofs.Ytngnplghjaojhaa
