/- Views of slices in memory, and small laws about worlds: no program in sight. -/
import Derived.WalkKit
import Derived.WalkLawsBesides
import Derived.WalkSpells
import Derived.Deep.QuietTactic
import Derived.BigQuiet
import Derived.Lib.Hide
import Derived.StillTailTactics
import Derived.Maps.AppendAt
import Derived.RangeFuncNested
import Derived.RangeFuncCalls
import Derived.RangeFuncLeaves
import Derived.OwnWalkIn
import Derived.TacticsInMore
import Derived.LoopNIn
import Derived.LoopIn
import Derived.Shelf.Abstract
set_option linter.unusedSimpArgs false
set_option linter.unusedVariables false
set_option maxHeartbeats 2000000
set_option maxRecDepth 100000

namespace Go.Proofs.YtkmbnghghbfkdaaGreat
open Go.RowKit
def Sl (w : World) (v : Value) (n : Nat) (xs : List Value) : Prop :=
 ∃ (a : Option Addr) (cap : Nat), v = .slice a n cap ∧ n ≤ cap ∧ cap ≤ maxLen ∧
  (0 < xs.length → ∃ b o, a = some ⟨b, o, none⟩ ∧ ∀ i u, xs[i]? = some u → w.cell? ⟨b, o + i, none⟩ = some u)
def Ext (w w' : World) : Prop := Below w.heap.size w w'
theorem Ext.refl (w : World) : Ext w w := Below.refl _ _
theorem Ext.trans {a b c : World} (h : Ext a b) (k : Ext b c) : Ext a c := Below.trans h (Below.mono k h.size)
theorem Ext.drewN (w : World) (n : Nat) : Ext w (w.drewN n) := ⟨rfl, rfl, rfl, Nat.le_refl _, fun _ _ => rfl⟩
theorem Ext.alloc (w : World) (o : Obj) : Ext w (w.alloc o) := (Below.refl _ _).alloc (Nat.le_refl _) _
theorem below_drewN {B : Nat} {a w : World} (h : Below B a w) (n : Nat) : Below B a (w.drewN n) := ⟨h.os, h.tape, h.output, h.size, h.block⟩
theorem Below.ext {B : Nat} {a w w' : World} (h : Below B a w) (k : Ext w w') (hB : B ≤ w.heap.size) : Below B a w' := h.trans (Below.mono k hB)
theorem cell_lt {w : World} {b o : Nat} {u : Value} (h : w.cell? ⟨b, o, none⟩ = some u) : b < w.heap.size := World.block_lt_of_cell? w ⟨b, o, none⟩ h
theorem Sl.below {B : Nat} {w w' : World} {v : Value} {n : Nat} {xs : List Value} (h : Sl w v n xs) (hb : Below B w w') (hB : w.heap.size ≤ B) : Sl w' v n xs := by
 obtain ⟨a, cap, rfl, h1, h2, h3⟩ := h
 refine ⟨a, cap, rfl, h1, h2, fun hp => ?_⟩
 obtain ⟨b, o, rfl, hc⟩ := h3 hp
 exact ⟨b, o, rfl, fun i u hu => (hb.cell (p := ⟨b, o + i, none⟩) (Nat.lt_of_lt_of_le (cell_lt (hc i u hu)) hB)).trans (hc i u hu)⟩
theorem Sl.ext {w w' : World} {v : Value} {n : Nat} {xs : List Value} (h : Sl w v n xs) (hb : Ext w w') : Sl w' v n xs := Sl.below h hb (Nat.le_refl _)
theorem Sl.nil (w : World) : Sl w (.slice none 0 0) 0 [] := ⟨none, 0, rfl, Nat.le_refl _, by unfold maxLen; omega, fun h => by simp at h⟩
theorem Sl.open_ {w : World} {v : Value} {n : Nat} {xs : List Value} (h : Sl w v n xs) : ∃ a cap, v = .slice a n cap ∧ n ≤ cap ∧ cap ≤ 9223372036854775807 ∧
 ∀ i, i < xs.length → ∃ b o, a = some ⟨b, o, none⟩ ∧ ∀ j u, xs[j]? = some u → w.cell? ⟨b, o + j, none⟩ = some u := by
 obtain ⟨a, cap, rfl, h1, h2, h3⟩ := h
 unfold maxLen at h2
 exact ⟨a, cap, rfl, h1, h2, fun i hi => h3 (by omega)⟩
theorem Sl.of_own {w : World} {base : Nat} {e : TypeId} {size n : Nat} {v : Value} {xs : List Value} (h : w.ownsRow base e size v n xs) : Sl w v n xs := by
 obtain ⟨hl, h | ⟨g, cap, cur, rfl, hg, hh, h1, h2, h3, h4⟩⟩ := h
 ·obtain ⟨rfl, rfl⟩ := h
  have : xs = [] := List.eq_nil_of_length_eq_zero (by simpa using hl)
  subst this
  exact Sl.nil w
 ·refine ⟨_, cap, rfl, h1, h2, fun _ => ⟨g, 0, rfl, fun i u hu => ?_⟩⟩
  rw [Nat.zero_add, cell_of_row w g i cur e (0, 0) hh]
  rw [← h4, List.getElem?_take] at hu
  split at hu
  ·simpa using hu
  ·cases hu
theorem own_lt {w : World} {base : Nat} {e : TypeId} {size n : Nat} {v : Value} {xs : List Value} (h : w.ownsRow base e size v n xs) {g : Nat} (hg : v.ownBlock = some g) : base ≤ g ∧ g < w.heap.size := h.lt g hg
theorem own_below {w w' : World} {base B : Nat} {e : TypeId} {size n : Nat} {v : Value} {xs : List Value} (h : w.ownsRow base e size v n xs) (hb : Below B w w') (hB : w.heap.size ≤ B) : w'.ownsRow base e size v n xs := by
 refine ⟨h.1, ?_⟩
 rcases h.2 with hn | ⟨g, cap, cur, rfl, hbg, hgg, rest⟩
 ·exact .inl hn
 ·refine .inr ⟨g, cap, cur, rfl, hbg, ?_, rest⟩
  rw [hb.block g (Nat.lt_of_lt_of_le (Array.getElem?_eq_some_iff.1 hgg).1 hB)]
  exact hgg
theorem own_ext {w w' : World} {base : Nat} {e : TypeId} {size n : Nat} {v : Value} {xs : List Value} (h : w.ownsRow base e size v n xs) (hb : Ext w w') : w'.ownsRow base e size v n xs := own_below h hb (Nat.le_refl _)
theorem own_base {w : World} {base base' : Nat} {e : TypeId} {size n : Nat} {v : Value} {xs : List Value} (h : w.ownsRow base e size v n xs) (hb : base' ≤ base) : w.ownsRow base' e size v n xs := by
 refine ⟨h.1, ?_⟩
 rcases h.2 with hn | ⟨g, cap, cur, rfl, hbg, rest⟩
 ·exact .inl hn
 ·exact .inr ⟨g, cap, cur, rfl, Nat.le_trans hb hbg, rest⟩
theorem ret_int {k : IntKind} {a b : Int} (h : a = b) : Ending.returned (.int k a) = .returned (.int k b) := by rw [h]
theorem ret_bool {a b : Bool} (h : a = b) : Ending.returned (.bool a) = .returned (.bool b) := by rw [h]
theorem int_congr {k : IntKind} {a b : Int} (h : a = b) : Value.int k a = Value.int k b := by rw [h]
theorem bool_congr {a b : Bool} (h : a = b) : Value.bool a = Value.bool b := by rw [h]
def Ints (w : World) (k : IntKind) (v : Value) (l : List Int) : Prop := Sl w v l.length (l.map (Value.int k))
theorem Ints.ext {w w' : World} {k : IntKind} {v : Value} {l : List Int} (h : Ints w k v l) (hb : Ext w w') : Ints w' k v l := Sl.ext h hb
theorem Ints.below {B : Nat} {w w' : World} {k : IntKind} {v : Value} {l : List Int} (h : Ints w k v l) (hb : Below B w w') (hB : w.heap.size ≤ B) : Ints w' k v l := Sl.below h hb hB
theorem take_snoc {α : Type} (l : List α) (k : Nat) (h : k < l.length) : l.take (k + 1) = l.take k ++ [l[k]] := by
 rw [List.take_succ_eq_append_getElem h]
structure ElT (P : Program) (t e : TypeId) (z : Value) (size bytes : Nat) : Prop where
 under : P.underlying t = some (.slice e)
 info : ∃ i, P.info? e = some i ∧ i.zero = some z ∧ i.size = size ∧ i.bytes = bytes
 cells : z.cells.size = size
 pos : 0 < size
theorem addr_add (b o i : Nat) : (⟨b, o, none⟩ : Addr).add i = ⟨b, o + i, none⟩ := by unfold Addr.add; split <;> simp_all
theorem own_ge {w : World} {base : Nat} {e : TypeId} {size n : Nat} {v : Value} {xs : List Value} (h : w.ownsRow base e size v n xs) : ∀ k, v.ownBlock = some k → base ≤ k := fun k hk => (h.lt k hk).1
def AppAt (v v' : Value) (w : World) : Prop := v'.ownBlock = v.ownBlock ∨ v'.ownBlock = some w.heap.size
theorem run_append_sl {P : Program} (w : World) {base : Nat} {t ty e : TypeId} {z : Value} {size bytes : Nat} (T : ElT P t e z size bytes)
 {v : Value} {n : Nat} {xs : List Value} (hown : w.ownsRow base e size v n xs) {u : Value} {m : Nat} {news : List Value} (hs : Sl w u m news) (hl : news.length = m * size)
 (h1 : ∀ x ∈ news, x.oneCell' = true) (hb : (n + m) * bytes ≤ 140737488355328) (h63 : n + m ≤ maxLen) (hbase : base ≤ w.heap.size) :
 ∃ v' w', (Builtin.append_ #[t, t] ty #[v, u]).run P w = .ok v' w' ∧ w'.ownsRow base e size v' (n + m) (xs ++ news) ∧ w.grownBy w' v.ownBlock ∧
  (v' = .slice none 0 0 ↔ v = .slice none 0 0 ∧ m = 0) ∧ (v'.ownBlock = v.ownBlock ∨ v'.ownBlock = some w.heap.size) := by
 obtain ⟨i, hi, hz, hsz, hby⟩ := T.info
 obtain ⟨a, c, rfl, hmc, hcm, hc⟩ := hs
 by_cases hp : 0 < news.length
 ·obtain ⟨b, o, rfl, hcell⟩ := hc hp
  exact run_append_own_at (P := P) w base t ty e i z size bytes T.under hi hz hsz hby T.cells T.pos v n xs hown ⟨b, o, none⟩ m c news hl (fun j u hu => by rw [addr_add]; exact hcell j u hu) h1 h63 hb hbase
 ·have hnil : news = [] := List.eq_nil_of_length_eq_zero (by omega)
  subst hnil
  have hm : m = 0 := by
   have h0 := T.pos
   rcases Nat.eq_zero_or_pos m with h | h
   ·exact h
   ·have := Nat.mul_pos h h0; simp at hl; omega
  subst hm
  cases a with
  | some ad => exact run_append_own_at (P := P) w base t ty e i z size bytes T.under hi hz hsz hby T.cells T.pos v n xs hown ad 0 c [] hl (fun j u hu => by simp at hu) h1 h63 hb hbase
  | none =>
   refine ⟨v, w, ?_, by simpa using hown, ⟨rfl, rfl, rfl, Nat.le_refl _, fun _ _ _ => rfl⟩, by simp, .inl rfl⟩
   rcases hown.2 with ⟨rfl, rfl⟩ | ⟨g, cap, cur, rfl, _, _, hnc, _⟩
   ·simp [Builtin.append_, run_underlying T.under, sizeOf, typeInfo, hi, Builtin.lenOf, Builtin.firstCells]
   ·simp [Builtin.append_, run_underlying T.under, sizeOf, typeInfo, hi, Builtin.lenOf, Builtin.firstCells, hnc, storeCells]
theorem wp_append_sl {P : Program} (w : World) {o : Oper} {a : Act} {K : Act → World → Prop} {Q : Exit → Act → World → Prop} (s x : Operand) (t : TypeId)
 (ho : o.op = .call { callee := .builtin .append, args := #[s, x], argTypes := #[t, t] })
 {base : Nat} {e : TypeId} {z : Value} {size bytes : Nat} (T : ElT P t e z size bytes) {v : Value} {n : Nat} {xs : List Value} (hs : a.eval s = v) (hown : w.ownsRow base e size v n xs)
 {u : Value} {m : Nat} {news : List Value} (hx : a.eval x = u) (hu : Sl w u m news) (hl : news.length = m * size)
 (h1 : ∀ x ∈ news, x.oneCell' = true) (hb : (n + m) * bytes ≤ 140737488355328) (h63 : n + m ≤ maxLen) (hbase : base ≤ w.heap.size)
 (h : ∀ v' w', w'.ownsRow base e size v' (n + m) (xs ++ news) → Below base w w' → w.grownBy w' v.ownBlock → AppAt v v' w → K (a.put o.dst v') w') : o.wp P a w K Q := by
 obtain ⟨v', w', hrun, h2, h3, h4, h5⟩ := run_append_sl (P := P) w (ty := o.type) T hown hu hl h1 hb h63 hbase
 unfold Oper.wp execOp
 simp only [ho, resolve, invoke, builtin, Sem.run_bind, Sem.run_pure, Result.andThen_ok, List.map_toArray, List.map_cons, List.map_nil, hs, hx, hrun]
 exact h v' w' h2 ((Below.refl _ _).grown h3 hbase (own_ge hown)) h3 h5
theorem wpList_append_sl {P : Program} (w : World) {ops : Array Oper} {rest : List Oper} {o : Oper} {a : Act} {Q : Exit → Act → World → Prop} (hgd : o.guard = none) (s x : Operand) (t : TypeId)
 (ho : o.op = .call { callee := .builtin .append, args := #[s, x], argTypes := #[t, t] })
 {base : Nat} {e : TypeId} {z : Value} {size bytes : Nat} (T : ElT P t e z size bytes) {v : Value} {n : Nat} {xs : List Value} (hs : a.eval s = v) (hown : w.ownsRow base e size v n xs)
 {u : Value} {m : Nat} {news : List Value} (hx : a.eval x = u) (hu : Sl w u m news) (hl : news.length = m * size)
 (h1 : ∀ x ∈ news, x.oneCell' = true) (hb : (n + m) * bytes ≤ 140737488355328) (h63 : n + m ≤ maxLen) (hbase : base ≤ w.heap.size)
 (h : ∀ v' w', w'.ownsRow base e size v' (n + m) (xs ++ news) → Below base w w' → w.grownBy w' v.ownBlock → AppAt v v' w → wpList P ops Q rest (a.put o.dst v') w') : wpList P ops Q (o :: rest) a w :=
 wpList_plain hgd fun _ hK => wp_append_sl w s x t ho T hs hown hx hu hl h1 hb h63 hbase fun v' w' h2 h3 h4 h5 => hK _ _ (h v' w' h2 h3 h4 h5)
theorem Sl.new (w : World) (cs : Array Value) (t : TypeId) (n cap : Nat) (h : n ≤ cap) (hm : cap ≤ maxLen) : Sl (w.alloc (.cells cs t)) (.slice (some ⟨w.heap.size, 0, none⟩) n cap) n cs.toList :=
 ⟨_, cap, rfl, h, hm, fun _ => ⟨w.heap.size, 0, rfl, fun i u hu => by
  rw [Nat.zero_add, cell_of_row (w.alloc (.cells cs t)) w.heap.size i cs t (0, 0) (heap_alloc_new w _)]
  simpa using hu⟩⟩
theorem own_new (w : World) (base : Nat) (cs : Array Value) (t : TypeId) (size n : Nat) (hb : base ≤ w.heap.size) (hn : cs.size = n * size) (hm : n ≤ maxLen) :
 (w.alloc (.cells cs t)).ownsRow base t size (.slice (some ⟨w.heap.size, 0, none⟩) n n) n cs.toList :=
 ⟨by simpa using hn, .inr ⟨w.heap.size, n, cs, rfl, hb, heap_alloc_new w _, Nat.le_refl _, hm, hn, by rw [List.take_of_length_le (by simp [hn])]⟩⟩
theorem ints_one (k : IntKind) (l : List Int) : ∀ x ∈ l.map (Value.int k), x.oneCell' = true := by
 intro u hu
 obtain ⟨_, _, rfl⟩ := List.mem_map.1 hu
 rfl
theorem below_grown {B : Nat} {a w w' : World} {row : Option Nat} (h : Below B a w) (hg : w.grownBy w' row) (hB : B ≤ w.heap.size) (hr : ∀ k, row = some k → B ≤ k) : Below B a w' := h.grown hg hB hr
end Go.Proofs.YtkmbnghghbfkdaaGreat

/- A range over a function, at the wide fence: the statement, and one round. -/
namespace Go.Proofs.YtkmbnghghbfkdaaGreat
open Go.RowKit
theorem wide_fn (f : FuncId) : Fence.wide.fn f = True := rfl
theorem wide_depth : Fence.wide.depth = none := rfl
def recOf (fn : Nat) (a : Act) (ps : Array Tmp) (assign body : Code) (D : Nat) (st : LoopState) (pe : Option Code) : Loop :=
 { state := st, pending := pe, fn, tmps := a.tmps, params := ps, assign, body, defers := D }
def overPost (P : Program) (l : Nat) (Q : Exit → Act → World → Prop) (a' : Act) : Ending → World → Prop := fun e W =>
 ∃ v, e = .returned v ∧ ∃ r : Loop, W.heap[l]? = some (.loop r) ∧ r.state ≠ .busy ∧ ∀ r' : Loop,
  (match r.pending with
   | none => Q .normal a' (W.putObj l (.loop r'))
   | some c => c.wpIn Fence.wide 0 P Q a' (W.putObj l (.loop r')))
theorem wp_range {P : Program} {g : Operand} {ps : Array Tmp} {assign body : Code} {Q : Exit → Act → World → Prop} {a : Act} {w : World} {gf : Nat} {lb : Array Value}
 (hg : a.eval g = .func (.func gf) #[] lb) (eg : ∀ args w, (callFunc gf args).run P w = .ok (.enter gf args) w) (D L : Nat) (hD : w.heap.size = D) (hL : D + 1 = L) (args : Array Value) (hargs : #[.func (.yield L) #[] #[]] ++ lb = args)
 (h : ∀ fn W, W = (w.alloc (.deferred (some []))).alloc (.loop (recOf fn a ps assign body D .ready none)) →
  CallsIn Fence.wide 0 P gf args W (overPost P L Q { a with defers := { target := .collected D, args := #[] } :: a.defers })) :
 (Code.rangeFunc g ps assign body).wpIn Fence.wide 0 P Q a w := by
 subst hD hL hargs
 refine wpIn_rangeFunc ?_
 intro fn _
 obtain ⟨W, hW⟩ : ∃ W, W = (w.alloc (.deferred (some []))).alloc (.loop (recOf fn a ps assign body w.heap.size .ready none)) := ⟨_, rfl⟩
 have hc := h fn W hW
 refine ⟨w.heap.size + 1, [{ target := .collected w.heap.size, args := #[] }], W, { target := .fn (.func gf) lb, args := #[.func (.yield (w.heap.size + 1)) #[] #[]] }, W, gf,
  #[.func (.yield (w.heap.size + 1)) #[] #[]] ++ lb, W, ?_, ?_, ?_, ?_, ?_, ?_⟩
 ·rw [hW]; exact run_enterLoop_outer _ _ _ _ _
 ·simp only [resolve, hg]
  simp [go_sem]
 ·intro f' _; trivial
 ·simp [invoke, go_sem, eg]
 ·intro hd; simp [Fence.wide] at hd
 ·refine CallsIn.mono (n := 0) hc ?_
  rintro e W ⟨v, rfl, r, hr, hb, hk⟩
  refine ⟨r.pending, _, run_endLoop hr hb, ?_⟩
  cases hp : r.pending with
  | none => rw [hp] at hk; exact hk _
  | some c => rw [hp] at hk; exact hk _
def roundQ (l : Nat) (r : Loop) (R : Ending → World → Prop) : Exit → Act → World → Prop := fun e _ W =>
 W.heap[l]? = some (.loop { r with state := .busy }) ∧
 match e with
 | .normal => R (.returned (.bool true)) (W.putObj l (.loop { r with state := .ready, pending := none }))
 | .ret => R (.returned (.bool false)) (W.putObj l (.loop { r with state := .done, pending := some .ret }))
 | .exit id => R (.returned (.bool false)) (W.putObj l (.loop { r with state := .done, pending := some (.exit id) }))
 | .goto t => R (.returned (.bool false)) (W.putObj l (.loop { r with state := .done, pending := some (.goto t) }))
 | _ => False
theorem yield_round {P : Program} {l : Nat} {r : Loop} {args : Array Value} {W : World} {R : Ending → World → Prop} (hl : W.heap[l]? = some (.loop r)) (hs : args.size = r.params.size) (hst : r.state = .ready)
 (h : r.assign.wpIn (Fence.wide.inRound l) 0 P (Exit.then (fun a₁ w₁ => w₁.heap[l]? = some (.loop r) ∧ r.body.wpIn (Fence.wide.inRound l) 0 P (roundQ l r R) a₁ (w₁.putObj l (.loop { r with state := .busy }))) (fun _ _ _ => False))
  { tmps := (r.params.zip args).foldl (fun tmps (t, a) => tmps.setIfInBounds t a) r.tmps, defers := [] } W) :
 YieldAt Fence.wide 0 P l args W R := by
 refine ⟨r.fn, _, r.assign, r.body, run_yield hl hs, roundIn_of_wpIn trivial (wpIn_mono h ?_)⟩
 rintro e a₁ w₁ hq
 cases e with
 | normal =>
  obtain ⟨h1, h2⟩ := hq
  refine ⟨_, run_beginRound h1 hst, wpIn_mono h2 ?_⟩
  rintro e a₂ w₂ ⟨h3, h4⟩
  cases e with
  | normal => exact ⟨_, _, run_endRound none h3, by simpa using h4⟩
  | ret => exact ⟨_, _, run_endRound (some .ret) h3, by simpa using h4⟩
  | exit id => exact ⟨_, _, run_endRound (some (.exit id)) h3, by simpa using h4⟩
  | goto t => exact ⟨_, _, run_endRound (some (.goto t)) h3, by simpa using h4⟩
  | panic _ => exact h4
  | outgrown => exact h4
 | _ => exact hq
theorem yield_rec {P : Program} {l : Nat} {r : Loop} {args : Array Value} {W : World} {R : Ending → World → Prop} {fn : Nat} {a : Act} {ps : Array Tmp} {assign body : Code} {D : Nat}
 (hr : recOf fn a ps assign body D .ready none = r) (hl : W.heap[l]? = some (.loop r)) (hs : args.size = ps.size)
 (h : assign.wpIn (Fence.wide.inRound l) 0 P (Exit.then (fun a₁ w₁ => w₁.heap[l]? = some (.loop r) ∧ body.wpIn (Fence.wide.inRound l) 0 P (roundQ l r R) a₁ (w₁.putObj l (.loop { r with state := .busy }))) (fun _ _ _ => False))
  { tmps := (ps.zip args).foldl (fun tmps (t, a) => tmps.setIfInBounds t a) a.tmps, defers := [] } W) :
 YieldAt Fence.wide 0 P l args W R := by
 subst hr
 exact yield_round hl hs rfl h
theorem rec_ready {fn : Nat} {a : Act} {ps : Array Tmp} {assign body : Code} {D : Nat} {r : Loop} (hr : recOf fn a ps assign body D .ready none = r) : { r with state := .ready, pending := none } = r := by
 subst hr; rfl
theorem below_put {B : Nat} {w W : World} (h : Below B w W) {l : Nat} (hl : B ≤ l) (o : Obj) : Below B w (W.putObj l o) :=
 h.trans ⟨rfl, rfl, rfl, by simp, fun k hk => World.putObj_heap_other (by omega)⟩
theorem wpListIn_append_sl {F : Fence} {nn : Nat} {P : Program} (w : World) {ops : Array Oper} {rest : List Oper} {o : Oper} {a : Act} {Q : Exit → Act → World → Prop} (hgd : o.guard = none) (s x : Operand) (t : TypeId)
 (ho : o.op = .call { callee := .builtin .append, args := #[s, x], argTypes := #[t, t] })
 {base : Nat} {e : TypeId} {z : Value} {size bytes : Nat} (T : ElT P t e z size bytes) {v : Value} {n : Nat} {xs : List Value} (hs : a.eval s = v) (hown : w.ownsRow base e size v n xs)
 {u : Value} {m : Nat} {news : List Value} (hx : a.eval x = u) (hu : Sl w u m news) (hl : news.length = m * size)
 (h1 : ∀ x ∈ news, x.oneCell' = true) (hb : (n + m) * bytes ≤ 140737488355328) (h63 : n + m ≤ maxLen) (hbase : base ≤ w.heap.size)
 (h : ∀ v' w', w'.ownsRow base e size v' (n + m) (xs ++ news) → Below base w w' → w.grownBy w' v.ownBlock → AppAt v v' w → wpListIn F nn P ops Q rest (a.put o.dst v') w') : wpListIn F nn P ops Q (o :: rest) a w := by
 refine wpListIn_plain hgd fun K hK' => ?_
 obtain ⟨v', w', hrun, h2, h3, _, h5⟩ := run_append_sl (P := P) w (ty := o.type) T hown hu hl h1 hb h63 hbase
 unfold Oper.wpIn
 refine ⟨?_, ?_⟩
 ·simp [Oper.about, ho, resolve, Target.leads, Sem.run_pure]
 ·rw [Oper.semAt_plain F _ _ (by rw [ho]; intro c hc'; cases hc')]
  simp only [execOp, ho, resolve, invoke, builtin, Sem.run_bind, Sem.run_pure, Result.andThen_ok, List.map_toArray, List.map_cons, List.map_nil, hs, hx, hrun]
  exact hK' _ _ (h v' w' h2 ((Below.refl _ _).grown h3 hbase (own_ge hown)) h3 h5)
end Go.Proofs.YtkmbnghghbfkdaaGreat
