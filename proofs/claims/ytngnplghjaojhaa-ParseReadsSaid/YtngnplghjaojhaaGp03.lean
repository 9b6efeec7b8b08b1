/- Two structs are made by two calls, each kept in a box of its own, in one statement: whatever order the calls, the boxes and the stores come in. No program in sight. -/
import Derived.Test.YtngnplghjaojhaaGp02
import Derived.Test.YtngnplghjaojhaaGp00
import Derived.Laws.Tables
import Derived.Laws.Rows
import Derived.Deep.MidRow
import Derived.Test.YtngnplghjaojhaaGp01
namespace Go.Proofs.Ytngnplghjaojhaa
set_option maxRecDepth 100000
set_option maxHeartbeats 2000000
set_option linter.unusedSimpArgs false
open Go.RowKit Go.Sort
set_option linter.unusedVariables false

/-- Cells of a block are written, one behind the other. -/
def setC : World → Nat → Nat → List Value → World
  | W, _, _, [] => W
  | W, g, i, x :: xs => setC (W.setCell ⟨g, i, none⟩ x) g (i + 1) xs
theorem row_setC {g : Nat} {t : TypeId} : ∀ (xs pre ys : List Value) {W : World}, RowAt W g t (pre ++ ys) → ys.length = xs.length → RowAt (setC W g pre.length xs) g t (pre ++ xs)
  | [], pre, ys, W, h, hl => by
    obtain rfl : ys = [] := List.eq_nil_of_length_eq_zero (by simpa using hl)
    exact h
  | x :: xs, pre, y :: ys, W, h, hl => by
    have h1 := h.set pre.length x
    rw [List.set_append_right _ _ (Nat.le_refl _), Nat.sub_self, List.set_cons_zero] at h1
    have h2 := row_setC xs (pre ++ [x]) ys (W := W.setCell ⟨g, pre.length, none⟩ x) (by rw [List.append_assoc]; exact h1) (by simpa using hl)
    rw [List.length_append, List.length_singleton, List.append_assoc] at h2
    exact h2
theorem below_setC {B g : Nat} {w : World} (hg : B ≤ g) : ∀ (xs : List Value) (i : Nat) {W : World}, Below B w W → Below B w (setC W g i xs)
  | [], _, _, h => h
  | x :: xs, i, _, h => below_setC hg xs (i + 1) (h.setCell (p := ⟨g, i, none⟩) hg x)
theorem grown_setC {g : Nat} : ∀ (xs : List Value) (i : Nat) (W : World), W.grownBy (setC W g i xs) (some g)
  | [], _, W => (grown_ext (Ext.refl W)).but _
  | x :: xs, i, W => (grown_set W g i x).trans (grown_setC xs (i + 1) _)
section
variable {w0 : World} {V0 V1 : Value} {O0 O1 : World → Value → Prop} {T0 T1 : TypeId} {z0 z1 : List Value} {S : Nat → Bool} {l0 c0 l1 c1 x0 x1 : Value} {W : World}
end
theorem puts_self : ∀ (a : Act) (slots : List Tmp), puts a slots (slots.map fun s => a.tmps.getD s undef) = a
  | _, [] => rfl
  | a, s :: ss => by
    have h : a.put (some s) (a.tmps.getD s undef) = a := by
      obtain ⟨t, d⟩ := a
      show (⟨t.setIfInBounds s (t.getD s undef), d⟩ : Act) = ⟨t, d⟩
      congr 1
      apply Array.ext_getElem?
      intro i
      rw [Array.getElem?_setIfInBounds]
      split
      · rename_i e
        subst e
        split
        · rename_i hl
          simp [Array.getD, hl]
        · rename_i hl
          rw [Array.getElem?_eq_none (by omega)]
      · rfl
    show puts (a.put (some s) (a.tmps.getD s undef)) ss (ss.map fun s => a.tmps.getD s undef) = a
    rw [h]
    exact puts_self a ss
end Go.Proofs.Ytngnplghjaojhaa

/- A region that draws its order, while blocks of a list may be written; whole rows are loaded and stored in one step. No program in sight. -/
namespace Go.Proofs.Ytngnplghjaojhaa
set_option maxRecDepth 100000
set_option maxHeartbeats 2000000
set_option linter.unusedSimpArgs false
open Go.RowKit Go.Sort
set_option linter.unusedVariables false

/-- Only blocks of a list have changed, and there may be new ones. -/
structure Grows (X : List Nat) (w w' : World) : Prop where
  os : w'.os = w.os
  tape : w'.tape = w.tape
  output : w'.output = w.output
  size : w.heap.size ≤ w'.heap.size
  block : ∀ i, i < w.heap.size → i ∉ X → w'.heap[i]? = w.heap[i]?
theorem Grows.refl (X : List Nat) (w : World) : Grows X w w := ⟨rfl, rfl, rfl, Nat.le_refl _, fun _ _ _ => rfl⟩
theorem Grows.trans {X : List Nat} {a b c : World} (h : Grows X a b) (k : Grows X b c) : Grows X a c :=
  ⟨k.os.trans h.os, k.tape.trans h.tape, k.output.trans h.output, Nat.le_trans h.size k.size, fun i hi hn => (k.block i (Nat.lt_of_lt_of_le hi h.size) hn).trans (h.block i hi hn)⟩
theorem Grows.ext {X : List Nat} {w w' : World} (h : Ext w w') : Grows X w w' := ⟨h.os, h.tape, h.output, h.size, fun i hi _ => h.block i hi⟩
theorem Grows.one {X : List Nat} {w w' : World} {g : Nat} (h : w.grownBy w' (some g)) (hg : g ∈ X) : Grows X w w' := ⟨h.os, h.tape, h.output, h.size, fun i hi hn => h.block i hi (fun e => hn (by cases e; exact hg))⟩
theorem Grows.row {X : List Nat} {w w' : World} {b : Nat} {t : TypeId} {xs : List Value} (h : Grows X w w') (hr : RowAt w b t xs) (hn : b ∉ X) : RowAt w' b t xs := (h.block b hr.lt hn).trans hr
theorem Grows.set {X : List Nat} {w : World} {g : Nat} (hg : g ∈ X) (i : Nat) (v : Value) : Grows X w (w.setCell ⟨g, i, none⟩ v) := Grows.one (grown_set w g i v) hg
theorem setRow_grown (w : World) (g : Nat) (cs : Array Value) : w.grownBy (w.setRow g cs) (some g) :=
  ⟨rfl, rfl, rfl, by simp [World.setRow], fun i hi hn => setRow_other w g i cs (fun e => hn (by rw [e]))⟩
theorem Grows.setRow {X : List Nat} {w : World} {g : Nat} (hg : g ∈ X) (cs : Array Value) : Grows X w (w.setRow g cs) := Grows.one (setRow_grown w g cs) hg
theorem RowAt.setRow {w : World} {g : Nat} {t : TypeId} {old : List Value} (h : RowAt w g t old) (xs : List Value) : RowAt (w.setRow g xs.toArray) g t xs := setRow_heap _ _ _ _ _ _ h
theorem RowAt.range {w : World} {g : Nat} {t : TypeId} {pre cs post : List Value} (h : RowAt w g t (pre ++ cs ++ post)) : w.rangeAt g pre.length cs := fun j v hv => by
  refine h.cell ?_
  rw [List.append_assoc, List.getElem?_append_right (by omega), Nat.add_sub_cancel_left, List.getElem?_append_left (List.getElem?_eq_some_iff.1 hv).1]
  exact hv
theorem RowAt.whole {w : World} {g : Nat} {t : TypeId} {cs : List Value} (h : RowAt w g t cs) : w.rangeAt g 0 cs := fun j v hv => h.cell (by rw [Nat.zero_add]; exact hv)
theorem Grows.range {X : List Nat} {w w' : World} {b o : Nat} {cs : List Value} (h : Grows X w w') (hc : w.rangeAt b o cs) (hn : b ∉ X) : w'.rangeAt b o cs := fun j v hv => by
  have h1 := hc j v hv
  exact (World.cell?_of_block (w := w) (h.block b (World.block_lt_of_cell? w _ h1) hn)).trans h1
theorem grows_some {X : List Nat} {w w' : World} (hx : Grows X w w') (p : Addr) (hne : p.block ∉ X) (h : (w.cell? p).isSome = true) : w'.cell? p = w.cell? p := by
  obtain ⟨v, hv⟩ := Option.isSome_iff_exists.1 h
  exact World.cell?_of_block (w := w) (hx.block p.block (World.block_lt_of_cell? w p hv) hne)
instance growsRel (X : List Nat) : Rel (Grows X) := ⟨Grows.refl X, fun h k => h.trans k⟩
structure GroX (X : List Nat) (P : Program) (ops : Array Oper) (Q : Exit → Act → World → Prop) (ks : Nat → Gro) (l : List Nat) (a : Act) (w : World) : Prop where
  out : groL (Grows X) P ops Q ks l a w
section
variable {X : List Nat} {P : Program} {ops : Array Oper} {Q : Exit → Act → World → Prop} {ks : Nat → Gro} {a : Act} {w : World} {i : Nat} {r : List Nat} {o : Oper}
theorem groX_nil (h : Q .normal a w) : GroX X P ops Q ks [] a w := ⟨h⟩
theorem groX_pure (ho : ops[i]? = some o) (hk : ks i = .pure)
    (h : ∀ K : Act → Prop, (∀ a, GroX X P ops Q ks r a w → K a) → if Region.wanted o (yielded ops a.tmps) = true then ∃ v, (∀ w', (execOp a.eval o).run P w' = .ok (.value v) w') ∧ K (a.put o.dst v) else K (a.put o.dst undef)) : GroX X P ops Q ks (i :: r) a w :=
  ⟨groL0_pure ho hk fun K hK => h K fun a h => hK a h.out⟩
theorem groX_read (ho : ops[i]? = some o) (hk : ks i = .read)
    (h : ∀ (K : Act → Prop) (S : Value → Prop), (∀ v, Stays (Grows X) P o a w v → S v) → (∀ a, GroX X P ops Q ks r a w → K a) → if Region.wanted o (yielded ops a.tmps) = true then ∃ v, o.quietAt P a (fun x => x = w) w v ∧ S v ∧ K (a.put o.dst v) else K (a.put o.dst undef)) : GroX X P ops Q ks (i :: r) a w :=
  ⟨groL0_read ho hk fun K S hS hK => h K S hS fun a h => hK a h.out⟩
theorem groX_grow (ho : ops[i]? = some o) (hk : ks i = .grow)
    (h : ∀ K : Act → World → Prop, (∀ a w', Grows X w w' ∧ GroX X P ops Q ks r a w' → K a w') → if Region.wanted o (yielded ops a.tmps) = true then o.wp P a w K Q else K (a.put o.dst undef) w) : GroX X P ops Q ks (i :: r) a w :=
  ⟨groL0_grow ho hk fun K hK => h K fun a w' h => hK a w' ⟨h.1, h.2.out⟩⟩
theorem wanted_none (hgd : o.guard = none) (ops : Array Oper) (tmps : Array Value) : Region.wanted o (yielded ops tmps) = true := by simp [Region.wanted, hgd]
/-- A row is loaded. -/
theorem groX_load (ho : ops[i]? = some o) (hk : ks i = .read) (hgd : o.guard = none) (ty : TypeId) (x : Operand) (hop : o.op = .load ty x) (b off : Nat) (hx : a.eval x = .pointer (some ⟨b, off, none⟩)) (cs : List Value) (d : TypeDesc) (hc : w.rangeAt b off cs) (hb : b ∉ X)
    (hu : P.underlying ty = some d) (hd : d.isRow = true) (hi : (P.info? ty).map (·.size) = some cs.length)
    (h : GroX X P ops Q ks r (a.put o.dst (.agg cs.toArray)) w) : GroX X P ops Q ks (i :: r) a w := by
  refine groX_read ho hk fun K S hS hK => ?_
  rw [if_pos (wanted_none hgd _ _)]
  have hq : ∀ w', w'.rangeAt b off cs → o.quietAt P a (fun x => x = w') w' (.agg cs.toArray) := fun w' hc' => by
    unfold Oper.quietAt execOp
    simp only [hop, hx, Instr.loadAt, Instr.sureAddr, Sem.run_bind, Sem.run_pure, Result.andThen_ok, run_loadVar_mid w' b off ty cs d hc' hu hd hi]
    simp [Oper.quietUpon]
  exact ⟨_, hq w hc, hS _ (fun w' hg => hq w' (hg.range hc hb)), hK _ h⟩
/-- A row is stored. -/
theorem groX_store (ho : ops[i]? = some o) (hk : ks i = .grow) (hgd : o.guard = none) (ty : TypeId) (x y : Operand) (hop : o.op = .store ty x y) (g : Nat) (cs : List Value) (hx : a.eval x = .pointer (some ⟨g, 0, none⟩)) (hy : a.eval y = .agg cs.toArray)
    {t : TypeId} {old : List Value} (hg : RowAt w g t old) (hX : g ∈ X) (hi : (P.info? ty).map (·.size) = some cs.length) (hold : old.length = cs.length) (h1 : ∀ v ∈ cs, v.oneCell' = true)
    (h : GroX X P ops Q ks r (a.put o.dst undef) (w.setRow g cs.toArray)) : GroX X P ops Q ks (i :: r) a w := by
  refine groX_grow ho hk fun K hK => ?_
  rw [if_pos (wanted_none hgd _ _)]
  exact wp_store_row ty x y hop g cs.toArray hx hy t old.toArray hg (by simpa using hi) (by simpa using hold) (all_oneCell_toArray h1) (hK _ _ ⟨Grows.setRow hX _, h⟩)
theorem wp_region_grox (X : List Nat) {id : Nat} {l : List Oper} (ks : Nat → Gro) (ord : List Nat) (hm : P.follows .mixedOrders = true) (hsel : Region.noSelect l.toArray = true) (hn : ord.length = l.length)
    (hB : groText .any l.toArray ks ord (Array.replicate l.toArray.size false) = true) (hQ : ∀ c a w d v, Q (.panic c) (a.put (some d) v) w → Q (.panic c) a w)
    (h : GroX X P l.toArray Q ks ord a w.drew) : (Code.region id l.toArray true).wp P Q a w := wp_region_gro0 ks ord hm hsel hn hB hQ h.out
end
/-- Results that begin with a cell of a whole row. -/
theorem load_whole {P : Program} {w : World} {g : Nat} {t ty : TypeId} {xs : List Value} {d : TypeDesc} (h : RowAt w g t xs) (hu : P.underlying ty = some d) (hd : d.isRow = true) (hi : (P.info? ty).map (·.size) = some xs.length) : (loadVar ty ⟨g, 0, none⟩).run P w = .ok (.agg xs.toArray) w :=
  run_loadVar_mid w g 0 ty xs d h.whole hu hd hi
theorem results_row2 {P : Program} {fn : Func} {p u v : Tmp} {ty : TypeId} (h : fn.results = #[.cell p ty, .tmp u, .tmp v]) {tmps : Array Value} {w : World} {g : Nat} {t : TypeId} {xs : List Value} {d : TypeDesc}
    (hp : tmps.getD p undef = .pointer (some ⟨g, 0, none⟩)) (hg : RowAt w g t xs) (hu : P.underlying ty = some d) (hd : d.isRow = true) (hi : (P.info? ty).map (·.size) = some xs.length) :
    (results fn tmps).run P w = .ok (.tuple #[.agg xs.toArray, tmps.getD u undef, tmps.getD v undef]) w := by
  have hp' : tmps[p]?.getD undef = .pointer (some ⟨g, 0, none⟩) := by simpa using hp
  simp [results, h, hp', asAddr, load_whole hg hu hd hi]
theorem results_row1 {P : Program} {fn : Func} {p u : Tmp} {ty : TypeId} (h : fn.results = #[.cell p ty, .tmp u]) {tmps : Array Value} {w : World} {g : Nat} {t : TypeId} {xs : List Value} {d : TypeDesc}
    (hp : tmps.getD p undef = .pointer (some ⟨g, 0, none⟩)) (hg : RowAt w g t xs) (hu : P.underlying ty = some d) (hd : d.isRow = true) (hi : (P.info? ty).map (·.size) = some xs.length) :
    (results fn tmps).run P w = .ok (.tuple #[.agg xs.toArray, tmps.getD u undef]) w := by
  have hp' : tmps[p]?.getD undef = .pointer (some ⟨g, 0, none⟩) := by simpa using hp
  simp [results, h, hp', asAddr, load_whole hg hu hd hi]
theorem results_row0 {P : Program} {fn : Func} {p : Tmp} {ty : TypeId} (h : fn.results = #[.cell p ty]) {tmps : Array Value} {w : World} {g : Nat} {t : TypeId} {xs : List Value} {d : TypeDesc}
    (hp : tmps.getD p undef = .pointer (some ⟨g, 0, none⟩)) (hg : RowAt w g t xs) (hu : P.underlying ty = some d) (hd : d.isRow = true) (hi : (P.info? ty).map (·.size) = some xs.length) :
    (results fn tmps).run P w = .ok (.agg xs.toArray) w := by
  have hp' : tmps[p]?.getD undef = .pointer (some ⟨g, 0, none⟩) := by simpa using hp
  simp [results, h, hp', asAddr, load_whole hg hu hd hi]
/-- In a plain region. -/
theorem plain_load {P : Program} {Q : Exit → Act → World → Prop} {ops : Array Oper} {rest : List Oper} {o : Oper} {a : Act} {w : World} (hgd : o.guard = none) (ty : TypeId) (x : Operand) (ho : o.op = .load ty x) (g : Nat) (hx : a.eval x = .pointer (some ⟨g, 0, none⟩)) {t : TypeId} (cs : List Value) (d : TypeDesc) (hg : RowAt w g t cs)
    (hu : P.underlying ty = some d) (hd : d.isRow = true) (hi : (P.info? ty).map (·.size) = some cs.length)
    (h : wpList P ops Q rest (a.put o.dst (.agg cs.toArray)) w) : wpList P ops Q (o :: rest) a w :=
  wpList_load_mid hgd ty x ho g 0 hx cs d hg.whole hu hd hi h
theorem plain_store {P : Program} {Q : Exit → Act → World → Prop} {ops : Array Oper} {rest : List Oper} {o : Oper} {a : Act} {w : World} (hgd : o.guard = none) (ty : TypeId) (x y : Operand) (ho : o.op = .store ty x y) (g : Nat) (cs : List Value) (hx : a.eval x = .pointer (some ⟨g, 0, none⟩)) (hy : a.eval y = .agg cs.toArray)
    {t : TypeId} {old : List Value} (hg : RowAt w g t old) (hi : (P.info? ty).map (·.size) = some cs.length) (hold : old.length = cs.length) (h1 : ∀ v ∈ cs, v.oneCell' = true)
    (h : wpList P ops Q rest (a.put o.dst undef) (w.setRow g cs.toArray)) : wpList P ops Q (o :: rest) a w :=
  wpList_store_row hgd ty x y ho g cs.toArray hx hy t old.toArray hg (by simpa using hi) (by simpa using hold) (all_oneCell_toArray h1) h
end Go.Proofs.Ytngnplghjaojhaa

/- A range over a function whose iterator turns blocks of its own; a loop of such kind may stand within another's iterator. No program in sight. -/
namespace Go.Proofs.Ytngnplghjaojhaa
set_option maxRecDepth 100000
set_option maxHeartbeats 2000000
set_option linter.unusedVariables false
set_option linter.unusedSimpArgs false
open Go.RowKit Go.Sort

/-- What an iterator may do between the rounds: make blocks; turn what is no row from B on; turn rows of type T from X on. -/
def Turn (T : TypeId) (X B : Nat) (W W' : World) : Prop := ∃ row, W.grownBy W' row ∧ ∀ r, row = some r → ∃ o, W.heap[r]? = some o ∧ (B ≤ r ∧ o.isCells = false ∨ X ≤ r ∧ ∃ cs fr, o = .cells cs T fr)
theorem Turn.ext {T : TypeId} {X B : Nat} {W W' : World} (h : Ext W W') : Turn T X B W W' := ⟨none, grown_ext h, fun r e => by cases e⟩
theorem Turn.mono {T : TypeId} {X B X' B' : Nat} {W W' : World} (h : Turn T X B W W') (hX : X' ≤ X) (hB : B' ≤ B) : Turn T X' B' W W' := by
  obtain ⟨row, hg, hr⟩ := h
  refine ⟨row, hg, fun r e => ?_⟩
  obtain ⟨o, ho, h | h⟩ := hr r e
  · exact ⟨o, ho, .inl ⟨by omega, h.2⟩⟩
  · exact ⟨o, ho, .inr ⟨by omega, h.2⟩⟩
theorem Turn.keep {T : TypeId} {X B : Nat} {W W' : World} (h : Turn T X B W W') {l : Nat} {o : Obj} (hl : W.heap[l]? = some o) (ho : o.isCells = false) (hB : l < B) : W'.heap[l]? = some o := by
  obtain ⟨row, hg, hr⟩ := h
  refine (hg.block l (Array.getElem?_eq_some_iff.1 hl).1 (fun e => ?_)).trans hl
  obtain ⟨o', ho', h | h⟩ := hr l e.symm
  · omega
  · rw [hl] at ho'; cases ho'; obtain ⟨_, cs, fr, rfl⟩ := h; cases ho
/-- What abides such turns. -/
def PStab (T : TypeId) (X B : Nat) (I : World → Prop) : Prop := ∀ W W', Turn T X B W W' → I W → I W'
theorem PStab.stab {T : TypeId} {X B : Nat} {I : World → Prop} (h : PStab T X B I) : Stab B I := fun W W' row hi hg hr =>
  h W W' ⟨row, hg, fun r e => by obtain ⟨hB, o, ho, hc⟩ := hr r e; exact ⟨o, ho, .inl ⟨hB, hc⟩⟩⟩ hi
theorem PStab.ex {T : TypeId} {X B : Nat} {α : Sort _} {I : α → World → Prop} (h : ∀ x, PStab T X B (I x)) : PStab T X B (fun W => ∃ x, I x W) := fun W W' ht ⟨x, hi⟩ => ⟨x, h x W W' ht hi⟩
theorem PStab.row {T : TypeId} {X B : Nat} (g : Nat) (t : TypeId) (xs : List Value) (h : t ≠ T ∨ g < X) : PStab T X B (fun W => RowAt W g t xs) := fun W W' ⟨row, hg, hr⟩ hi => hi.kept hg (fun e => by
  obtain ⟨o, ho, h' | h'⟩ := hr g e
  · rw [show W.heap[g]? = _ from hi] at ho; cases ho; exact absurd h'.2 (by simp [Obj.isCells])
  · rw [show W.heap[g]? = _ from hi] at ho
    obtain ⟨hX, cs, fr, rfl⟩ := h'
    cases ho
    rcases h with h | h
    · exact h rfl
    · omega)
theorem PStab.own {T : TypeId} {X B : Nat} (base n size : Nat) (e : TypeId) (v : Value) (xs : List Value) (he : e ≠ T) : PStab T X B (fun W => W.ownsRow base e size v n xs) := fun W W' ⟨row, hg, hr⟩ h => by
  refine ⟨h.1, ?_⟩
  rcases h.2 with hn | ⟨g, cap, cur, rfl, hbg, hgg, rest⟩
  · exact .inl hn
  · refine .inr ⟨g, cap, cur, rfl, hbg, ?_, rest⟩
    refine (hg.block g (Array.getElem?_eq_some_iff.1 hgg).1 (fun e' => ?_)).trans hgg
    obtain ⟨o, ho, h' | h'⟩ := hr g e'.symm
    · rw [hgg] at ho; cases ho; exact absurd h'.2 (by simp [Obj.isCells])
    · rw [hgg] at ho; obtain ⟨_, cs, fr, rfl⟩ := h'; cases ho; exact he rfl
end Go.Proofs.Ytngnplghjaojhaa

/- A range over a function whose iterator turns rows of its own, and may end in a panic. No program in sight. -/
namespace Go.Proofs.Ytngnplghjaojhaa
set_option maxRecDepth 100000
set_option maxHeartbeats 2000000
set_option linter.unusedVariables false
set_option linter.unusedSimpArgs false
open Go.RowKit Go.Sort

/-- What a range over a function owes when the iterator has ended. -/
def overPostX (P : Program) (l : Nat) (Q : Exit → Act → World → Prop) (a' : Act) : Ending → World → Prop := fun e W =>
  match e with
  | .returned _ => ∃ r : Loop, W.heap[l]? = some (.loop r) ∧ r.state ≠ .busy ∧ r.pending = none ∧ ∀ r' : Loop, Q .normal a' (W.putObj l (.loop r'))
  | .panicked chain => Q (.panic chain) a' W
  | .outgrown => False

theorem wp_rangeX {P : Program} {g : Operand} {ps : Array Tmp} {assign body : Code} {Q : Exit → Act → World → Prop} {a : Act} {w : World} {gf : Nat} {lb : Array Value}
    (hg : a.eval g = .func (.func gf) #[] lb) (eg : ∀ args w, (callFunc gf args).run P w = .ok (.enter gf args) w) (D L : Nat) (hD : w.heap.size = D) (hL : D + 1 = L) (args : Array Value) (hargs : #[.func (.yield L) #[] #[]] ++ lb = args)
    (h : ∀ fn W, W = (w.alloc (.deferred (some []))).alloc (.loop (recOf fn a ps assign body D .ready none)) →
      CallsIn Fence.wide 0 P gf args W (overPostX P L Q { a with defers := { target := .collected D, args := #[] } :: a.defers })) :
    (Code.rangeFunc g ps assign body).wpIn Fence.wide 0 P Q a w := by
  subst hD hL hargs
  refine wpIn_rangeFunc ?_
  intro fn _
  obtain ⟨W, hW⟩ : ∃ W, W = (w.alloc (.deferred (some []))).alloc (.loop (recOf fn a ps assign body w.heap.size .ready none)) := ⟨_, rfl⟩
  have hc := h fn W hW
  refine ⟨w.heap.size + 1, [{ target := .collected w.heap.size, args := #[] }], W, { target := .fn (.func gf) lb, args := #[.func (.yield (w.heap.size + 1)) #[] #[]] }, W, gf,
    #[.func (.yield (w.heap.size + 1)) #[] #[]] ++ lb, W, ?_, ?_, ?_, ?_, ?_, ?_⟩
  · rw [hW]; exact run_enterLoop_outer _ _ _ _ _
  · simp only [resolve, hg]
    simp [go_sem]
  · intro f' _; trivial
  · simp [invoke, go_sem, eg]
  · intro hd; simp [Fence.wide] at hd
  · refine CallsIn.mono (n := 0) hc ?_
    rintro e W hq
    cases e with
    | returned v =>
      obtain ⟨r, hr, hb, hp, hk⟩ := hq
      refine ⟨r.pending, _, run_endLoop hr hb, ?_⟩
      rw [hp]
      exact hk _
    | panicked chain => exact hq
    | outgrown => exact hq.elim

/-- An iterator's contract: it calls yield with N rows of arguments, one behind the other, and yield goes on each time; it ends as Fin says: returned behind the last one, or panicked somewhere. -/
def IterX (P : Program) (gf : Nat) (lb : Array Value) (Inv : World → Prop) (T : TypeId) (Y N : Nat) (Enc : Nat → Array Value → Prop) (Fin : Ending → World → Prop) : Prop :=
  ∀ (L : Nat) (W : World) (J : Nat → World → Prop), Y ≤ W.heap.size → Inv W →
    (∀ k, PStab T 0 W.heap.size (J k)) →
    (∀ k args W₁, k < N → J k W₁ → Enc k args → YieldAt Fence.wide 0 P L args W₁ fun e W' => KeepsFrom W.heap.size W₁ W' ∧ Below Y W₁ W' ∧ e = .returned (.bool true) ∧ J (k + 1) W') →
    J 0 W →
    CallsIn Fence.wide 0 P gf (#[.func (.yield L) #[] #[]] ++ lb) W fun e W' => Fin e W' ∧ ((∃ v, e = .returned v) ∧ J N W' ∨ (∃ c, e = .panicked c) ∧ ∃ k, J k W')

/-- What a round's body owes. -/
def overX (B Y : Nat) (I : Nat → World → Prop) (k : Nat) (W : World) : Exit → Act → World → Prop := fun e _ W' =>
  KeepsFrom B W W' ∧ Below Y W W' ∧ e = .normal ∧ I (k + 1) W'

theorem wp_overX {P : Program} {g : Operand} {ps : Array Tmp} {assign body : Code} {Q : Exit → Act → World → Prop} {a : Act} {w : World} {gf : Nat} {lb : Array Value} {Inv : World → Prop} {T : TypeId} {Y N : Nat} {Enc : Nat → Array Value → Prop} {Fin : Ending → World → Prop}
    (hg : a.eval g = .func (.func gf) #[] lb) (eg : ∀ args w, (callFunc gf args).run P w = .ok (.enter gf args) w) (hit : IterX P gf lb Inv T Y N Enc Fin) (hY : Y ≤ w.heap.size)
    (hsz : ∀ k args, Enc k args → args.size = ps.size)
    (I : Nat → World → Prop) (hI : ∀ k, PStab T 0 w.heap.size (I k)) (hInv : Stab w.heap.size Inv) (hFin : ∀ e, Stab w.heap.size (Fin e)) (hb : Inv w) (h0 : I 0 w)
    (hround : ∀ k args W L, k < N → w.heap.size < L → I k W → Enc k args →
      assign.wpIn (Fence.wide.inRound L) 0 P (Exit.then (fun a₁ W₁ => KeepsFrom w.heap.size W W₁ ∧ Below Y W W₁ ∧ I k W₁ ∧ ∀ W₂, (∀ J : World → Prop, Stab w.heap.size J → J W₁ → J W₂) → I k W₂ → body.wpIn (Fence.wide.inRound L) 0 P (overX w.heap.size Y I k W₂) a₁ W₂) (fun _ _ _ => False))
        { tmps := (ps.zip args).foldl (fun tmps (t, a) => tmps.setIfInBounds t a) a.tmps, defers := [] } W)
    (hdone : ∀ D v W, w.heap.size ≤ D → I N W → Fin (.returned v) W → W.heap[D]? = some (.deferred (some [])) → Q .normal { a with defers := { target := .collected D, args := #[] } :: a.defers } W)
    (hpan : ∀ D c k W, w.heap.size ≤ D → I k W → Fin (.panicked c) W → W.heap[D]? = some (.deferred (some [])) → Q (.panic c) { a with defers := { target := .collected D, args := #[] } :: a.defers } W) :
    (Code.rangeFunc g ps assign body).wp P Q a w := by
  refine (wpIn_wide (n := 0)).1 ?_
  refine wp_rangeX hg eg w.heap.size (w.heap.size + 1) rfl rfl _ rfl ?_
  intro fn W hW
  generalize hr : recOf fn a ps assign body w.heap.size .ready none = r at hW
  have hrd : r.state = .ready ∧ r.pending = none := by subst hr; exact ⟨rfl, rfl⟩
  have hL0 : W.heap[w.heap.size + 1]? = some (.loop r) := by
    subst hW
    have := World.alloc_heap_new (w.alloc (.deferred (some []))) (.loop r)
    rwa [World.size_alloc] at this
  have hD0 : W.heap[w.heap.size]? = some (.deferred (some [])) := by
    subst hW
    rw [Below.heap_alloc _ _ _ (by simp)]
    exact World.alloc_heap_new w _
  have hI0 : I 0 W := by
    subst hW
    exact (hI 0).stab.ext ((hI 0).stab.ext h0 (Ext.alloc _ _)) (Ext.alloc _ _)
  have hWs : W.heap.size = w.heap.size + 1 + 1 := by subst hW; simp
  have hx := hit (w.heap.size + 1) W (fun k W => W.heap[w.heap.size + 1]? = some (.loop r) ∧ W.heap[w.heap.size]? = some (.deferred (some [])) ∧ I k W)
    (by omega)
    (by subst hW; exact hInv.ext (hInv.ext hb (Ext.alloc _ _)) (Ext.alloc _ _))
    (fun k W₁ W₂ ht ⟨h1, h2, h3⟩ => ⟨ht.keep h1 rfl (by omega), ht.keep h2 rfl (by omega), hI k W₁ W₂ (ht.mono (Nat.le_refl _) (by omega)) h3⟩)
    ?_ ⟨hL0, hD0, hI0⟩
  · refine CallsIn.mono (n := 0) hx ?_
    rintro e W' ⟨hf, ⟨⟨v, rfl⟩, h1, h2, h3⟩ | ⟨⟨c, rfl⟩, k, h1, h2, h3⟩⟩
    · refine ⟨r, h1, by rw [hrd.1]; decide, hrd.2, fun r' => ?_⟩
      exact hdone _ v _ (Nat.le_refl _) ((hI N).stab.put h3 h1 rfl (by omega) _) ((hFin _).put hf h1 rfl (by omega) _) ((World.putObj_heap_other (by omega)).trans h2)
    · exact hpan _ c k _ (Nat.le_refl _) h3 hf h2
  · rintro k args W1 hk ⟨h1, h2, h3⟩ he
    refine yield_rec hr h1 (hsz k args he) ?_
    refine wpIn_mono (hround k args W1 (w.heap.size + 1) hk (by omega) h3 he) ?_
    rintro ex a₁ W₁ hq
    cases ex with
    | normal =>
      obtain ⟨q1, q1b, q2, q3⟩ := hq
      have h1' := q1.same _ _ (by omega) h1 rfl
      have h2' := q1.same _ _ (by omega) h2 rfl
      refine ⟨h1', ?_⟩
      have hput : ∀ o : Obj, KeepsFrom W.heap.size W₁ (W₁.putObj (w.heap.size + 1) o) := fun o => ⟨(grownBy_putObj' W₁ _ o).size, fun k' o' hk' h0' ho' => (World.putObj_heap_other (by omega)).trans h0'⟩
      refine wpIn_mono (q3 (W₁.putObj (w.heap.size + 1) (.loop { r with state := .busy })) (fun J hJ hj => hJ.put hj h1' rfl (by omega) _) ((hI k).stab.put q2 h1' rfl (by omega) _)) ?_
      rintro ex a₂ W₂ ⟨hK, hKb, hex, hq⟩
      subst hex
      have h1'' := hK.same _ _ (by omega) (World.putObj_heap_same (Array.getElem?_eq_some_iff.1 h1').1) rfl
      have h2'' := hK.same _ _ (by omega) ((World.putObj_heap_other (by omega)).trans h2') rfl
      have hlt := (Array.getElem?_eq_some_iff.1 h1'').1
      have hput2 : ∀ o : Obj, KeepsFrom W.heap.size W₂ (W₂.putObj (w.heap.size + 1) o) := fun o => ⟨(grownBy_putObj' W₂ _ o).size, fun k' o' hk' h0' ho' => (World.putObj_heap_other (by omega)).trans h0'⟩
      have hkm : ∀ {A B : World}, KeepsFrom w.heap.size A B → KeepsFrom W.heap.size A B := fun h => ⟨h.size, fun k' o' hk' h0' ho' => h.same k' o' (by omega) h0' ho'⟩
      refine ⟨h1'', ?_⟩
      exact ⟨(((hkm q1).trans (hput _)).trans (hkm hK)).trans (hput2 _), below_put (Below.trans (below_put q1b (by omega) _) hKb) (by omega) _, rfl, World.putObj_heap_same hlt |>.trans (by rw [rec_ready hr]), (World.putObj_heap_other (by omega)).trans h2'', (hI (k + 1)).stab.put hq h1'' rfl (by omega) _⟩
    | _ => exact hq

/-- The end of a function that held one range over a function, by a panic. -/
theorem leave_panic {P : Program} {fn : Func} {tmps : Array Value} {D : Nat} {W : World} {R : Ending → World → Prop} {c : List PanicEntry} (hD : W.heap[D]? = some (.deferred (some [])))
    (h : R (.panicked c) (W.putObj D (.deferred none))) : bodyPostM Fence.wide 0 P fn R (.panic c) { tmps, defers := [{ target := .collected D, args := #[] }] } W :=
  ⟨by simp, .inl ⟨_, _, rfl, run_takeDeferred hD, h⟩⟩
end Go.Proofs.Ytngnplghjaojhaa

/- Tokens of a text: plain, no program in sight. -/
namespace Go.Proofs.Ytngnplghjaojhaa
set_option maxRecDepth 100000
set_option maxHeartbeats 2000000
set_option linter.unusedSimpArgs false
set_option linter.unusedVariables false

/-- A text's bytes. -/
def bts (s : ByteArray) : List UInt8 := s.data.toList
/-- A text of bytes. -/
def txt (l : List UInt8) : ByteArray := ⟨l.toArray⟩
theorem bts_txt (l : List UInt8) : bts (txt l) = l := by simp [bts, txt]
theorem txt_bts (s : ByteArray) : txt (bts s) = s := by cases s; simp [bts, txt]
theorem bts_len (s : ByteArray) : (bts s).length = s.size := by simp [bts]
theorem txt_size (l : List UInt8) : (txt l).size = l.length := by simp [txt, ByteArray.size]
theorem bts_inj {s t : ByteArray} (h : bts s = bts t) : s = t := by rw [← txt_bts s, h, txt_bts]
theorem bts_extract (s : ByteArray) (a b : Nat) : bts (s.extract a b) = ((bts s).drop a).take (b - a) := by
  unfold bts
  rw [ByteArray.data_extract, Array.toList_extract, List.extract_eq_take_drop]
theorem bts_append (s t : ByteArray) : bts (s ++ t) = bts s ++ bts t := by
  unfold bts
  rw [ByteArray.data_append, Array.toList_append]
theorem extract_txt (s : ByteArray) (a b : Nat) : s.extract a b = txt (((bts s).drop a).take (b - a)) := by rw [← bts_extract, txt_bts]
theorem bts_drop (s : ByteArray) (k : Nat) (h : k < s.size) : (bts s).drop k = s[k] :: (bts s).drop (k + 1) := by
  rw [List.drop_eq_getElem_cons (by rw [bts_len]; exact h)]; rfl

def letterC (c : Int) : Bool := decide (97 ≤ c ∧ c ≤ 122 ∨ 48 ≤ c ∧ c ≤ 57 ∨ c = 95)
def quotedC (c : Int) : Bool := decide (32 ≤ c ∧ c ≤ 126 ∧ c ≠ 34 ∧ c ≠ 92)
def blankC (c : Int) : Bool := decide (c = 32 ∨ c = 10)

/-- How many bytes hold, from the first on. -/
def spanL (p : Int → Bool) : List UInt8 → Nat
  | [] => 0
  | c :: l => if p c.toNat then spanL p l + 1 else 0
theorem spanL_le (p : Int → Bool) (l : List UInt8) : spanL p l ≤ l.length := by
  induction l with
  | nil => exact Nat.le_refl _
  | cons c l ih => unfold spanL; split <;> simp <;> omega
theorem spanL_yes {p : Int → Bool} {c : UInt8} {l : List UInt8} (h : p c.toNat = true) : spanL p (c :: l) = spanL p l + 1 := by simp [spanL, h]
theorem spanL_no {p : Int → Bool} {c : UInt8} {l : List UInt8} (h : p c.toNat = false) : spanL p (c :: l) = 0 := by simp [spanL, h]
theorem spanL_drop_yes {p : Int → Bool} {s : ByteArray} {k : Nat} (h : k < s.size) (hp : p s[k].toNat = true) : spanL p ((bts s).drop k) = spanL p ((bts s).drop (k + 1)) + 1 := by rw [bts_drop s k h, spanL_yes hp]
theorem spanL_drop_no {p : Int → Bool} {s : ByteArray} {k : Nat} (h : k < s.size) (hp : p s[k].toNat = false) : spanL p ((bts s).drop k) = 0 := by rw [bts_drop s k h, spanL_no hp]
theorem spanL_all (p : Int → Bool) (l : List UInt8) : ∀ c ∈ l.take (spanL p l), p c.toNat = true := by
  induction l with
  | nil => intro c hc; simp at hc
  | cons x l ih =>
    intro c hc
    cases hx : p x.toNat with
    | true => rw [spanL_yes hx, List.take_succ_cons] at hc; rcases List.mem_cons.1 hc with rfl | hc; exact hx; exact ih c hc
    | false => rw [spanL_no hx] at hc; simp at hc
theorem spanL_end (p : Int → Bool) (l : List UInt8) (h : spanL p l < l.length) : p l[spanL p l].toNat = false := by
  induction l with
  | nil => simp at h
  | cons x l ih =>
    cases hx : p x.toNat with
    | true =>
      have := ih (by rw [spanL_yes hx] at h; simpa using h)
      simp only [spanL_yes hx, List.getElem_cons_succ]; exact this
    | false => simp only [spanL_no hx, List.getElem_cons_zero]; exact hx
theorem spanL_append (p : Int → Bool) (a b : List UInt8) (h : ∀ c ∈ a, p c.toNat = true) : spanL p (a ++ b) = a.length + spanL p b := by
  induction a with
  | nil => simp
  | cons x a ih =>
    rw [List.cons_append, spanL_yes (h x (by simp)), ih (fun c hc => h c (List.mem_cons_of_mem _ hc)), List.length_cons]; omega

/-- How long a word is, from the first byte on; 0: none. -/
def wordN (l : List UInt8) : Nat := if 32 < spanL letterC l then 0 else spanL letterC l
theorem wordN_le (l : List UInt8) : wordN l ≤ l.length := by have := spanL_le letterC l; unfold wordN; split <;> omega
/-- A token's kind, its text, how many bytes stand for it; 0: there is none. -/
abbrev Beg := Int × List UInt8 × Nat
def begNo : Beg := (0, [], 0)
def ask1 (l : List UInt8) : Beg := (1, l.take (wordN l), wordN l)
def ask2 : List UInt8 → Beg
  | [] => begNo
  | c :: r => if c = 64 ∧ wordN r ≠ 0 then (2, r.take (wordN r), wordN r + 1) else begNo
def ask3 : List UInt8 → Beg
  | [] => begNo
  | c :: r => if c = 34 ∧ spanL quotedC r ≤ 40 ∧ r[spanL quotedC r]? = some 34 then (3, r.take (spanL quotedC r), spanL quotedC r + 2) else begNo
/-- What stands for a token of a kind that has no text. -/
def signs : List (Int × List UInt8) := [(4, [40]), (5, [41]), (6, [44]), (7, [58]), (8, [46]), (9, [61]), (10, [45, 91]), (11, [93, 45, 62])]
def ask4 (l : List UInt8) : Beg := match signs.find? (fun x => x.2.isPrefixOf l) with
  | some x => (x.1, [], x.2.length)
  | none => begNo
def begL (l : List UInt8) : Beg :=
  if 0 < (ask1 l).2.2 then ask1 l else if 0 < (ask2 l).2.2 then ask2 l else if 0 < (ask3 l).2.2 then ask3 l else ask4 l
theorem ask4_yes {l : List UInt8} {x : Int × List UInt8} (hx : x ∈ signs) (h : x.2.isPrefixOf l = true) : ask4 l = (x.1, [], x.2.length) := by
  obtain ⟨r, hr⟩ := List.isPrefixOf_iff_prefix.1 h
  simp only [signs, List.mem_cons, List.not_mem_nil, or_false] at hx
  rcases hx with rfl | rfl | rfl | rfl | rfl | rfl | rfl | rfl <;> subst hr <;> simp [ask4, signs, List.isPrefixOf, List.find?]
theorem ask4_no {l : List UInt8} (h : ∀ x ∈ signs, x.2.isPrefixOf l = false) : ask4 l = begNo := by
  unfold ask4
  rw [List.find?_eq_none.2 (fun x hx => by rw [h x hx]; simp)]
theorem begL_1 {l : List UInt8} (h : 0 < (ask1 l).2.2) : begL l = ask1 l := by unfold begL; rw [if_pos h]
theorem begL_2 {l : List UInt8} (h1 : ¬ 0 < (ask1 l).2.2) (h : 0 < (ask2 l).2.2) : begL l = ask2 l := by unfold begL; rw [if_neg h1, if_pos h]
theorem begL_3 {l : List UInt8} (h1 : ¬ 0 < (ask1 l).2.2) (h2 : ¬ 0 < (ask2 l).2.2) (h : 0 < (ask3 l).2.2) : begL l = ask3 l := by unfold begL; rw [if_neg h1, if_neg h2, if_pos h]
theorem begL_4 {l : List UInt8} (h1 : ¬ 0 < (ask1 l).2.2) (h2 : ¬ 0 < (ask2 l).2.2) (h3 : ¬ 0 < (ask3 l).2.2) : begL l = ask4 l := by unfold begL; rw [if_neg h1, if_neg h2, if_neg h3]
theorem ask4_zero {l : List UInt8} (h : ¬ 0 < (ask4 l).2.2) : ask4 l = begNo := by
  unfold ask4 at h ⊢
  cases hf : signs.find? (fun x => x.2.isPrefixOf l) with
  | none => rfl
  | some x =>
    rw [hf] at h
    have hx := List.mem_of_find?_eq_some hf
    have : ∀ x ∈ signs, 0 < x.2.length := by decide
    exact absurd (this x hx) h

/-- What the reference takes a text's first token for. -/
def candR : List UInt8 → Int × List UInt8
  | [] => (0, [])
  | c :: r => if letterC c.toNat then (1, (c :: r).take (spanL letterC (c :: r))) else if c = 64 then (2, r.take (spanL letterC r)) else if c = 34 then (3, r.take (spanL (fun x => decide (x ≠ 34)) r)) else
      match signs.find? (fun x => x.2.isPrefixOf (c :: r)) with | some x => (x.1, []) | none => (0, [])

/-- A token. -/
structure Tk where
  kind : Int
  text : ByteArray
  at_ : Int
/-- What stands for a token of a kind, with a text. -/
def standsL (k : Int) (l : List UInt8) : List UInt8 :=
  if k = 1 then l else if k = 2 then 64 :: l else if k = 3 then 34 :: (l ++ [34]) else ((signs.find? (fun x => decide (x.1 = k))).map (·.2)).getD []
theorem standsL_sign {k : Int} {x : List UInt8} (h : (k, x) ∈ signs) (l : List UInt8) : standsL k l = x := by
  simp only [signs, List.mem_cons, List.not_mem_nil, or_false, Prod.mk.injEq] at h
  rcases h with h | h | h | h | h | h | h | h <;> obtain ⟨rfl, rfl⟩ := h <;> rfl
theorem standsL_none {k : Int} (h1 : k ≠ 1) (h2 : k ≠ 2) (h3 : k ≠ 3) (h : ∀ x ∈ signs, x.1 ≠ k) (l : List UInt8) : standsL k l = [] := by
  unfold standsL
  rw [if_neg h1, if_neg h2, if_neg h3, List.find?_eq_none.2 (fun x hx => by simpa using h x hx)]
  rfl
/-- May a token be? -/
def checkB (k : Int) (l : List UInt8) (at_ : Int) : Bool :=
  decide ((begL (standsL k l)).2.2 ≠ 0) && decide ((begL (standsL k l)).2.2 = (standsL k l).length) && decide ((begL (standsL k l)).1 = k) && decide ((begL (standsL k l)).2.1 = l) && decide (0 ≤ at_)
def Tk.stands (t : Tk) : List UInt8 := standsL t.kind (bts t.text)
def Tk.check (t : Tk) : Bool := checkB t.kind (bts t.text) t.at_

/-- The number that bytes say behind n; none: they say none. -/
def numL : Int → List UInt8 → Option Int
  | n, [] => some n
  | n, c :: l => if 48 ≤ c.toNat ∧ c.toNat ≤ 57 ∧ 10 * n + (c.toNat - 48 : Nat) < 2147483648 then numL (10 * n + (c.toNat - 48 : Nat)) l else none
def numberF (k : Int) (l : List UInt8) : Option Int := if k ≠ 1 ∨ l = [] ∨ l.head? = some 48 ∧ l ≠ [48] then none else numL 0 l
def Tk.number (t : Tk) : Option Int := numberF t.kind (bts t.text)
theorem numL_no {n : Int} {c : UInt8} {l : List UInt8} (h : ¬ (48 ≤ c.toNat ∧ c.toNat ≤ 57 ∧ 10 * n + (c.toNat - 48 : Nat) < 2147483648)) : numL n (c :: l) = none := by unfold numL; rw [if_neg h]
theorem numL_yes {n : Int} {c : UInt8} {l : List UInt8} (h : 48 ≤ c.toNat ∧ c.toNat ≤ 57 ∧ 10 * n + (c.toNat - 48 : Nat) < 2147483648) : numL n (c :: l) = numL (10 * n + (c.toNat - 48 : Nat)) l := by conv => lhs; unfold numL
                                                                                                                                                                                                        rw [if_pos h]
end Go.Proofs.Ytngnplghjaojhaa
