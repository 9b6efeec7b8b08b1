/- The reader among its atoms: what is its own, and what it leaves as it was. -/
import Derived.Test.YthoneahamnmjlaaGreatDoorGp09
import Derived.Test.YthoneahamnmjlaaGreatDoorGp03
namespace Go.Proofs.YthoneahamnmjlaaGreatDoor
set_option maxRecDepth 100000
set_option maxHeartbeats 2000000
set_option linter.unusedSimpArgs false
open Go.RowKit Go.Shelf Go.Sort
set_option linter.unusedVariables false

def atCells (a : Atm) : List Value := [.int .i64 a.kind, .bool a.fk, .string a.fn, .string a.name, .string a.value, .bool a.tk, .string a.tn]
/-- Only own blocks have changed; what is own now was so, or is new. -/
structure Chg (own : List Nat) (w : World) (own' : List Nat) (w' : World) : Prop where
  os : w'.os = w.os
  tape : w'.tape = w.tape
  output : w'.output = w.output
  size : w.heap.size ≤ w'.heap.size
  block : ∀ b, b < w.heap.size → b ∉ own → w'.heap[b]? = w.heap[b]?
  new : ∀ b ∈ own', b ∈ own ∨ w.heap.size ≤ b
theorem Chg.refl (own : List Nat) (w : World) : Chg own w own w := ⟨rfl, rfl, rfl, Nat.le_refl _, fun _ _ _ => rfl, fun _ h => .inl h⟩
theorem Chg.trans {o o' o'' : List Nat} {w w' w'' : World} (h : Chg o w o' w') (k : Chg o' w' o'' w'') : Chg o w o'' w'' :=
  ⟨k.os.trans h.os, k.tape.trans h.tape, k.output.trans h.output, Nat.le_trans h.size k.size, fun b hb hn => (k.block b (Nat.lt_of_lt_of_le hb h.size) (fun hm => (h.new b hm).elim hn (by omega))).trans (h.block b hb hn),
   fun b hb => (k.new b hb).elim (h.new b) (fun hge => .inr (Nat.le_trans h.size hge))⟩
theorem Chg.ext {own : List Nat} {w w' : World} (hx : Ext w w') : Chg own w own w' := ⟨hx.os, hx.tape, hx.output, hx.size, fun b hb _ => hx.block b hb, fun _ h => .inl h⟩
theorem Chg.grown {own : List Nat} {w w' : World} {g : Nat} (h : w.grownBy w' (some g)) (hg : g ∈ own) : Chg own w own w' :=
  ⟨h.os, h.tape, h.output, h.size, fun b hb hn => h.block b hb (fun e => hn (by cases e; exact hg)), fun _ h => .inl h⟩
theorem RowAt.chg {own own' : List Nat} {w w' : World} {x : Nat} {t : TypeId} {xs : List Value} (h : RowAt w x t xs) (hc : Chg own w own' w') (hn : x ∉ own) : RowAt w' x t xs ∧ x ∉ own' :=
  ⟨(hc.block x h.lt hn).trans h, fun hm => (hc.new x hm).elim hn (fun hge => by have := h.lt; omega)⟩
/-- The cells of the reader while it reads items. -/
def rcI (av vv : Value) (m d e : Nat) : Rc := ⟨av, .slice none 0 0, .bool false, .bool false, .bool false, .int .i64 0, .int .i64 0, .slice none 0 0, .int .i64 d, .int .i64 e, vv, .map (some m)⟩
def metKv (vars : List ByteArray) : List (Value × Value) := vars.map fun s => (.string s, .int .i64 1)
structure RdJ (w0 : World) (ts : List Tk) (tv : Value) (g : Nat) (own : List Nat) (st : PS) (d e : Nat) (av vv : Value) (m : Nat) (W : World) : Prop where
  rd : RdT w0 ts tv g (rcI av vv m d e) st.p W
  gin : g ∈ own
  min_ : m ∈ own
  gm : g ≠ m
  lo : ∀ b ∈ own, w0.heap.size ≤ b ∧ b < W.heap.size
  atoms : W.ownsRow w0.heap.size 40 7 av st.atoms.length (st.atoms.flatMap atCells)
  ain : ∀ b, av.ownBlock = some b → b ∈ own
  vars : W.ownsRow w0.heap.size 9 1 vv st.vars.length (st.vars.map Value.string)
  vin : ∀ b, vv.ownBlock = some b → b ∈ own
  met : MapAt .string W m (metKv st.vars)
def RdP (w0 : World) (ts : List Tk) (tv : Value) (g : Nat) (own : List Nat) (st : PS) (d e : Nat) (W : World) : Prop := ∃ av vv m, RdJ w0 ts tv g own st d e av vv m W
/-- The reader has stopped at a wrong token. -/
def BadI (w0 : World) (ts : List Tk) (tv : Value) (g : Nat) (own : List Nat) (w : World) (q : Nat) (e : Ending) (w' : World) : Prop := e = wrongE ∧ (∃ c, RdT w0 ts tv g c q w') ∧ ∃ own', Chg own w own' w'
theorem heap_set_ne {w w' : World} {g b : Nat} (h : w.grownBy w' (some g)) (hb : b < w.heap.size) (hne : b ≠ g) : w'.heap[b]? = w.heap[b]? := h.block b hb (fun e => hne (Option.some.inj e))
/-- An owned row of another type than the block that turns. -/
theorem own_turn {W W' : World} {B size n g : Nat} {e t : TypeId} {v : Value} {xs ys : List Value} (h : W.ownsRow B e size v n xs) (hr : RowAt W g t ys) (hne : e ≠ t) (hg : W.grownBy W' (some g)) : W'.ownsRow B e size v n xs := by
  refine ⟨h.1, ?_⟩
  rcases h.2 with hn | ⟨g', cap, cur, rfl, hbg, hgg, rest⟩
  · exact .inl hn
  · refine .inr ⟨g', cap, cur, rfl, hbg, ?_, rest⟩
    have hg' : g' ≠ g := by
      rintro rfl
      have h1 := hgg.symm.trans hr
      simp only [Option.some.injEq, Obj.cells.injEq] at h1
      exact hne h1.2.1
    exact (heap_set_ne hg (Array.getElem?_eq_some_iff.1 hgg).1 hg').trans hgg
section
variable {w0 : World} {ts : List Tk} {tv : Value} {g : Nat} {own : List Nat} {st : PS} {d e : Nat} {av vv : Value} {m : Nat} {W W' : World}
theorem RdJ.grow (h : RdJ w0 ts tv g own st d e av vv m W) (hx : Ext W W') : RdJ w0 ts tv g own st d e av vv m W' :=
  ⟨h.rd.grow hx, h.gin, h.min_, h.gm, fun b hb => ⟨(h.lo b hb).1, Nat.lt_of_lt_of_le (h.lo b hb).2 hx.size⟩, own_ext h.atoms hx, h.ain, own_ext h.vars hx, h.vin, h.met.ext hx⟩
/-- The reader's own cells have turned. -/
theorem RdJ.turn (h : RdJ w0 ts tv g own st d e av vv m W) {q d' e' : Nat} (hr : RdT w0 ts tv g (rcI av vv m d' e') q W') (hg : W.grownBy W' (some g)) : RdJ w0 ts tv g own ⟨q, st.atoms, st.vars⟩ d' e' av vv m W' :=
  ⟨hr, h.gin, h.min_, h.gm, fun b hb => ⟨(h.lo b hb).1, Nat.lt_of_lt_of_le (h.lo b hb).2 hg.size⟩, own_turn h.atoms h.rd.row (by decide) hg, h.ain, own_turn h.vars h.rd.row (by decide) hg, h.vin, h.met.kept hg (fun e => h.gm (Option.some.inj e))⟩
theorem own_away {w w' : World} {B size n x : Nat} {ty : TypeId} {v : Value} {xs : List Value} (h : w.ownsRow B ty size v n xs) (hg : w.grownBy w' (some x)) (hv : ∀ b, v.ownBlock = some b → b ≠ x) : w'.ownsRow B ty size v n xs := by
  refine ⟨h.1, ?_⟩
  rcases h.2 with hn | ⟨g', cap, cur, rfl, hbg, hgg, rest⟩
  · exact .inl hn
  · exact .inr ⟨g', cap, cur, rfl, hbg, (heap_set_ne hg (Array.getElem?_eq_some_iff.1 hgg).1 (hv g' rfl)).trans hgg, rest⟩
/-- Another block than its own has turned. -/
theorem RdJ.side (h : RdJ w0 ts tv g own st d e av vv m W) {x : Nat} (hg : W.grownBy W' (some x)) (hx : x ∉ own) (h0 : w0.heap.size ≤ x) : RdJ w0 ts tv g own st d e av vv m W' :=
  ⟨⟨below_grown h.rd.ext hg h.rd.ext.size (fun k hk => by cases hk; exact h0), h.rd.toks, h.rd.lo, h.rd.row.kept hg (fun e => hx (by cases e; exact h.gin)), h.rd.le, h.rd.szs⟩, h.gin, h.min_, h.gm, fun b hb => ⟨(h.lo b hb).1, Nat.lt_of_lt_of_le (h.lo b hb).2 hg.size⟩,
   own_away h.atoms hg (fun b hb e => hx (e ▸ h.ain b hb)), h.ain, own_away h.vars hg (fun b hb e => hx (e ▸ h.vin b hb)), h.vin, h.met.kept hg (fun e => hx (by cases e; exact h.min_))⟩
theorem Chg.side {own own' : List Nat} {w w' w'' : World} (h : Chg own w own' w') {x : Nat} (hg : w'.grownBy w'' (some x)) (hx : w.heap.size ≤ x) : Chg own w own' w'' :=
  ⟨hg.os.trans h.os, hg.tape.trans h.tape, hg.output.trans h.output, Nat.le_trans h.size hg.size, fun b hb hn => (hg.block b (Nat.lt_of_lt_of_le hb h.size) (fun e => by have := Option.some.inj e; omega)).trans (h.block b hb hn), h.new⟩
theorem own_ne_map {w : World} {B size n b : Nat} {ty : TypeId} {v : Value} {xs : List Value} {dd : TypeDesc} {kv : List (Value × Value)} (h : w.ownsRow B ty size v n xs) (hm : MapAt dd w b kv) : ∀ b', v.ownBlock = some b' → b' ≠ b := by
  rintro b' hb rfl
  rcases h.2 with ⟨rfl, _⟩ | ⟨g', cap, cur, rfl, hbg, hgg, rest⟩
  · simp [Value.ownBlock] at hb
  · simp [Value.ownBlock] at hb
    subst hb
    obtain ⟨_, _, h1, _⟩ := hm
    have := hgg.symm.trans h1
    simp at this
theorem row_ne_map {w : World} {b g : Nat} {t : TypeId} {xs : List Value} {dd : TypeDesc} {kv : List (Value × Value)} (h : RowAt w g t xs) (hm : MapAt dd w b kv) : g ≠ b := by
  rintro rfl
  obtain ⟨_, _, h1, _⟩ := hm
  have := (show w.heap[g]? = _ from h).symm.trans h1
  simp at this
theorem own_ne_row {w : World} {B size n g : Nat} {ty t : TypeId} {v : Value} {xs ys : List Value} (h : w.ownsRow B ty size v n xs) (hr : RowAt w g t ys) (hne : ty ≠ t) : ∀ b', v.ownBlock = some b' → b' ≠ g := by
  rintro b' hb rfl
  rcases h.2 with ⟨rfl, _⟩ | ⟨g', cap, cur, rfl, hbg, hgg, rest⟩
  · simp [Value.ownBlock] at hb
  · simp [Value.ownBlock] at hb
    subst hb
    have h1 := hgg.symm.trans hr
    simp only [Option.some.injEq, Obj.cells.injEq] at h1
    exact hne h1.2.1
theorem own_ne_own {w : World} {B B' size size' n n' : Nat} {ty t : TypeId} {v u : Value} {xs ys : List Value} (h : w.ownsRow B ty size v n xs) (hr : w.ownsRow B' t size' u n' ys) (hne : ty ≠ t) : ∀ b', v.ownBlock = some b' → u.ownBlock ≠ some b' := by
  rintro b' hb hu
  rcases h.2 with ⟨rfl, _⟩ | ⟨g', cap, cur, rfl, hbg, hgg, rest⟩
  · simp [Value.ownBlock] at hb
  · rcases hr.2 with ⟨rfl, _⟩ | ⟨g2, cap2, cur2, rfl, hbg2, hgg2, rest2⟩
    · simp [Value.ownBlock] at hu
    · simp [Value.ownBlock] at hb hu
      subst hb hu
      have h1 := hgg.symm.trans hgg2
      simp only [Option.some.injEq, Obj.cells.injEq] at h1
      exact hne h1.2.1
/-- A row that is owned stays where another block turns, or none. -/
theorem own_apart {w w' : World} {B size n : Nat} {ty : TypeId} {v : Value} {xs : List Value} {row : Option Nat} (h : w.ownsRow B ty size v n xs) (hg : w.grownBy w' row) (hv : ∀ b, v.ownBlock = some b → row ≠ some b) : w'.ownsRow B ty size v n xs := by
  refine ⟨h.1, ?_⟩
  rcases h.2 with hn | ⟨g', cap, cur, rfl, hbg, hgg, rest⟩
  · exact .inl hn
  · exact .inr ⟨g', cap, cur, rfl, hbg, (hg.block g' (Array.getElem?_eq_some_iff.1 hgg).1 (fun e => hv g' rfl e.symm)).trans hgg, rest⟩
theorem Chg.row {own : List Nat} {w w' : World} {row : Option Nat} (h : w.grownBy w' row) (hr : ∀ b, row = some b → b ∈ own) : Chg own w own w' :=
  ⟨h.os, h.tape, h.output, h.size, fun b hb hn => h.block b hb (fun e => hn (hr b e.symm)), fun _ h => .inl h⟩
/-- A variable that is new. -/
theorem RdJ.newVar (h : RdJ w0 ts tv g own st d e av vv m W) {s : ByteArray} {W1 W2 W3 : World} {v' : Value} (hm : MapAt .string W1 m (metKv st.vars ++ [(.string s, .int .i64 1)])) (hg1 : W.grownBy W1 (some m)) (hx : Ext W1 W2)
    (how : W3.ownsRow w0.heap.size 9 1 v' (st.vars.length + 1) (st.vars.map Value.string ++ [.string s])) (hg2 : W2.grownBy W3 vv.ownBlock) (happ : v'.ownBlock = vv.ownBlock ∨ v'.ownBlock = some W2.heap.size) :
    ∃ own', RdJ w0 ts tv g own' ⟨st.p, st.atoms, st.vars ++ [s]⟩ d e av v' m (W3.setCell ⟨g, 12, none⟩ v') ∧ Chg own W own' (W3.setCell ⟨g, 12, none⟩ v') := by
  have hg3 := grown_set W3 g 12 v'
  have a1 := own_apart h.atoms hg1 (fun b hb e => own_ne_map h.atoms h.met b hb (Option.some.inj e).symm)
  have v1 := own_apart h.vars hg1 (fun b hb e => own_ne_map h.vars h.met b hb (Option.some.inj e).symm)
  have r1 : RowAt W1 g 119 (rdRowP (rcI av vv m d e) tv st.p) := h.rd.row.kept hg1 (fun e => h.gm (Option.some.inj e).symm)
  have a2 := own_ext a1 hx
  have v2 := own_ext v1 hx
  have r2 := r1.ext hx
  have m2 := hm.ext hx
  have a3 := own_apart a2 hg2 (fun b hb e => own_ne_own a2 v2 (by decide) b hb e)
  have r3 : RowAt W3 g 119 (rdRowP (rcI av vv m d e) tv st.p) := r2.kept hg2 (fun e => own_ne_row v2 r2 (by decide) g e rfl)
  have m3 := m2.kept hg2 (fun e => own_ne_map v2 m2 m e rfl)
  have a4 := own_turn a3 r3 (by decide) hg3
  have v4 := own_turn how r3 (by decide) hg3
  have m4 := m3.kept hg3 (fun e => h.gm (Option.some.inj e))
  have r4 : RowAt (W3.setCell ⟨g, 12, none⟩ v') g 119 (rdRowP (rcI av v' m d e) tv st.p) := r3.set 12 v'
  have c1 : Chg own W own W1 := Chg.grown hg1 h.min_
  have c2 := c1.trans (Chg.ext (own := own) hx)
  have c3 := c2.trans (Chg.row hg2 h.vin)
  have c4 := c3.trans (Chg.grown hg3 h.gin)
  have e4 : Ext w0 (W3.setCell ⟨g, 12, none⟩ v') := ⟨c4.os.trans h.rd.ext.os, c4.tape.trans h.rd.ext.tape, c4.output.trans h.rd.ext.output, Nat.le_trans h.rd.ext.size c4.size, fun b hb => (c4.block b (Nat.lt_of_lt_of_le hb h.rd.ext.size) (fun hm => by have := (h.lo b hm).1; omega)).trans (h.rd.ext.block b hb)⟩
  have rd4 : RdT w0 ts tv g (rcI av v' m d e) st.p (W3.setCell ⟨g, 12, none⟩ v') := ⟨e4, h.rd.toks, h.rd.lo, r4, h.rd.le, h.rd.szs⟩
  have vl : ∀ b, v'.ownBlock = some b → w0.heap.size ≤ b ∧ b < (W3.setCell ⟨g, 12, none⟩ v').heap.size := fun b hb => v4.lt b hb
  refine ⟨v'.ownBlock.toList ++ own, ⟨rd4, List.mem_append_right _ h.gin, List.mem_append_right _ h.min_, h.gm, fun b hb => ?_, a4, fun b hb => List.mem_append_right _ (h.ain b hb), ?_, fun b hb => List.mem_append_left _ (by rw [hb]; simp), ?_⟩, ⟨c4.os, c4.tape, c4.output, c4.size, c4.block, fun b hb => ?_⟩⟩
  · rcases List.mem_append.1 hb with h1 | h1
    · exact vl b (by simpa using h1)
    · exact ⟨(h.lo b h1).1, Nat.lt_of_lt_of_le (h.lo b h1).2 c4.size⟩
  · rw [List.length_append, List.map_append]
    exact v4
  · rw [show metKv (st.vars ++ [s]) = metKv st.vars ++ [(.string s, .int .i64 1)] from by unfold metKv; rw [List.map_append]; rfl]
    exact m4
  · rcases List.mem_append.1 hb with h1 | h1
    · rcases happ with h2 | h2
      · exact .inl (h.vin b (by rw [← h2]; simpa using h1))
      · rw [h2] at h1
        simp at h1
        exact .inr (by have := hx.size; have := hg1.size; omega)
    · exact .inl h1
theorem RdJ.newRow (h : RdJ w0 ts tv g own st d e av vv m W) {kv : List (Value × Value)} {W1 W2 W3 : World} (hm : MapAt .string W1 m kv) (hg1 : W.grownBy W1 (some m)) (hx : Ext W1 W2) (hg2 : W2.grownBy W3 vv.ownBlock) :
    RowAt W3 g 119 (rdRowP (rcI av vv m d e) tv st.p) := by
  have v1 := own_apart h.vars hg1 (fun b hb e => own_ne_map h.vars h.met b hb (Option.some.inj e).symm)
  have r1 : RowAt W1 g 119 (rdRowP (rcI av vv m d e) tv st.p) := h.rd.row.kept hg1 (fun e => h.gm (Option.some.inj e).symm)
  exact (r1.ext hx).kept hg2 (fun e => own_ne_row (own_ext v1 hx) (r1.ext hx) (by decide) g e rfl)
theorem RdJ.newOwn (h : RdJ w0 ts tv g own st d e av vv m W) {W1 : World} (hg1 : W.grownBy W1 (some m)) : W1.ownsRow w0.heap.size 9 1 vv st.vars.length (st.vars.map Value.string) ∧ RowAt W1 g 119 (rdRowP (rcI av vv m d e) tv st.p) :=
  ⟨own_apart h.vars hg1 (fun b hb e => own_ne_map h.vars h.met b hb (Option.some.inj e).symm), h.rd.row.kept hg1 (fun e => h.gm (Option.some.inj e).symm)⟩
theorem elSt : ElT Tryz.prog 23 9 (.string ⟨#[]⟩) 1 16 := ⟨Tryz.underlying23, ⟨_, rfl, by kernel_rfl, by kernel_rfl, by kernel_rfl⟩, rfl, by decide⟩
end
end Go.Proofs.YthoneahamnmjlaaGreatDoor

/- A term is taken. -/
namespace Go.Proofs.YthoneahamnmjlaaGreatDoor
set_option maxRecDepth 100000
set_option maxHeartbeats 2000000
set_option linter.unusedSimpArgs false
open Go.RowKit Go.Shelf Go.Sort
attribute [local go_sem] Oper.semAt_some wide_fn wide_depth
set_option linter.unusedVariables false

def TermQ (w0 : World) (ts : List Tk) (tv : Value) (g : Nat) (own : List Nat) (st : PS) (d e : Nat) (w : World) (r : Except Nat ((Bool × ByteArray) × List ByteArray × Nat)) (en : Ending) (w' : World) : Prop := match r with
  | .ok (t, vars, q) => en = .returned (.agg #[.bool t.1, .string t.2]) ∧ ∃ own', RdP w0 ts tv g own' ⟨q, st.atoms, vars⟩ d e w' ∧ Chg own w own' w'
  | .error q => BadI w0 ts tv g own w q en w'
theorem metKv_yes {vars : List ByteArray} {s : ByteArray} (h : s ∈ vars) : ∃ j : Nat, (metKv vars)[j]? = some (.string s, .int .i64 1) := by
  obtain ⟨j, hj, rfl⟩ := List.getElem_of_mem h
  exact ⟨j, by unfold metKv; rw [List.getElem?_map, List.getElem?_eq_getElem hj]; rfl⟩
theorem metKv_no {vars : List ByteArray} {s : ByteArray} (h : s ∉ vars) : ∀ p ∈ metKv vars, p.1 ≠ .string s := fun p hp e => by
  obtain ⟨x, hx, rfl⟩ := List.mem_map.1 hp
  simp only [Value.string.injEq] at e
  exact h (e ▸ hx)
theorem metKv_snoc (vars : List ByteArray) (s : ByteArray) : metKv (vars ++ [s]) = metKv vars ++ [(.string s, .int .i64 1)] := by unfold metKv; rw [List.map_append]; rfl
set_option maxHeartbeats 2000000 in
theorem term_any {w0 : World} {ts : List Tk} {tv : Value} {g : Nat} {own : List Nat} {st : PS} {d e : Nat} {w : World} (h : RdP w0 ts tv g own st d e w) (hl : ts.length ≤ 1000000) (hv : st.vars.length ≤ 32) :
    Calls Tryz.prog 140 #[.pointer (some ⟨g, 0, none⟩)] w (TermQ w0 ts tv g own st d e w (termP ts st.vars st.p)) := by
  obtain ⟨av, vv, m, hj⟩ := h
  obtain ⟨p, atoms, vars⟩ := st
  dsimp only at hv ⊢
  have hx0 := Ext.alloc w (.cells #[.bool false, .string ⟨#[]⟩] 38)
  have hb1 : RowAt (w.alloc (.cells #[.bool false, .string ⟨#[]⟩] 38)) w.heap.size 38 [.bool false, .string ⟨#[]⟩] := RowAt.new _ _ _
  have hj1 := hj.grow hx0
  have hxo : w.heap.size ∉ own := fun hm => by have := (hj.lo _ hm).2; omega
  have hx00 : w0.heap.size ≤ w.heap.size := hj.rd.ext.size
  have HX0 := Lib.hid hx0
  have HB1 := Lib.hid hb1
  have HJ1 := Lib.hid hj1
  have HXO := Lib.hid hxo
  have HX00 := Lib.hid hx00
  have HGI : Hid (g ∈ own) := Lib.hid hj.gin
  obtain ⟨x, hx⟩ : ∃ x, w.heap.size = x := ⟨_, rfl⟩
  rw [hx] at HB1 HXO HX00
  have HXE := Lib.hid hx
  clear hj hx0 hb1 hj1 hxo hx00
  have hk1 := kind_any HJ1.out.rd
  by_cases hk2 : kindAt ts p = 2
  · have htp : takeP ts 2 p = .ok (textAt ts p, p + 1) := by unfold takeP; rw [if_pos hk2]
    have hres : termP ts vars p = .ok ((true, textAt ts p), vars, p + 1) := by unfold termP; rw [if_pos hk2]
    rw [hres]
    dsimp only at hk1
    rw [hk2] at hk1
    have HK1 := Lib.hid hk1
    have HTP := Lib.hid htp
    clear hk1 hk2 htp hres
    generalize textAt ts p = s at *
    go_enter Tryz.func140, Tryz.ntmps140
    go_upto_region 1 with fail
    generalize w.alloc (.cells #[.bool false, .string ⟨#[]⟩] 38) = w1 at *
    try simp only [hx]
    clear hx
    go_wp2_with fail
    refine HK1.out.mono ?_
    rintro en w2 ⟨rfl, hx2⟩
    have HJ2 := Lib.hid (HJ1.out.grow hx2)
    have HB2 := Lib.hid (HB1.out.ext hx2)
    have HC2 : Hid (Chg own w own w2) := Lib.hid (Chg.ext (HX0.out.trans hx2))
    have htk := take_any HJ2.out.rd 2 (by decide) hl
    dsimp only at htk
    rw [HTP.out] at htk
    have HTK := Lib.hid htk
    clear hx2 HK1 HJ1 HB1 htk HTP
    go_wp2_with fail
    refine HTK.out.mono ?_
    rintro en w3 ⟨rfl, hr3, hg3⟩
    have HJ3 := Lib.hid (HJ2.out.turn hr3 hg3)
    have hb3 := HB2.out.chg (Chg.grown hg3 HGI.out) HXO.out
    have HC3 := Lib.hid (HC2.out.trans (Chg.grown hg3 HGI.out))
    have HB3 := Lib.hid hb3.1
    clear hr3 hg3 hb3 HTK HJ2 HB2 HC2
    have HXO3 := HXO
    obtain ⟨p0, p1, q0, q1⟩ := HB3.out.facts2
    go_wp2_with fail
    have hb4 := ((HB3.out.set 0 (.bool true)).set 1 (.string s)).facts2
    obtain ⟨p2, p3, _, _⟩ := hb4
    have hg4 := grown_set w3 x 0 (.bool true)
    have hg5 := grown_set (w3.setCell ⟨x, 0, none⟩ (.bool true)) x 1 (.string s)
    refine bodyPost_ret (v := .agg #[.bool true, .string s]) (by simp [results, Tryz.results140, go_sem, p2, p3]) rfl ⟨rfl, _, ⟨_, _, _, (HJ3.out.side hg4 HXO3.out HX00.out).side hg5 HXO3.out HX00.out⟩, (HC3.out.side hg4 (Nat.le_of_eq HXE.out)).side hg5 (Nat.le_of_eq HXE.out)⟩
  · have hk2b : (kindAt ts p == 2) = false := by simp [hk2]
    have htk2 := fun W (hj : RdJ w0 ts tv g own ⟨p, atoms, vars⟩ d e av vv m W) => take_any hj.rd 1 (by decide) hl
    dsimp only at hk1 htk2
    by_cases hk3 : kindAt ts p = 1
    · have htp : takeP ts 1 p = .ok (textAt ts p, p + 1) := by unfold takeP; rw [if_pos hk3]
      have hres : termP ts vars p = if hasB (textAt ts p) vars = true then .ok ((false, textAt ts p), vars, p + 1) else if vars.length = 32 then .error p else .ok ((false, textAt ts p), vars ++ [textAt ts p], p + 1) := by
        unfold termP; rw [if_neg hk2, if_pos hk3]
      rw [hres]
      rw [htp] at htk2
      rw [hk3] at hk1 hk2b
      have HK1 := Lib.hid hk1
      have HTK := Lib.hid htk2
      clear hk1 htk2 hk2 hk3 htp hres
      generalize textAt ts p = s at *
      by_cases hin : hasB s vars = true
      · -- it has been met
        rw [if_pos hin]
        have HIN := Lib.hid hin
        clear hin
        go_enter Tryz.func140, Tryz.ntmps140
        go_upto_region 1 with fail
        generalize w.alloc (.cells #[.bool false, .string ⟨#[]⟩] 38) = w1 at *
        try simp only [hx]
        clear hx
        go_wp2_with fail
        refine HK1.out.mono ?_
        rintro en w2 ⟨rfl, hx2⟩
        have HJ2 := Lib.hid (HJ1.out.grow hx2)
        have HB2 := Lib.hid (HB1.out.ext hx2)
        have HC2 : Hid (Chg own w own w2) := Lib.hid (Chg.ext (HX0.out.trans hx2))
        have HTK2 := Lib.hid (HTK.out w2 HJ2.out)
        clear hx2 HK1 HJ1 HB1 HTK
        go_wp2_with fail
        refine HTK2.out.mono ?_
        rintro en w3 ⟨rfl, hr3, hg3⟩
        have HJ3 := Lib.hid (HJ2.out.turn hr3 hg3)
        have hb3 := HB2.out.chg (Chg.grown hg3 HGI.out) HXO.out
        have HC3 := Lib.hid (HC2.out.trans (Chg.grown hg3 HGI.out))
        have HB3 := Lib.hid hb3.1
        have HXO3 := HXO
        clear hr3 hg3 hb3 HTK2 HJ2 HB2 HC2
        obtain ⟨jm, hjm⟩ := metKv_yes (hasB_iff.1 HIN.out)
        have hlk := run_get_yes Tryz.underlying117 Tryz.underlying9 HJ3.out.met (isKey_str s) hjm false
        rw [if_neg (by simp)] at hlk
        have f13 : w3.cell? ⟨g, 13, none⟩ = some (.map (some m)) := HJ3.out.rd.row.cell (i := 13) rfl
        obtain ⟨p0, p1, q0, q1⟩ := HB3.out.facts2
        clear hjm
        go_wp2_with fail
        have hb4 := ((HB3.out.set 0 (.bool false)).set 1 (.string s)).facts2
        obtain ⟨p2, p3, _, _⟩ := hb4
        have hg4 := grown_set w3 x 0 (.bool false)
        have hg5 := grown_set (w3.setCell ⟨x, 0, none⟩ (.bool false)) x 1 (.string s)
        refine bodyPost_ret (v := .agg #[.bool false, .string s]) (by simp [results, Tryz.results140, go_sem, p2, p3]) rfl ⟨rfl, _, ⟨_, _, _, (HJ3.out.side hg4 HXO3.out HX00.out).side hg5 HXO3.out HX00.out⟩, (HC3.out.side hg4 (Nat.le_of_eq HXE.out)).side hg5 (Nat.le_of_eq HXE.out)⟩
      · rw [if_neg hin]
        have hno : s ∉ vars := fun h => hin (hasB_iff.2 h)
        have HNO := Lib.hid hno
        clear hin hno
        by_cases h32 : vars.length = 32
        · -- there is no room
          rw [if_pos h32]
          have H32 := Lib.hid h32
          clear h32
          go_enter Tryz.func140, Tryz.ntmps140
          go_upto_region 1 with fail
          generalize w.alloc (.cells #[.bool false, .string ⟨#[]⟩] 38) = w1 at *
          try simp only [hx]
          clear hx
          go_wp2_with fail
          refine HK1.out.mono ?_
          rintro en w2 ⟨rfl, hx2⟩
          have HJ2 := Lib.hid (HJ1.out.grow hx2)
          have HB2 := Lib.hid (HB1.out.ext hx2)
          have HC2 : Hid (Chg own w own w2) := Lib.hid (Chg.ext (HX0.out.trans hx2))
          have HTK2 := Lib.hid (HTK.out w2 HJ2.out)
          clear hx2 HK1 HJ1 HB1 HTK
          go_wp2_with fail
          refine HTK2.out.mono ?_
          rintro en w3 ⟨rfl, hr3, hg3⟩
          have HJ3 := Lib.hid (HJ2.out.turn hr3 hg3)
          have hb3 := HB2.out.chg (Chg.grown hg3 HGI.out) HXO.out
          have HC3 := Lib.hid (HC2.out.trans (Chg.grown hg3 HGI.out))
          have HB3 := Lib.hid hb3.1
          have HXO3 := HXO
          clear hr3 hg3 hb3 HTK2 HJ2 HB2 HC2
          have hlk := run_get_no (z := .int .i64 0) Tryz.underlying117 Tryz.underlying9 HJ3.out.met (isKey_str s) (metKv_no HNO.out) (by rfl) false
          rw [if_neg (by simp)] at hlk
          obtain ⟨vva, vvc, rfl⟩ := own_vw HJ3.out.vars
          have f13 : w3.cell? ⟨g, 13, none⟩ = some (.map (some m)) := HJ3.out.rd.row.cell (i := 13) rfl
          have f12 : w3.cell? ⟨g, 12, none⟩ = some (.slice vva vars.length vvc) := HJ3.out.rd.row.cell (i := 12) rfl
          obtain ⟨p0, p1, q0, q1⟩ := HB3.out.facts2
          have h32 := H32.out
          have hlen : ((vars.length : Int) == 32) = true := by rw [h32]; rfl
          clear h32
          have HB := Lib.hid (bad_any HJ3.out.rd 1 (Nat.succ_le_succ (Nat.zero_le p)) (by omega))
          go_wp2_with fail
          refine HB.out.mono ?_
          rintro en w4 ⟨rfl, hr4, hg4⟩
          have HR4 : Hid (RdT w0 ts tv g (rcI av (.slice vva vars.length vvc) m d e) p w4) := Lib.hid hr4
          have HC4 := Lib.hid (HC3.out.trans (Chg.grown hg4 HGI.out))
          clear hr4 hg4
          unfold wrongE
          go_wp2_with fail
          exact ⟨rfl, rfl, ⟨_, HR4.out⟩, _, HC4.out⟩
        · -- it is new
          rw [if_neg h32]
          have H32 := Lib.hid h32
          clear h32
          go_enter Tryz.func140, Tryz.ntmps140
          go_upto_region 1 with fail
          generalize w.alloc (.cells #[.bool false, .string ⟨#[]⟩] 38) = w1 at *
          try simp only [hx]
          clear hx
          go_wp2_with fail
          refine HK1.out.mono ?_
          rintro en w2 ⟨rfl, hx2⟩
          have HJ2 := Lib.hid (HJ1.out.grow hx2)
          have HB2 := Lib.hid (HB1.out.ext hx2)
          have HC2 : Hid (Chg own w own w2) := Lib.hid (Chg.ext (HX0.out.trans hx2))
          have HTK2 := Lib.hid (HTK.out w2 HJ2.out)
          clear hx2 HK1 HJ1 HB1 HTK
          go_wp2_with fail
          refine HTK2.out.mono ?_
          rintro en w3 ⟨rfl, hr3, hg3⟩
          have HJ3 := Lib.hid (HJ2.out.turn hr3 hg3)
          have hb3 := HB2.out.chg (Chg.grown hg3 HGI.out) HXO.out
          have HC3 := Lib.hid (HC2.out.trans (Chg.grown hg3 HGI.out))
          have HB3 := Lib.hid hb3.1
          have HXO3 := HXO
          clear hr3 hg3 hb3 HTK2 HJ2 HB2 HC2
          have hlk := run_get_no (z := .int .i64 0) Tryz.underlying117 Tryz.underlying9 HJ3.out.met (isKey_str s) (metKv_no HNO.out) (by rfl) false
          rw [if_neg (by simp)] at hlk
          obtain ⟨vva, vvc, rfl⟩ := own_vw HJ3.out.vars
          have f13 : w3.cell? ⟨g, 13, none⟩ = some (.map (some m)) := HJ3.out.rd.row.cell (i := 13) rfl
          have f12 : w3.cell? ⟨g, 12, none⟩ = some (.slice vva vars.length vvc) := HJ3.out.rd.row.cell (i := 12) rfl
          obtain ⟨p0, p1, q0, q1⟩ := HB3.out.facts2
          have hlen : ((vars.length : Int) == 32) = false := by have := H32.out; simp; omega
          have HVL : Hid (vars.length ≤ 32) := Lib.hid hv
          go_upto_region 7 with fail
          go_wp2_with (first
            | (refine wpList_put_new (b := m) (k := .string s) (v := .int .i64 1) _ rfl _ _ _ _ rfl Tryz.underlying117 Tryz.underlying9 rfl rfl rfl HJ3.out.met (isKey_str s) (metKv_no HNO.out) ?_; intro w4 hM4 hg4 hs4; have HM4 := Lib.hid hM4; have HG4 := Lib.hid hg4; clear hM4 hg4 hs4 f12 f13 hlk p0 p1 q0 q1; obtain ⟨how4, hrow4⟩ := HJ3.out.newOwn HG4.out; have HO4 := Lib.hid how4; have f12 : w4.cell? ⟨g, 12, none⟩ = some (.slice vva vars.length vvc) := hrow4.cell (i := 12) rfl; clear how4 hrow4)
            | (at_builtin; refine wpList_append_sl _ rfl _ _ 23 rfl elSt rfl (own_ext HO4.out (Ext.alloc _ _)) rfl (Sl.new _ #[.string s] 9 1 1 (Nat.le_refl _) ?_) rfl ?_ ?_ ?_ ?_ ?_))
          · unfold maxLen; omega
          · rfl
          · have := HVL.out; omega
          · have := HVL.out; unfold maxLen; omega
          · have h1 := HJ3.out.rd.ext.size; have h2 := HG4.out.size; simp; omega
          intro v' w6 how6 hb6 hg6 happ6
          obtain ⟨va, vc, rfl⟩ := own_vw how6
          obtain ⟨own', hj7, hc7⟩ := HJ3.out.newVar HM4.out HG4.out (Ext.alloc _ _) how6 hg6 happ6
          have hrow6 := HJ3.out.newRow HM4.out HG4.out (Ext.alloc _ _) hg6
          have f12' : w6.cell? ⟨g, 12, none⟩ = some (.slice vva vars.length vvc) := hrow6.cell (i := 12) rfl
          have f12f := hrow6.frozen 12
          have hb7 := HB3.out.chg hc7 HXO3.out
          have HJ7 := Lib.hid hj7
          have HC7 := Lib.hid (HC3.out.trans hc7)
          replace HB3 := Lib.hid hb7.1
          replace HXO3 := Lib.hid hb7.2
          clear HJ3 HC3 HM4 HG4 HO4 f12 how6 hb6 hg6 happ6 hj7 hc7 hrow6 hb7
          have HJ3 := HJ7
          have HC3 := HC7
          clear HJ7 HC7
          obtain ⟨p0, p1, q0, q1⟩ := HB3.out.facts2
          go_wp2_with fail
          have hb4 := ((HB3.out.set 0 (.bool false)).set 1 (.string s)).facts2
          obtain ⟨p2, p3, _, _⟩ := hb4
          have hg4 := grown_set (w6.setCell ⟨g, 12, none⟩ (.slice va (vars.length + 1) vc)) x 0 (.bool false)
          have hg5 := grown_set ((w6.setCell ⟨g, 12, none⟩ (.slice va (vars.length + 1) vc)).setCell ⟨x, 0, none⟩ (.bool false)) x 1 (.string s)
          refine bodyPost_ret (v := .agg #[.bool false, .string s]) (by simp [results, Tryz.results140, go_sem, p2, p3]) rfl ⟨rfl, _, ⟨_, _, _, (HJ3.out.side hg4 HXO3.out HX00.out).side hg5 HXO3.out HX00.out⟩, (HC3.out.side hg4 (Nat.le_of_eq HXE.out)).side hg5 (Nat.le_of_eq HXE.out)⟩
    · have htp : takeP ts 1 p = .error p := by unfold takeP; rw [if_neg hk3]
      have hres : termP ts vars p = .error p := by unfold termP; rw [if_neg hk2, if_neg hk3]
      rw [hres]
      rw [htp] at htk2
      generalize kindAt ts p = kk at *
      have HK1 := Lib.hid hk1
      have HTK := Lib.hid htk2
      clear hk1 htk2 hk2 hk3 htp hres
      go_enter Tryz.func140, Tryz.ntmps140
      go_upto_region 1 with fail
      generalize w.alloc (.cells #[.bool false, .string ⟨#[]⟩] 38) = w1 at *
      try simp only [hx]
      clear hx
      go_wp2_with fail
      refine HK1.out.mono ?_
      rintro en w2 ⟨rfl, hx2⟩
      have HTK2 := Lib.hid (HTK.out w2 (HJ1.out.grow hx2))
      have HC2 : Hid (Chg own w own w2) := Lib.hid (Chg.ext (HX0.out.trans hx2))
      clear hx2 HK1 HJ1 HB1 HTK
      go_wp2_with fail
      refine HTK2.out.mono ?_
      rintro en w3 ⟨rfl, hr3, hg3⟩
      have HR3 := Lib.hid hr3
      have HC3 := Lib.hid (HC2.out.trans (Chg.grown hg3 HGI.out))
      clear hr3 hg3 HTK2
      unfold wrongE
      go_wp2_with fail
      exact ⟨rfl, rfl, ⟨_, HR3.out⟩, _, HC3.out⟩
end Go.Proofs.YthoneahamnmjlaaGreatDoor

/- Two tokens are taken, one behind the other. -/
namespace Go.Proofs.YthoneahamnmjlaaGreatDoor
set_option maxRecDepth 100000
set_option maxHeartbeats 2000000
set_option linter.unusedSimpArgs false
open Go.RowKit Go.Shelf Go.Sort
attribute [local go_sem] Oper.semAt_some wide_fn wide_depth
set_option linter.unusedVariables false

def takesP (ts : List Tk) : List Int → Nat → Except Nat (Unit × Nat)
  | [], p => .ok ((), p)
  | k :: ks, p => (takeP ts k p).bind fun (_, p) => takesP ts ks p
set_option maxHeartbeats 1000000 in
theorem takes_two {w0 : World} {ts : List Tk} {tv : Value} {g : Nat} {c : Rc} {p : Nat} {w : World} (h : RdT w0 ts tv g c p w) (k0 k1 : Int) (hk0 : k0 ≠ 0) (hk1 : k1 ≠ 0) (hl : ts.length ≤ 1000000) {b : Nat} (hb : RowAt w b 3 [.int .i64 k0, .int .i64 k1]) (hbg : b ≠ g) :
    Calls Tryz.prog 141 #[.pointer (some ⟨g, 0, none⟩), .slice (some ⟨b, 0, none⟩) 2 2] w (OutT w0 ts tv g c w (fun _ => .tuple #[]) (takesP ts [k0, k1] p)) := by
  have H := Lib.hid h
  have HB := Lib.hid hb
  have HBG := Lib.hid hbg
  clear h hb hbg
  go_enter Tryz.func141, Tryz.ntmps141
  go_wp2_with fail
  go_loopg [5, 8] 2 (fun gg s5 i wi => ∃ (j q : Nat), j ≤ 2 ∧ gg = 2 - j ∧ i = .int .i64 j ∧ Hid (takesP ts [k0, k1] p = takesP ts ([k0, k1].drop j) q ∧ RdT w0 ts tv g c q wi ∧ w.grownBy wi (some g)))
  case atStart => exact ⟨0, p, Nat.zero_le _, rfl, rfl, Lib.hid ⟨rfl, H.out, grown_of_ext (Ext.refl _) g⟩⟩
  case round =>
    obtain ⟨j, q, hj, hgg, rfl, hh⟩ := hrel
    have Hg := Lib.hid hgg
    clear hgg
    obtain ⟨h1, h2, h3⟩ := hh.out
    have HQ := Lib.hid h1
    have HR := Lib.hid h2
    have HG := Lib.hid h3
    clear h1 h2 h3 hh
    have hbr := HB.out.kept HG.out (fun e => HBG.out (Option.some.inj e).symm)
    by_cases hlt : j < 2
    · have hd : ∃ k : Int, k ≠ 0 ∧ [k0, k1].drop j = k :: [k0, k1].drop (j + 1) ∧ wr.cell? ⟨b, j, none⟩ = some (.int .i64 k) := by
        have hc : j = 0 ∨ j = 1 := by omega
        rcases hc with rfl | rfl
        · exact ⟨k0, hk0, rfl, hbr.cell (i := 0) rfl⟩
        · exact ⟨k1, hk1, rfl, hbr.cell (i := 1) rfl⟩
      obtain ⟨k, hk, hdk, hck⟩ := hd
      have htk := take_any HR.out k hk hl
      rw [hdk] at HQ
      have HTK := Lib.hid htk
      clear hdk htk hk hbr
      by_cases hkk : kindAt ts q = k
      · have htp : takeP ts k q = .ok (textAt ts q, q + 1) := by unfold takeP; rw [if_pos hkk]
        rw [htp] at HTK
        have HQ2 : Hid (takesP ts [k0, k1] p = takesP ts ([k0, k1].drop (j + 1)) (q + 1)) := Lib.hid (by rw [HQ.out]; show (takeP ts k q).bind _ = _; rw [htp]; rfl)
        clear hkk htp
        go_wp2_with fail
        refine HTK.out.mono ?_
        rintro en w2 ⟨rfl, hr2, hg2⟩
        have HF := Lib.hid (⟨HQ2.out, hr2, HG.out.trans hg2⟩ : takesP ts [k0, k1] p = takesP ts ([k0, k1].drop (j + 1)) (q + 1) ∧ RdT w0 ts tv g c (q + 1) w2 ∧ w.grownBy w2 (some g))
        clear hr2 hg2 HTK
        go_wp2_with fail
        go_roundg (2 - (j + 1))
        case measure => have := Hg.out; omega
        case rel => exact ⟨j + 1, q + 1, by omega, rfl, by go_num, HF⟩
      · have htp : takeP ts k q = .error q := by unfold takeP; rw [if_neg hkk]
        rw [htp] at HTK
        have HQ2 : Hid (takesP ts [k0, k1] p = .error q) := Lib.hid (by rw [HQ.out]; show (takeP ts k q).bind _ = _; rw [htp]; rfl)
        clear hkk htp
        go_wp2_with fail
        refine HTK.out.mono ?_
        rintro en w2 ⟨rfl, hr2, hg2⟩
        have HR2 := Lib.hid hr2
        have HG2 := Lib.hid (HG.out.trans hg2)
        clear hr2 hg2 HTK
        unfold wrongE
        go_wp2_with fail
        refine ⟨rfl, ?_⟩
        rw [HQ2.out]
        exact ⟨rfl, HR2.out, HG2.out⟩
    · have HQ2 : Hid (takesP ts [k0, k1] p = .ok ((), q)) := Lib.hid (by
        have hj2 : j = 2 := by omega
        have := HQ.out
        rw [hj2] at this
        exact this)
      clear hbr
      go_wp2_with fail
      go_end0
      rw [HQ2.out]
      exact ⟨rfl, HR.out, HG.out⟩
end Go.Proofs.YthoneahamnmjlaaGreatDoor
