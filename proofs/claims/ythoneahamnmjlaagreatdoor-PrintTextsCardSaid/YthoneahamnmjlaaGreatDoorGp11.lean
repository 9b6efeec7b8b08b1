/- The reader's small steps, in its own words; what an atom's box owes. -/
import Derived.Test.YthoneahamnmjlaaGreatDoorGp10
namespace Go.Proofs.YthoneahamnmjlaaGreatDoor
set_option maxRecDepth 100000
set_option maxHeartbeats 2000000
set_option linter.unusedSimpArgs false
open Go.RowKit Go.Shelf Go.Sort
set_option linter.unusedVariables false

section
variable {w0 : World} {ts : List Tk} {tv : Value} {g : Nat} {own : List Nat} {p : Nat} {atoms : List Atm} {vars : List ByteArray} {d e : Nat} {av vv : Value} {m : Nat} {W : World}
theorem may_yes (h : RdJ w0 ts tv g own ⟨p, atoms, vars⟩ d e av vv m W) {k : Int} (hk : kindAt ts p = k) (hk0 : k ≠ 0) (hl : ts.length ≤ 1000000) :
    Calls Tryz.prog 117 #[.pointer (some ⟨g, 0, none⟩), .int .i64 k] W fun en w' => en = .returned (.bool true) ∧ RdJ w0 ts tv g own ⟨p + 1, atoms, vars⟩ d e av vv m w' ∧ Chg own W own w' :=
  (may_any' h.rd k hk0 hl).mono fun en w' ⟨h1, h2, h3⟩ => by
    rw [decide_eq_true hk] at h1 h2
    exact ⟨h1, h.turn h2 h3, Chg.grown h3 h.gin⟩
theorem may_no (h : RdJ w0 ts tv g own ⟨p, atoms, vars⟩ d e av vv m W) {k : Int} (hk : kindAt ts p ≠ k) (hk0 : k ≠ 0) (hl : ts.length ≤ 1000000) :
    Calls Tryz.prog 117 #[.pointer (some ⟨g, 0, none⟩), .int .i64 k] W fun en w' => en = .returned (.bool false) ∧ RdJ w0 ts tv g own ⟨p, atoms, vars⟩ d e av vv m w' ∧ Chg own W own w' :=
  (may_any' h.rd k hk0 hl).mono fun en w' ⟨h1, h2, h3⟩ => by
    rw [decide_eq_false hk] at h1 h2
    exact ⟨h1, h.turn h2 h3, Chg.grown h3 h.gin⟩
theorem take_yes (h : RdJ w0 ts tv g own ⟨p, atoms, vars⟩ d e av vv m W) {k : Int} (hk : kindAt ts p = k) (hk0 : k ≠ 0) (hl : ts.length ≤ 1000000) :
    Calls Tryz.prog 132 #[.pointer (some ⟨g, 0, none⟩), .int .i64 k] W fun en w' => en = .returned (.string (textAt ts p)) ∧ RdJ w0 ts tv g own ⟨p + 1, atoms, vars⟩ d e av vv m w' ∧ Chg own W own w' :=
  (take_any h.rd k hk0 hl).mono fun en w' h' => by
    unfold takeP at h'
    rw [if_pos hk] at h'
    obtain ⟨h1, h2, h3⟩ := h'
    exact ⟨h1, h.turn h2 h3, Chg.grown h3 h.gin⟩
theorem take_no (h : RdJ w0 ts tv g own ⟨p, atoms, vars⟩ d e av vv m W) {k : Int} (hk : kindAt ts p ≠ k) (hk0 : k ≠ 0) (hl : ts.length ≤ 1000000) :
    Calls Tryz.prog 132 #[.pointer (some ⟨g, 0, none⟩), .int .i64 k] W (BadI w0 ts tv g own W p) :=
  (take_any h.rd k hk0 hl).mono fun en w' h' => by
    unfold takeP at h'
    rw [if_neg hk] at h'
    obtain ⟨h1, h2, h3⟩ := h'
    exact ⟨h1, ⟨_, h2⟩, _, Chg.grown h3 h.gin⟩
theorem bad_at (h : RdJ w0 ts tv g own ⟨p, atoms, vars⟩ d e av vv m W) (k : Nat) (hk : k ≤ p) (hl : ts.length ≤ 1000000) :
    Calls Tryz.prog 98 #[.pointer (some ⟨g, 0, none⟩), .int .i64 k] W (BadI w0 ts tv g own W (p - k)) :=
  (bad_any h.rd k hk (by omega)).mono fun en w' ⟨h1, h2, h3⟩ => ⟨h1, ⟨_, h2⟩, _, Chg.grown h3 h.gin⟩
theorem BadI.from_ {own1 : List Nat} {w w1 : World} {q : Nat} {en : Ending} {w' : World} (hc : Chg own w own1 w1) (h : BadI w0 ts tv g own1 w1 q en w') : BadI w0 ts tv g own w q en w' :=
  ⟨h.1, h.2.1, by obtain ⟨o, h3⟩ := h.2.2; exact ⟨o, hc.trans h3⟩⟩
theorem RdJ.le0 (h : RdJ w0 ts tv g own ⟨p, atoms, vars⟩ d e av vv m W) : w0.heap.size ≤ W.heap.size := h.rd.ext.size
end
theorem termP_len {ts : List Tk} {vars vars' : List ByteArray} {p q : Nat} {t : Bool × ByteArray} (h : termP ts vars p = .ok (t, vars', q)) (hv : vars.length ≤ 32) : vars'.length ≤ 32 := by
  unfold termP at h
  split at h
  · cases h; exact hv
  · split at h
    · split at h
      · cases h; exact hv
      · split at h
        · cases h
        · rename_i h32
          cases h
          rw [List.length_append]
          simp
          omega
    · cases h
/-- An atom's box, kept by the call that reads it. -/
structure AtBox (w : World) (x : Nat) (own : List Nat) (a : Atm) (W : World) : Prop where
  row : RowAt W x 40 (atCells a)
  out : x ∉ own
  new : w.heap.size ≤ x
theorem AtBox.chg {w : World} {x : Nat} {own own' : List Nat} {a : Atm} {W W' : World} (h : AtBox w x own a W) (hc : Chg own W own' W') : AtBox w x own' a W' := ⟨(h.row.chg hc h.out).1, (h.row.chg hc h.out).2, h.new⟩
theorem AtBox.facts {w : World} {x : Nat} {own : List Nat} {a : Atm} {W : World} (h : AtBox w x own a W) : (W.cell? ⟨x, 0, none⟩ = some (.int .i64 a.kind) ∧ W.cell? ⟨x, 1, none⟩ = some (.bool a.fk) ∧ W.cell? ⟨x, 2, none⟩ = some (.string a.fn) ∧ W.cell? ⟨x, 3, none⟩ = some (.string a.name) ∧
    W.cell? ⟨x, 4, none⟩ = some (.string a.value) ∧ W.cell? ⟨x, 5, none⟩ = some (.bool a.tk) ∧ W.cell? ⟨x, 6, none⟩ = some (.string a.tn)) ∧ (∀ i, W.frozen? ⟨x, i, none⟩ = false) :=
  ⟨⟨h.row.cell (i := 0) rfl, h.row.cell (i := 1) rfl, h.row.cell (i := 2) rfl, h.row.cell (i := 3) rfl, h.row.cell (i := 4) rfl, h.row.cell (i := 5) rfl, h.row.cell (i := 6) rfl⟩, fun i => h.row.frozen i⟩
/-- What reading an atom comes to. -/
def AtomQ (w0 : World) (ts : List Tk) (tv : Value) (g : Nat) (own : List Nat) (d : Nat) (w : World) (r : Except Nat PS) (en : Ending) (w' : World) : Prop := match r with
  | .ok st => en = .returned (.tuple #[]) ∧ ∃ own', RdP w0 ts tv g own' st d (edgesOf st.atoms) w' ∧ Chg own w own' w'
  | .error q => BadI w0 ts tv g own w q en w'
theorem atomQ_bad {w0 : World} {ts : List Tk} {tv : Value} {g : Nat} {own : List Nat} {d : Nat} {w : World} {r : Except Nat PS} {en : Ending} {w' : World} {q : Nat} (hr : r = .error q) (h : BadI w0 ts tv g own w q en w') : AtomQ w0 ts tv g own d w r en w' := by
  rw [hr]; exact h
section
variable {w0 : World} {ts : List Tk} {tv : Value} {g : Nat} {own : List Nat} {st : PS} {d e : Nat} {av vv : Value} {m : Nat} {W : World}
theorem at_set {own0 : List Nat} {w : World} {x : Nat} {a : Atm} (hj : RdJ w0 ts tv g own st d e av vv m W) (hb : AtBox w x own a W) (hc : Chg own0 w own W) (h0 : w0.heap.size ≤ w.heap.size) (i : Nat) (v : Value) {a' : Atm} (ha : (atCells a).set i v = atCells a') :
    RdJ w0 ts tv g own st d e av vv m (W.setCell ⟨x, i, none⟩ v) ∧ AtBox w x own a' (W.setCell ⟨x, i, none⟩ v) ∧ Chg own0 w own (W.setCell ⟨x, i, none⟩ v) :=
  ⟨hj.side (grown_set W x i v) hb.out (Nat.le_trans h0 hb.new), ⟨ha ▸ hb.row.set i v, hb.out, hb.new⟩, hc.side (grown_set W x i v) hb.new⟩
theorem RdJ.newAtom (h : RdJ w0 ts tv g own st d e av vv m W) {a : Atm} {W2 W3 : World} {v' : Value} (hx : Ext W W2)
    (how : W3.ownsRow w0.heap.size 40 7 v' (st.atoms.length + 1) (st.atoms.flatMap atCells ++ atCells a)) (hg2 : W2.grownBy W3 av.ownBlock) (happ : v'.ownBlock = av.ownBlock ∨ v'.ownBlock = some W2.heap.size) :
    (∃ own', RdJ w0 ts tv g own' ⟨st.p, st.atoms ++ [a], st.vars⟩ d e v' vv m (W3.setCell ⟨g, 0, none⟩ v') ∧ Chg own W own' (W3.setCell ⟨g, 0, none⟩ v')) ∧ RowAt W3 g 119 (rdRowP (rcI av vv m d e) tv st.p) := by
  have hg3 := grown_set W3 g 0 v'
  have a2 := own_ext h.atoms hx
  have v2 := own_ext h.vars hx
  have r2 := h.rd.row.ext hx
  have m2 := h.met.ext hx
  have v3 := own_apart v2 hg2 (fun b hb e => own_ne_own v2 a2 (by decide) b hb e)
  have r3 : RowAt W3 g 119 (rdRowP (rcI av vv m d e) tv st.p) := r2.kept hg2 (fun e => own_ne_row a2 r2 (by decide) g e rfl)
  have m3 := m2.kept hg2 (fun e => own_ne_map a2 m2 m e rfl)
  have a4 := own_turn how r3 (by decide) hg3
  have v4 := own_turn v3 r3 (by decide) hg3
  have m4 := m3.kept hg3 (fun e => h.gm (Option.some.inj e))
  have r4 : RowAt (W3.setCell ⟨g, 0, none⟩ v') g 119 (rdRowP (rcI v' vv m d e) tv st.p) := r3.set 0 v'
  have c2 : Chg own W own W2 := Chg.ext (own := own) hx
  have c3 := c2.trans (Chg.row hg2 h.ain)
  have c4 := c3.trans (Chg.grown hg3 h.gin)
  have e4 : Ext w0 (W3.setCell ⟨g, 0, none⟩ v') := ⟨c4.os.trans h.rd.ext.os, c4.tape.trans h.rd.ext.tape, c4.output.trans h.rd.ext.output, Nat.le_trans h.rd.ext.size c4.size, fun b hb => (c4.block b (Nat.lt_of_lt_of_le hb h.rd.ext.size) (fun hm => by have := (h.lo b hm).1; omega)).trans (h.rd.ext.block b hb)⟩
  have rd4 : RdT w0 ts tv g (rcI v' vv m d e) st.p (W3.setCell ⟨g, 0, none⟩ v') := ⟨e4, h.rd.toks, h.rd.lo, r4, h.rd.le, h.rd.szs⟩
  have vl : ∀ b, v'.ownBlock = some b → w0.heap.size ≤ b ∧ b < (W3.setCell ⟨g, 0, none⟩ v').heap.size := fun b hb => a4.lt b hb
  refine ⟨⟨v'.ownBlock.toList ++ own, ⟨rd4, List.mem_append_right _ h.gin, List.mem_append_right _ h.min_, h.gm, fun b hb => ?_, ?_, fun b hb => List.mem_append_left _ (by rw [hb]; simp), v4, fun b hb => List.mem_append_right _ (h.vin b hb), m4⟩, ⟨c4.os, c4.tape, c4.output, c4.size, c4.block, fun b hb => ?_⟩⟩, r3⟩
  · rcases List.mem_append.1 hb with h1 | h1
    · exact vl b (by simpa using h1)
    · exact ⟨(h.lo b h1).1, Nat.lt_of_lt_of_le (h.lo b h1).2 c4.size⟩
  · rw [List.length_append, List.flatMap_append, List.flatMap_cons, List.flatMap_nil, List.append_nil]
    exact a4
  · rcases List.mem_append.1 hb with h1 | h1
    · rcases happ with h2 | h2
      · exact .inl (h.ain b (by rw [← h2]; simpa using h1))
      · rw [h2] at h1
        simp at h1
        exact .inr (by have := hx.size; omega)
    · exact .inl h1
end
theorem elAt : ElT Tryz.prog 22 40 (.agg #[.int .i64 0, .bool false, .string ⟨#[]⟩, .string ⟨#[]⟩, .string ⟨#[]⟩, .bool false, .string ⟨#[]⟩]) 7 88 := ⟨Tryz.underlying22, ⟨_, rfl, by kernel_rfl, by kernel_rfl, by kernel_rfl⟩, rfl, by decide⟩
theorem step_app {P : Program} {w : World} {ops : Array Oper} {o : Oper} {a : Act} {K : Act → World → Prop} {Q : Exit → Act → World → Prop} {E : Prop} (hgd : o.guard = none) (s x : Operand) (t : TypeId)
    (ho : o.op = .call { callee := .builtin .append, args := #[s, x], argTypes := #[t, t] })
    {base : Nat} {e : TypeId} {z : Value} {size bytes : Nat} (T : ElT P t e z size bytes) {v : Value} {n : Nat} {xs : List Value} (hs : a.eval s = v) (hown : w.ownsRow base e size v n xs)
    {u : Value} {m : Nat} {news : List Value} (hx : a.eval x = u) (hu : Sl w u m news) (hl : news.length = m * size)
    (h1 : ∀ x ∈ news, x.oneCell' = true) (hb : (n + m) * bytes ≤ 140737488355328) (h63 : n + m ≤ maxLen) (hbase : base ≤ w.heap.size)
    (h : ∀ v' w', w'.ownsRow base e size v' (n + m) (xs ++ news) → Below base w w' → w.grownBy w' v.ownBlock → AppAt v v' w → K (a.put o.dst v') w') :
    if Region.wanted o (yielded ops a.tmps) = true then Oper.wp P o a w K Q else E := by
  rw [if_pos (by simp [Region.wanted, hgd])]
  exact wp_append_sl w s x t ho T hs hown hx hu hl h1 hb h63 hbase h
theorem atomQ_ok {w0 : World} {ts : List Tk} {tv : Value} {g : Nat} {own own' : List Nat} {d e : Nat} {av vv : Value} {m : Nat} {w : World} {r : Except Nat PS} {w' : World} {st : PS} (hr : r = .ok st) (he : e = edgesOf st.atoms) (hj : RdJ w0 ts tv g own' st d e av vv m w') (hc : Chg own w own' w') :
    AtomQ w0 ts tv g own d w r (.returned (.tuple #[])) w' := by
  subst hr he
  exact ⟨rfl, own', ⟨av, vv, m, hj⟩, hc⟩
theorem edges_no (l : List Atm) (a : Atm) (h : a.kind ≠ 4) : edgesOf l = edgesOf (l ++ [a]) := by unfold edgesOf; rw [List.filter_append]; simp [h]
theorem edges_yes (l : List Atm) (a : Atm) (h : a.kind = 4) : edgesOf l + 1 = edgesOf (l ++ [a]) := by unfold edgesOf; rw [List.filter_append]; simp [h]
section
variable {w0 : World} {ts : List Tk} {tv : Value} {g : Nat} {own : List Nat} {p : Nat} {atoms : List Atm} {vars : List ByteArray} {d e : Nat} {av vv : Value} {m : Nat} {W : World}
theorem RdJ.edge (h : RdJ w0 ts tv g own ⟨p, atoms, vars⟩ d e av vv m W) : RdJ w0 ts tv g own ⟨p, atoms, vars⟩ d (e + 1) av vv m (W.setCell ⟨g, 11, none⟩ (.int .i64 (e + 1 : Nat))) ∧ Chg own W own (W.setCell ⟨g, 11, none⟩ (.int .i64 (e + 1 : Nat))) :=
  ⟨h.turn ⟨Ext.set_of h.rd.ext h.rd.lo _, h.rd.toks, h.rd.lo, h.rd.row.set 11 _, h.rd.le, h.rd.szs⟩ (grown_set W g 11 _), Chg.grown (grown_set W g 11 _) h.gin⟩
theorem RdJ.depth (h : RdJ w0 ts tv g own ⟨p, atoms, vars⟩ d e av vv m W) (d' : Nat) : RdJ w0 ts tv g own ⟨p, atoms, vars⟩ d' e av vv m (W.setCell ⟨g, 10, none⟩ (.int .i64 d')) ∧ Chg own W own (W.setCell ⟨g, 10, none⟩ (.int .i64 d')) :=
  ⟨h.turn ⟨Ext.set_of h.rd.ext h.rd.lo _, h.rd.toks, h.rd.lo, h.rd.row.set 10 _, h.rd.le, h.rd.szs⟩ (grown_set W g 10 _), Chg.grown (grown_set W g 10 _) h.gin⟩
theorem takes_yes (h : RdJ w0 ts tv g own ⟨p, atoms, vars⟩ d e av vv m W) {b : Nat} (hb : RowAt W b 3 [.int .i64 11, .int .i64 4]) (h1 : kindAt ts p = 11) (h2 : kindAt ts (p + 1) = 4) (hl : ts.length ≤ 1000000) :
    Calls Tryz.prog 141 #[.pointer (some ⟨g, 0, none⟩), .slice (some ⟨b, 0, none⟩) 2 2] W fun en w' => en = .returned (.tuple #[]) ∧ RdJ w0 ts tv g own ⟨p + 1 + 1, atoms, vars⟩ d e av vv m w' ∧ Chg own W own w' :=
  (takes_two h.rd 11 4 (by decide) (by decide) hl hb (fun e => by
    subst e
    have h1 := (show W.heap[b]? = _ from hb).symm.trans h.rd.row
    simp [rdRowP] at h1)).mono fun en w' h' => by
    have ht : takesP ts [11, 4] p = .ok ((), p + 1 + 1) := by unfold takesP takeP takesP takesP takeP; rw [if_pos h1]; simp [Except.bind, h2]
    dsimp only at h'
    rw [ht] at h'
    obtain ⟨a1, a2, a3⟩ := h'
    exact ⟨a1, h.turn a2 a3, Chg.grown a3 h.gin⟩
theorem takes_no (h : RdJ w0 ts tv g own ⟨p, atoms, vars⟩ d e av vv m W) {b : Nat} (hb : RowAt W b 3 [.int .i64 11, .int .i64 4]) {q : Nat} (hq : takesP ts [11, 4] p = .error q) (hl : ts.length ≤ 1000000) :
    Calls Tryz.prog 141 #[.pointer (some ⟨g, 0, none⟩), .slice (some ⟨b, 0, none⟩) 2 2] W (BadI w0 ts tv g own W q) :=
  (takes_two h.rd 11 4 (by decide) (by decide) hl hb (fun e => by
    subst e
    have h1 := (show W.heap[b]? = _ from hb).symm.trans h.rd.row
    simp [rdRowP] at h1)).mono fun en w' h' => by
    dsimp only at h'
    rw [hq] at h'
    obtain ⟨a1, a2, a3⟩ := h'
    exact ⟨a1, ⟨_, a2⟩, _, Chg.grown a3 h.gin⟩
end
end Go.Proofs.YthoneahamnmjlaaGreatDoor

/- What holds of all that is read: it goes on, and stays small. Plain. -/
namespace Go.Proofs.YthoneahamnmjlaaGreatDoor
set_option maxRecDepth 100000
set_option maxHeartbeats 2000000
set_option linter.unusedSimpArgs false
set_option linter.unusedVariables false

def Bd (st : PS) : Prop := st.vars.length ≤ 32 ∧ edgesOf st.atoms ≤ 6
theorem takeP_ok {ts : List Tk} {k : Int} {p q : Nat} {s : ByteArray} (h : takeP ts k p = .ok (s, q)) : q = p + 1 := by
  unfold takeP at h
  split at h
  · cases h; rfl
  · cases h
theorem termP_ok {ts : List Tk} {vars vars' : List ByteArray} {p q : Nat} {t : Bool × ByteArray} (h : termP ts vars p = .ok (t, vars', q)) (hv : vars.length ≤ 32) : q = p + 1 ∧ vars'.length ≤ 32 := by
  refine ⟨?_, termP_len h hv⟩
  unfold termP at h
  split at h
  · cases h; rfl
  · split at h
    · split at h
      · cases h; rfl
      · split at h
        · cases h
        · cases h; rfl
    · cases h
theorem bind_ok {α β : Type} {x : Except Nat α} {f : α → Except Nat β} {b : β} (h : x.bind f = .ok b) : ∃ a, x = .ok a ∧ f a = .ok b := by
  cases x with
  | error e => cases h
  | ok a => exact ⟨a, rfl, h⟩
theorem midP_ok {ts : List Tk} {p q : Nat} {k : Int} {s v : ByteArray} (h : midP ts p = .ok (k, s, v, q)) : p ≤ q ∧ k ≠ 4 := by
  unfold midP at h
  split at h
  · obtain ⟨⟨_, q1⟩, h1, h2⟩ := bind_ok h
    have := takeP_ok h1
    cases h2
    exact ⟨by omega, by decide⟩
  · split at h
    · obtain ⟨⟨_, q1⟩, h1, h2⟩ := bind_ok h
      obtain ⟨⟨_, q2⟩, h3, h4⟩ := bind_ok h2
      obtain ⟨⟨_, q3⟩, h5, h6⟩ := bind_ok h4
      have := takeP_ok h1
      have := takeP_ok h3
      have := takeP_ok h5
      cases h6
      exact ⟨by omega, by decide⟩
    · cases h
      exact ⟨Nat.le_refl _, by decide⟩
theorem atomP_good {ts : List Tk} {st s : PS} (h : atomP ts st = .ok s) (hb : Bd st) : st.p < s.p ∧ Bd s ∧ s.atoms.length = st.atoms.length + 1 := by
  unfold atomP at h
  obtain ⟨⟨f, v1, p1⟩, h1, h2⟩ := bind_ok h
  obtain ⟨⟨k, n, v, p2⟩, h3, h4⟩ := bind_ok h2
  obtain ⟨⟨_, p3⟩, h5, h6⟩ := bind_ok h4
  obtain ⟨e1, l1⟩ := termP_ok h1 hb.1
  obtain ⟨e3, k3⟩ := midP_ok h3
  have e5 := takeP_ok h5
  dsimp only at h6
  split at h6
  · split at h6
    · cases h6
    · rename_i h66
      obtain ⟨⟨_, p4⟩, a1, h7⟩ := bind_ok h6
      obtain ⟨⟨_, p5⟩, a2, h8⟩ := bind_ok h7
      obtain ⟨⟨_, p6⟩, a3, h9⟩ := bind_ok h8
      obtain ⟨⟨t, v2, p7⟩, a4, h10⟩ := bind_ok h9
      obtain ⟨⟨_, p8⟩, a5, h11⟩ := bind_ok h10
      have b1 := takeP_ok a1
      have b2 := takeP_ok a2
      have b3 := takeP_ok a3
      obtain ⟨b4, l4⟩ := termP_ok a4 l1
      have b5 := takeP_ok a5
      cases h11
      have he := edges_yes st.atoms ⟨4, f.1, f.2, ‹ByteArray›, nilB, t.1, t.2⟩ rfl
      refine ⟨by dsimp only at *; omega, ⟨l4, ?_⟩, by simp⟩
      have hb2 := hb.2
      dsimp only
      rw [← edges_yes _ _ rfl]
      omega
  · cases h6
    refine ⟨by dsimp only at *; omega, ⟨l1, ?_⟩, by simp⟩
    dsimp only
    rw [← edges_no _ _ k3]
    exact hb.2
theorem itemsF_good {ts : List Tk} : ∀ (f d : Nat) (st s : PS), itemsF ts f d st = some (.ok s) → Bd st → st.atoms.length ≤ 39 → st.p < s.p ∧ Bd s ∧ s.atoms.length ≤ 40
  | 0, _, _, _, h, _, _ => by simp [itemsF] at h
  | f + 1, d, st, s, h, hb, ha => by
    have ih := itemsF_good (ts := ts) f
    have fin : ∀ s1 : PS, st.p < s1.p → Bd s1 → s1.atoms.length ≤ 40 → (if s1.atoms.length = 40 ∨ kindAt ts s1.p ≠ 6 then some (.ok s1) else itemsF ts f d ⟨s1.p + 1, s1.atoms, s1.vars⟩) = some (.ok s) → st.p < s.p ∧ Bd s ∧ s.atoms.length ≤ 40 := by
      intro s1 h1 h2 h3 h4
      split at h4
      · cases h4; exact ⟨h1, h2, h3⟩
      · rename_i hs
        obtain ⟨g1, g2, g3⟩ := ih d _ s h4 h2 (by dsimp only; omega)
        exact ⟨by dsimp only at g1; omega, g2, g3⟩
    unfold itemsF at h
    by_cases h4 : kindAt ts st.p = 4
    · by_cases h44 : kindAt ts (st.p + 1) = 4
      · by_cases hd : d = 4
        · simp [h4, h44, hd] at h
        · simp only [h4, h44, hd, if_true, if_false] at h
          cases hi : itemsF ts f (d + 1) ⟨st.p + 1, st.atoms, st.vars⟩ with
          | none => rw [hi] at h; simp at h
          | some x =>
            rw [hi] at h
            cases x with
            | error q => simp at h
            | ok s1 =>
              obtain ⟨g1, g2, g3⟩ := ih (d + 1) _ s1 hi hb ha
              dsimp only at g1
              cases hb2 : ((takeP ts 5 s1.p).bind fun (_, p) => (.ok ⟨p, s1.atoms, s1.vars⟩ : Except Nat PS)) with
              | error q => simp only [hb2] at h; cases h
              | ok s' =>
                simp only [hb2] at h
                obtain ⟨⟨_, q1⟩, c1, c2⟩ := bind_ok hb2
                have := takeP_ok c1
                cases c2
                exact fin ⟨q1, s1.atoms, s1.vars⟩ (by dsimp only; omega) g2 g3 h
      · simp only [h4, h44, if_true, if_false] at h
        cases hat : atomP ts ⟨st.p + 1, st.atoms, st.vars⟩ with
        | error q => simp only [hat] at h; cases h
        | ok s' =>
          simp only [hat] at h
          obtain ⟨g1, g2, g3⟩ := atomP_good hat hb
          dsimp only at g1 g3
          exact fin _ (by omega) g2 (by omega) h
    · simp [h4] at h
theorem ItemsR.good {ts : List Tk} {d : Nat} {st s : PS} (h : ItemsR ts d st (.ok s)) (hb : Bd st) (ha : st.atoms.length ≤ 39) : st.p < s.p ∧ Bd s ∧ s.atoms.length ≤ 40 := by
  obtain ⟨f, hf⟩ := h
  exact itemsF_good f d st s hf hb ha
theorem ItemR.good {ts : List Tk} {d : Nat} {st s : PS} {r : Except Nat PS} (h : ItemR ts d st r) (hr : r = .ok s) (hb : Bd st) (ha : st.atoms.length ≤ 39) : st.p < s.p ∧ Bd s ∧ s.atoms.length ≤ 40 := by
  cases h with
  | no h => cases hr
  | deep h h' hd => cases hr
  | bad h h' hd hi => cases hr
  | atom h h' =>
    obtain ⟨g1, g2, g3⟩ := atomP_good hr hb
    dsimp only at g1 g3
    exact ⟨by omega, g2, by omega⟩
  | @group h h' hd s1 hi =>
    obtain ⟨g1, g2, g3⟩ := hi.good hb ha
    dsimp only at g1
    obtain ⟨⟨_, q1⟩, c1, c2⟩ := bind_ok hr
    have := takeP_ok c1
    cases c2
    exact ⟨by dsimp only; omega, g2, g3⟩
end Go.Proofs.YthoneahamnmjlaaGreatDoor
