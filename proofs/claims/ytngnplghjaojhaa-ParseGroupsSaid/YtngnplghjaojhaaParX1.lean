/- What a pattern's tokens come to: plain, no program in sight. -/
import Derived.Test.YtngnplghjaojhaaLexX1
import Derived.Test.YtngnplghjaojhaaLexX2
import Derived.Test.YtngnplghjaojhaaGenX3
import Derived.Test.YtngnplghjaojhaaGenX4
import Derived.Test.YtngnplghjaojhaaGenX1
namespace Go.Proofs.Ytngnplghjaojhaa
set_option maxRecDepth 100000
set_option maxHeartbeats 2000000
set_option linter.unusedSimpArgs false
set_option linter.unusedVariables false

/-- An atom. -/
structure Atm where
  kind : Int
  fk : Bool
  fn : ByteArray
  name : ByteArray
  value : ByteArray
  tk : Bool
  tn : ByteArray
deriving DecidableEq
/-- A pattern. -/
structure Pat where
  atoms : List Atm
  ret : List ByteArray
  count : Bool
  distinct : Bool
  limited : Bool
  limit : Int
  offset : Int
  hint : List ByteArray
def noPat : Pat := ⟨[], [], false, false, false, 0, 0, []⟩
def nilB : ByteArray := ⟨#[]⟩
/-- The token's kind where one is; 0: there is none, or it may not be. -/
def kindAt (ts : List Tk) (p : Nat) : Int := match ts[p]? with
  | none => 0
  | some t => if t.check then t.kind else 0
def tkNil : Tk := ⟨0, nilB, 0⟩
def textAt (ts : List Tk) (p : Nat) : ByteArray := (ts.getD p tkNil).text
theorem kindAt_lt {ts : List Tk} {p : Nat} (h : kindAt ts p ≠ 0) : p < ts.length := by
  unfold kindAt at h
  split at h
  · exact absurd rfl h
  · rename_i t ht
    exact (List.getElem?_eq_some_iff.1 ht).1
/-- Behind some tokens: where, and what has been read. -/
structure PS where
  p : Nat
  atoms : List Atm
  vars : List ByteArray
/-- Is a text among others? -/
def hasB (s : ByteArray) (l : List ByteArray) : Bool := l.any fun x => decide (x = s)
theorem hasB_iff {s : ByteArray} {l : List ByteArray} : hasB s l = true ↔ s ∈ l := by
  unfold hasB
  simp
theorem hasB_no {s : ByteArray} {l : List ByteArray} : hasB s l = false ↔ s ∉ l := by
  rw [← hasB_iff]
  cases hasB s l <;> simp
def takeP (ts : List Tk) (k : Int) (p : Nat) : Except Nat (ByteArray × Nat) := if kindAt ts p = k then .ok (textAt ts p, p + 1) else .error p
/-- A term: whether it is a key, and its name; the variables with it; the place behind. -/
def termP (ts : List Tk) (vars : List ByteArray) (p : Nat) : Except Nat ((Bool × ByteArray) × List ByteArray × Nat) :=
  if kindAt ts p = 2 then .ok ((true, textAt ts p), vars, p + 1)
  else if kindAt ts p = 1 then
    (if hasB (textAt ts p) vars = true then .ok ((false, textAt ts p), vars, p + 1)
     else if vars.length = 32 then .error p
     else .ok ((false, textAt ts p), vars ++ [textAt ts p], p + 1))
  else .error p
def edgesOf (l : List Atm) : Nat := (l.filter fun a => decide (a.kind = 4)).length
/-- What stands behind an atom's first term: the kind, the name, the value, and the place behind. -/
def midP (ts : List Tk) (p : Nat) : Except Nat (Int × ByteArray × ByteArray × Nat) :=
  if kindAt ts p = 7 then (takeP ts 1 (p + 1)).bind fun (s, p) => .ok (2, s, nilB, p)
  else if kindAt ts p = 8 then (takeP ts 1 (p + 1)).bind fun (s, p) => (takeP ts 9 p).bind fun (_, p) => (takeP ts 3 p).bind fun (v, p) => .ok (3, s, v, p)
  else .ok (1, nilB, nilB, p)
/-- An atom, of which the first token is taken. -/
def atomP (ts : List Tk) (st : PS) : Except Nat PS :=
  (termP ts st.vars st.p).bind fun (f, vars, p) => (midP ts p).bind fun (k, s, v, p) => (takeP ts 5 p).bind fun (_, p) =>
    if k = 1 ∧ kindAt ts p = 10 then
      (if edgesOf st.atoms = 6 then .error p
       else (takeP ts 1 (p + 1)).bind fun (s, p) => (takeP ts 11 p).bind fun (_, p) => (takeP ts 4 p).bind fun (_, p) => (termP ts vars p).bind fun (t, vars, p) => (takeP ts 5 p).bind fun (_, p) =>
        .ok ⟨p, st.atoms ++ [⟨4, f.1, f.2, s, nilB, t.1, t.2⟩], vars⟩)
    else .ok ⟨p, st.atoms ++ [⟨k, f.1, f.2, s, v, false, nilB⟩], vars⟩
/-- Items; none: the fuel is out. -/
def itemsF (ts : List Tk) : Nat → Nat → PS → Option (Except Nat PS)
  | 0, _, _ => none
  | f + 1, d, st =>
    let one : Option (Except Nat PS) := if kindAt ts st.p = 4 then
        (if kindAt ts (st.p + 1) = 4 then
          (if d = 4 then some (.error (st.p + 1))
           else match itemsF ts f (d + 1) ⟨st.p + 1, st.atoms, st.vars⟩ with
            | none => none
            | some (.error q) => some (.error q)
            | some (.ok s) => some ((takeP ts 5 s.p).bind fun (_, p) => .ok ⟨p, s.atoms, s.vars⟩))
         else some (atomP ts ⟨st.p + 1, st.atoms, st.vars⟩))
      else some (.error st.p)
    match one with
    | none => none
    | some (.error q) => some (.error q)
    | some (.ok s) => if s.atoms.length = 40 ∨ kindAt ts s.p ≠ 6 then some (.ok s) else itemsF ts f d ⟨s.p + 1, s.atoms, s.vars⟩
theorem itemsF_mono (ts : List Tk) : ∀ (f d : Nat) (st : PS) (r : Except Nat PS), itemsF ts f d st = some r → itemsF ts (f + 1) d st = some r
  | 0, _, _, _, h => by simp [itemsF] at h
  | f + 1, d, st, r, h => by
    have ih := itemsF_mono ts f
    unfold itemsF at h ⊢
    by_cases h4 : kindAt ts st.p = 4
    · by_cases h44 : kindAt ts (st.p + 1) = 4
      · by_cases hd : d = 4
        · simpa [h4, h44, hd] using h
        · simp only [h4, h44, hd, if_true, if_false] at h ⊢
          cases hi : itemsF ts f (d + 1) ⟨st.p + 1, st.atoms, st.vars⟩ with
          | none => rw [hi] at h; simp at h
          | some x =>
            rw [ih _ _ _ hi]
            rw [hi] at h
            cases x with
            | error q => exact h
            | ok s =>
              cases hb : ((takeP ts 5 s.p).bind fun (_, p) => (.ok ⟨p, s.atoms, s.vars⟩ : Except Nat PS)) with
              | error q => simp only [hb] at h ⊢; exact h
              | ok s' =>
                simp only [hb] at h ⊢
                split at h
                · rename_i hs; rw [if_pos hs]; exact h
                · rename_i hs; rw [if_neg hs]; exact ih _ _ _ h
      · simp only [h4, h44, if_true, if_false] at h ⊢
        cases ha : atomP ts ⟨st.p + 1, st.atoms, st.vars⟩ with
        | error q => simp only [ha] at h ⊢; exact h
        | ok s' =>
          simp only [ha] at h ⊢
          split at h
          · rename_i hs; rw [if_pos hs]; exact h
          · rename_i hs; rw [if_neg hs]; exact ih _ _ _ h
    · simpa [h4] using h
theorem itemsF_le {ts : List Tk} {f g d : Nat} {st : PS} {r : Except Nat PS} (h : itemsF ts f d st = some r) (hg : f ≤ g) : itemsF ts g d st = some r := by
  obtain ⟨k, rfl⟩ := Nat.le.dest hg
  induction k with
  | zero => exact h
  | succ k ih => exact itemsF_mono ts _ _ _ _ (ih (by omega))
/-- Items at a depth come to this. -/
def ItemsR (ts : List Tk) (d : Nat) (st : PS) (r : Except Nat PS) : Prop := ∃ f, itemsF ts f d st = some r
theorem ItemsR.same {ts : List Tk} {d : Nat} {st : PS} {r r' : Except Nat PS} (h : ItemsR ts d st r) (h' : ItemsR ts d st r') : r = r' := by
  obtain ⟨f, h⟩ := h
  obtain ⟨g, h'⟩ := h'
  have a := itemsF_le h (Nat.le_max_left f g)
  have b := itemsF_le h' (Nat.le_max_right f g)
  rw [a] at b
  exact Option.some.inj b
/-- One item at a depth comes to this. -/
inductive ItemR (ts : List Tk) (d : Nat) (st : PS) : Except Nat PS → Prop
  | no (h : kindAt ts st.p ≠ 4) : ItemR ts d st (.error st.p)
  | atom (h : kindAt ts st.p = 4) (h' : kindAt ts (st.p + 1) ≠ 4) : ItemR ts d st (atomP ts ⟨st.p + 1, st.atoms, st.vars⟩)
  | deep (h : kindAt ts st.p = 4) (h' : kindAt ts (st.p + 1) = 4) (hd : d = 4) : ItemR ts d st (.error (st.p + 1))
  | bad (h : kindAt ts st.p = 4) (h' : kindAt ts (st.p + 1) = 4) (hd : d ≠ 4) {q : Nat} (hi : ItemsR ts (d + 1) ⟨st.p + 1, st.atoms, st.vars⟩ (.error q)) : ItemR ts d st (.error q)
  | group (h : kindAt ts st.p = 4) (h' : kindAt ts (st.p + 1) = 4) (hd : d ≠ 4) {s : PS} (hi : ItemsR ts (d + 1) ⟨st.p + 1, st.atoms, st.vars⟩ (.ok s)) : ItemR ts d st ((takeP ts 5 s.p).bind fun (_, p) => .ok ⟨p, s.atoms, s.vars⟩)
def contF (ts : List Tk) (g d : Nat) : Except Nat PS → Option (Except Nat PS)
  | .error q => some (.error q)
  | .ok s => if s.atoms.length = 40 ∨ kindAt ts s.p ≠ 6 then some (.ok s) else itemsF ts g d ⟨s.p + 1, s.atoms, s.vars⟩
theorem ItemR.one {ts : List Tk} {d : Nat} {st : PS} {r : Except Nat PS} (h : ItemR ts d st r) : ∃ f, ∀ g, f ≤ g → itemsF ts (g + 1) d st = contF ts g d r := by
  cases h with
  | no h => exact ⟨0, fun g _ => by unfold itemsF contF; simp only [h, if_false]⟩
  | atom h h' => exact ⟨0, fun g _ => by
      unfold itemsF contF; simp only [h, h', if_true, if_false]
      cases atomP ts ⟨st.p + 1, st.atoms, st.vars⟩ <;> simp only []⟩
  | deep h h' hd => exact ⟨0, fun g _ => by unfold itemsF contF; simp only [h, h', hd, if_true]⟩
  | bad h h' hd hi =>
    obtain ⟨f, hf⟩ := hi
    exact ⟨f, fun g hg => by unfold itemsF contF; simp only [h, h', hd, if_true, if_false, itemsF_le hf hg]⟩
  | @group h h' hd s hi =>
    obtain ⟨f, hf⟩ := hi
    exact ⟨f, fun g hg => by
      unfold itemsF contF; simp only [h, h', hd, if_true, if_false, itemsF_le hf hg]
      cases ((takeP ts 5 s.p).bind fun (_, p) => (.ok ⟨p, s.atoms, s.vars⟩ : Except Nat PS)) <;> simp only []⟩
theorem ItemsR.bad {ts : List Tk} {d : Nat} {st : PS} {q : Nat} (h : ItemR ts d st (.error q)) : ItemsR ts d st (.error q) := by
  obtain ⟨f, hf⟩ := h.one
  exact ⟨f + 1, hf f (Nat.le_refl _)⟩
theorem ItemsR.last {ts : List Tk} {d : Nat} {st s : PS} (h : ItemR ts d st (.ok s)) (hs : s.atoms.length = 40 ∨ kindAt ts s.p ≠ 6) : ItemsR ts d st (.ok s) := by
  obtain ⟨f, hf⟩ := h.one
  have h1 := hf f (Nat.le_refl _)
  unfold contF at h1
  simp only at h1
  rw [if_pos hs] at h1
  exact ⟨f + 1, h1⟩
theorem ItemsR.more {ts : List Tk} {d : Nat} {st s : PS} {r : Except Nat PS} (h : ItemR ts d st (.ok s)) (hs : ¬ (s.atoms.length = 40 ∨ kindAt ts s.p ≠ 6)) (h2 : ItemsR ts d ⟨s.p + 1, s.atoms, s.vars⟩ r) : ItemsR ts d st r := by
  obtain ⟨f, hf⟩ := h.one
  obtain ⟨g, hg⟩ := h2
  have h1 := hf (max f g) (Nat.le_max_left _ _)
  unfold contF at h1
  simp only at h1
  rw [if_neg hs, itemsF_le hg (Nat.le_max_right _ _)] at h1
  exact ⟨_, h1⟩
/-- What is told: the pattern, and the place behind. -/
def varP (ts : List Tk) (vars some_ : List ByteArray) (p : Nat) : Except Nat (List ByteArray × Nat) :=
  (takeP ts 1 p).bind fun (s, p') => if hasB s vars = false ∨ hasB s some_ = true then .error p else .ok (some_ ++ [s], p')
/-- The variables behind 'return': k more may follow. -/
def retP (ts : List Tk) (vars : List ByteArray) : Nat → List ByteArray → Nat → Except Nat (List ByteArray × Nat)
  | 0, acc, p => .ok (acc, p)
  | k + 1, acc, p => (varP ts vars acc p).bind fun (acc, p) => if k ≠ 0 ∧ kindAt ts p = 6 then retP ts vars k acc (p + 1) else .ok (acc, p)
def hintP (ts : List Tk) (vars : List ByteArray) : Nat → List ByteArray → Nat → Except Nat (List ByteArray × Nat)
  | 0, acc, p => .ok (acc, p)
  | k + 1, acc, p => (varP ts vars acc p).bind fun (acc, p) => hintP ts vars k acc p
def numP (ts : List Tk) (p : Nat) : Except Nat (Int × Nat) :=
  (takeP ts 1 p).bind fun (_, p') => match (ts.getD p tkNil).number with
    | none => .error p
    | some n => .ok (n, p')
def saysP (ts : List Tk) (s : ByteArray) (p : Nat) : Bool := decide (kindAt ts p = 1) && decide (textAt ts p = s)
def wReturn : ByteArray := ⟨#[114, 101, 116, 117, 114, 110]⟩
def wCount : ByteArray := ⟨#[99, 111, 117, 110, 116]⟩
def wDistinct : ByteArray := ⟨#[100, 105, 115, 116, 105, 110, 99, 116]⟩
def wLimit : ByteArray := ⟨#[108, 105, 109, 105, 116]⟩
def wOffset : ByteArray := ⟨#[111, 102, 102, 115, 101, 116]⟩
def wHint : ByteArray := ⟨#[104, 105, 110, 116]⟩
/-- What of it stands behind 'return'. -/
def toldRet (ts : List Tk) (vars : List ByteArray) (p : Nat) : Except Nat (List ByteArray × Nat) :=
  if vars ≠ [] ∧ saysP ts wReturn p = true then retP ts vars vars.length [] (p + 1) else .ok ([], p)
/-- Whether it is counted, without duplicates, limited, by how many, from which on. -/
def toldPage (ts : List Tk) (p : Nat) : Except Nat ((Bool × Bool × Bool × Int × Int) × Nat) :=
  if saysP ts wCount p = true then (if saysP ts wDistinct (p + 1) = true then .ok ((true, true, false, 0, 0), p + 2) else .ok ((true, false, false, 0, 0), p + 1))
  else (if saysP ts wLimit p = true then (numP ts (p + 1)).bind fun (n, p) => .ok (true, n, p) else .ok (false, 0, p)).bind fun (l, n, p) =>
    (if saysP ts wOffset p = true then (numP ts (p + 1)).bind fun (m, p) => .ok (m, p) else .ok (0, p)).bind fun (m, p) => .ok ((false, false, l, n, m), p)
def toldHint (ts : List Tk) (vars : List ByteArray) (p : Nat) : Except Nat (List ByteArray × Nat) :=
  if vars ≠ [] ∧ saysP ts wHint p = true then hintP ts vars vars.length [] (p + 1) else .ok ([], p)
def toldP (ts : List Tk) (st : PS) : Except Nat (Pat × Nat) :=
  (toldRet ts st.vars st.p).bind fun (r, p) => (toldPage ts p).bind fun (g, p) => (toldHint ts st.vars p).bind fun (h, p) =>
    .ok (⟨st.atoms, r, g.1, g.2.1, g.2.2.1, g.2.2.2.1, g.2.2.2.2, h⟩, p)
/-- The pattern of tokens, or the place of the first wrong one. -/
def ToksR (ts : List Tk) (r : Except Nat Pat) : Prop := ∃ x, ItemsR ts 0 ⟨0, [], []⟩ x ∧ r = x.bind fun st => (toldP ts st).bind fun (P, p) => if p < ts.length then .error p else .ok P
theorem ToksR.same {ts : List Tk} {r r' : Except Nat Pat} (h : ToksR ts r) (h' : ToksR ts r') : r = r' := by
  obtain ⟨x, h1, rfl⟩ := h
  obtain ⟨y, h2, rfl⟩ := h'
  rw [h1.same h2]
end Go.Proofs.Ytngnplghjaojhaa

/- The reader in memory; one token. -/
namespace Go.Proofs.Ytngnplghjaojhaa
set_option maxRecDepth 100000
set_option maxHeartbeats 2000000
set_option linter.unusedSimpArgs false
open Go.RowKit Go.Shelf Go.Sort
attribute [local go_sem] Oper.semAt_some wide_fn wide_depth
set_option linter.unusedVariables false

/-- The reader's cells but for its tokens and its place. -/
structure Rc where
  c0 : Value
  c1 : Value
  c2 : Value
  c3 : Value
  c4 : Value
  c5 : Value
  c6 : Value
  c7 : Value
  c10 : Value
  c11 : Value
  c12 : Value
  c13 : Value
def rdRow (c : Rc) (tv : Value) (p : Int) : List Value := [c.c0, c.c1, c.c2, c.c3, c.c4, c.c5, c.c6, c.c7, tv, .int .i64 p, c.c10, c.c11, c.c12, c.c13]
/-- The reader stands at a token. -/
structure RdT (w0 : World) (ts : List Tk) (tv : Value) (g : Nat) (c : Rc) (p : Nat) (W : World) : Prop where
  ext : Ext w0 W
  toks : Toks w0 tv ts
  lo : w0.heap.size ≤ g
  row : RowAt W g 68 (rdRow c tv p)
  le : p ≤ ts.length
  szs : ∀ t ∈ ts, t.text.size ≤ 9223372036854775800
theorem RdT.grow {w0 : World} {ts : List Tk} {tv : Value} {g : Nat} {c : Rc} {p : Nat} {W W' : World} (h : RdT w0 ts tv g c p W) (hx : Ext W W') : RdT w0 ts tv g c p W' :=
  ⟨h.ext.trans hx, h.toks, h.lo, h.row.ext hx, h.le, h.szs⟩
theorem RdT.set {w0 : World} {ts : List Tk} {tv : Value} {g : Nat} {c : Rc} {p : Nat} {W : World} (h : RdT w0 ts tv g c p W) {q : Nat} (hq : q ≤ ts.length) : RdT w0 ts tv g c q (W.setCell ⟨g, 9, none⟩ (.int .i64 q)) :=
  ⟨Ext.set_of h.ext h.lo _, h.toks, h.lo, h.row.set 9 _, hq, h.szs⟩
theorem RdT.facts {w0 : World} {ts : List Tk} {tv : Value} {g : Nat} {c : Rc} {p : Nat} {W : World} (h : RdT w0 ts tv g c p W) : W.cell? ⟨g, 8, none⟩ = some tv ∧ W.cell? ⟨g, 9, none⟩ = some (.int .i64 p) ∧ W.frozen? ⟨g, 9, none⟩ = false :=
  ⟨h.row.cell (i := 8) rfl, h.row.cell (i := 9) rfl, h.row.frozen 9⟩
/-- What no pattern says. -/
def wrongE : Ending := .panicked [{ v := .iface 91 (.agg #[]), recovered := false }]
def groK1 : Nat → Gro
  | 3 => .read
  | 7 => .read
  | 14 => .read
  | 18 => .read
  | 20 => .read
  | 21 => .grow
  | _ => .pure
def groK3 : Nat → Gro
  | 3 => .read
  | 7 => .read
  | 10 => .read
  | _ => .pure
theorem kindAt_end {ts : List Tk} {p : Nat} (h : ¬ p < ts.length) : kindAt ts p = 0 := by
  unfold kindAt
  rw [List.getElem?_eq_none (by omega)]
theorem kindAt_at {ts : List Tk} {p : Nat} (h : p < ts.length) : kindAt ts p = if ts[p].check then ts[p].kind else 0 := by
  unfold kindAt
  rw [List.getElem?_eq_getElem h]
set_option maxHeartbeats 1000000 in
theorem kind_any {w0 : World} {ts : List Tk} {tv : Value} {g : Nat} {c : Rc} {p : Nat} {w : World} (h : RdT w0 ts tv g c p w) :
    Calls Try.prog 102 #[.pointer (some ⟨g, 0, none⟩)] w fun e w' => e = .returned (.int .i64 (kindAt ts p)) ∧ Ext w w' := by
  have hmo : Try.prog.follows .mixedOrders = true := by kernel_rfl
  obtain ⟨a, cap, rfl, hcap, hmax⟩ := h.toks.shape
  have H := Lib.hid h
  have hle := h.le
  clear h
  obtain ⟨f8, f9, _⟩ := H.out.facts
  go_enter Try.func102, Try.ntmps102
  go_upto_region 1 with fail
  refine wp_region_gro groK1 [0, 1, 2, 3, 4, 5, 6, 7, 8, 9, 10, 11, 12, 13, 14, 15, 16, 17, 18, 19, 20, 21, 22, 23] hmo (by kernel_rfl) rfl (by kernel_rfl) (fun _ _ _ _ _ h => h) ?_
  have hdr : Ext w w.drew := Ext.drewN w 1
  have HX := Lib.hid hdr
  have HD := Lib.hid (H.out.grow hdr)
  clear hdr f8 f9
  generalize w.drew = w1 at *
  obtain ⟨f8, f9, _⟩ := HD.out.facts
  by_cases hlt : p < ts.length
  · have hk := kindAt_at hlt
    have hne : ((p : Int) == (ts.length : Int)) = false := by simp; omega
    obtain ⟨b, o, rfl, t0, t1, t2⟩ := (Toks.ext HD.out.toks HD.out.ext).at_ hlt
    have hsz := HD.out.szs _ (List.getElem_mem hlt)
    have hck := check_any ts[p] w1 hsz
    generalize ts[p] = t at *
    obtain ⟨tk, tt, ta⟩ := t
    unfold tkV at hck
    dsimp only at t0 t1 t2 hck
    have HK := Lib.hid hk
    clear hk
    cases hc : Tk.check ⟨tk, tt, ta⟩ with
    | false =>
      rw [hc] at hck HK
      unfold checkC at hck
      have HC := Lib.hid hck
      clear hck hc
      repeat (first
        | (refine groL_pure rfl rfl ?_; intro K hK; go_simp; refine hK _ ?_; clear hK K)
        | (refine groL_read rfl rfl ?_; intro K S hS hK; go_simp; refine hK _ ?_; clear hK K hS S)
        | (refine groL_read rfl rfl ?_; intro K S hS hK; go_simp; refine ⟨hS _ ?_, hK _ ?_⟩; (clear hK K hS S; intro w' hx'; have hce := ext_some hx'; go_simp); clear hK K hS S)
        | (refine groL_write rfl rfl ?_; intro K hK; go_simp; refine hK _ _ ?_; clear hK K))
      refine groL_grow rfl rfl ?_
      intro K hK
      go_simp
      (refine HC.out.mono ?_; rintro e w2 ⟨rfl, hx2⟩)
      go_simp
      refine hK _ _ ⟨hx2, ?_⟩
      clear hK K
      repeat (first
        | (refine groL_pure rfl rfl ?_; intro K hK; go_simp; refine hK _ ?_; clear hK K)
        | (refine groL_read rfl rfl ?_; intro K S hS hK; go_simp; refine hK _ ?_; clear hK K hS S)
        | (refine groL_read rfl rfl ?_; intro K S hS hK; go_simp; refine ⟨hS _ ?_, hK _ ?_⟩; (clear hK K hS S; intro w' hx'; have hce := ext_some hx'; go_simp); clear hK K hS S)
        | (refine groL_write rfl rfl ?_; intro K hK; go_simp; refine hK _ _ ?_; clear hK K))
      refine groL_nil ?_
      have HX2 := Lib.hid (HX.out.trans hx2)
      clear hx2 f8 f9 t0 t1 t2
      go_wp2_with fail
      go_ret
      exact ⟨ret_int (by rw [HK.out]; rfl), HX2.out⟩
    | true =>
      rw [hc] at hck HK
      unfold checkC at hck
      have HC := Lib.hid hck
      clear hck hc
      repeat (first
        | (refine groL_pure rfl rfl ?_; intro K hK; go_simp; refine hK _ ?_; clear hK K)
        | (refine groL_read rfl rfl ?_; intro K S hS hK; go_simp; refine hK _ ?_; clear hK K hS S)
        | (refine groL_read rfl rfl ?_; intro K S hS hK; go_simp; refine ⟨hS _ ?_, hK _ ?_⟩; (clear hK K hS S; intro w' hx'; have hce := ext_some hx'; go_simp); clear hK K hS S)
        | (refine groL_write rfl rfl ?_; intro K hK; go_simp; refine hK _ _ ?_; clear hK K))
      refine groL_grow rfl rfl ?_
      intro K hK
      go_simp
      (refine HC.out.mono ?_; rintro e w2 ⟨rfl, hx2⟩)
      go_simp
      refine hK _ _ ⟨hx2, ?_⟩
      clear hK K
      repeat (first
        | (refine groL_pure rfl rfl ?_; intro K hK; go_simp; refine hK _ ?_; clear hK K)
        | (refine groL_read rfl rfl ?_; intro K S hS hK; go_simp; refine hK _ ?_; clear hK K hS S)
        | (refine groL_read rfl rfl ?_; intro K S hS hK; go_simp; refine ⟨hS _ ?_, hK _ ?_⟩; (clear hK K hS S; intro w' hx'; have hce := ext_some hx'; go_simp); clear hK K hS S)
        | (refine groL_write rfl rfl ?_; intro K hK; go_simp; refine hK _ _ ?_; clear hK K))
      refine groL_nil ?_
      have hx3 := hx2.trans (Ext.drewN w2 1)
      have HX3 := Lib.hid (HX.out.trans hx3)
      have HD3 := Lib.hid (HD.out.grow hx3)
      have u0 := ext_cell hx3 t0
      clear f8 f9 t0 t1 t2
      go_upto_region 3 with fail
      refine wp_region_gro groK3 [0, 1, 2, 3, 4, 5, 6, 7, 8, 9, 10, 11] hmo (by kernel_rfl) rfl (by kernel_rfl) (fun _ _ _ _ _ h => h) ?_
      replace HX3 : Hid (Ext w w2.drew) := HX3
      replace HD3 : Hid (RdT w0 ts (.slice (some ⟨b, o, none⟩) ts.length cap) g c p w2.drew) := HD3
      have u0' : w2.drew.cell? ⟨b, o + p * 3, none⟩ = some (.int .i64 tk) := u0
      clear u0 hx2 hx3
      generalize w2.drew = w3 at *
      obtain ⟨f8, f9, _⟩ := HD3.out.facts
      repeat (first
        | (refine groL_pure rfl rfl ?_; intro K hK; go_simp; refine hK _ ?_; clear hK K)
        | (refine groL_read rfl rfl ?_; intro K S hS hK; go_simp; refine hK _ ?_; clear hK K hS S)
        | (refine groL_read rfl rfl ?_; intro K S hS hK; go_simp; refine ⟨hS _ ?_, hK _ ?_⟩; (clear hK K hS S; intro w' hx'; have hce := ext_some hx'; go_simp); clear hK K hS S)
        | (refine groL_write rfl rfl ?_; intro K hK; go_simp; refine hK _ _ ?_; clear hK K))
      refine groL_nil ?_
      clear f8 f9 u0'
      go_wp2_with fail
      go_ret
      exact ⟨ret_int (by rw [HK.out]; rfl), HX3.out⟩
  · have hpe : p = ts.length := by omega
    have hk := kindAt_end hlt
    have HK := Lib.hid hk
    have hne : ((p : Int) == (ts.length : Int)) = true := by simp; omega
    clear hk hpe
    repeat (first
      | (refine groL_pure rfl rfl ?_; intro K hK; go_simp; refine hK _ ?_; clear hK K)
      | (refine groL_read rfl rfl ?_; intro K S hS hK; go_simp; refine hK _ ?_; clear hK K hS S)
      | (refine groL_read rfl rfl ?_; intro K S hS hK; go_simp; refine ⟨hS _ ?_, hK _ ?_⟩; (clear hK K hS S; intro w' hx'; have hce := ext_some hx'; go_simp); clear hK K hS S)
      | (refine groL_write rfl rfl ?_; intro K hK; go_simp; refine hK _ _ ?_; clear hK K))
    refine groL_grow rfl rfl ?_
    intro K hK
    go_simp
    refine hK _ _ ⟨Ext.refl _, ?_⟩
    clear hK K
    repeat (first
      | (refine groL_pure rfl rfl ?_; intro K hK; go_simp; refine hK _ ?_; clear hK K)
      | (refine groL_read rfl rfl ?_; intro K S hS hK; go_simp; refine hK _ ?_; clear hK K hS S)
      | (refine groL_read rfl rfl ?_; intro K S hS hK; go_simp; refine ⟨hS _ ?_, hK _ ?_⟩; (clear hK K hS S; intro w' hx'; have hce := ext_some hx'; go_simp); clear hK K hS S)
      | (refine groL_write rfl rfl ?_; intro K hK; go_simp; refine hK _ _ ?_; clear hK K))
    refine groL_nil ?_
    clear f8 f9
    go_wp2_with fail
    go_ret
    exact ⟨ret_int (by rw [HK.out]), HX.out⟩
end Go.Proofs.Ytngnplghjaojhaa

/- A token is taken, or found wrong. -/
namespace Go.Proofs.Ytngnplghjaojhaa
set_option maxRecDepth 100000
set_option maxHeartbeats 2000000
set_option linter.unusedSimpArgs false
open Go.RowKit Go.Shelf Go.Sort
attribute [local go_sem] Oper.semAt_some wide_fn wide_depth
set_option linter.unusedVariables false

/-- What a step of the reader comes to. -/
def OutT (w0 : World) (ts : List Tk) (tv : Value) (g : Nat) (c : Rc) (w : World) {α : Type} (V : α → Value) (r : Except Nat (α × Nat)) (e : Ending) (w' : World) : Prop := match r with
  | .ok (a, q) => e = .returned (V a) ∧ RdT w0 ts tv g c q w' ∧ w.grownBy w' (some g)
  | .error q => e = wrongE ∧ RdT w0 ts tv g c q w' ∧ w.grownBy w' (some g)
theorem grown_of_ext {w w' : World} (h : Ext w w') (g : Nat) : w.grownBy w' (some g) := (grown_ext h).but _
theorem bad_any {w0 : World} {ts : List Tk} {tv : Value} {g : Nat} {c : Rc} {p : Nat} {w : World} (h : RdT w0 ts tv g c p w) (k : Nat) (hk : k ≤ p) (hl : ts.length ≤ 9223372036854775807) :
    Calls Try.prog 53 #[.pointer (some ⟨g, 0, none⟩), .int .i64 k] w fun e w' => e = wrongE ∧ RdT w0 ts tv g c (p - k) w' ∧ w.grownBy w' (some g) := by
  have H := Lib.hid h
  have hle := h.le
  clear h
  obtain ⟨f8, f9, f10⟩ := H.out.facts
  obtain ⟨q, rfl⟩ : ∃ q, p = q + k := ⟨p - k, by omega⟩
  have hq : ((q + k : Nat) : Int) - (k : Int) = (q : Int) := by omega
  have HQ := Lib.hid hq
  have hqk : q + k - k = q := by omega
  rw [hqk]
  have hs := H.out.set (q := q) (by omega)
  have hg := grown_set w g 9 (.int .i64 q)
  have HS := Lib.hid hs
  have HG := Lib.hid hg
  clear hs hg hqk
  go_enter Try.func53, Try.ntmps53
  go_wp2
  exact ⟨rfl, rfl, HS.out, HG.out⟩
theorem textAt_at {ts : List Tk} {p : Nat} (h : p < ts.length) : textAt ts p = ts[p].text := by
  unfold textAt
  simp [List.getD, h]
def groK4 : Nat → Gro
  | 3 => .read
  | 7 => .read
  | 11 => .read
  | _ => .pure
set_option maxHeartbeats 1000000 in
theorem take_any {w0 : World} {ts : List Tk} {tv : Value} {g : Nat} {c : Rc} {p : Nat} {w : World} (h : RdT w0 ts tv g c p w) (k : Int) (hk0 : k ≠ 0) (hl : ts.length ≤ 1000000) :
    Calls Try.prog 101 #[.pointer (some ⟨g, 0, none⟩), .int .i64 k] w (OutT w0 ts tv g c w Value.string (takeP ts k p)) := by
  have hmo : Try.prog.follows .mixedOrders = true := by kernel_rfl
  have hkd := kind_any h
  obtain ⟨a, cap, rfl, hcap, hmax⟩ := h.toks.shape
  have H := Lib.hid h
  have HKD := Lib.hid hkd
  have hle := h.le
  clear h hkd
  by_cases hk : kindAt ts p = k
  · have hlt : p < ts.length := kindAt_lt (by rw [hk]; exact hk0)
    have hres : takeP ts k p = .ok (ts[p].text, p + 1) := by unfold takeP; rw [if_pos hk, textAt_at hlt]
    rw [hres]
    have HLT := Lib.hid hlt
    rw [hk] at HKD
    clear hres hk
    go_enter Try.func101, Try.ntmps101
    go_wp2_with fail
    refine HKD.out.mono ?_
    rintro e w1 ⟨rfl, hx1⟩
    have HR1 := Lib.hid (H.out.grow hx1)
    have HX1 := Lib.hid hx1
    clear hx1 HKD
    obtain ⟨f8, f9, f10⟩ := HR1.out.facts
    have hs := HR1.out.set (q := p + 1) (by omega)
    have HS := Lib.hid hs
    have HG := Lib.hid ((grown_of_ext HX1.out g).trans (grown_set w1 g 9 (.int .i64 (p + 1 : Nat))))
    have hcast : ((p + 1 : Nat) : Int) = (p : Int) + 1 := by omega
    rw [hcast] at HS HG
    clear hs
    go_upto_region 4 with fail
    clear f8 f9 f10 hcast
    refine wp_region_gro groK4 [0, 1, 2, 3, 4, 5, 6, 7, 8, 9, 10, 11, 12] hmo (by kernel_rfl) rfl (by kernel_rfl) (fun _ _ _ _ _ h => h) ?_
    have HSD := Lib.hid (HS.out.grow (Ext.drewN (w1.setCell ⟨g, 9, none⟩ (.int .i64 ((p : Int) + 1))) 1))
    have HGD := Lib.hid (HG.out.trans (grown_of_ext (Ext.drewN (w1.setCell ⟨g, 9, none⟩ (.int .i64 ((p : Int) + 1))) 1) g))
    clear HS HG
    replace HSD : Hid (RdT w0 ts (.slice a ts.length cap) g c (p + 1) (w1.setCell ⟨g, 9, none⟩ (.int .i64 ((p : Int) + 1))).drew) := HSD
    replace HGD : Hid (w.grownBy (w1.setCell ⟨g, 9, none⟩ (.int .i64 ((p : Int) + 1))).drew (some g)) := HGD
    generalize (w1.setCell ⟨g, 9, none⟩ (.int .i64 ((p : Int) + 1))).drew = w2 at *
    obtain ⟨f8, f9, f10⟩ := HSD.out.facts
    obtain ⟨b, o, rfl, t0, t1, t2⟩ := (Toks.ext HSD.out.toks HSD.out.ext).at_ HLT.out
    have hcast : ((p + 1 : Nat) : Int) = (p : Int) + 1 := by omega
    rw [hcast] at f9
    have hsub : IntKind.i64.wrap (p : Int) = (p : Int) := IntWalk.i64_in _ (by omega)
    have hlt := HLT.out
    have HTX : Hid (∃ tx, ts[p].text = tx) := Lib.hid ⟨_, rfl⟩
    obtain ⟨tx, htx⟩ := HTX.out
    rw [htx] at t1
    have HT := Lib.hid htx
    clear hcast t0 t2 f10 htx HTX
    repeat (first
      | (refine groL_pure rfl rfl ?_; intro K hK; go_simp; refine hK _ ?_; clear hK K)
      | (refine groL_read rfl rfl ?_; intro K S hS hK; go_simp; refine hK _ ?_; clear hK K hS S)
      | (refine groL_read rfl rfl ?_; intro K S hS hK; go_simp; refine ⟨hS _ ?_, hK _ ?_⟩; (clear hK K hS S; intro w' hx'; have hce := ext_some hx'; go_simp); clear hK K hS S)
      | (refine groL_write rfl rfl ?_; intro K hK; go_simp; refine hK _ _ ?_; clear hK K))
    refine groL_nil ?_
    clear f8 f9 t1 hsub
    go_wp2_with fail
    go_ret
    exact ⟨by rw [HT.out]; rfl, HSD.out, HGD.out⟩
  · have hres : takeP ts k p = .error p := by unfold takeP; rw [if_neg hk]
    rw [hres]
    have hkb : (kindAt ts p != k) = true := by simp [hk]
    generalize kindAt ts p = kk at *
    clear hres hk
    go_enter Try.func101, Try.ntmps101
    go_wp2_with fail
    refine HKD.out.mono ?_
    rintro e w1 ⟨rfl, hx1⟩
    have hb := bad_any (H.out.grow hx1) 0 (by omega) (by omega)
    have HB := Lib.hid hb
    have HX1 := Lib.hid hx1
    clear hx1 HKD hb
    go_wp2_with fail
    refine HB.out.mono ?_
    rintro e w2 ⟨rfl, hr2, hg2⟩
    have HR2 := Lib.hid hr2
    have HG2 := Lib.hid ((grown_of_ext HX1.out g).trans hg2)
    clear hr2 hg2
    unfold wrongE
    go_wp2_with fail
    exact ⟨rfl, rfl, HR2.out, HG2.out⟩
/-- What a question of the reader comes to. -/
def SayT (w0 : World) (ts : List Tk) (tv : Value) (g : Nat) (c : Rc) (w : World) (b : Bool) (p : Nat) (e : Ending) (w' : World) : Prop :=
  e = .returned (.bool b) ∧ RdT w0 ts tv g c (if b = true then p + 1 else p) w' ∧ w.grownBy w' (some g)
set_option maxHeartbeats 1000000 in
theorem may_any' {w0 : World} {ts : List Tk} {tv : Value} {g : Nat} {c : Rc} {p : Nat} {w : World} (h : RdT w0 ts tv g c p w) (k : Int) (hk0 : k ≠ 0) (hl : ts.length ≤ 1000000) :
    Calls Try.prog 78 #[.pointer (some ⟨g, 0, none⟩), .int .i64 k] w (SayT w0 ts tv g c w (decide (kindAt ts p = k)) p) := by
  have hkd := kind_any h
  have H := Lib.hid h
  have HKD := Lib.hid hkd
  have hle := h.le
  clear h hkd
  by_cases hk : kindAt ts p = k
  · have hlt : p < ts.length := kindAt_lt (by rw [hk]; exact hk0)
    have HLT := Lib.hid hlt
    rw [decide_eq_true hk]
    rw [hk] at HKD
    clear hk
    go_enter Try.func78, Try.ntmps78
    go_wp2_with fail
    refine HKD.out.mono ?_
    rintro e w1 ⟨rfl, hx1⟩
    have HR1 := Lib.hid (H.out.grow hx1)
    have HX1 := Lib.hid hx1
    clear hx1 HKD
    obtain ⟨f8, f9, f10⟩ := HR1.out.facts
    have hs := HR1.out.set (q := p + 1) (by omega)
    have HS := Lib.hid hs
    have HG := Lib.hid ((grown_of_ext HX1.out g).trans (grown_set w1 g 9 (.int .i64 (p + 1 : Nat))))
    have hcast : ((p + 1 : Nat) : Int) = (p : Int) + 1 := by omega
    rw [hcast] at HS HG
    clear hs hcast
    go_wp2_with fail
    go_ret
    exact ⟨rfl, HS.out, HG.out⟩
  · rw [decide_eq_false hk]
    have hkb : (kindAt ts p == k) = false := by simp [hk]
    generalize kindAt ts p = kk at *
    clear hk
    go_enter Try.func78, Try.ntmps78
    go_wp2_with fail
    refine HKD.out.mono ?_
    rintro e w1 ⟨rfl, hx1⟩
    have HR1 := Lib.hid (H.out.grow hx1)
    have HX1 := Lib.hid hx1
    clear hx1 HKD
    go_wp2_with fail
    go_ret
    exact ⟨rfl, HR1.out, grown_of_ext HX1.out g⟩
end Go.Proofs.Ytngnplghjaojhaa

/- A word, a number, tokens one behind the other. -/
namespace Go.Proofs.Ytngnplghjaojhaa
set_option maxRecDepth 100000
set_option maxHeartbeats 2000000
set_option linter.unusedSimpArgs false
open Go.RowKit Go.Shelf Go.Sort
attribute [local go_sem] Oper.semAt_some wide_fn wide_depth
set_option linter.unusedVariables false

def groW1 : Nat → Gro
  | 1 => .grow
  | 7 => .read
  | 11 => .read
  | 14 => .read
  | _ => .pure
set_option maxHeartbeats 1000000 in
theorem word_any' {w0 : World} {ts : List Tk} {tv : Value} {g : Nat} {c : Rc} {p : Nat} {w : World} (h : RdT w0 ts tv g c p w) (s : ByteArray) (hl : ts.length ≤ 1000000) :
    Calls Try.prog 79 #[.pointer (some ⟨g, 0, none⟩), .string s] w (SayT w0 ts tv g c w (saysP ts s p) p) := by
  have hmo : Try.prog.follows .mixedOrders = true := by kernel_rfl
  obtain ⟨a, cap, rfl, hcap, hmax⟩ := h.toks.shape
  have hdr : Ext w w.drew := Ext.drewN w 1
  have hd := h.grow hdr
  have HKD := Lib.hid (kind_any hd)
  have HD := Lib.hid hd
  have HX := Lib.hid hdr
  have hle := h.le
  clear h hd hdr
  by_cases hk : kindAt ts p = 1
  · have hlt : p < ts.length := kindAt_lt (by rw [hk]; decide)
    have HLT := Lib.hid hlt
    obtain ⟨tx, htx⟩ : ∃ tx, textAt ts p = tx := ⟨_, rfl⟩
    have hsy : saysP ts s p = decide (tx = s) := by unfold saysP; rw [hk, htx]; rfl
    rw [hsy]
    have HTX := Lib.hid htx
    rw [hk] at HKD
    clear hk hsy htx
    go_enter Try.func79, Try.ntmps79
    go_upto_region 1 with fail
    refine wp_region_gro groW1 [0, 1, 2, 3, 4, 5, 6, 7, 8, 9, 10, 11, 12, 13, 14, 15, 16, 17, 18] hmo (by kernel_rfl) rfl (by kernel_rfl) (fun _ _ _ _ _ h => h) ?_
    replace HX : Hid (Ext w w.drew) := HX
    generalize w.drew = w1 at *
    repeat (first
      | (refine groL_pure rfl rfl ?_; intro K hK; go_simp; refine hK _ ?_; clear hK K)
      | (refine groL_read rfl rfl ?_; intro K S hS hK; go_simp; refine hK _ ?_; clear hK K hS S)
      | (refine groL_read rfl rfl ?_; intro K S hS hK; go_simp; refine ⟨hS _ ?_, hK _ ?_⟩; (clear hK K hS S; intro w' hx'; have hce := ext_some hx'; go_simp); clear hK K hS S)
      | (refine groL_write rfl rfl ?_; intro K hK; go_simp; refine hK _ _ ?_; clear hK K))
    refine groL_grow rfl rfl ?_
    intro K hK
    go_simp
    (refine HKD.out.mono ?_; rintro e w2 ⟨rfl, hx2⟩)
    go_simp
    refine hK _ _ ⟨hx2, ?_⟩
    clear hK K
    have HR2 := Lib.hid (HD.out.grow hx2)
    have HX2 := Lib.hid (HX.out.trans hx2)
    obtain ⟨f8, f9, f10⟩ := HR2.out.facts
    obtain ⟨b, o, rfl, t0, t1, t2⟩ := (Toks.ext HR2.out.toks HR2.out.ext).at_ HLT.out
    rw [← textAt_at HLT.out, HTX.out] at t1
    clear hx2 HKD t0 t2 f10 HTX
    by_cases he : tx = s
    · subst he
      have hs := HR2.out.set (q := p + 1) (by omega)
      have HS := Lib.hid hs
      have HG := Lib.hid ((grown_of_ext HX2.out g).trans (grown_set w2 g 9 (.int .i64 (p + 1 : Nat))))
      have hcast : ((p + 1 : Nat) : Int) = (p : Int) + 1 := by omega
      rw [hcast] at HS HG
      have f11 := HR2.out.facts.2.2
      clear hs hcast
      repeat (first
        | (refine groL_pure rfl rfl ?_; intro K hK; go_simp; refine hK _ ?_; clear hK K)
        | (refine groL_read rfl rfl ?_; intro K S hS hK; go_simp; refine hK _ ?_; clear hK K hS S)
        | (refine groL_read rfl rfl ?_; intro K S hS hK; go_simp; refine ⟨hS _ ?_, hK _ ?_⟩; (clear hK K hS S; intro w' hx'; have hce := ext_some hx'; go_simp); clear hK K hS S)
        | (refine groL_write rfl rfl ?_; intro K hK; go_simp; refine hK _ _ ?_; clear hK K))
      refine groL_nil ?_
      go_wp2_with fail
      go_ret
      exact ⟨by simp, HS.out, HG.out⟩
    · have he1 : (tx.toList == s.toList) = false := str_no he
      have he2 : decide (tx = s) = false := decide_eq_false he
      have HSY := Lib.hid he2
      clear he
      repeat (first
        | (refine groL_pure rfl rfl ?_; intro K hK; go_simp; refine hK _ ?_; clear hK K)
        | (refine groL_read rfl rfl ?_; intro K S hS hK; go_simp; refine hK _ ?_; clear hK K hS S)
        | (refine groL_read rfl rfl ?_; intro K S hS hK; go_simp; refine ⟨hS _ ?_, hK _ ?_⟩; (clear hK K hS S; intro w' hx'; have hce := ext_some hx'; go_simp); clear hK K hS S)
        | (refine groL_write rfl rfl ?_; intro K hK; go_simp; refine hK _ _ ?_; clear hK K))
      refine groL_nil ?_
      clear f8 f9 t1
      go_wp2_with fail
      go_ret
      exact ⟨by rw [HSY.out]; rfl, by rw [HSY.out]; exact HR2.out, grown_of_ext HX2.out g⟩
  · have hsy : saysP ts s p = false := by unfold saysP; rw [decide_eq_false hk]; rfl
    rw [hsy]
    have hkb : (kindAt ts p == 1) = false := by simp [hk]
    generalize kindAt ts p = kk at *
    clear hk hsy
    go_enter Try.func79, Try.ntmps79
    go_upto_region 1 with fail
    refine wp_region_gro groW1 [0, 1, 2, 3, 4, 5, 6, 7, 8, 9, 10, 11, 12, 13, 14, 15, 16, 17, 18] hmo (by kernel_rfl) rfl (by kernel_rfl) (fun _ _ _ _ _ h => h) ?_
    replace HX : Hid (Ext w w.drew) := HX
    generalize w.drew = w1 at *
    repeat (first
      | (refine groL_pure rfl rfl ?_; intro K hK; go_simp; refine hK _ ?_; clear hK K)
      | (refine groL_read rfl rfl ?_; intro K S hS hK; go_simp; refine hK _ ?_; clear hK K hS S)
      | (refine groL_read rfl rfl ?_; intro K S hS hK; go_simp; refine ⟨hS _ ?_, hK _ ?_⟩; (clear hK K hS S; intro w' hx'; have hce := ext_some hx'; go_simp); clear hK K hS S)
      | (refine groL_write rfl rfl ?_; intro K hK; go_simp; refine hK _ _ ?_; clear hK K))
    refine groL_grow rfl rfl ?_
    intro K hK
    go_simp
    (refine HKD.out.mono ?_; rintro e w2 ⟨rfl, hx2⟩)
    go_simp
    refine hK _ _ ⟨hx2, ?_⟩
    clear hK K
    have HR2 := Lib.hid (HD.out.grow hx2)
    have HX2 := Lib.hid (HX.out.trans hx2)
    clear hx2 HKD
    repeat (first
      | (refine groL_pure rfl rfl ?_; intro K hK; go_simp; refine hK _ ?_; clear hK K)
      | (refine groL_read rfl rfl ?_; intro K S hS hK; go_simp; refine hK _ ?_; clear hK K hS S)
      | (refine groL_read rfl rfl ?_; intro K S hS hK; go_simp; refine ⟨hS _ ?_, hK _ ?_⟩; (clear hK K hS S; intro w' hx'; have hce := ext_some hx'; go_simp); clear hK K hS S)
      | (refine groL_write rfl rfl ?_; intro K hK; go_simp; refine hK _ _ ?_; clear hK K))
    refine groL_nil ?_
    go_wp2_with fail
    go_ret
    exact ⟨rfl, HR2.out, grown_of_ext HX2.out g⟩
def groN2 : Nat → Gro
  | 3 => .read
  | 7 => .read
  | 10 => .read
  | 11 => .grow
  | _ => .pure
theorem takeP_lt {ts : List Tk} {k : Int} (hk0 : k ≠ 0) {p : Nat} (hk : kindAt ts p = k) : p < ts.length := kindAt_lt (by rw [hk]; exact hk0)
set_option maxHeartbeats 1000000 in
theorem number_any' {w0 : World} {ts : List Tk} {tv : Value} {g : Nat} {c : Rc} {p : Nat} {w : World} (h : RdT w0 ts tv g c p w) (hl : ts.length ≤ 1000000) :
    Calls Try.prog 83 #[.pointer (some ⟨g, 0, none⟩)] w (OutT w0 ts tv g c w (fun n => .int .i64 n) (numP ts p)) := by
  have hmo : Try.prog.follows .mixedOrders = true := by kernel_rfl
  have htk := take_any h 1 (by decide) hl
  obtain ⟨a, cap, rfl, hcap, hmax⟩ := h.toks.shape
  have HTK := Lib.hid htk
  have hle := h.le
  have hsz := h.szs
  have HSZ := Lib.hid hsz
  clear h htk hsz
  by_cases hk : kindAt ts p = 1
  · have hlt : p < ts.length := takeP_lt (by decide) hk
    have htp : takeP ts 1 p = .ok (textAt ts p, p + 1) := by unfold takeP; rw [if_pos hk]
    have hget : ts[p] = ts.getD p tkNil := by simp [List.getD, hlt]
    have hnp : numP ts p = match (ts.getD p tkNil).number with | none => .error p | some n => .ok (n, p + 1) := by
      unfold numP
      rw [htp]
      simp only [Except.bind]
      try (cases (ts.getD p tkNil).number <;> rfl)
    rw [htp] at HTK
    rw [hnp]
    have hgs : (ts.getD p tkNil).text.size ≤ 9223372036854775800 := by rw [← hget]; exact HSZ.out _ (List.getElem_mem hlt)
    have HGET := Lib.hid hget
    generalize ts.getD p tkNil = t at *
    obtain ⟨nn, hnn⟩ : ∃ nn, t.number = nn := ⟨_, rfl⟩
    rw [hnn]
    have HNN := Lib.hid hnn
    clear htp hnp hk hget hnn
    go_enter Try.func83, Try.ntmps83
    go_wp2_with fail
    refine HTK.out.mono ?_
    rintro e w1 ⟨rfl, hr1, hg1⟩
    have hdr : Ext w1 w1.drew := Ext.drewN w1 1
    have HR1 := Lib.hid (hr1.grow hdr)
    have HG1 := Lib.hid (hg1.trans (grown_of_ext hdr g))
    clear HTK hr1 hg1
    go_upto_region 2 with fail
    refine wp_region_gro groN2 [0, 1, 2, 3, 4, 5, 6, 7, 8, 9, 10, 11, 12, 13, 14, 15, 16] hmo (by kernel_rfl) rfl (by kernel_rfl) (fun _ _ _ _ _ h => h) ?_
    replace HR1 : Hid (RdT w0 ts (.slice a ts.length cap) g c (p + 1) w1.drew) := HR1
    replace HG1 : Hid (w.grownBy w1.drew (some g)) := HG1
    clear hdr
    generalize w1.drew = w2 at *
    obtain ⟨f8, f9, f10⟩ := HR1.out.facts
    obtain ⟨b, o, rfl, t0, t1, t2⟩ := (Toks.ext HR1.out.toks HR1.out.ext).at_ hlt
    have hcast : ((p + 1 : Nat) : Int) = (p : Int) + 1 := by omega
    rw [hcast] at f9
    have hsub : IntKind.i64.wrap (p : Int) = (p : Int) := IntWalk.i64_in _ (by omega)
    have hnm := number_any t w2 (by omega)
    rw [HNN.out] at hnm
    rw [HGET.out] at t0 t1 t2
    obtain ⟨tk, tt, ta⟩ := t
    unfold tkV at hnm
    dsimp only at t0 t1 t2 hnm
    have HNM := Lib.hid hnm
    clear hnm hcast f10 hgs
    cases nn with
    | none =>
      unfold numE at HNM
      dsimp only at HNM
      repeat (first
        | (refine groL_pure rfl rfl ?_; intro K hK; go_simp; refine hK _ ?_; clear hK K)
        | (refine groL_read rfl rfl ?_; intro K S hS hK; go_simp; refine hK _ ?_; clear hK K hS S)
        | (refine groL_read rfl rfl ?_; intro K S hS hK; go_simp; refine ⟨hS _ ?_, hK _ ?_⟩; (clear hK K hS S; intro w' hx'; have hce := ext_some hx'; go_simp); clear hK K hS S)
        | (refine groL_write rfl rfl ?_; intro K hK; go_simp; refine hK _ _ ?_; clear hK K))
      refine groL_grow rfl rfl ?_
      intro K hK
      go_simp
      (refine HNM.out.mono ?_; rintro e w3 ⟨rfl, hx3⟩)
      go_simp
      refine hK _ _ ⟨hx3, ?_⟩
      clear hK K
      repeat (first
        | (refine groL_pure rfl rfl ?_; intro K hK; go_simp; refine hK _ ?_; clear hK K)
        | (refine groL_read rfl rfl ?_; intro K S hS hK; go_simp; refine hK _ ?_; clear hK K hS S)
        | (refine groL_read rfl rfl ?_; intro K S hS hK; go_simp; refine ⟨hS _ ?_, hK _ ?_⟩; (clear hK K hS S; intro w' hx'; have hce := ext_some hx'; go_simp); clear hK K hS S)
        | (refine groL_write rfl rfl ?_; intro K hK; go_simp; refine hK _ _ ?_; clear hK K))
      refine groL_nil ?_
      have hb := bad_any (HR1.out.grow hx3) 1 (by omega) (by omega)
      have HB := Lib.hid hb
      have HG3 := Lib.hid (HG1.out.trans (grown_of_ext hx3 g))
      clear hb hx3 HNM f8 f9 t0 t1 t2 hsub
      go_wp2_with fail
      refine HB.out.mono ?_
      rintro e w4 ⟨rfl, hr4, hg4⟩
      have HR4 := Lib.hid hr4
      have HG4 := Lib.hid (HG3.out.trans hg4)
      clear hr4 hg4 HB
      unfold wrongE
      go_wp2_with fail
      exact ⟨rfl, rfl, HR4.out, HG4.out⟩
    | some n =>
      unfold numE at HNM
      dsimp only at HNM
      repeat (first
        | (refine groL_pure rfl rfl ?_; intro K hK; go_simp; refine hK _ ?_; clear hK K)
        | (refine groL_read rfl rfl ?_; intro K S hS hK; go_simp; refine hK _ ?_; clear hK K hS S)
        | (refine groL_read rfl rfl ?_; intro K S hS hK; go_simp; refine ⟨hS _ ?_, hK _ ?_⟩; (clear hK K hS S; intro w' hx'; have hce := ext_some hx'; go_simp); clear hK K hS S)
        | (refine groL_write rfl rfl ?_; intro K hK; go_simp; refine hK _ _ ?_; clear hK K))
      refine groL_grow rfl rfl ?_
      intro K hK
      go_simp
      (refine HNM.out.mono ?_; rintro e w3 ⟨rfl, hx3⟩)
      go_simp
      refine hK _ _ ⟨hx3, ?_⟩
      clear hK K
      repeat (first
        | (refine groL_pure rfl rfl ?_; intro K hK; go_simp; refine hK _ ?_; clear hK K)
        | (refine groL_read rfl rfl ?_; intro K S hS hK; go_simp; refine hK _ ?_; clear hK K hS S)
        | (refine groL_read rfl rfl ?_; intro K S hS hK; go_simp; refine ⟨hS _ ?_, hK _ ?_⟩; (clear hK K hS S; intro w' hx'; have hce := ext_some hx'; go_simp); clear hK K hS S)
        | (refine groL_write rfl rfl ?_; intro K hK; go_simp; refine hK _ _ ?_; clear hK K))
      refine groL_nil ?_
      have HR3 := Lib.hid (HR1.out.grow hx3)
      have HG3 := Lib.hid (HG1.out.trans (grown_of_ext hx3 g))
      clear hx3 HNM f8 f9 t0 t1 t2 hsub
      go_wp2_with fail
      go_ret
      exact ⟨rfl, HR3.out, HG3.out⟩
  · have htp : takeP ts 1 p = .error p := by unfold takeP; rw [if_neg hk]
    have hnp : numP ts p = .error p := by unfold numP; rw [htp]; rfl
    rw [htp] at HTK
    rw [hnp]
    clear htp hnp hk
    go_enter Try.func83, Try.ntmps83
    go_wp2_with fail
    refine HTK.out.mono ?_
    rintro e w1 ⟨rfl, hr1, hg1⟩
    have HR1 := Lib.hid hr1
    have HG1 := Lib.hid hg1
    clear HTK hr1 hg1
    unfold wrongE
    go_wp2_with fail
    exact ⟨rfl, rfl, HR1.out, HG1.out⟩
end Go.Proofs.Ytngnplghjaojhaa
