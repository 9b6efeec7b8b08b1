/- The document's state: an atom: what it comes to; its pieces. -/
import Derived.Test.YtngnplghjaojhaaGp29
import Derived.Test.YtngnplghjaojhaaGp26
import Derived.Test.YtngnplghjaojhaaGp11
import Derived.Test.YtngnplghjaojhaaGp17
namespace Go.Proofs.Ytngnplghjaojhaa
set_option maxRecDepth 100000
set_option maxHeartbeats 2000000
set_option linter.unusedSimpArgs false
open Go.RowKit Go.Shelf Go.Sort
attribute [local go_sem] Oper.semAt_some wide_fn wide_depth
set_option linter.unusedVariables false
theorem row_setk {w : World} {y z : Nat} {t : TypeId} {xs : List Value} (h : RowAt w y t xs) (hne : y ≠ z) (i : Nat) (v : Value) : RowAt (w.setCell ⟨z, i, none⟩ v) y t xs := h.kept (grown_set w z i v) (fun e => hne (Option.some.inj e).symm)
def takeM {α : Type} (r : Nat × Bool × ByteArray) (f : Nat → Bool → ByteArray → α) : α := f r.1 r.2.1 r.2.2
/-- What stands behind an atom's first term. -/
def midF (ts : List Tk) (p : Nat) (bad : Bool) : Nat × Bool × Int × ByteArray × ByteArray :=
  if bad = false ∧ kindAt ts p = 7 then takeM (takeR ts 7 p bad) fun p b _ => takeM (takeR ts 1 p b) fun p b s => (p, b, 2, s, nilB)
  else if bad = false ∧ kindAt ts p = 8 then takeM (takeR ts 8 p bad) fun p b _ => takeM (takeR ts 1 p b) fun p b s => takeM (takeR ts 9 p b) fun p b _ => takeM (takeR ts 3 p b) fun p b v => (p, b, 3, s, v)
  else (p, bad, 1, nilB, nilB)
/-- What stands behind an edge's arrow. -/
def edgF (ts : List Tk) (T : List ByteArray) (p : Nat) (bad : Bool) : Nat × Bool × ByteArray × Bool × ByteArray :=
  takeM (takeR ts 1 p bad) fun p b s => takeM (takeR ts 11 p b) fun p b _ => takeM (takeR ts 4 p b) fun p b _ =>
    takeM (takeR ts 5 (aTermF ts T p b).1 (aTermF ts T p b).2.1) fun q qb _ => (q, qb, s, (aTermF ts T p b).2.2.1)
theorem midF_le {ts : List Tk} {p : Nat} (hp : p ≤ ts.length) (bad : Bool) : (midF ts p bad).1 ≤ ts.length := by
  unfold midF takeM
  split
  · exact takeR_le (takeR_le hp (by decide) _) (by decide) _
  · split
    · exact takeR_le (takeR_le (takeR_le (takeR_le hp (by decide) _) (by decide) _) (by decide) _) (by decide) _
    · exact hp
/-- What an atom comes to: the place, whether it is bad, the atoms with it. -/
def anAtomF (ts : List Tk) (A : List Atm) (p : Nat) : Nat × Bool × List Atm :=
  let t := aTermF ts (varsS A) p false
  let m := midF ts t.1 t.2.1
  takeM (takeR ts 5 m.1 m.2.1) fun p b _ =>
    if m.2.2.1 = 1 ∧ b = false ∧ kindAt ts p = 10 then
      (if edgesOf A = 6 then (p, true, A)
       else
        let e := edgF ts t.2.2.2 (p + 1) false
        (e.1, e.2.1, A ++ [⟨4, t.2.2.1.1, t.2.2.1.2, e.2.2.1, m.2.2.2.2, e.2.2.2.1, e.2.2.2.2⟩]))
    else (p, b, A ++ [⟨m.2.2.1, t.2.2.1.1, t.2.2.1.2, m.2.2.2.1, m.2.2.2.2, false, nilB⟩])
/-- What stands while an atom is read. -/
structure AtW (w : World) (ts : List Tk) (a : Option Addr) (k : Nat) (c : Sc) (y0 y1 y2 : Nat) (p : Nat) (bad : Bool) (xs : List Value) (W : World) : Prop where
  ext : Ext w W
  r0 : RowAt W y0 70 (stL c (.slice a ts.length k) p bad)
  r1 : RowAt W y1 70 [.slice none 0 0, .int .i64 0, .bool false, .slice none 0 0, .slice none 0 0, .bool false, .bool false, .bool false, .int .i64 0, .int .i64 0, .slice none 0 0, .int .i64 0]
  r2 : RowAt W y2 64 xs
theorem atw_set {w : World} {ts : List Tk} {a : Option Addr} {k : Nat} {c : Sc} {y0 y1 y2 p : Nat} {bad : Bool} {xs : List Value} {W : World} (h : AtW w ts a k c y0 y1 y2 p bad xs W) (hn : w.heap.size = y0 ∧ y0 + 1 = y1 ∧ y1 < y2) (i : Nat) (v : Value) :
    AtW w ts a k c y0 y1 y2 p bad (xs.set i v) (W.setCell ⟨y2, i, none⟩ v) :=
  ⟨Ext.set_of h.ext (by omega) _, row_setk h.r0 (by omega) i v, row_setk h.r1 (by omega) i v, h.r2.set i v⟩
end Go.Proofs.Ytngnplghjaojhaa

/- The document's state: an atom is put behind the others. -/
namespace Go.Proofs.Ytngnplghjaojhaa
set_option maxRecDepth 100000
set_option maxHeartbeats 2000000
set_option linter.unusedSimpArgs false
open Go.RowKit Go.Shelf Go.Sort
attribute [local go_sem] Oper.semAt_some wide_fn wide_depth
set_option linter.unusedVariables false
theorem ats_one (l : List Atm) : ∀ x ∈ l.flatMap atCells, x.oneCell' = true := by
  intro x hx
  obtain ⟨a, _, ha⟩ := List.mem_flatMap.1 hx
  unfold atCells at ha
  simp at ha
  rcases ha with rfl | rfl | rfl | rfl | rfl | rfl | rfl <;> rfl
theorem ats_len (l : List Atm) : (l.flatMap atCells).length = l.length * 7 := flatMap_len atCells 7 (fun _ => rfl) l
theorem flat_snoc (l : List Atm) (x : Atm) : (l ++ [x]).flatMap atCells = l.flatMap atCells ++ atCells x := by simp
/-- What is listed has what it wants listed. -/
def Cl (dep : Nat → List Nat) (S : Nat → Bool) : Prop := ∀ i d, d ∈ dep i → S i = true → S d = true
theorem Cl.start (dep : Nat → List Nat) : Cl dep (fun _ => false) := fun i d _ h => by cases h
theorem Cl.step {dep : Nat → List Nat} {S : Nat → Bool} (h : Cl dep S) {i : Nat} (hd : ∀ d ∈ dep i, S d = true) : Cl dep (updB S i) := fun j d hm hj => by
  have hS : S d = true := by
    by_cases e : j = i
    · subst e; exact hd d hm
    · rw [updB_ne S e] at hj; exact h j d hm hj
  by_cases e : d = i
  · subst e; exact updB_at S d
  · rw [updB_ne S e]; exact hS
def mA : Nat → Nat
  | 0 => 0 | 1 => 3 | 2 => 4 | 3 => 1 | 4 => 5 | 5 => 6 | 6 => 7 | 7 => 11 | i + 8 => i + 20
def nA : Nat → Nat
  | 0 => 0 | 1 => 3 | 2 => 0 | 3 => 1 | 4 => 2 | 5 => 4 | 6 => 5 | 7 => 6 | 8 => 0 | 9 => 0 | 10 => 0 | 11 => 7 | k + 12 => k
theorem nA_mA (i : Nat) : nA (mA i) = i := by
  match i with
  | 0 => rfl | 1 => rfl | 2 => rfl | 3 => rfl | 4 => rfl | 5 => rfl | 6 => rfl | 7 => rfl
  | i + 8 => rfl
theorem mA_inj (i j : Nat) (h : mA i = mA j) : i = j := by rw [← nA_mA i, h, nA_mA]
theorem mA_not {j : Nat} (hj : mA (nA j) ≠ j) (i : Nat) : mA i ≠ j := by
  intro h
  apply hj
  rw [← h, nA_mA]
def depAt : Nat → List Nat
  | 2 => [1]
  | 3 => [2]
  | 4 => [0, 3]
  | 6 => [5]
  | 7 => [4, 6]
  | 9 => [8]
  | 10 => [7, 9]
  | _ => []
/-- While the atoms are copied. -/
structure AtA (wN : World) (y0 : Nat) (A : List Atm) (cells : List Value) (v : Value) (S : Nat → Bool) (u0 u1 u2 u3 u4 u5 u6 v2 v8 v9 u7 : Value) (W : World) : Prop where
  app : AppF wN 64 7 A.length (A.flatMap atCells) cells v (.pointer (some ⟨y0, 3, none⟩)) (.agg cells.toArray) (fun i => S (mA i)) u0 u1 u2 u3 u4 u5 u6 u7 W
  p2 : S 2 = true → v2 = .pointer (some ⟨y0, 3, none⟩)
  p8 : S 8 = true → v8 = .pointer (some ⟨y0, 3, none⟩)
  p9 : S 9 = true → v9 = .pointer (some ⟨y0, 3, none⟩)
/-- When they are. -/
def AtE (w : World) (B : Nat) (y0 y1 : Nat) (A : List Atm) (cells : List Value) (L : Value → List Value) (Z : List Value) (W : World) : Prop := ∃ b1 b2 b3, W.ownsRow B 64 7 (.slice b1 b2 b3) (A.length + 1) (A.flatMap atCells ++ cells) ∧
  RowAt W y0 70 (L (.slice b1 b2 b3)) ∧ RowAt W y1 70 Z ∧ Ext w W
def AtG (w wN : World) (B : Nat) (y0 y1 : Nat) (A : List Atm) (cells : List Value) (v : Value) (L : Value → List Value) (Z : List Value) (S : Nat → Bool) (us : List Value) (W : World) : Prop := Cl depAt S ∧
  ∃ u0 u1 u2 u3 u4 u5 u6 v2 v8 v9, us = [u0, u1, u2, u3, u4, u5, u6, v2, v8, v9] ∧ ((S 10 = false ∧ ∃ u7, AtA wN y0 A cells v S u0 u1 u2 u3 u4 u5 u6 v2 v8 v9 u7 W) ∨ (S 10 = true ∧ (∀ j, j < 10 → S j = true) ∧ AtE w B y0 y1 A cells L Z W))
section
variable {w wN : World} {B y0 y1 : Nat} {A : List Atm} {cells : List Value} {v : Value} {L : Value → List Value} {Z : List Value} {S : Nat → Bool} {u0 u1 u2 u3 u4 u5 u6 v2 v8 v9 u7 : Value} {W W' : World}
theorem AtG.start {us : List Value} (hl : us.length = 10) (hx : Ext wN W) : AtG w wN B y0 y1 A cells v L Z (fun _ => false) us W := by
  match us, hl with
  | [u0, u1, u2, u3, u4, u5, u6, v2, v8, v9], _ =>
    obtain ⟨x0, x1, x2, x3, x4, x5, x6, x7, e, h⟩ := AppG.start (e := 64) (sz := 7) (n := A.length) (xs := A.flatMap atCells) (ys := cells) (v := v) (px := .pointer (some ⟨y0, 3, none⟩)) (nm := .agg cells.toArray) (us := [u0, u1, u2, u3, u4, u5, u6, undef]) rfl hx
    cases e
    exact ⟨Cl.start _, _, _, _, _, _, _, _, _, _, _, rfl, .inl ⟨rfl, _, h, nofun, nofun, nofun⟩⟩
theorem AtG.of {k : Nat} {x0 x1 x2 x3 x4 x5 x6 x7 : Value} (hc : Cl depAt S) (hd : ∀ d ∈ depAt (mA k), S d = true) (h10 : S 10 = false) (hk : mA k ≠ 10)
    (h : AppG wN 64 7 A.length (A.flatMap atCells) cells v (.pointer (some ⟨y0, 3, none⟩)) (.agg cells.toArray) (updB (fun i => S (mA i)) k) [x0, x1, x2, x3, x4, x5, x6, x7] W')
    (h2 : updB S (mA k) 2 = true → v2 = .pointer (some ⟨y0, 3, none⟩)) (h8 : updB S (mA k) 8 = true → v8 = .pointer (some ⟨y0, 3, none⟩)) (h9 : updB S (mA k) 9 = true → v9 = .pointer (some ⟨y0, 3, none⟩)) :
    AtG w wN B y0 y1 A cells v L Z (updB S (mA k)) [x0, x1, x2, x3, x4, x5, x6, v2, v8, v9] W' := by
  obtain ⟨a0, a1, a2, a3, a4, a5, a6, a7, e, h⟩ := h
  cases e
  rw [← updB_map mA_inj] at h
  exact ⟨hc.step hd, _, _, _, _, _, _, _, _, _, _, rfl, .inl ⟨by rw [updB_ne S (Ne.symm hk)]; exact h10, _, h, h2, h8, h9⟩⟩
theorem AtG.side {j : Nat} (hc : Cl depAt S) (hd : ∀ d ∈ depAt j, S d = true) (h10 : S 10 = false) (hj : mA (nA j) ≠ j) (hj10 : j ≠ 10) (h : AtA wN y0 A cells v S u0 u1 u2 u3 u4 u5 u6 v2 v8 v9 u7 W) {a2 a8 a9 : Value}
    (h2 : updB S j 2 = true → a2 = .pointer (some ⟨y0, 3, none⟩)) (h8 : updB S j 8 = true → a8 = .pointer (some ⟨y0, 3, none⟩)) (h9 : updB S j 9 = true → a9 = .pointer (some ⟨y0, 3, none⟩)) :
    AtG w wN B y0 y1 A cells v L Z (updB S j) [u0, u1, u2, u3, u4, u5, u6, a2, a8, a9] W := by
  refine ⟨hc.step hd, _, _, _, _, _, _, _, _, _, _, rfl, .inl ⟨by rw [updB_ne S (Ne.symm hj10)]; exact h10, u7, ?_, h2, h8, h9⟩⟩
  rw [updB_not (mA_not hj)]
  exact h.app
theorem AtG.last (hc : Cl depAt S) (hd : ∀ d ∈ depAt 10, S d = true) (h : AtE w B y0 y1 A cells L Z W') : AtG w wN B y0 y1 A cells v L Z (updB S 10) [u0, u1, u2, u3, u4, u5, u6, v2, v8, v9] W' := by
  have h7 := hd 7 (by decide)
  have h9 := hd 9 (by decide)
  have h8 := hc 9 8 (by decide) h9
  have h4 := hc 7 4 (by decide) h7
  have h6 := hc 7 6 (by decide) h7
  have h5 := hc 6 5 (by decide) h6
  have h0 := hc 4 0 (by decide) h4
  have h3 := hc 4 3 (by decide) h4
  have h2 := hc 3 2 (by decide) h3
  have h1 := hc 2 1 (by decide) h2
  refine ⟨hc.step hd, _, _, _, _, _, _, _, _, _, _, rfl, .inr ⟨updB_at S 10, fun j hj => ?_, h⟩⟩
  rw [updB_ne S (by omega)]
  match j, hj with
  | 0, _ => exact h0 | 1, _ => exact h1 | 2, _ => exact h2 | 3, _ => exact h3 | 4, _ => exact h4 | 5, _ => exact h5 | 6, _ => exact h6 | 7, _ => exact h7 | 8, _ => exact h8 | 9, _ => exact h9
theorem AtG.opened {us : List Value} (h : AtG w wN B y0 y1 A cells v L Z S us W) {i : Nat} (hn : S i = false) (hi : i ≤ 10) : Cl depAt S ∧ S 10 = false ∧ ∃ u0 u1 u2 u3 u4 u5 u6 v2 v8 v9 u7, us = [u0, u1, u2, u3, u4, u5, u6, v2, v8, v9] ∧ AtA wN y0 A cells v S u0 u1 u2 u3 u4 u5 u6 v2 v8 v9 u7 W := by
  obtain ⟨hc, u0, u1, u2, u3, u4, u5, u6, v2, v8, v9, e, ⟨h10, u7, hF⟩ | ⟨h10, hall, _⟩⟩ := h
  · exact ⟨hc, h10, u0, u1, u2, u3, u4, u5, u6, v2, v8, v9, u7, e, hF⟩
  · exfalso
    by_cases e : i = 10
    · subst e; rw [hn] at h10; cases h10
    · have := hall i (by omega); rw [hn] at this; cases this
end
end Go.Proofs.Ytngnplghjaojhaa
