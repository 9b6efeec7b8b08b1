/- The changes of a text. -/
import Derived.Test.YtilbofkpjgcchaaDoorBatH
import Derived.Test.YtilbofkpjgcchaaDoorRowG
namespace Go.Proofs.YtilbofkpjgcchaaDoor
set_option maxRecDepth 100000
set_option maxHeartbeats 2000000
set_option linter.unusedVariables false
set_option linter.unusedSimpArgs false
open Go.RowKit Go.Shelf Go.Sort
attribute [local go_sem] Oper.semAt_some wide_fn wide_depth

/-- The change that a line of a text says. -/
def lineCh (l : List UInt8) : Option Ch := if Lib.hasSuffix l [10] && saysB (txt (Lib.trimSuffix l [10])) then some (parseC (txt (Lib.trimSuffix l [10]))) else none
def chsOf (ls : List (List UInt8)) : List Ch := ls.filterMap lineCh
/-- What Read answers: the changes, how many, or which line says none; the error. -/
def readF (l : List UInt8) : List Ch × Int × Int := match ((linesL l).take 64).findIdx? (fun x => (lineCh x).isNone) with
  | some i => ([], (i : Int) + 1, 191)
  | none => if 64 < (linesL l).length then ([], 0, 3) else (chsOf (linesL l), ((linesL l).length : Int), 0)
theorem elCh : ElT Tryd.prog 22 27 (.agg #[.int .i64 0, .string ⟨#[]⟩, .string ⟨#[]⟩, .string ⟨#[]⟩, .string ⟨#[]⟩]) 5 72 := ⟨Tryd.underlying22, ⟨_, rfl, by kernel_rfl, by kernel_rfl, by kernel_rfl⟩, rfl, by decide⟩
theorem chsOf_len (ls : List (List UInt8)) (h : ∀ x ∈ ls, (lineCh x).isNone = false) : (chsOf ls).length = ls.length := by
  induction ls with
  | nil => rfl
  | cons a ls ih =>
    have ha := h a (by simp)
    cases hc : lineCh a with
    | none => rw [hc] at ha; cases ha
    | some c =>
      have : chsOf (a :: ls) = c :: chsOf ls := by unfold chsOf; rw [List.filterMap_cons_some hc]
      rw [this, List.length_cons, List.length_cons, ih (fun x hx => h x (by simp [hx]))]
theorem chsOf_snoc (ls : List (List UInt8)) (k : Nat) (hk : k < ls.length) {c : Ch} (h : lineCh ls[k] = some c) : chsOf (ls.take (k + 1)) = chsOf (ls.take k) ++ [c] := by
  rw [take_snoc ls k hk]
  unfold chsOf
  rw [List.filterMap_append]
  simp [h]
/-- The first k lines say changes. -/
def Good (ls : List (List UInt8)) (k : Nat) : Prop := ∀ j (hj : j < ls.length), j < k → (lineCh ls[j]).isNone = false
theorem Good.take {ls : List (List UInt8)} {k : Nat} (h : Good ls k) : ∀ x ∈ ls.take k, (lineCh x).isNone = false := by
  intro x hx
  obtain ⟨j, hj, rfl⟩ := List.getElem_of_mem hx
  rw [List.length_take] at hj
  rw [List.getElem_take]
  exact h j (by omega) (by omega)
theorem readF_bad {l : List UInt8} {k : Nat} (hk : k < (linesL l).length) (h64 : k < 64) (hg : Good (linesL l) k) (hb : (lineCh (linesL l)[k]).isNone = true) : readF l = ([], (k : Int) + 1, 191) := by
  have : ((linesL l).take 64).findIdx? (fun x => (lineCh x).isNone) = some k := by
    rw [List.findIdx?_eq_some_iff_getElem]
    refine ⟨by rw [List.length_take]; omega, by rw [List.getElem_take]; exact hb, fun j hj => ?_⟩
    rw [List.getElem_take, hg j (by omega) hj]; decide
  unfold readF
  rw [this]
theorem readF_good {l : List UInt8} {k : Nat} (hg : Good (linesL l) k) (hk : 64 ≤ k ∨ (linesL l).length ≤ k) : readF l = if 64 < (linesL l).length then ([], 0, 3) else (chsOf (linesL l), ((linesL l).length : Int), 0) := by
  have : ((linesL l).take 64).findIdx? (fun x => (lineCh x).isNone) = none := by
    rw [List.findIdx?_eq_none_iff]
    intro x hx
    obtain ⟨j, hj, rfl⟩ := List.getElem_of_mem hx
    rw [List.length_take] at hj
    rw [List.getElem_take]
    exact hg j (by omega) (by omega)
  unfold readF
  rw [this]
theorem KeepsC.own {Kt : TypeId → Prop} {X : Nat} {W W' : World} {base size n : Nat} {e : TypeId} {v : Value} {xs : List Value} (h : W.ownsRow base e size v n xs) (hg : W.grownBy W' v.ownBlock) (he : ¬ Kt e) : KeepsC Kt X W W' := by
  refine KeepsC.grown hg (fun r hr => ?_)
  rcases h.2 with ⟨rfl, _⟩ | ⟨g, cap, cur, rfl, _, hgg, _⟩
  · simp [Value.ownBlock] at hr
  · simp [Value.ownBlock] at hr
    subst hr
    exact .inr ⟨_, hgg, fun cs t fr e' => by cases e'; exact he⟩
theorem KeepsC.set {Kt : TypeId → Prop} {X : Nat} (W : World) (g i : Nat) (v : Value) (h : g < X) : KeepsC Kt X W (W.setCell ⟨g, i, none⟩ v) := KeepsC.grown (grown_set W g i v) (fun r hr => by cases hr; exact .inl h)

/-- What holds when k lines have been read. -/
structure RdI (w : World) (ls : List (List UInt8)) (k : Nat) (m : Int) (v : Value) (W : World) : Prop where
  below : Below w.heap.size w W
  r0 : RowAt W w.heap.size 22 [.slice none 0 0]
  r1 : RowAt W (w.heap.size + 1) 3 [.int .i64 0]
  r2 : RowAt W (w.heap.size + 1 + 1) 29 [.int .i64 0]
  out : RowAt W (w.heap.size + 1 + 1 + 1) 22 [v]
  n : RowAt W (w.heap.size + 1 + 1 + 1 + 1) 3 [.int .i64 m]
  own : W.ownsRow (w.heap.size + 1 + 1 + 1 + 1 + 1 + 1) 27 5 v k ((chsOf (ls.take k)).flatMap Ch.cells)
  good : Good ls k
  k64 : k ≤ 64
/-- What holds where it stops. -/
structure RdX (w : World) (v0 : Value) (n1 n2 n : Int) (W : World) : Prop where
  below : Below w.heap.size w W
  r0 : RowAt W w.heap.size 22 [.slice none 0 0]
  r1 : RowAt W (w.heap.size + 1) 3 [.int .i64 n1]
  r2 : RowAt W (w.heap.size + 1 + 1) 29 [.int .i64 n2]
  n : RowAt W (w.heap.size + 1 + 1 + 1 + 1) 3 [.int .i64 n]
theorem RdI.stab (w : World) (ls : List (List UInt8)) (k : Nat) (m : Int) (v : Value) {X B : Nat} (hX : w.heap.size ≤ X) (hB : w.heap.size ≤ B) : PStab 9 X B (RdI w ls k m v) := fun W W' ht h =>
  ⟨PStab.below _ _ hX hB (Nat.le_refl _) W W' ht h.below, PStab.row _ _ _ (.inl (by decide)) W W' ht h.r0, PStab.row _ _ _ (.inl (by decide)) W W' ht h.r1, PStab.row _ _ _ (.inl (by decide)) W W' ht h.r2, PStab.row _ _ _ (.inl (by decide)) W W' ht h.out, PStab.row _ _ _ (.inl (by decide)) W W' ht h.n, PStab.own _ _ _ _ _ _ (by decide) W W' ht h.own, h.good, h.k64⟩
theorem RdX.stab (w : World) (v : Value) (n1 n2 n : Int) {X B : Nat} (hX : w.heap.size ≤ X) (hB : w.heap.size ≤ B) : PStab 9 X B (RdX w v n1 n2 n) := fun W W' ht h =>
  ⟨PStab.below _ _ hX hB (Nat.le_refl _) W W' ht h.below, PStab.row _ _ _ (.inl (by decide)) W W' ht h.r0, PStab.row _ _ _ (.inl (by decide)) W W' ht h.r1, PStab.row _ _ _ (.inl (by decide)) W W' ht h.r2, PStab.row _ _ _ (.inl (by decide)) W W' ht h.n⟩
theorem RdI.ext {w : World} {ls : List (List UInt8)} {k : Nat} {m : Int} {v : Value} {W W' : World} (h : RdI w ls k m v W) (hx : Ext W W') : RdI w ls k m v W' :=
  ⟨Below.ext h.below hx h.below.size, h.r0.ext hx, h.r1.ext hx, h.r2.ext hx, h.out.ext hx, h.n.ext hx, own_ext h.own hx, h.good, h.k64⟩
theorem RowAt.set_ne {w : World} {g g' i : Nat} {t : TypeId} {xs : List Value} {v : Value} (h : RowAt w g t xs) (hne : g' ≠ g) : RowAt (w.setCell ⟨g', i, none⟩ v) g t xs := h.kept (grown_set w g' i v) (fun e => hne (Option.some.inj e))
theorem RdI.toX {w : World} {ls : List (List UInt8)} {k : Nat} {m : Int} {v : Value} {W : World} (h : RdI w ls k m v W) (u : Int) : RdX w (.slice none 0 0) 0 0 u (W.setCell ⟨w.heap.size + 1 + 1 + 1 + 1, 0, none⟩ (.int .i64 u)) :=
  ⟨h.below.setCell (p := ⟨w.heap.size + 1 + 1 + 1 + 1, 0, none⟩) (by show w.heap.size ≤ w.heap.size + 1 + 1 + 1 + 1; omega) _, h.r0.set_ne (by omega), h.r1.set_ne (by omega), h.r2.set_ne (by omega), h.n.set 0 _⟩
theorem RdX.ext {w : World} {v : Value} {n1 n2 n : Int} {W W' : World} (h : RdX w v n1 n2 n W) (hx : Ext W W') : RdX w v n1 n2 n W' :=
  ⟨Below.ext h.below hx h.below.size, h.r0.ext hx, h.r1.ext hx, h.r2.ext hx, h.n.ext hx⟩
theorem RdX.fin {w : World} {v : Value} {n1 n2 n : Int} {W : World} (h : RdX w v n1 n2 n W) (u1 u2 : Int) : RdX w v u1 u2 n (((W.setCell ⟨w.heap.size, 0, none⟩ (.slice none 0 0)).setCell ⟨w.heap.size + 1, 0, none⟩ (.int .i64 u1)).setCell ⟨w.heap.size + 1 + 1, 0, none⟩ (.int .i64 u2)) :=
  ⟨((h.below.setCell (p := ⟨w.heap.size, 0, none⟩) (Nat.le_refl _) _).setCell (p := ⟨w.heap.size + 1, 0, none⟩) (Nat.le_succ _) _).setCell (p := ⟨w.heap.size + 1 + 1, 0, none⟩) (by show w.heap.size ≤ w.heap.size + 1 + 1; omega) _,
   ((h.r0.set 0 _).set_ne (by omega)).set_ne (by omega), ((h.r1.set_ne (by omega)).set 0 _).set_ne (by omega), ((h.r2.set_ne (by omega)).set_ne (by omega)).set 0 _, ((h.n.set_ne (by omega)).set_ne (by omega)).set_ne (by omega)⟩
theorem Stab.exP {p : Prop} {B : Nat} {I : p → World → Prop} (h : ∀ x, Stab B (I x)) : Stab B (fun W => ∃ x, I x W) := fun W W' row ⟨x, hi⟩ hg hr => ⟨x, h x W W' row hi hg hr⟩
theorem RdX.finKeeps {w : World} {v : Value} {n1 n2 n : Int} {W : World} (h : RdX w v n1 n2 n W) (u1 u2 : Int) (B : Nat) : KeepsFrom B W (((W.setCell ⟨w.heap.size, 0, none⟩ (.slice none 0 0)).setCell ⟨w.heap.size + 1, 0, none⟩ (.int .i64 u1)).setCell ⟨w.heap.size + 1 + 1, 0, none⟩ (.int .i64 u2)) :=
  ((keeps_set B h.r0.facts1.1 _).trans (keeps_set B (h.r1.set_ne (g' := w.heap.size) (by omega)).facts1.1 _)).trans (keeps_set B ((h.r2.set_ne (g' := w.heap.size) (by omega)).set_ne (g' := w.heap.size + 1) (by omega)).facts1.1 _)
theorem RdX.finKeepsC {w : World} {v : Value} {n1 n2 n : Int} {W : World} (_h : RdX w v n1 n2 n W) (u1 u2 : Int) {Kt : TypeId → Prop} {X : Nat} (hX : w.heap.size + 1 + 1 < X) : KeepsC Kt X W (((W.setCell ⟨w.heap.size, 0, none⟩ (.slice none 0 0)).setCell ⟨w.heap.size + 1, 0, none⟩ (.int .i64 u1)).setCell ⟨w.heap.size + 1 + 1, 0, none⟩ (.int .i64 u2)) :=
  ((KeepsC.set _ _ _ _ (by omega)).trans (KeepsC.set _ _ _ _ (by omega))).trans (KeepsC.set _ _ _ _ (by omega))
theorem RdI.count {w : World} {ls : List (List UInt8)} {k : Nat} {m : Int} {v : Value} {W : World} (h : RdI w ls k m v W) (u : Int) : RdI w ls k u v (W.setCell ⟨w.heap.size + 1 + 1 + 1 + 1, 0, none⟩ (.int .i64 u)) :=
  have hx := h.toX u
  ⟨hx.below, hx.r0, hx.r1, hx.r2, h.out.set_ne (by omega), hx.n, own_kept h.own (grown_set W _ 0 _) (fun r hr => by cases hr; omega), h.good, h.k64⟩
theorem RdI.next {w : World} {ls : List (List UInt8)} {k : Nat} {v v4 : Value} {W2 w4 : World} {B X : Nat} {c : Ch} (h : RdI w ls k ((k : Int) + 1) v W2) (hg : W2.grownBy w4 v.ownBlock)
    (hown : w4.ownsRow (w.heap.size + 1 + 1 + 1 + 1 + 1 + 1) 27 5 v4 (k + 1) ((chsOf (ls.take k)).flatMap Ch.cells ++ c.cells)) (hkk : chsOf (ls.take (k + 1)) = chsOf (ls.take k) ++ [c]) (hgood : Good ls (k + 1)) (hk : k < 64) (hX : w.heap.size + 1 + 1 + 1 < X) :
    KeepsFrom B W2 (w4.setCell ⟨w.heap.size + 1 + 1 + 1, 0, none⟩ v4) ∧ KeepsC KtB X W2 (w4.setCell ⟨w.heap.size + 1 + 1 + 1, 0, none⟩ v4) ∧ RdI w ls (k + 1) ((k + 1 : Nat) : Int) v4 (w4.setCell ⟨w.heap.size + 1 + 1 + 1, 0, none⟩ v4) := by
  have hne : ∀ g, g < w.heap.size + 1 + 1 + 1 + 1 + 1 + 1 → v.ownBlock ≠ some g := fun g hg e => by have := (own_lt h.own e).1; omega
  have hout := h.out.kept hg (hne _ (by omega))
  have hbel : Below w.heap.size w w4 := h.below.grown hg h.below.size (fun r hr => by have := (own_lt h.own hr).1; omega)
  refine ⟨(keeps_own h.own hg).trans (keeps_set B hout.facts1.1 v4), (KeepsC.own h.own hg (by unfold KtB; decide)).trans (KeepsC.set _ _ _ _ hX), ?_, ?_, ?_, ?_, ?_, ?_, ?_, hgood, by omega⟩
  · exact hbel.setCell (p := ⟨w.heap.size + 1 + 1 + 1, 0, none⟩) (by show w.heap.size ≤ w.heap.size + 1 + 1 + 1; omega) _
  · exact (h.r0.kept hg (hne _ (by omega))).set_ne (by omega)
  · exact (h.r1.kept hg (hne _ (by omega))).set_ne (by omega)
  · exact (h.r2.kept hg (hne _ (by omega))).set_ne (by omega)
  · exact hout.set 0 v4
  · exact (h.n.kept hg (hne _ (by omega))).set_ne (by omega)
  · rw [hkk, List.flatMap_append]
    have := own_kept hown (grown_set w4 (w.heap.size + 1 + 1 + 1) 0 v4) (fun r hr => by cases hr; omega)
    simpa using this
theorem RdI.asX {w : World} {ls : List (List UInt8)} {k : Nat} {m : Int} {v : Value} {W : World} (h : RdI w ls k m v W) : RdX w (.slice none 0 0) 0 0 m W := ⟨h.below, h.r0, h.r1, h.r2, h.n⟩
end Go.Proofs.YtilbofkpjgcchaaDoor
