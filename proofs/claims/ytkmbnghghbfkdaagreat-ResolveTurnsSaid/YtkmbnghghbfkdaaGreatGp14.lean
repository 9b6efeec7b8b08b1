/- A region that draws its order, by what holds when some of its operations have been carried out. No program in sight. -/
import Derived.Test.YtkmbnghghbfkdaaGreatGp03
import Derived.Test.YtkmbnghghbfkdaaGreatGp01
import Derived.Test.YtkmbnghghbfkdaaGreatGp13
import Derived.Test.YtkmbnghghbfkdaaGreatGp11
import Derived.Test.YtkmbnghghbfkdaaGreatGp02
import Derived.Laws.StructEq
namespace Go.Proofs.YtkmbnghghbfkdaaGreat
set_option maxRecDepth 100000
set_option maxHeartbeats 2000000
set_option linter.unusedSimpArgs false
open Go.RowKit Go.Sort
set_option linter.unusedVariables false

section
variable {P : Program} {md : Region.Mode} {ops : Array Oper} {Q : Exit → Act → World → Prop}
/-- Operations wait for earlier ones only. -/
def acycB (md : Region.Mode) (ops : Array Oper) : Bool := (List.range ops.size).all fun i => match ops[i]? with
  | none => true
  | some o => o.after.all (fun e => !Region.binds md e || decide (e.on < i))
theorem acyc_ready {listed : Array Bool} (hB : acycB md ops = true) (hz : listed.size = ops.size) (hr : Region.ready md ops listed = []) : ∀ j, j < ops.size → listed.getD j true = true := by
  intro j
  induction j using Nat.strongRecOn with
  | _ j ih =>
    intro hj
    refine Classical.byContradiction fun hne => ?_
    have hf : listed.getD j true = false := by simpa using hne
    have hm : j ∈ Region.ready md ops listed := by
      refine mem_ready.2 ⟨hf, ops[j], Array.getElem?_eq_getElem hj, fun e he hb => ?_⟩
      have h1 := List.all_eq_true.1 hB j (List.mem_range.2 hj)
      simp only [Array.getElem?_eq_getElem hj] at h1
      have h2 := Array.all_eq_true'.1 h1 e he
      simp only [hb, Bool.not_true, Bool.false_or, decide_eq_true_eq] at h2
      have h3 := ih e.on h2 (by omega)
      have hlt : e.on < listed.size := by omega
      simp only [Array.getD, hlt, dif_pos] at h3 ⊢
      exact h3
    rw [hr] at hm
    cases hm
theorem wpAny_of_inv {R : Array Bool → Act → World → Prop} (hB : acycB md ops = true)
    (hs : ∀ listed a w i o, listed.size = ops.size → ops[i]? = some o → i ∈ Region.ready md ops listed → R listed a w → opG P ops Q o (R (listed.setIfInBounds i true)) a w)
    (he : ∀ listed a w, listed.size = ops.size → (∀ j, j < ops.size → listed.getD j true = true) → R listed a w → Q .normal a w) :
    ∀ (f : Nat) (listed : Array Bool) (a : Act) (w : World), listed.size = ops.size → listed.toList.count false = f → R listed a w → wpAny P md ops Q f listed a w
  | 0, listed, a, w, hz, hc, h => by
    have hr : Region.ready md ops listed = [] := by
      refine List.eq_nil_iff_forall_not_mem.2 fun i hi => ?_
      obtain ⟨hf, o, ho, _⟩ := mem_ready.1 hi
      have hlt : i < listed.size := by rw [hz]; exact (Array.getElem?_eq_some_iff.1 ho).1
      simp only [Array.getD, hlt, dif_pos] at hf
      have hm : false ∈ listed.toList := by
        have h1 := List.getElem_mem (l := listed.toList) (n := i) (by simpa using hlt)
        have h2 : listed.toList[i]'(by simpa using hlt) = false := by simpa using hf
        rwa [h2] at h1
      have := List.count_pos_iff.2 hm
      omega
    exact ⟨hr, he listed a w hz (acyc_ready hB hz hr) h⟩
  | f + 1, listed, a, w, hz, hc, h => by
    refine ⟨fun hr => he listed a w hz (acyc_ready hB hz hr) h, fun i hi => ?_⟩
    obtain ⟨hf, o, ho, hdep⟩ := mem_ready.1 hi
    have hlt : i < listed.size := by rw [hz]; exact (Array.getElem?_eq_some_iff.1 ho).1
    simp only [Array.getD, hlt, dif_pos] at hf
    refine wpOp_of_opG ho (opG_mono (fun a' w' h' => wpAny_of_inv hB hs he f _ a' w' (by simpa using hz) ?_ h') (hs listed a w i o hz ho hi h))
    have hl : i < listed.toList.length := by simpa using hlt
    have hg : listed.toList[i] = false := by simpa using hf
    rw [Array.toList_setIfInBounds, List.count_set hl, hg]
    show listed.toList.count false - 1 + 0 = f
    omega
/-- The slots that a region fills. -/
def puts (a : Act) : List Tmp → List Value → Act
  | s :: ss, v :: vs => puts (a.put (some s) v) ss vs
  | _, _ => a
def depB (md : Region.Mode) (ops : Array Oper) (dep : Nat → List Nat) : Bool := (List.range ops.size).all fun i => match ops[i]? with
  | none => true
  | some o => (dep i).all fun d => o.after.any (fun e => Region.binds md e && e.on == d)
def updB (S : Nat → Bool) (i : Nat) : Nat → Bool := fun j => if j = i then true else S j
theorem updB_at (S : Nat → Bool) (i : Nat) : updB S i i = true := if_pos rfl
theorem updB_ne (S : Nat → Bool) {i j : Nat} (h : j ≠ i) : updB S i j = S j := if_neg h
/-- What is owed at each operation. -/
def stepsI (P : Program) (Q : Exit → Act → World → Prop) (l : Array Oper) (a0 : Act) (slots : List Tmp) (dep : Nat → List Nat) (F : (Nat → Bool) → List Value → World → Prop) : List Oper → Nat → Prop
  | [], _ => True
  | o :: r, i => (∀ S us w', (∀ d ∈ dep i, S d = true) → S i = false → F S us w' → ∀ K : Act → World → Prop, (∀ us' w'', F (updB S i) us' w'' → K (puts a0 slots us') w'') →
      if Region.wanted o (yielded l (puts a0 slots us).tmps) = true then o.wp P (puts a0 slots us) w' K Q else K ((puts a0 slots us).put o.dst undef) w') ∧ stepsI P Q l a0 slots dep F r (i + 1)
theorem stepsI_at {l : Array Oper} {a0 : Act} {slots : List Tmp} {dep : Nat → List Nat} {F : (Nat → Bool) → List Value → World → Prop} : ∀ (r : List Oper) (k : Nat), stepsI P Q l a0 slots dep F r k → ∀ i o, r[i]? = some o →
    (∀ S us w', (∀ d ∈ dep (k + i), S d = true) → S (k + i) = false → F S us w' → ∀ K : Act → World → Prop, (∀ us' w'', F (updB S (k + i)) us' w'' → K (puts a0 slots us') w'') →
      if Region.wanted o (yielded l (puts a0 slots us).tmps) = true then o.wp P (puts a0 slots us) w' K Q else K ((puts a0 slots us).put o.dst undef) w')
  | [], _, _, i, o, h => by simp at h
  | x :: r, k, hs, 0, o, h => by
    simp only [List.getElem?_cons_zero, Option.some.injEq] at h
    subst h
    exact hs.1
  | x :: r, k, hs, i + 1, o, h => by
    rw [List.getElem?_cons_succ] at h
    have := stepsI_at r (k + 1) hs.2 i o h
    rw [show k + 1 + i = k + (i + 1) from by omega] at this
    exact this
theorem wp_region_inv {id : Nat} {a0 : Act} {w : World} {l : List Oper} (slots : List Tmp) (us0 : List Value) (dep : Nat → List Nat) (F : (Nat → Bool) → List Value → World → Prop)
    (hm : P.follows .mixedOrders = true) (hB : acycB .any l.toArray = true) (hD : depB .any l.toArray dep = true)
    (ha : puts a0 slots us0 = a0) (h0 : F (fun _ => false) us0 w.drew)
    (hst : stepsI P Q l.toArray a0 slots dep F l 0)
    (he : ∀ S us w', (∀ j, j < l.length → S j = true) → F S us w' → Q .normal (puts a0 slots us) w') : (Code.region id l.toArray true).wp P Q a0 w := by
  have hs : ∀ i o, l.toArray[i]? = some o → ∀ S us w', (∀ d ∈ dep i, S d = true) → S i = false → F S us w' → ∀ K : Act → World → Prop, (∀ us' w'', F (updB S i) us' w'' → K (puts a0 slots us') w'') →
      if Region.wanted o (yielded l.toArray (puts a0 slots us).tmps) = true then o.wp P (puts a0 slots us) w' K Q else K ((puts a0 slots us).put o.dst undef) w' := fun i o ho => by
    have := stepsI_at l 0 hst i o (by simpa using ho)
    rw [Nat.zero_add] at this
    exact this
  refine wp_region_any hm ?_
  refine wpAny_of_inv (md := .any) (R := fun listed a w' => ∃ us, a = puts a0 slots us ∧ F (fun j => listed.getD j false) us w') hB ?_ ?_ _ _ _ _ (by simp) (by simp) ⟨us0, ha.symm, ?_⟩
  · rintro listed a w' i o hz ho hi ⟨us, rfl, hF⟩
    obtain ⟨hf, o', ho', hdep⟩ := mem_ready.1 hi
    obtain rfl : o = o' := Option.some.inj (ho.symm.trans ho')
    have hlt : i < listed.size := by rw [hz]; exact (Array.getElem?_eq_some_iff.1 ho).1
    have hlt' : i < l.toArray.size := by omega
    have hfi : listed.getD i false = false := by
      simp only [Array.getD, hlt, dif_pos] at hf ⊢
      exact hf
    refine hs i o ho (fun j => listed.getD j false) us w' (fun d hd => ?_) hfi hF _ (fun us' w'' h' => ⟨us', rfl, ?_⟩)
    · have h1 := List.all_eq_true.1 hD i (List.mem_range.2 hlt')
      simp only [ho] at h1
      have h2 := List.all_eq_true.1 h1 d hd
      obtain ⟨e, he1, he2⟩ := Array.any_eq_true'.1 h2
      simp only [Bool.and_eq_true, beq_iff_eq] at he2
      have h3 := hdep e he1 he2.1
      rw [he2.2] at h3
      exact h3
    · have : (fun j => (listed.setIfInBounds i true).getD j false) = updB (fun j => listed.getD j false) i := by
        funext j
        by_cases e : j = i
        · subst e; rw [updB_at]; simp [Array.getD, hlt]
        · rw [updB_ne _ e, getD_set_ne false (Ne.symm e)]
      rw [this]
      exact h'
  · rintro listed a w' hz hall ⟨us, rfl, hF⟩
    refine he _ us w' (fun j hj => ?_) hF
    have h1 := hall j (by simpa using hj)
    have hlt : j < listed.size := by rw [hz]; simpa using hj
    simp only [Array.getD, hlt, dif_pos] at h1 ⊢
    exact h1
  · have : (fun j => (Array.replicate l.toArray.size false).getD j false) = fun _ => false := by
      funext j
      simp only [Array.getD]
      split
      · simp
      · rfl
    rw [this]
    exact h0
end
end Go.Proofs.YtkmbnghghbfkdaaGreat

/- Two structs are made by two calls, each kept in a box of its own, in one statement: whatever order the calls, the boxes and the stores come in. No program in sight. -/
namespace Go.Proofs.YtkmbnghghbfkdaaGreat
set_option maxRecDepth 100000
set_option maxHeartbeats 2000000
set_option linter.unusedSimpArgs false
open Go.RowKit Go.Sort
set_option linter.unusedVariables false

section
variable {w0 : World} {V0 V1 : Value} {O0 O1 : World → Value → Prop} {T0 T1 : TypeId} {z0 z1 : List Value} {S : Nat → Bool} {l0 c0 l1 c1 x0 x1 : Value} {W : World}
end
theorem puts_self : ∀ (a : Act) (slots : List Tmp), puts a slots (slots.map fun s => a.tmps.getD s undef) = a
  | _, [] => rfl
  | a, s :: ss => by
    have h : a.put (some s) (a.tmps.getD s undef) = a := by
      obtain ⟨t, d⟩ := a
      show (⟨t.setIfInBounds s (t.getD s undef), d⟩ : Act) = ⟨t, d⟩
      congr 1
      apply Array.ext_getElem?
      intro i
      rw [Array.getElem?_setIfInBounds]
      split
      · rename_i e
        subst e
        split
        · rename_i hl
          simp [Array.getD, hl]
        · rename_i hl
          rw [Array.getElem?_eq_none (by omega)]
      · rfl
    show puts (a.put (some s) (a.tmps.getD s undef)) ss (ss.map fun s => a.tmps.getD s undef) = a
    rw [h]
    exact puts_self a ss
end Go.Proofs.YtkmbnghghbfkdaaGreat

/- The document's state: a token is taken. -/
namespace Go.Proofs.YtkmbnghghbfkdaaGreat
set_option maxRecDepth 100000
set_option maxHeartbeats 2000000
set_option linter.unusedSimpArgs false
open Go.RowKit Go.Shelf Go.Sort
attribute [local go_sem] Oper.semAt_some wide_fn wide_depth
set_option linter.unusedVariables false

end Go.Proofs.YtkmbnghghbfkdaaGreat

/- The document's state: the token that is looked for is taken. -/
namespace Go.Proofs.YtkmbnghghbfkdaaGreat
set_option maxRecDepth 100000
set_option maxHeartbeats 2000000
set_option linter.unusedSimpArgs false
open Go.RowKit Go.Shelf Go.Sort
attribute [local go_sem] Oper.semAt_some wide_fn wide_depth
set_option linter.unusedVariables false
end Go.Proofs.YtkmbnghghbfkdaaGreat

/- The document's state: is a word told here? -/
namespace Go.Proofs.YtkmbnghghbfkdaaGreat
set_option maxRecDepth 100000
set_option maxHeartbeats 2000000
set_option linter.unusedSimpArgs false
open Go.RowKit Go.Shelf Go.Sort
attribute [local go_sem] Oper.semAt_some wide_fn wide_depth
set_option linter.unusedVariables false
end Go.Proofs.YtkmbnghghbfkdaaGreat

/- The document: is a text among others? -/
namespace Go.Proofs.YtkmbnghghbfkdaaGreat
set_option maxRecDepth 100000
set_option maxHeartbeats 2000000
set_option linter.unusedSimpArgs false
open Go.RowKit Go.Shelf Go.Sort
attribute [local go_sem] Oper.semAt_some wide_fn wide_depth
set_option linter.unusedVariables false
end Go.Proofs.YtkmbnghghbfkdaaGreat

/- A new row of another's elements and one more, made in any order. -/
namespace Go.Proofs.YtkmbnghghbfkdaaGreat
set_option maxRecDepth 100000
set_option maxHeartbeats 2000000
set_option linter.unusedSimpArgs false
open Go.RowKit Go.Shelf Go.Sort
attribute [local go_sem] Oper.semAt_some wide_fn wide_depth
set_option linter.unusedVariables false
section
variable {w0 : World} {e : TypeId} {sz n : Nat} {xs ys : List Value} {v px nm : Value} {S : Nat → Bool} {us : List Value} {u0 u1 u2 u3 u4 u5 u6 u7 : Value} {W : World}
end
end Go.Proofs.YtkmbnghghbfkdaaGreat

/- The document: variables with that of a term. -/
namespace Go.Proofs.YtkmbnghghbfkdaaGreat
set_option maxRecDepth 100000
set_option maxHeartbeats 2000000
set_option linter.unusedSimpArgs false
open Go.RowKit Go.Shelf Go.Sort
attribute [local go_sem] Oper.semAt_some wide_fn wide_depth
set_option linter.unusedVariables false
theorem nil_yes {x : ByteArray} (h : x = nilB) : x.toList.isEmpty = true := by rw [ByteArray.toList_eq, h]; rfl
theorem nil_no {x : ByteArray} (h : x ≠ nilB) : x.toList.isEmpty = false := by
  rw [ByteArray.toList_eq]
  cases hd : x.data.toList with
  | nil => exact absurd (bts_inj (show bts x = bts nilB from hd)) h
  | cons a r => rfl
def termS (T : List ByteArray) (t : Bool × ByteArray) : List ByteArray := if t.1 = true ∨ t.2 = nilB ∨ hasB t.2 T = true then T else T ++ [t.2]
end Go.Proofs.YtkmbnghghbfkdaaGreat

/- The reader in memory; one token. -/
namespace Go.Proofs.YtkmbnghghbfkdaaGreat
set_option maxRecDepth 100000
set_option maxHeartbeats 2000000
set_option linter.unusedSimpArgs false
open Go.RowKit Go.Shelf Go.Sort
attribute [local go_sem] Oper.semAt_some wide_fn wide_depth
set_option linter.unusedVariables false

end Go.Proofs.YtkmbnghghbfkdaaGreat

/- A token is taken, or found wrong. -/
namespace Go.Proofs.YtkmbnghghbfkdaaGreat
set_option maxRecDepth 100000
set_option maxHeartbeats 2000000
set_option linter.unusedSimpArgs false
open Go.RowKit Go.Shelf Go.Sort
attribute [local go_sem] Oper.semAt_some wide_fn wide_depth
set_option linter.unusedVariables false

end Go.Proofs.YtkmbnghghbfkdaaGreat

/- A word, a number, tokens one behind the other. -/
namespace Go.Proofs.YtkmbnghghbfkdaaGreat
set_option maxRecDepth 100000
set_option maxHeartbeats 2000000
set_option linter.unusedSimpArgs false
open Go.RowKit Go.Shelf Go.Sort
attribute [local go_sem] Oper.semAt_some wide_fn wide_depth
set_option linter.unusedVariables false

end Go.Proofs.YtkmbnghghbfkdaaGreat

/- The reader among its atoms: what is its own, and what it leaves as it was. -/
namespace Go.Proofs.YtkmbnghghbfkdaaGreat
set_option maxRecDepth 100000
set_option maxHeartbeats 2000000
set_option linter.unusedSimpArgs false
open Go.RowKit Go.Shelf Go.Sort
set_option linter.unusedVariables false

def atCells (a : Atm) : List Value := [.int .i64 a.kind, .bool a.fk, .string a.fn, .string a.name, .string a.value, .bool a.tk, .string a.tn]
theorem heap_set_ne {w w' : World} {g b : Nat} (h : w.grownBy w' (some g)) (hb : b < w.heap.size) (hne : b ≠ g) : w'.heap[b]? = w.heap[b]? := h.block b hb (fun e => hne (Option.some.inj e))
/-- An owned row of another type than the block that turns. -/
theorem own_turn {W W' : World} {B size n g : Nat} {e t : TypeId} {v : Value} {xs ys : List Value} (h : W.ownsRow B e size v n xs) (hr : RowAt W g t ys) (hne : e ≠ t) (hg : W.grownBy W' (some g)) : W'.ownsRow B e size v n xs := by
  refine ⟨h.1, ?_⟩
  rcases h.2 with hn | ⟨g', cap, cur, rfl, hbg, hgg, rest⟩
  · exact .inl hn
  · refine .inr ⟨g', cap, cur, rfl, hbg, ?_, rest⟩
    have hg' : g' ≠ g := by
      rintro rfl
      have h1 := hgg.symm.trans hr
      simp only [Option.some.injEq, Obj.cells.injEq] at h1
      exact hne h1.2.1
    exact (heap_set_ne hg (Array.getElem?_eq_some_iff.1 hgg).1 hg').trans hgg
section
variable {w0 : World} {ts : List Tk} {tv : Value} {g : Nat} {own : List Nat} {st : PS} {d e : Nat} {av vv : Value} {m : Nat} {W W' : World}
theorem own_ne_row {w : World} {B size n g : Nat} {ty t : TypeId} {v : Value} {xs ys : List Value} (h : w.ownsRow B ty size v n xs) (hr : RowAt w g t ys) (hne : ty ≠ t) : ∀ b', v.ownBlock = some b' → b' ≠ g := by
  rintro b' hb rfl
  rcases h.2 with ⟨rfl, _⟩ | ⟨g', cap, cur, rfl, hbg, hgg, rest⟩
  · simp [Value.ownBlock] at hb
  · simp [Value.ownBlock] at hb
    subst hb
    have h1 := hgg.symm.trans hr
    simp only [Option.some.injEq, Obj.cells.injEq] at h1
    exact hne h1.2.1
theorem own_ne_own {w : World} {B B' size size' n n' : Nat} {ty t : TypeId} {v u : Value} {xs ys : List Value} (h : w.ownsRow B ty size v n xs) (hr : w.ownsRow B' t size' u n' ys) (hne : ty ≠ t) : ∀ b', v.ownBlock = some b' → u.ownBlock ≠ some b' := by
  rintro b' hb hu
  rcases h.2 with ⟨rfl, _⟩ | ⟨g', cap, cur, rfl, hbg, hgg, rest⟩
  · simp [Value.ownBlock] at hb
  · rcases hr.2 with ⟨rfl, _⟩ | ⟨g2, cap2, cur2, rfl, hbg2, hgg2, rest2⟩
    · simp [Value.ownBlock] at hu
    · simp [Value.ownBlock] at hb hu
      subst hb hu
      have h1 := hgg.symm.trans hgg2
      simp only [Option.some.injEq, Obj.cells.injEq] at h1
      exact hne h1.2.1
/-- A row that is owned stays where another block turns, or none. -/
theorem own_apart {w w' : World} {B size n : Nat} {ty : TypeId} {v : Value} {xs : List Value} {row : Option Nat} (h : w.ownsRow B ty size v n xs) (hg : w.grownBy w' row) (hv : ∀ b, v.ownBlock = some b → row ≠ some b) : w'.ownsRow B ty size v n xs := by
  refine ⟨h.1, ?_⟩
  rcases h.2 with hn | ⟨g', cap, cur, rfl, hbg, hgg, rest⟩
  · exact .inl hn
  · exact .inr ⟨g', cap, cur, rfl, hbg, (hg.block g' (Array.getElem?_eq_some_iff.1 hgg).1 (fun e => hv g' rfl e.symm)).trans hgg, rest⟩
end
end Go.Proofs.YtkmbnghghbfkdaaGreat

/- The document: how many atoms are edges. -/
namespace Go.Proofs.YtkmbnghghbfkdaaGreat
set_option maxRecDepth 100000
set_option maxHeartbeats 2000000
set_option linter.unusedSimpArgs false
open Go.RowKit Go.Shelf Go.Sort
attribute [local go_sem] Oper.semAt_some wide_fn wide_depth
set_option linter.unusedVariables false
/-- Atoms in memory. -/
def Ats (w : World) (v : Value) (l : List Atm) : Prop := Sl w v l.length (l.flatMap atCells)
theorem Ats.ext {w w' : World} {v : Value} {l : List Atm} (h : Ats w v l) (hx : Ext w w') : Ats w' v l := Sl.ext h hx
theorem Ats.shape {w : World} {v : Value} {l : List Atm} (h : Ats w v l) : ∃ a c, v = .slice a l.length c ∧ l.length ≤ c ∧ c ≤ 9223372036854775807 := Sl.shape h
theorem Ats.at_ {w : World} {a : Option Addr} {n c : Nat} {l : List Atm} (h : Ats w (.slice a n c) l) {k : Nat} (hk : k < l.length) : ∃ b o, a = some ⟨b, o, none⟩ ∧
    w.cell? ⟨b, o + k * 7, none⟩ = some (.int .i64 l[k].kind) ∧ w.cell? ⟨b, o + k * 7 + 1, none⟩ = some (.bool l[k].fk) ∧ w.cell? ⟨b, o + k * 7 + 2, none⟩ = some (.string l[k].fn) ∧
    w.cell? ⟨b, o + k * 7 + 3, none⟩ = some (.string l[k].name) ∧ w.cell? ⟨b, o + k * 7 + 4, none⟩ = some (.string l[k].value) ∧ w.cell? ⟨b, o + k * 7 + 5, none⟩ = some (.bool l[k].tk) ∧ w.cell? ⟨b, o + k * 7 + 6, none⟩ = some (.string l[k].tn) := by
  obtain ⟨a', c', e, _, _, hc⟩ := id h
  simp only [Value.slice.injEq] at e
  obtain ⟨rfl, _, rfl⟩ := e
  have hlen := flatMap_len atCells 7 (fun _ => rfl) l
  obtain ⟨b, o, rfl, hcell⟩ := hc (by omega)
  have hh := fun j (hj : j < 7) => flatMap_at atCells 7 (fun _ => rfl) l k j hk hj
  exact ⟨b, o, rfl, hcell _ _ (hh 0 (by omega)), by rw [Nat.add_assoc]; exact hcell _ _ (hh 1 (by omega)), by rw [Nat.add_assoc]; exact hcell _ _ (hh 2 (by omega)), by rw [Nat.add_assoc]; exact hcell _ _ (hh 3 (by omega)), by rw [Nat.add_assoc]; exact hcell _ _ (hh 4 (by omega)), by rw [Nat.add_assoc]; exact hcell _ _ (hh 5 (by omega)), by rw [Nat.add_assoc]; exact hcell _ _ (hh 6 (by omega))⟩
theorem edgesOf_take (l : List Atm) (j : Nat) (h : j < l.length) : edgesOf (l.take (j + 1)) = edgesOf (l.take j) + (if l[j].kind = 4 then 1 else 0) := by
  unfold edgesOf
  rw [List.take_succ_eq_append_getElem h, List.filter_append, List.length_append]
  by_cases h4 : l[j].kind = 4 <;> simp [h4]
end Go.Proofs.YtkmbnghghbfkdaaGreat

/- The document: the variables of atoms. -/
namespace Go.Proofs.YtkmbnghghbfkdaaGreat
set_option maxRecDepth 100000
set_option maxHeartbeats 2000000
set_option linter.unusedSimpArgs false
open Go.RowKit Go.Shelf Go.Sort
attribute [local go_sem] Oper.semAt_some wide_fn wide_depth
set_option linter.unusedVariables false
def varsS (l : List Atm) : List ByteArray := l.foldl (fun T a => termS (termS T (a.fk, a.fn)) (a.tk, a.tn)) []
theorem termS_len (T : List ByteArray) (t : Bool × ByteArray) : (termS T t).length ≤ T.length + 1 := by
  unfold termS
  split
  · omega
  · simp
theorem varsS_take (l : List Atm) (j : Nat) (h : j < l.length) : varsS (l.take (j + 1)) = termS (termS (varsS (l.take j)) (l[j].fk, l[j].fn)) (l[j].tk, l[j].tn) := by
  unfold varsS
  rw [List.take_succ_eq_append_getElem h, List.foldl_append]
  rfl
theorem varsS_take_len (l : List Atm) : ∀ j, j ≤ l.length → (varsS (l.take j)).length ≤ 2 * j
  | 0, _ => by simp [varsS]
  | j + 1, h => by
    have ih := varsS_take_len l j (by omega)
    have h1 := termS_len (varsS (l.take j)) (l[j].fk, l[j].fn)
    have h2 := termS_len (termS (varsS (l.take j)) (l[j].fk, l[j].fn)) (l[j].tk, l[j].tn)
    rw [varsS_take l j h]
    omega
end Go.Proofs.YtkmbnghghbfkdaaGreat

/- Words. -/
namespace Go.Proofs.YtkmbnghghbfkdaaGreat
set_option maxRecDepth 100000
set_option maxHeartbeats 2000000
set_option linter.unusedSimpArgs false
open Go.RowKit Go.Shelf Go.Sort
attribute [local go_sem] Oper.semAt_some wide_fn wide_depth
set_option linter.unusedVariables false

def wordB (s : ByteArray) : Bool := Tk.check ⟨1, s, 0⟩
def worthB (s : ByteArray) : Bool := Tk.check ⟨3, s, 0⟩
theorem notWord_any (s : ByteArray) (w : World) (hs : s.size ≤ 9223372036854775800) :
    Calls Tryz.prog 136 #[.string s] w fun e w' => e = .returned (.bool (!wordB s)) ∧ Ext w w' := by
  cases hb : wordB s with
  | true =>
    have HC := Lib.hid (check_yes (t := ⟨1, s, 0⟩) w hs hb)
    unfold tkV at HC
    dsimp only at HC
    clear hb
    go_enter Tryz.func136, Tryz.ntmps136
    go_wp2_with fail
    refine HC.out.mono ?_
    rintro e w' ⟨rfl, hx⟩
    go_wp2
    go_ret
    exact ⟨rfl, hx⟩
  | false =>
    have HC := Lib.hid (check_no (t := ⟨1, s, 0⟩) w hs hb)
    unfold tkV at HC
    dsimp only at HC
    clear hb
    go_enter Tryz.func136, Tryz.ntmps136
    go_wp2_with fail
    refine HC.out.mono ?_
    rintro e w' ⟨rfl, hx⟩
    go_wp2
    go_ret
    exact ⟨rfl, hx⟩
/-- An index, or none. -/
def IdxQ (w : World) (b : Bool) (e : Ending) (w' : World) : Prop := ∃ n : Int, e = .returned (.int .i64 n) ∧ decide (0 ≤ n) = b ∧ -1 ≤ n ∧ n ≤ 9223372036854775807 ∧ Ext w w'
theorem idxW_any (v : Value) (l : List ByteArray) (w : World) (hv : Strs w v l) (hs : ∀ s ∈ l, s.size ≤ 9223372036854775800) :
    Calls Tryz.prog 111 #[v, .func (.func 136) #[] #[]] w (IdxQ w (!l.all wordB)) := by
  obtain ⟨a, c, rfl, hc1, hc2⟩ := Sl.shape hv
  have HV := Lib.hid hv
  have HS := Lib.hid hs
  clear hv hs
  go_enter Tryz.func111, Tryz.ntmps111
  go_wp2_with fail
  go_loopg [8] l.length (fun g i wr => ∃ k : Nat, k ≤ l.length ∧ g = l.length - k ∧ i = .int .i64 k ∧ Ext w wr ∧ Hid (∀ x ∈ l.take k, wordB x = true))
  case atStart => exact ⟨0, Nat.zero_le _, rfl, rfl, Ext.refl _, Lib.hid (by simp)⟩
  case round =>
    obtain ⟨k, hk, hg, rfl, hx, hall⟩ := hrel
    have Hg := Lib.hid hg
    have HX := Lib.hid hx
    clear hg
    by_cases hlt : k < l.length
    · obtain ⟨b, o, rfl, c0⟩ := Strs.at_ (Strs.ext HV.out hx) hlt
      have HC := Lib.hid (notWord_any l[k] wr (HS.out _ (List.getElem_mem hlt)))
      have hsn : l.take (k + 1) = l.take k ++ [l[k]] := List.take_succ_eq_append_getElem hlt
      have hmem := List.getElem_mem hlt
      generalize l[k] = x at *
      have HSN := Lib.hid hsn
      have HM := Lib.hid hmem
      clear hsn hmem hx
      cases hb : wordB x with
      | true =>
        rw [hb] at HC
        have HB := Lib.hid hb
        clear hb
        go_wp2_with fail
        refine HC.out.mono ?_
        rintro e w2 ⟨rfl, hx2⟩
        have HX2 := Lib.hid (HX.out.trans hx2)
        clear hx2 HC c0
        go_wp2_with fail
        go_roundg (l.length - (k + 1))
        case measure => have := Hg.out; omega
        case rel => exact ⟨k + 1, by omega, rfl, by go_num, HX2.out, Lib.hid (by rw [HSN.out]; intro y hy; rcases List.mem_append.1 hy with h | h; exact hall.out y h; rw [List.mem_singleton.1 h]; exact HB.out)⟩
      | false =>
        rw [hb] at HC
        have HB := Lib.hid hb
        clear hb
        go_wp2_with fail
        refine HC.out.mono ?_
        rintro e w2 ⟨rfl, hx2⟩
        have HX2 := Lib.hid (HX.out.trans hx2)
        clear hx2 HC c0
        go_wp2_with fail
        go_ret
        refine ⟨k, rfl, ?_, by omega, by omega, HX2.out⟩
        rw [show l.all wordB = false from List.all_eq_false.2 ⟨x, HM.out, by rw [HB.out]; decide⟩]
        simp
    · have he : k = l.length := by omega
      subst he
      go_wp2_with fail
      go_ret
      refine ⟨-1, rfl, ?_, by omega, by omega, HX.out⟩
      have h := hall.out
      rw [List.take_length] at h
      rw [List.all_eq_true.2 h]
      rfl
theorem hasNotWord_any (v : Value) (l : List ByteArray) (w : World) (hv : Strs w v l) (hs : ∀ s ∈ l, s.size ≤ 9223372036854775800) :
    Calls Tryz.prog 79 #[v, .func (.func 136) #[] #[]] w fun e w' => e = .returned (.bool (!l.all wordB)) ∧ Ext w w' := by
  have HC := Lib.hid (idxW_any v l w hv hs)
  obtain ⟨a, c, rfl, hc1, hc2⟩ := Sl.shape hv
  clear hv hs
  go_enter Tryz.func79, Tryz.ntmps79
  go_wp2_with fail
  refine HC.out.mono ?_
  rintro e w2 ⟨n, rfl, hb, h1, h2, hx2⟩
  have HB := Lib.hid hb
  clear hb
  go_wp2_with fail
  go_ret
  exact ⟨by rw [← HB.out]; rfl, hx2⟩
theorem words_any (v : Value) (l : List ByteArray) (w : World) (hv : Strs w v l) (hs : ∀ s ∈ l, s.size ≤ 9223372036854775800) :
    Calls Tryz.prog 112 #[v] w fun e w' => e = .returned (.bool (l.all wordB)) ∧ Ext w w' := by
  have HC := Lib.hid (hasNotWord_any v l w hv hs)
  obtain ⟨a, c, rfl, hc1, hc2⟩ := Sl.shape hv
  clear hv hs
  go_enter Tryz.func112, Tryz.ntmps112
  go_wp2_with fail
  refine HC.out.mono ?_
  rintro e w2 ⟨rfl, hx2⟩
  go_wp2_with fail
  go_ret
  exact ⟨by simp, hx2⟩
end Go.Proofs.YtkmbnghghbfkdaaGreat

/- Atoms: held against one another; which may be. -/
namespace Go.Proofs.YtkmbnghghbfkdaaGreat
set_option maxRecDepth 100000
set_option maxHeartbeats 2000000
set_option linter.unusedSimpArgs false
open Go.RowKit Go.Shelf Go.Sort
set_option linter.unusedVariables false

def Atm.eqB (x y : Atm) : Bool := x.kind == y.kind && ((x.fk == y.fk && x.fn.toList == y.fn.toList) && (x.name.toList == y.name.toList && (x.value.toList == y.value.toList && (x.tk == y.tk && x.tn.toList == y.tn.toList))))
theorem Atm.eqB_iff (x y : Atm) : x.eqB y = true ↔ x = y := by
  obtain ⟨a, b, c, d, e, f, g⟩ := x
  obtain ⟨a', b', c', d', e', f', g'⟩ := y
  unfold Atm.eqB
  simp only [Bool.and_eq_true, str_beq]
  simp [and_assoc]
theorem Atm.eqB_dec (x y : Atm) : x.eqB y = decide (x = y) := by
  by_cases h : x = y
  · rw [decide_eq_true h, (Atm.eqB_iff x y).2 h]
  · rw [decide_eq_false h]
    cases hh : x.eqB y
    · rfl
    · exact absurd ((Atm.eqB_iff x y).1 hh) h
def atV (a : Atm) : Value := .agg #[.int .i64 a.kind, .bool a.fk, .string a.fn, .string a.name, .string a.value, .bool a.tk, .string a.tn]
theorem at_eql (x y : Atm) (w : World) : (Op.equalIn 10000 88 (atV x) (atV y)).run Tryz.prog w = .ok (x.eqB y) w := by
  unfold Atm.eqB atV
  rw [show (10000 : Nat) = 9999 + 1 from rfl, run_equalIn_struct (P := Tryz.prog) w 9999 88 _ _ (by kernel_rfl) (by kernel_rfl)]
  have hf : (Tryz.prog.fieldsOf 88).toList = _ := congrArg Array.toList (show Tryz.prog.fieldsOf 88 = _ by unfold Program.fieldsOf; rw [Tryz.underlying88])
  have hf2 : (Tryz.prog.fieldsOf 86).toList = _ := congrArg Array.toList (show Tryz.prog.fieldsOf 86 = _ by unfold Program.fieldsOf; rw [Tryz.underlying86])
  rw [hf]
  simp [Op.eqFields, go_sem, run_equalIn_int, run_equalIn_string]
  by_cases h1 : x.kind = y.kind
  case neg => simp [h1]
  by_cases h2 : x.fk = y.fk
  case neg => simp [h1, h2]
  by_cases h3 : x.fn.toList = y.fn.toList
  case neg => simp [h1, h2, h3]
  by_cases h4 : x.name.toList = y.name.toList
  case neg => simp [h1, h2, h3, h4]
  by_cases h5 : x.value.toList = y.value.toList
  case neg => simp [h1, h2, h3, h4, h5]
  by_cases h6 : x.tk = y.tk
  case neg => simp [h1, h2, h3, h4, h5, h6]
  by_cases h7 : x.tn.toList = y.tn.toList <;> simp [h1, h2, h3, h4, h5, h6, h7]
theorem at_eqlB (x y : Atm) (w : World) : (binOp .eql 88 (atV x) (atV y)).run Tryz.prog w = .ok (.bool (decide (x = y))) w := by
  rw [← Atm.eqB_dec]
  have h := at_eql x y w
  unfold atV at h ⊢
  rw [run_eql_struct, h]; rfl
theorem at_neqB (x y : Atm) (w : World) : (binOp .neq 88 (atV x) (atV y)).run Tryz.prog w = .ok (.bool (!decide (x = y))) w := by
  rw [← Atm.eqB_dec]
  have h := at_eql x y w
  unfold atV at h ⊢
  rw [run_neq_struct, h]; rfl
/-- May an atom be? -/
def atomB (a : Atm) : Bool :=
  if a.kind = 1 then decide (a.name = nilB) && (decide (a.value = nilB) && (!a.tk && (decide (a.tn = nilB) && wordB a.fn)))
  else if a.kind = 2 then decide (a.value = nilB) && (!a.tk && (decide (a.tn = nilB) && (wordB a.fn && wordB a.name)))
  else if a.kind = 3 then !a.tk && (decide (a.tn = nilB) && (wordB a.fn && (wordB a.name && worthB a.value)))
  else if a.kind = 4 then decide (a.value = nilB) && (wordB a.fn && (wordB a.name && wordB a.tn))
  else false
end Go.Proofs.YtkmbnghghbfkdaaGreat
