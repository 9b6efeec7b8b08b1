/- Readings of rows of tokens that stand behind others. Plain. -/
import Derived.Test.YtngnplghjaojhaaParL2
namespace Go.Proofs.Ytngnplghjaojhaa
set_option maxRecDepth 100000
set_option maxHeartbeats 2000000
set_option linter.unusedSimpArgs false
set_option linter.unusedVariables false

/-- From place o on, us is ts. -/
def SH (us ts : List Tk) (o : Nat) : Prop := ∀ p, us[o + p]? = ts[p]?
theorem SH.pre (pre ts : List Tk) : SH (pre ++ ts) ts pre.length := fun p => by rw [List.getElem?_append_right (by omega), Nat.add_sub_cancel_left]
def shE {α : Type} (o : Nat) (g : α → α) : Except Nat α → Except Nat α
  | .error q => .error (o + q)
  | .ok a => .ok (g a)
theorem bind_sh {α β : Type} {o : Nat} {x : Except Nat α} {g : α → α} {h : β → β} {k k' : α → Except Nat β} (hk : ∀ a, k' (g a) = shE o h (k a)) : (shE o g x).bind k' = shE o h (x.bind k) := by
  cases x with
  | error q => rfl
  | ok a => exact hk a
def s2 {α : Type} (o : Nat) (x : α × Nat) : α × Nat := (x.1, o + x.2)
def s3 {α β : Type} (o : Nat) (x : α × β × Nat) : α × β × Nat := (x.1, x.2.1, o + x.2.2)
def s4 {α β γ : Type} (o : Nat) (x : α × β × γ × Nat) : α × β × γ × Nat := (x.1, x.2.1, x.2.2.1, o + x.2.2.2)
def psS (o : Nat) (st : PS) : PS := ⟨o + st.p, st.atoms, st.vars⟩
section
variable {us ts : List Tk} {o : Nat}
theorem SH.kind (h : SH us ts o) (p : Nat) : kindAt us (o + p) = kindAt ts p := by unfold kindAt; rw [h p]
theorem SH.text (h : SH us ts o) (p : Nat) : textAt us (o + p) = textAt ts p := by
  unfold textAt
  rw [List.getD_eq_getElem?_getD, List.getD_eq_getElem?_getD, h p]
theorem SH.take (h : SH us ts o) (k : Int) (p : Nat) : takeP us k (o + p) = shE o (s2 o) (takeP ts k p) := by
  unfold takeP
  rw [h.kind, h.text]
  split <;> rfl
theorem SH.term (h : SH us ts o) (v : List ByteArray) (p : Nat) : termP us v (o + p) = shE o (s3 o) (termP ts v p) := by
  unfold termP
  rw [h.kind, h.text]
  split
  · rfl
  · split
    · split
      · rfl
      · split <;> rfl
    · rfl
theorem SH.mid (h : SH us ts o) (p : Nat) : midP us (o + p) = shE o (s4 o) (midP ts p) := by
  unfold midP
  rw [h.kind]
  split
  · rw [show o + p + 1 = o + (p + 1) from rfl, h.take]
    exact bind_sh fun a => rfl
  · split
    · rw [show o + p + 1 = o + (p + 1) from rfl, h.take]
      refine bind_sh fun a => ?_
      dsimp only [s2]
      rw [h.take]
      refine bind_sh fun b => ?_
      dsimp only [s2]
      rw [h.take]
      exact bind_sh fun c => rfl
    · rfl
theorem SH.atom (h : SH us ts o) (st : PS) : atomP us (psS o st) = shE o (psS o) (atomP ts st) := by
  unfold atomP
  dsimp only [psS]
  rw [h.term]
  refine bind_sh fun a => ?_
  dsimp only [s3]
  rw [h.mid]
  refine bind_sh fun b => ?_
  dsimp only [s4]
  rw [h.take]
  refine bind_sh fun c => ?_
  dsimp only [s2]
  rw [h.kind]
  by_cases hc : b.1 = 1 ∧ kindAt ts c.2 = 10
  · rw [if_pos hc, if_pos hc]
    by_cases h6 : edgesOf st.atoms = 6
    · simp only [h6, if_true]; rfl
    · simp only [h6, if_false]
      rw [show o + c.2 + 1 = o + (c.2 + 1) from rfl, h.take]
      refine bind_sh fun d => ?_
      dsimp only [s2]
      rw [h.take]
      refine bind_sh fun e => ?_
      dsimp only [s2]
      rw [h.take]
      refine bind_sh fun f => ?_
      dsimp only [s2]
      rw [h.term]
      refine bind_sh fun g => ?_
      dsimp only [s3]
      rw [h.take]
      exact bind_sh fun i => rfl
  · rw [if_neg hc, if_neg hc]; rfl
theorem SH.items (h : SH us ts o) : ∀ (f d : Nat) (st : PS), itemsF us f d (psS o st) = (itemsF ts f d st).map (shE o (psS o))
  | 0, _, _ => rfl
  | f + 1, d, st => by
    have ih := SH.items h f
    have fin : ∀ s1 : PS, (if (psS o s1).atoms.length = 40 ∨ kindAt us (psS o s1).p ≠ 6 then some (.ok (psS o s1)) else itemsF us f d ⟨(psS o s1).p + 1, (psS o s1).atoms, (psS o s1).vars⟩) =
        ((if s1.atoms.length = 40 ∨ kindAt ts s1.p ≠ 6 then some (.ok s1) else itemsF ts f d ⟨s1.p + 1, s1.atoms, s1.vars⟩) : Option (Except Nat PS)).map (shE o (psS o)) := by
      intro s1
      rw [show kindAt us (psS o s1).p = kindAt ts s1.p from h.kind s1.p]
      show (if s1.atoms.length = 40 ∨ kindAt ts s1.p ≠ 6 then _ else itemsF us f d (psS o ⟨s1.p + 1, s1.atoms, s1.vars⟩)) = _
      rw [ih]
      split <;> rfl
    unfold itemsF
    rw [show kindAt us (psS o st).p = kindAt ts st.p from h.kind st.p, show kindAt us ((psS o st).p + 1) = kindAt ts (st.p + 1) from h.kind (st.p + 1),
      show (⟨(psS o st).p + 1, (psS o st).atoms, (psS o st).vars⟩ : PS) = psS o ⟨st.p + 1, st.atoms, st.vars⟩ from rfl, ih, h.atom]
    by_cases h4 : kindAt ts st.p = 4
    · by_cases h44 : kindAt ts (st.p + 1) = 4
      · by_cases hd : d = 4
        · simp only [h4, h44, hd, if_true]; rfl
        · simp only [h4, h44, hd, if_true, if_false]
          cases hi : itemsF ts f (d + 1) ⟨st.p + 1, st.atoms, st.vars⟩ with
          | none => rfl
          | some x =>
            cases x with
            | error q => rfl
            | ok s1 =>
              simp only [Option.map_some, shE]
              have e : ((takeP us 5 (psS o s1).p).bind fun x => (.ok ⟨x.2, s1.atoms, s1.vars⟩ : Except Nat PS)) = shE o (psS o) ((takeP ts 5 s1.p).bind fun x => (.ok ⟨x.2, s1.atoms, s1.vars⟩ : Except Nat PS)) := by
                rw [show (psS o s1).p = o + s1.p from rfl, h.take]
                exact bind_sh fun a => rfl
              rw [show (psS o s1).atoms = s1.atoms from rfl, show (psS o s1).vars = s1.vars from rfl, e]
              cases ((takeP ts 5 s1.p).bind fun x => (.ok ⟨x.2, s1.atoms, s1.vars⟩ : Except Nat PS)) with
              | error q => rfl
              | ok s' => exact fin s'
      · simp only [h4, h44, if_true, if_false]
        cases atomP ts ⟨st.p + 1, st.atoms, st.vars⟩ with
        | error q => rfl
        | ok s' => exact fin s'
    · simp only [h4, if_false]; rfl
theorem SH.var (h : SH us ts o) (v a : List ByteArray) (p : Nat) : varP us v a (o + p) = shE o (s2 o) (varP ts v a p) := by
  unfold varP
  rw [h.take]
  refine bind_sh fun x => ?_
  dsimp only [s2]
  split <;> rfl
theorem SH.ret (h : SH us ts o) (v : List ByteArray) : ∀ k acc p, retP us v k acc (o + p) = shE o (s2 o) (retP ts v k acc p)
  | 0, acc, p => rfl
  | k + 1, acc, p => by
    unfold retP
    rw [h.var]
    refine bind_sh fun x => ?_
    dsimp only [s2]
    rw [h.kind]
    split
    · exact SH.ret h v k _ (x.2 + 1)
    · rfl
theorem SH.hint (h : SH us ts o) (v : List ByteArray) : ∀ k acc p, hintP us v k acc (o + p) = shE o (s2 o) (hintP ts v k acc p)
  | 0, acc, p => rfl
  | k + 1, acc, p => by
    unfold hintP
    rw [h.var]
    refine bind_sh fun x => ?_
    exact SH.hint h v k _ x.2
theorem SH.num (h : SH us ts o) (p : Nat) : numP us (o + p) = shE o (s2 o) (numP ts p) := by
  rw [numP_eq, numP_eq, h.kind, h.text]
  split
  · split <;> rfl
  · rfl
theorem SH.says (h : SH us ts o) (s : ByteArray) (p : Nat) : saysP us s (o + p) = saysP ts s p := by unfold saysP; rw [h.kind, h.text]
theorem SH.told (h : SH us ts o) (st : PS) : toldP us (psS o st) = shE o (s2 o) (toldP ts st) := by
  have e1 : ∀ p, toldRet us st.vars (o + p) = shE o (s2 o) (toldRet ts st.vars p) := fun p => by
    unfold toldRet
    rw [h.says]
    split
    · exact h.ret _ _ _ (p + 1)
    · rfl
  have e2 : ∀ p, toldPage us (o + p) = shE o (s2 o) (toldPage ts p) := fun p => by
    unfold toldPage
    rw [h.says]
    split
    · rw [show o + p + 1 = o + (p + 1) from rfl, h.says]
      split <;> rfl
    · have : (if saysP us wLimit (o + p) = true then (numP us (o + p + 1)).bind fun x => (.ok (true, x.1, x.2) : Except Nat (Bool × Int × Nat)) else .ok (false, 0, o + p)) =
          shE o (s3 o) (if saysP ts wLimit p = true then (numP ts (p + 1)).bind fun x => (.ok (true, x.1, x.2) : Except Nat (Bool × Int × Nat)) else .ok (false, 0, p)) := by
        rw [h.says]
        split
        · rw [show o + p + 1 = o + (p + 1) from rfl, h.num]
          exact bind_sh fun a => rfl
        · rfl
      rw [this]
      refine bind_sh fun a => ?_
      dsimp only [s3]
      have : (if saysP us wOffset (o + a.2.2) = true then (numP us (o + a.2.2 + 1)).bind fun x => (.ok (x.1, x.2) : Except Nat (Int × Nat)) else .ok (0, o + a.2.2)) =
          shE o (s2 o) (if saysP ts wOffset a.2.2 = true then (numP ts (a.2.2 + 1)).bind fun x => (.ok (x.1, x.2) : Except Nat (Int × Nat)) else .ok (0, a.2.2)) := by
        rw [h.says]
        split
        · rw [show o + a.2.2 + 1 = o + (a.2.2 + 1) from rfl, h.num]
          exact bind_sh fun a => rfl
        · rfl
      rw [this]
      exact bind_sh fun a => rfl
  have e3 : ∀ p, toldHint us st.vars (o + p) = shE o (s2 o) (toldHint ts st.vars p) := fun p => by
    unfold toldHint
    rw [h.says]
    split
    · exact h.hint _ _ _ (p + 1)
    · rfl
  unfold toldP
  dsimp only [psS]
  rw [e1]
  refine bind_sh fun a => ?_
  dsimp only [s2]
  rw [e2]
  refine bind_sh fun b => ?_
  dsimp only [s2]
  rw [e3]
  exact bind_sh fun c => rfl
end
end Go.Proofs.Ytngnplghjaojhaa
