/- What is read may be. Plain. -/
import Derived.Test.YtngnplghjaojhaaParY2
import Derived.Test.YtngnplghjaojhaaParZ1
import Derived.Test.YtngnplghjaojhaaLexX6
import Derived.Test.YtngnplghjaojhaaParZ4
import Derived.Test.YtngnplghjaojhaaParD3
namespace Go.Proofs.Ytngnplghjaojhaa
set_option maxRecDepth 100000
set_option maxHeartbeats 2000000
set_option linter.unusedSimpArgs false
set_option linter.unusedVariables false

theorem kindAt_ne {ts : List Tk} {p : Nat} {k : Int} (h : kindAt ts p = k) (hk : k ≠ 0) : ∃ t, ts[p]? = some t ∧ t.check = true ∧ t.kind = k ∧ textAt ts p = t.text := by
  unfold kindAt at h
  split at h
  · exact absurd h.symm hk
  · rename_i t ht
    split at h
    · rename_i hc
      refine ⟨t, ht, hc, h, ?_⟩
      unfold textAt
      simp [List.getD, ht]
    · exact absurd h.symm hk
theorem check_text {k : Int} {l : List UInt8} {a : Int} (h : checkB k l a = true) : rightB k l 0 = true := by
  rw [← right_check] at h
  unfold rightB at h ⊢
  by_cases ha : a < 0
  · rw [if_pos ha] at h; cases h
  · rw [if_neg ha] at h
    rw [if_neg (by omega)]
    exact h
theorem word_at {ts : List Tk} {p : Nat} (h : kindAt ts p = 1 ∨ kindAt ts p = 2) : wordB (textAt ts p) = true := by
  rw [← wordB_all]
  rcases h with h | h
  · obtain ⟨t, _, hc, hk, e⟩ := kindAt_ne h (by decide)
    have := check_text (show checkB t.kind (bts t.text) t.at_ = true from hc)
    rw [hk] at this
    rw [e]
    unfold rightB at this
    simpa using this
  · obtain ⟨t, _, hc, hk, e⟩ := kindAt_ne h (by decide)
    have := check_text (show checkB t.kind (bts t.text) t.at_ = true from hc)
    rw [hk] at this
    rw [e]
    unfold rightB at this
    simpa using this
theorem worth_at {ts : List Tk} {p : Nat} (h : kindAt ts p = 3) : worthB (textAt ts p) = true := by
  rw [← worthB_all]
  obtain ⟨t, _, hc, hk, e⟩ := kindAt_ne h (by decide)
  have := check_text (show checkB t.kind (bts t.text) t.at_ = true from hc)
  rw [hk] at this
  rw [e]
  unfold rightB at this
  simpa using this
theorem word_nil {s : ByteArray} (h : wordB s = true) : s ≠ nilB := by
  rintro rfl
  revert h
  decide +kernel
theorem takeP_text {ts : List Tk} {k : Int} {p q : Nat} {s : ByteArray} (h : takeP ts k p = .ok (s, q)) : kindAt ts p = k ∧ s = textAt ts p := by
  unfold takeP at h
  split at h
  · cases h; exact ⟨by assumption, rfl⟩
  · cases h
theorem termP_vars {ts : List Tk} {vars vars' : List ByteArray} {p q : Nat} {t : Bool × ByteArray} (h : termP ts vars p = .ok (t, vars', q)) : vars' = termS vars t ∧ wordB t.2 = true := by
  unfold termP at h
  split at h
  · rename_i h2
    cases h
    exact ⟨by unfold termS; simp, word_at (.inr h2)⟩
  · split at h
    · rename_i h1
      split at h
      · rename_i hb
        cases h
        exact ⟨by unfold termS; rw [if_pos (.inr (.inr hb))], word_at (.inl h1)⟩
      · split at h
        · cases h
        · rename_i hb _
          cases h
          have hw := word_at (.inl h1)
          refine ⟨?_, hw⟩
          unfold termS
          rw [if_neg]
          rintro (h | h | h)
          · cases h
          · exact word_nil hw h
          · exact hb h
    · cases h
theorem midP_text {ts : List Tk} {p q : Nat} {k : Int} {s v : ByteArray} (h : midP ts p = .ok (k, s, v, q)) : (k = 1 ∧ s = nilB ∧ v = nilB) ∨ (k = 2 ∧ wordB s = true ∧ v = nilB) ∨ (k = 3 ∧ wordB s = true ∧ worthB v = true) := by
  unfold midP at h
  split at h
  · obtain ⟨⟨_, q1⟩, h1, h2⟩ := bind_ok h
    have := takeP_text h1
    cases h2
    exact .inr (.inl ⟨rfl, by rw [this.2]; exact word_at (.inl this.1), rfl⟩)
  · split at h
    · obtain ⟨⟨_, q1⟩, h1, h2⟩ := bind_ok h
      obtain ⟨⟨_, q2⟩, h3, h4⟩ := bind_ok h2
      obtain ⟨⟨_, q3⟩, h5, h6⟩ := bind_ok h4
      have a := takeP_text h1
      have b := takeP_text h5
      cases h6
      exact .inr (.inr ⟨rfl, by rw [a.2]; exact word_at (.inl a.1), by rw [b.2]; exact worth_at b.1⟩)
    · cases h
      exact .inl ⟨rfl, rfl, rfl⟩
/-- What has been read may be so far. -/
def InvA (a : List Atm) (v : List ByteArray) : Prop := varsS a = v ∧ a.all atomB = true
theorem varsS_snoc (l : List Atm) (a : Atm) : varsS (l ++ [a]) = termS (termS (varsS l) (a.fk, a.fn)) (a.tk, a.tn) := by
  unfold varsS
  rw [List.foldl_append]
  rfl
theorem termS_nil (T : List ByteArray) (b : Bool) : termS T (b, nilB) = T := by unfold termS; simp
theorem InvA.snoc {l : List Atm} {v : List ByteArray} {a : Atm} (h : InvA l v) (ha : atomB a = true) : InvA (l ++ [a]) (termS (termS v (a.fk, a.fn)) (a.tk, a.tn)) := by
  refine ⟨by rw [varsS_snoc, h.1], ?_⟩
  rw [List.all_append, h.2]
  simp [ha]
theorem atomP_inv {ts : List Tk} {st s : PS} (h : atomP ts st = .ok s) : st.atoms.length < s.atoms.length ∧ (InvA st.atoms st.vars → InvA s.atoms s.vars) := by
  unfold atomP at h
  obtain ⟨⟨f, v1, p1⟩, h1, h2⟩ := bind_ok h
  obtain ⟨⟨k, n, v, p2⟩, h3, h4⟩ := bind_ok h2
  obtain ⟨⟨_, p3⟩, h5, h6⟩ := bind_ok h4
  obtain ⟨e1, l1⟩ := termP_vars h1
  have e3 := midP_text h3
  dsimp only at h6
  split at h6
  · split at h6
    · cases h6
    · obtain ⟨⟨n4, p4⟩, a1, h7⟩ := bind_ok h6
      obtain ⟨⟨_, p5⟩, a2, h8⟩ := bind_ok h7
      obtain ⟨⟨_, p6⟩, a3, h9⟩ := bind_ok h8
      obtain ⟨⟨t, v2, p7⟩, a4, h10⟩ := bind_ok h9
      obtain ⟨⟨_, p8⟩, a5, h11⟩ := bind_ok h10
      have b1 := takeP_text a1
      obtain ⟨b4, l4⟩ := termP_vars a4
      cases h11
      refine ⟨by simp, fun hi => ?_⟩
      have := hi.snoc (a := ⟨4, f.1, f.2, n4, nilB, t.1, t.2⟩) (by unfold atomB; simp [l1, l4, b1.2, word_at (.inl b1.1)])
      dsimp only at this ⊢
      rw [b4, e1]
      exact this
  · cases h6
    refine ⟨by simp, fun hi => ?_⟩
    have := hi.snoc (a := ⟨k, f.1, f.2, n, v, false, nilB⟩) (by
      rcases e3 with ⟨rfl, rfl, rfl⟩ | ⟨rfl, hw, rfl⟩ | ⟨rfl, hw, hw'⟩
      · unfold atomB; simp [l1]
      · unfold atomB; simp [l1, hw]
      · unfold atomB; simp [l1, hw, hw'])
    dsimp only at this ⊢
    rw [termS_nil] at this
    rw [e1]
    exact this
/-- What each atom keeps, all items keep. -/
theorem itemsF_keep {ts : List Tk} {R : List Atm × List ByteArray → List Atm × List ByteArray → Prop} (ht : ∀ a b c, R a b → R b c → R a c)
    (ha : ∀ st s, atomP ts st = .ok s → R (st.atoms, st.vars) (s.atoms, s.vars)) : ∀ (f d : Nat) (st s : PS), itemsF ts f d st = some (.ok s) → R (st.atoms, st.vars) (s.atoms, s.vars)
  | 0, _, _, _, h => by simp [itemsF] at h
  | f + 1, d, st, s, h => by
    have ih := itemsF_keep ht ha f
    have fin : ∀ s1 : PS, R (st.atoms, st.vars) (s1.atoms, s1.vars) → (if s1.atoms.length = 40 ∨ kindAt ts s1.p ≠ 6 then some (.ok s1) else itemsF ts f d ⟨s1.p + 1, s1.atoms, s1.vars⟩) = some (.ok s) → R (st.atoms, st.vars) (s.atoms, s.vars) := by
      intro s1 h1 h4
      split at h4
      · cases h4; exact h1
      · exact ht _ _ _ h1 (ih d ⟨s1.p + 1, s1.atoms, s1.vars⟩ s h4)
    unfold itemsF at h
    by_cases h4 : kindAt ts st.p = 4
    · by_cases h44 : kindAt ts (st.p + 1) = 4
      · by_cases hd : d = 4
        · simp [h4, h44, hd] at h
        · simp only [h4, h44, hd, if_true, if_false] at h
          cases hi : itemsF ts f (d + 1) ⟨st.p + 1, st.atoms, st.vars⟩ with
          | none => rw [hi] at h; simp at h
          | some x =>
            rw [hi] at h
            cases x with
            | error q => simp at h
            | ok s1 =>
              have g := ih (d + 1) ⟨st.p + 1, st.atoms, st.vars⟩ s1 hi
              cases hb2 : ((takeP ts 5 s1.p).bind fun (_, p) => (.ok ⟨p, s1.atoms, s1.vars⟩ : Except Nat PS)) with
              | error q => simp only [hb2] at h; cases h
              | ok s' =>
                simp only [hb2] at h
                obtain ⟨⟨_, q1⟩, c1, c2⟩ := bind_ok hb2
                cases c2
                exact fin ⟨q1, s1.atoms, s1.vars⟩ g h
      · simp only [h4, h44, if_true, if_false] at h
        cases hat : atomP ts ⟨st.p + 1, st.atoms, st.vars⟩ with
        | error q => simp only [hat] at h; cases h
        | ok s' =>
          simp only [hat] at h
          exact fin _ (ha ⟨st.p + 1, st.atoms, st.vars⟩ s' hat) h
    · simp [h4] at h
theorem ItemsR.inv {ts : List Tk} {d : Nat} {st s : PS} (h : ItemsR ts d st (.ok s)) : st.atoms.length < s.atoms.length ∧ (InvA st.atoms st.vars → InvA s.atoms s.vars) := by
  obtain ⟨f, hf⟩ := h
  exact itemsF_keep (R := fun a b => a.1.length < b.1.length ∧ (InvA a.1 a.2 → InvA b.1 b.2)) (fun a b c h h' => ⟨by omega, fun x => h'.2 (h.2 x)⟩) (fun st s h => atomP_inv h) f d st s hf
theorem chosenG_snoc (vars : List ByteArray) (s : ByteArray) : ∀ (l seen : List ByteArray), chosenG vars seen (l ++ [s]) = (chosenG vars seen l && (hasB s vars && !hasB s (seen ++ l)))
  | [], seen => by simp [chosenG]
  | x :: l, seen => by
    rw [List.cons_append]
    unfold chosenG
    rw [chosenG_snoc vars s l (seen ++ [x]), List.append_assoc]
    simp [Bool.and_assoc]
theorem varP_chosen {ts : List Tk} {vars acc acc' : List ByteArray} {p q : Nat} (h : varP ts vars acc p = .ok (acc', q)) (hc : chosenB vars acc = true) : chosenB vars acc' = true ∧ acc'.length = acc.length + 1 := by
  rcases varP_cases ts vars acc p with ⟨_, e⟩ | ⟨_, _, e⟩ | ⟨_, h1, h2, e⟩
  · rw [e] at h; cases h
  · rw [e] at h; cases h
  · rw [e] at h
    cases h
    refine ⟨?_, by simp⟩
    unfold chosenB at hc ⊢
    rw [chosenG_snoc, hc, hasB_iff.2 h1]
    simp [hasB_no.2 h2]
theorem retP_chosen {ts : List Tk} {vars : List ByteArray} : ∀ (k : Nat) (acc acc' : List ByteArray) (p q : Nat), retP ts vars k acc p = .ok (acc', q) → chosenB vars acc = true → chosenB vars acc' = true
  | 0, acc, acc', p, q, h, hc => by unfold retP at h; cases h; exact hc
  | k + 1, acc, acc', p, q, h, hc => by
    unfold retP at h
    obtain ⟨⟨a1, p1⟩, h1, h2⟩ := bind_ok h
    have := (varP_chosen h1 hc).1
    dsimp only at h2
    split at h2
    · exact retP_chosen k _ _ _ _ h2 this
    · cases h2; exact this
theorem hintP_chosen {ts : List Tk} {vars : List ByteArray} : ∀ (k : Nat) (acc acc' : List ByteArray) (p q : Nat), hintP ts vars k acc p = .ok (acc', q) → chosenB vars acc = true → chosenB vars acc' = true ∧ acc'.length = acc.length + k
  | 0, acc, acc', p, q, h, hc => by unfold hintP at h; cases h; exact ⟨hc, rfl⟩
  | k + 1, acc, acc', p, q, h, hc => by
    unfold hintP at h
    obtain ⟨⟨a1, p1⟩, h1, h2⟩ := bind_ok h
    have := varP_chosen h1 hc
    have h3 := hintP_chosen k _ _ _ _ h2 this.1
    exact ⟨h3.1, by omega⟩
theorem numL_bd : ∀ (l : List UInt8) (n m : Int), 0 ≤ n → n ≤ 2147483647 → numL n l = some m → 0 ≤ m ∧ m ≤ 2147483647
  | [], n, m, h0, h1, h => by unfold numL at h; cases h; exact ⟨h0, h1⟩
  | c :: l, n, m, h0, h1, h => by
    unfold numL at h
    split at h
    · exact numL_bd l _ m (by omega) (by omega) h
    · cases h
theorem numP_bd {ts : List Tk} {p q : Nat} {n : Int} (h : numP ts p = .ok (n, q)) : numB n = true := by
  unfold numP at h
  obtain ⟨⟨_, p1⟩, h1, h2⟩ := bind_ok h
  dsimp only at h2
  split at h2
  · cases h2
  · rename_i m hm
    cases h2
    have : 0 ≤ n ∧ n ≤ 2147483647 := by
      unfold Tk.number numberF at hm
      split at hm
      · cases hm
      · exact numL_bd _ 0 n (by omega) (by omega) hm
    unfold numB
    simp [this.1, this.2]
theorem toldPage_ok {ts : List Tk} {p q : Nat} {c d l : Bool} {n m : Int} (h : toldPage ts p = .ok ((c, d, l, n, m), q)) : countedP c d l m = true ∧ pagedP l n m = true := by
  unfold toldPage at h
  split at h
  · split at h
    · cases h; exact ⟨rfl, rfl⟩
    · cases h; exact ⟨rfl, rfl⟩
  · obtain ⟨⟨l1, n1, p1⟩, h1, h2⟩ := bind_ok h
    obtain ⟨⟨m1, p2⟩, h3, h4⟩ := bind_ok h2
    cases h4
    have hn : numB n = true ∧ (l || decide (n = 0)) = true := by
      split at h1
      · obtain ⟨⟨n2, p3⟩, g1, g2⟩ := bind_ok h1
        cases g2
        exact ⟨numP_bd g1, rfl⟩
      · cases h1
        exact ⟨rfl, rfl⟩
    have hm : numB m = true := by
      split at h3
      · obtain ⟨⟨n2, p3⟩, g1, g2⟩ := bind_ok h3
        cases g2
        exact numP_bd g1
      · cases h3
        rfl
    exact ⟨by unfold countedP; simp, by unfold pagedP; rw [hn.1, hn.2, hm]; rfl⟩
/-- What is read may be. -/
theorem ToksR.okB {ts : List Tk} {P : Pat} (h : ToksR ts (.ok P)) : P.okB = true := by
  obtain ⟨x, hi, he⟩ := h
  obtain ⟨st, rfl, h1⟩ := bind_ok he.symm
  obtain ⟨⟨P1, p1⟩, h2, h3⟩ := bind_ok h1
  have hP : P1 = P := by
    dsimp only at h3
    split at h3
    · cases h3
    · cases h3; rfl
  subst hP
  obtain ⟨_, ⟨b1, b2⟩, b3⟩ := hi.good ⟨by simp, by simp [edgesOf]⟩ (by simp)
  obtain ⟨c1, c2⟩ := hi.inv
  obtain ⟨d1, d2⟩ := c2 ⟨rfl, rfl⟩
  unfold toldP at h2
  obtain ⟨⟨r, p2⟩, g1, h4⟩ := bind_ok h2
  obtain ⟨⟨g, p3⟩, g2, h5⟩ := bind_ok h4
  obtain ⟨⟨k, p4⟩, g3, h6⟩ := bind_ok h5
  cases h6
  obtain ⟨c, d, l, n, m⟩ := g
  obtain ⟨e1, e2⟩ := toldPage_ok g2
  have hr : chosenB st.vars r = true := by
    unfold toldRet at g1
    split at g1
    · exact retP_chosen _ _ _ _ _ g1 rfl
    · cases g1; rfl
  have hk : chosenB st.vars k = true ∧ (k.length = 0 ∨ k.length = st.vars.length) := by
    unfold toldHint at g3
    split at g3
    · have := hintP_chosen _ _ _ _ _ g3 rfl
      exact ⟨this.1, .inr (by simpa using this.2)⟩
    · cases g3; exact ⟨rfl, .inl rfl⟩
  unfold Pat.okB
  dsimp only
  rw [d1, d2, e1, e2]
  have s1 : sizesP st.atoms.length (edgesOf st.atoms) st.vars.length = true := by
    unfold sizesP
    simp at c1
    simp
    omega
  have s2 : namedP st.vars r k = true := by
    unfold namedP
    rw [hr, hk.1]
    simpa using hk.2
  rw [s1, s2]
  rfl
end Go.Proofs.Ytngnplghjaojhaa

/- What stands behind the first wrong token changes nothing. Plain. -/
namespace Go.Proofs.Ytngnplghjaojhaa
set_option maxRecDepth 100000
set_option maxHeartbeats 2000000
set_option linter.unusedSimpArgs false
set_option linter.unusedVariables false

/-- The first n tokens are the same. -/
def Agree (ts us : List Tk) (n : Nat) : Prop := ∀ i, i < n → ts[i]? = us[i]?
theorem Agree.le {ts us : List Tk} {n m : Nat} (h : Agree ts us n) (hm : m ≤ n) : Agree ts us m := fun i hi => h i (by omega)
theorem kindAt_same {ts us : List Tk} {p : Nat} (h : ts[p]? = us[p]?) : kindAt us p = kindAt ts p := by unfold kindAt; rw [h]
theorem textAt_same {ts us : List Tk} {p : Nat} (h : ts[p]? = us[p]?) : textAt us p = textAt ts p := by
  unfold textAt
  rw [List.getD_eq_getElem?_getD, List.getD_eq_getElem?_getD, h]
theorem saysP_same {ts us : List Tk} {p : Nat} (h : ts[p]? = us[p]?) (s : ByteArray) : saysP us s p = saysP ts s p := by unfold saysP; rw [kindAt_same h, textAt_same h]
theorem saysP_lt {ts : List Tk} {p : Nat} {s : ByteArray} (h : saysP ts s p = true) : p < ts.length := by
  unfold saysP at h
  simp at h
  exact kindAt_lt (by rw [h.1]; decide)
/-- How far a reading has come. -/
def reach {α : Type} (f : α → Nat) : Except Nat α → Nat
  | .error q => q
  | .ok a => f a
/-- A reading from p on looks no further than one token behind where it comes to. -/
structure Loc {α : Type} (f : α → Nat) (ts : List Tk) (p : Nat) (g : List Tk → Except Nat α) : Prop where
  ge : p ≤ reach f (g ts)
  le : p ≤ ts.length → reach f (g ts) ≤ ts.length
  eq : ∀ us, Agree ts us (reach f (g ts) + 1) → g us = g ts
theorem Loc.one {α : Type} {f : α → Nat} {ts : List Tk} {p : Nat} {g : List Tk → Except Nat α} (he : ∀ us, ts[p]? = us[p]? → g us = g ts)
    (hr : g ts = .error p ∨ ∃ a, g ts = .ok a ∧ (f a = p ∨ f a = p + 1 ∧ p < ts.length)) : Loc f ts p g := by
  have hp : p ≤ reach f (g ts) := by
    rcases hr with e | ⟨a, e, h | h⟩ <;> rw [e] <;> simp only [reach] <;> omega
  refine ⟨hp, fun hl => ?_, fun us h => he us (h p (by omega))⟩
  rcases hr with e | ⟨a, e, h | h⟩ <;> rw [e] <;> simp only [reach] <;> omega
theorem Loc.pure {α : Type} {f : α → Nat} {ts : List Tk} {p : Nat} {a : α} (h : f a = p) : Loc f ts p (fun _ => .ok a) := .one (fun _ _ => rfl) (.inr ⟨a, rfl, .inl h⟩)
theorem Loc.err {α : Type} {f : α → Nat} {ts : List Tk} {p : Nat} : Loc f ts p (fun _ => .error p) := .one (fun _ _ => rfl) (.inl rfl)
theorem Loc.up {α : Type} {f : α → Nat} {ts : List Tk} {p : Nat} {g : List Tk → Except Nat α} (h : Loc f ts (p + 1) g) (hp : p < ts.length) : Loc f ts p g :=
  ⟨by have := h.ge; omega, fun _ => h.le hp, h.eq⟩
theorem Loc.bind {α β : Type} {f : α → Nat} {h : β → Nat} {ts : List Tk} {p : Nat} {g : List Tk → Except Nat α} {k : List Tk → α → Except Nat β} (A : Loc f ts p g)
    (B : ∀ a, g ts = .ok a → Loc h ts (f a) (fun us => k us a)) : Loc h ts p (fun us => (g us).bind (k us)) := by
  cases e : g ts with
  | error q =>
    have h0 : (g ts).bind (k ts) = .error q := by rw [e]; rfl
    have a1 := A.ge
    have a2 := A.le
    have a3 := A.eq
    rw [e] at a1 a2 a3
    refine ⟨?_, ?_, fun us hu => ?_⟩
    · show p ≤ reach h ((g ts).bind (k ts)); rw [h0]; exact a1
    · show _ → reach h ((g ts).bind (k ts)) ≤ _; rw [h0]; exact a2
    · have hu' : Agree ts us (reach h ((g ts).bind (k ts)) + 1) := hu
      rw [h0] at hu'
      show (g us).bind (k us) = (g ts).bind (k ts)
      rw [h0, a3 us hu']; rfl
  | ok a =>
    have h0 : (g ts).bind (k ts) = k ts a := by rw [e]; rfl
    have b := B a e
    have a1 := A.ge
    have a2 := A.le
    have a3 := A.eq
    rw [e] at a1 a2 a3
    have b1 := b.ge
    have b2 := b.le
    have b3 := b.eq
    simp only [reach] at a1 a2 a3
    refine ⟨?_, ?_, fun us hu => ?_⟩
    · show p ≤ reach h ((g ts).bind (k ts)); rw [h0]; omega
    · show _ → reach h ((g ts).bind (k ts)) ≤ _; rw [h0]; exact fun hp => b2 (a2 hp)
    · have hu' : Agree ts us (reach h ((g ts).bind (k ts)) + 1) := hu
      rw [h0] at hu'
      show (g us).bind (k us) = (g ts).bind (k ts)
      rw [h0, a3 us (hu'.le (by omega))]
      exact b3 us hu'
theorem Loc.ite {α : Type} {f : α → Nat} {ts : List Tk} {p : Nat} {a b : List Tk → Except Nat α} (c : List Tk → Prop) [∀ us, Decidable (c us)] (hc : ∀ us, ts[p]? = us[p]? → (c us ↔ c ts))
    (A : c ts → Loc f ts p a) (B : ¬ c ts → Loc f ts p b) : Loc f ts p (fun us => if c us then a us else b us) := by
  by_cases h : c ts
  · have l := A h
    have e0 : (if c ts then a ts else b ts) = a ts := if_pos h
    refine ⟨?_, ?_, fun us hu => ?_⟩
    · show p ≤ reach f (if c ts then a ts else b ts); rw [e0]; exact l.ge
    · show _ → reach f (if c ts then a ts else b ts) ≤ _; rw [e0]; exact l.le
    · have hu' : Agree ts us (reach f (if c ts then a ts else b ts) + 1) := hu
      rw [e0] at hu'
      show (if c us then a us else b us) = (if c ts then a ts else b ts)
      have := l.ge
      rw [e0, if_pos ((hc us (hu' p (by omega))).2 h)]
      exact l.eq us hu'
  · have l := B h
    have e0 : (if c ts then a ts else b ts) = b ts := if_neg h
    refine ⟨?_, ?_, fun us hu => ?_⟩
    · show p ≤ reach f (if c ts then a ts else b ts); rw [e0]; exact l.ge
    · show _ → reach f (if c ts then a ts else b ts) ≤ _; rw [e0]; exact l.le
    · have hu' : Agree ts us (reach f (if c ts then a ts else b ts) + 1) := hu
      rw [e0] at hu'
      show (if c us then a us else b us) = (if c ts then a ts else b ts)
      have := l.ge
      rw [e0, if_neg (fun x => h ((hc us (hu' p (by omega))).1 x))]
      exact l.eq us hu'
theorem Loc.take {ts : List Tk} {p : Nat} (k : Int) (hk : k ≠ 0) : Loc (·.2) ts p (fun us => takeP us k p) := by
  refine .one (fun us h => by unfold takeP; rw [kindAt_same h, textAt_same h]) ?_
  show takeP ts k p = _ ∨ ∃ a, takeP ts k p = _ ∧ _
  unfold takeP
  by_cases h : kindAt ts p = k
  · rw [if_pos h]; exact .inr ⟨_, rfl, .inr ⟨rfl, kindAt_lt (by rw [h]; exact hk)⟩⟩
  · rw [if_neg h]; exact .inl rfl
theorem Loc.term {ts : List Tk} {p : Nat} (vars : List ByteArray) : Loc (·.2.2) ts p (fun us => termP us vars p) := by
  refine .one (fun us h => by unfold termP; rw [kindAt_same h, textAt_same h]) ?_
  show termP ts vars p = _ ∨ ∃ a, termP ts vars p = _ ∧ _
  unfold termP
  by_cases h2 : kindAt ts p = 2
  · rw [if_pos h2]; exact .inr ⟨_, rfl, .inr ⟨rfl, kindAt_lt (by rw [h2]; decide)⟩⟩
  · rw [if_neg h2]
    by_cases h1 : kindAt ts p = 1
    · have hl := kindAt_lt (ts := ts) (p := p) (by rw [h1]; decide)
      rw [if_pos h1]
      split
      · exact .inr ⟨_, rfl, .inr ⟨rfl, hl⟩⟩
      · split
        · exact .inl rfl
        · exact .inr ⟨_, rfl, .inr ⟨rfl, hl⟩⟩
    · rw [if_neg h1]; exact .inl rfl
theorem Loc.var {ts : List Tk} {p : Nat} (vars acc : List ByteArray) : Loc (·.2) ts p (fun us => varP us vars acc p) := by
  refine .one (fun us h => by unfold varP takeP; rw [kindAt_same h, textAt_same h]) ?_
  show varP ts vars acc p = _ ∨ ∃ a, varP ts vars acc p = _ ∧ _
  rcases varP_cases ts vars acc p with ⟨_, e⟩ | ⟨_, _, e⟩ | ⟨h, _, _, e⟩
  · exact .inl e
  · exact .inl e
  · exact .inr ⟨_, e, .inr ⟨rfl, kindAt_lt (by rw [h]; decide)⟩⟩
theorem Loc.num {ts : List Tk} {p : Nat} : Loc (·.2) ts p (fun us => numP us p) := by
  refine .one (fun us h => by
    unfold numP takeP
    rw [kindAt_same h, textAt_same h, show us.getD p tkNil = ts.getD p tkNil from by rw [List.getD_eq_getElem?_getD, List.getD_eq_getElem?_getD, h]]) ?_
  show numP ts p = _ ∨ ∃ a, numP ts p = _ ∧ _
  unfold numP takeP
  by_cases h : kindAt ts p = 1
  · have hl := kindAt_lt (ts := ts) (p := p) (by rw [h]; decide)
    rw [if_pos h]
    simp only [Except.bind]
    cases (ts.getD p tkNil).number with
    | none => exact .inl rfl
    | some n => exact .inr ⟨_, rfl, .inr ⟨rfl, hl⟩⟩
  · rw [if_neg h]; exact .inl rfl
theorem Loc.mid {ts : List Tk} {p : Nat} : Loc (·.2.2.2) ts p (fun us => midP us p) := by
  unfold midP
  refine .ite (fun us => kindAt us p = 7) (fun us h => by rw [kindAt_same h]) (fun h => .up ?_ (kindAt_lt (by rw [h]; decide))) (fun _ => ?_)
  · refine .bind (.take 1 (by decide)) ?_
    rintro ⟨s, q⟩ _
    exact .pure rfl
  · refine .ite (fun us => kindAt us p = 8) (fun us h => by rw [kindAt_same h]) (fun h => .up ?_ (kindAt_lt (by rw [h]; decide))) (fun _ => .pure rfl)
    refine .bind (.take 1 (by decide)) ?_
    rintro ⟨s, q⟩ _
    refine .bind (.take 9 (by decide)) ?_
    rintro ⟨_, q2⟩ _
    refine .bind (.take 3 (by decide)) ?_
    rintro ⟨v, q3⟩ _
    exact .pure rfl
theorem Loc.atom {ts : List Tk} (st : PS) : Loc PS.p ts st.p (fun us => atomP us st) := by
  unfold atomP
  refine .bind (.term st.vars) ?_
  rintro ⟨f, v1, p1⟩ _
  refine .bind .mid ?_
  rintro ⟨k, s, v, p2⟩ _
  refine .bind (.take 5 (by decide)) ?_
  rintro ⟨_, p3⟩ _
  refine .ite (fun us => k = 1 ∧ kindAt us p3 = 10) (fun us h => by rw [kindAt_same h]) (fun h => ?_) (fun _ => .pure rfl)
  by_cases h6 : edgesOf st.atoms = 6
  · simp only [h6, if_true]; exact .err
  · simp only [h6, if_false]
    refine .up ?_ (kindAt_lt (by rw [h.2]; decide))
    refine .bind (.take 1 (by decide)) ?_
    rintro ⟨s4, p4⟩ _
    refine .bind (.take 11 (by decide)) ?_
    rintro ⟨_, p5⟩ _
    refine .bind (.take 4 (by decide)) ?_
    rintro ⟨_, p6⟩ _
    refine .bind (.term v1) ?_
    rintro ⟨t, v2, p7⟩ _
    refine .bind (.take 5 (by decide)) ?_
    rintro ⟨_, p8⟩ _
    exact .pure rfl
theorem Loc.ret {ts : List Tk} (vars : List ByteArray) : ∀ (k : Nat) (acc : List ByteArray) (p : Nat), Loc (·.2) ts p (fun us => retP us vars k acc p)
  | 0, acc, p => by unfold retP; exact .pure rfl
  | k + 1, acc, p => by
    unfold retP
    refine .bind (.var vars acc) ?_
    rintro ⟨a1, p1⟩ _
    exact .ite (fun us => k ≠ 0 ∧ kindAt us p1 = 6) (fun us h => by rw [kindAt_same h]) (fun h => .up (Loc.ret vars k a1 (p1 + 1)) (kindAt_lt (by rw [h.2]; decide))) (fun _ => .pure rfl)
theorem Loc.hint {ts : List Tk} (vars : List ByteArray) : ∀ (k : Nat) (acc : List ByteArray) (p : Nat), Loc (·.2) ts p (fun us => hintP us vars k acc p)
  | 0, acc, p => by unfold hintP; exact .pure rfl
  | k + 1, acc, p => by
    unfold hintP
    refine .bind (.var vars acc) ?_
    rintro ⟨a1, p1⟩ _
    exact Loc.hint vars k a1 p1
theorem Loc.page {ts : List Tk} {p : Nat} : Loc (·.2) ts p (fun us => toldPage us p) := by
  unfold toldPage
  refine .ite (fun us => saysP us wCount p = true) (fun us h => by rw [saysP_same h]) (fun h => .up ?_ (saysP_lt h)) (fun _ => ?_)
  · exact .ite (fun us => saysP us wDistinct (p + 1) = true) (fun us h => by rw [saysP_same h]) (fun h => .up (.pure rfl) (saysP_lt h)) (fun _ => .pure rfl)
  · refine .bind (f := fun x => x.2.2) (.ite (fun us => saysP us wLimit p = true) (fun us h => by rw [saysP_same h]) (fun h => .up ?_ (saysP_lt h)) (fun _ => .pure rfl)) ?_
    · refine .bind .num ?_
      rintro ⟨n, q⟩ _
      exact .pure rfl
    · rintro ⟨l, n, q⟩ _
      refine .bind (f := fun x => x.2) (.ite (fun us => saysP us wOffset q = true) (fun us h => by rw [saysP_same h]) (fun h => .up ?_ (saysP_lt h)) (fun _ => .pure rfl)) ?_
      · refine .bind .num ?_
        rintro ⟨n, q⟩ _
        exact .pure rfl
      · rintro ⟨m, q⟩ _
        exact .pure rfl
theorem Loc.tret {ts : List Tk} {p : Nat} (vars : List ByteArray) : Loc (·.2) ts p (fun us => toldRet us vars p) := by
  unfold toldRet
  exact .ite (fun us => vars ≠ [] ∧ saysP us wReturn p = true) (fun us h => by rw [saysP_same h]) (fun h => .up (.ret _ _ _ _) (saysP_lt h.2)) (fun _ => .pure rfl)
theorem Loc.thint {ts : List Tk} {p : Nat} (vars : List ByteArray) : Loc (·.2) ts p (fun us => toldHint us vars p) := by
  unfold toldHint
  exact .ite (fun us => vars ≠ [] ∧ saysP us wHint p = true) (fun us h => by rw [saysP_same h]) (fun h => .up (.hint _ _ _ _) (saysP_lt h.2)) (fun _ => .pure rfl)
theorem Loc.told {ts : List Tk} (st : PS) : Loc (·.2) ts st.p (fun us => toldP us st) := by
  unfold toldP
  refine .bind (.tret st.vars) ?_
  rintro ⟨r, p1⟩ _
  refine .bind .page ?_
  rintro ⟨g, p2⟩ _
  refine .bind (.thint st.vars) ?_
  rintro ⟨h, p3⟩ _
  exact .pure rfl
theorem itemsF_loc {ts : List Tk} : ∀ (f d : Nat) (st : PS) (r : Except Nat PS), itemsF ts f d st = some r → st.p ≤ reach PS.p r ∧ (st.p ≤ ts.length → reach PS.p r ≤ ts.length) ∧ ∀ us, Agree ts us (reach PS.p r + 1) → itemsF us f d st = some r
  | 0, _, _, _, h => by simp [itemsF] at h
  | f + 1, d, st, r, h => by
    have ih := itemsF_loc (ts := ts) f
    unfold itemsF at h
    have fin : ∀ s1 : PS, st.p ≤ s1.p → (st.p ≤ ts.length → s1.p ≤ ts.length) → (if s1.atoms.length = 40 ∨ kindAt ts s1.p ≠ 6 then some (.ok s1) else itemsF ts f d ⟨s1.p + 1, s1.atoms, s1.vars⟩) = some r →
        st.p ≤ reach PS.p r ∧ (st.p ≤ ts.length → reach PS.p r ≤ ts.length) ∧ s1.p ≤ reach PS.p r ∧ ∀ us, Agree ts us (reach PS.p r + 1) → (if s1.atoms.length = 40 ∨ kindAt us s1.p ≠ 6 then some (.ok s1) else itemsF us f d ⟨s1.p + 1, s1.atoms, s1.vars⟩) = some r := by
      intro s1 h1 h2 h3
      by_cases hc : s1.atoms.length = 40 ∨ kindAt ts s1.p ≠ 6
      · rw [if_pos hc] at h3
        cases h3
        refine ⟨h1, h2, Nat.le_refl _, fun us hu => ?_⟩
        rw [kindAt_same (hu s1.p (by simp only [reach]; omega)), if_pos hc]
      · rw [if_neg hc] at h3
        obtain ⟨g1, g2, g3⟩ := ih d ⟨s1.p + 1, s1.atoms, s1.vars⟩ r h3
        dsimp only at g1 g2
        have hlt : s1.p < ts.length := kindAt_lt (by
          intro e
          exact hc (.inr (by rw [e]; decide)))
        refine ⟨by omega, fun _ => g2 hlt, by omega, fun us hu => ?_⟩
        rw [kindAt_same (hu s1.p (by omega)), if_neg hc]
        exact g3 us hu
    by_cases h4 : kindAt ts st.p = 4
    · have hl4 : st.p < ts.length := kindAt_lt (by rw [h4]; decide)
      by_cases h44 : kindAt ts (st.p + 1) = 4
      · have hl44 : st.p + 1 < ts.length := kindAt_lt (by rw [h44]; decide)
        by_cases hd : d = 4
        · simp only [h4, h44, hd, if_true] at h
          cases h
          refine ⟨by simp only [reach]; omega, fun _ => by simp only [reach]; omega, fun us hu => ?_⟩
          have e1 := kindAt_same (hu st.p (by simp only [reach]; omega))
          have e2 := kindAt_same (hu (st.p + 1) (by simp only [reach]; omega))
          unfold itemsF
          simp only [e1, e2, h4, h44, hd, if_true]
        · simp only [h4, h44, hd, if_true, if_false] at h
          cases hi : itemsF ts f (d + 1) ⟨st.p + 1, st.atoms, st.vars⟩ with
          | none => rw [hi] at h; simp at h
          | some x =>
            obtain ⟨g1, g2, g3⟩ := ih (d + 1) ⟨st.p + 1, st.atoms, st.vars⟩ x hi
            dsimp only at g1 g2
            rw [hi] at h
            cases x with
            | error q =>
              simp only [] at h
              cases h
              refine ⟨by simp only [reach] at *; omega, fun _ => g2 (by omega), fun us hu => ?_⟩
              simp only [reach] at g1
              have e1 := kindAt_same (hu st.p (by simp only [reach]; omega))
              have e2 := kindAt_same (hu (st.p + 1) (by simp only [reach]; omega))
              unfold itemsF
              simp only [e1, e2, h4, h44, hd, if_true, if_false, g3 us hu]
            | ok s1 =>
              simp only [reach] at g1 g2
              have T := Loc.bind (h := PS.p) (k := fun _ (x : ByteArray × Nat) => (.ok ⟨x.2, s1.atoms, s1.vars⟩ : Except Nat PS)) (Loc.take (ts := ts) (p := s1.p) 5 (by decide)) (fun a _ => Loc.pure rfl)
              have T1 := T.ge
              have T2 := T.le
              have T3 := T.eq
              try dsimp only at T1 T2 T3
              cases hb2 : ((takeP ts 5 s1.p).bind fun x => (.ok ⟨x.2, s1.atoms, s1.vars⟩ : Except Nat PS)) with
              | error q =>
                rw [hb2] at T1 T2 T3
                simp only [hb2] at h
                cases h
                simp only [reach] at T1 T2 T3 ⊢
                refine ⟨by omega, fun _ => T2 (g2 (by omega)), fun us hu => ?_⟩
                have e1 := kindAt_same (hu st.p (by omega))
                have e2 := kindAt_same (hu (st.p + 1) (by omega))
                unfold itemsF
                simp only [e1, e2, h4, h44, hd, if_true, if_false, g3 us (hu.le (by simp only [reach]; omega)), T3 us hu]
              | ok s' =>
                rw [hb2] at T1 T2 T3
                simp only [hb2] at h
                simp only [reach] at T1 T2 T3
                obtain ⟨f1, f2, f3, f4⟩ := fin s' (by omega) (fun _ => T2 (g2 (by omega))) h
                refine ⟨f1, f2, fun us hu => ?_⟩
                have e1 := kindAt_same (hu st.p (by omega))
                have e2 := kindAt_same (hu (st.p + 1) (by omega))
                have e3 := g3 us (hu.le (by show s1.p + 1 ≤ _; omega))
                have e4 := T3 us (hu.le (by omega))
                unfold itemsF
                simp only [e1, e2, h4, h44, hd, if_true, if_false, e3, e4]
                exact f4 us hu
      · simp only [h4, h44, if_true, if_false] at h
        have A := Loc.atom (ts := ts) ⟨st.p + 1, st.atoms, st.vars⟩
        have A1 := A.ge
        have A2 := A.le
        have A3 := A.eq
        dsimp only at A1 A2 A3
        cases hat : atomP ts ⟨st.p + 1, st.atoms, st.vars⟩ with
        | error q =>
          rw [hat] at A1 A2 A3
          simp only [hat] at h
          cases h
          simp only [reach] at A1 A2 A3 ⊢
          refine ⟨by omega, fun _ => A2 (by omega), fun us hu => ?_⟩
          have e1 := kindAt_same (hu st.p (by omega))
          have e2 := kindAt_same (hu (st.p + 1) (by omega))
          unfold itemsF
          simp only [e1, e2, h4, h44, if_true, if_false, A3 us hu]
        | ok s' =>
          rw [hat] at A1 A2 A3
          simp only [hat] at h
          simp only [reach] at A1 A2 A3
          obtain ⟨f1, f2, f3, f4⟩ := fin s' (by omega) (fun _ => A2 (by omega)) h
          refine ⟨f1, f2, fun us hu => ?_⟩
          have e1 := kindAt_same (hu st.p (by omega))
          have e2 := kindAt_same (hu (st.p + 1) (by omega))
          unfold itemsF
          simp only [e1, e2, h4, h44, if_true, if_false, A3 us (hu.le (by omega))]
          exact f4 us hu
    · simp only [h4, if_false] at h
      cases h
      refine ⟨by simp only [reach]; omega, fun hp => hp, fun us hu => ?_⟩
      have e1 := kindAt_same (hu st.p (by simp only [reach]; omega))
      unfold itemsF
      simp only [e1, h4, if_false]
/-- What stands behind the first wrong token changes nothing. -/
theorem ToksR.loc {ts : List Tk} {q : Nat} (h : ToksR ts (.error q)) : q ≤ ts.length ∧ ∀ us, Agree ts us (q + 1) → ToksR us (.error q) := by
  obtain ⟨x, ⟨f, hf⟩, he⟩ := h
  obtain ⟨h1, h2, h3⟩ := itemsF_loc f 0 _ _ hf
  cases x with
  | error q' =>
    cases he
    exact ⟨h2 (Nat.zero_le _), fun us hu => ⟨.error q, ⟨f, h3 us hu⟩, rfl⟩⟩
  | ok st =>
    simp only [reach] at h1 h2 h3
    have T := Loc.told (ts := ts) st
    have T1 := T.ge
    have T2 := T.le
    have T3 := T.eq
    try dsimp only at T1 T2 T3
    have he' : (.error q : Except Nat Pat) = (toldP ts st).bind fun (P, p) => if p < ts.length then .error p else .ok P := he
    cases ht : toldP ts st with
    | error q' =>
      rw [ht] at T1 T2 T3 he'
      cases he'
      simp only [reach] at T1 T2 T3
      exact ⟨T2 (h2 (Nat.zero_le _)), fun us hu => ⟨.ok st, ⟨f, h3 us (hu.le (by omega))⟩, by show _ = (toldP us st).bind _; rw [T3 us hu]; rfl⟩⟩
    | ok y =>
      obtain ⟨P, p⟩ := y
      rw [ht] at T1 T2 T3 he'
      simp only [reach] at T1 T2 T3
      simp only [Except.bind] at he'
      split at he'
      · rename_i hp
        cases he'
        refine ⟨by omega, fun us hu => ⟨.ok st, ⟨f, h3 us (hu.le (by omega))⟩, ?_⟩⟩
        show _ = (toldP us st).bind _
        rw [T3 us hu]
        simp only [Except.bind]
        have hpu : q < us.length := by
          have := hu q (by omega)
          rw [List.getElem?_eq_getElem hp] at this
          exact (List.getElem?_eq_some_iff.1 this.symm).1
        rw [if_pos hpu]
      · cases he'
theorem ToksR.behind {ts more : List Tk} {q : Nat} (h : ToksR ts (.error q)) (hq : q < ts.length) : ToksR (ts.take (q + 1) ++ more) (.error q) := by
  refine h.loc.2 _ fun i hi => ?_
  rw [List.getElem?_append_left (by rw [List.length_take]; omega), List.getElem?_take, if_pos hi]
theorem ToksR.ahead {ts : List Tk} {q q' : Nat} (h : ToksR ts (.error q)) (h' : ToksR (ts.take q) (.error q')) : q' = q := by
  have l := h'.loc
  have hq' : q' ≤ q := by have := l.1; rw [List.length_take] at this; omega
  rcases Nat.lt_or_ge q' q with hlt | hge
  · have := l.2 ts (fun i hi => by rw [List.getElem?_take, if_pos (by omega)])
    have := this.same h
    cases this
    rfl
  · omega
end Go.Proofs.Ytngnplghjaojhaa

/- slices.Concat of rows of tokens. -/
namespace Go.Proofs.Ytngnplghjaojhaa
set_option maxRecDepth 100000
set_option maxHeartbeats 2000000
set_option linter.unusedSimpArgs false
open Go.RowKit Go.Shelf Go.Sort
attribute [local go_sem] Oper.semAt_some wide_fn wide_depth
set_option linter.unusedVariables false

theorem Toks.below {B : Nat} {w w' : World} {v : Value} {l : List Tk} (h : Toks w v l) (hb : Below B w w') (hB : w.heap.size ≤ B) : Toks w' v l := Sl.below h hb hB
theorem tk_one (l : List Tk) : ∀ x ∈ l.flatMap tkCells, x.oneCell' = true := by
  intro x hx
  obtain ⟨t, _, ht⟩ := List.mem_flatMap.1 hx
  simp only [tkCells, List.mem_cons, List.not_mem_nil, or_false] at ht
  rcases ht with rfl | rfl | rfl <;> rfl
def OwnTk (w : World) (B : Nat) (v : Value) (l : List Tk) : Prop := w.ownsRow B 39 3 v l.length (l.flatMap tkCells)
theorem run_append_zeros {P : Program} (w : World) {t ti ty e : TypeId} {z : Value} {size bytes : Nat} (T : ElT P t e z size bytes) (hti : P.underlying ti = some (.int .i64)) (n : Nat) (h0 : 0 < n) (hb : n * bytes ≤ 140737488355328) (h63 : n ≤ 1099511627776) :
    (Builtin.append_ #[t, ti] ty #[.slice none 0 0, .int .i64 n]).run P w =
      .ok (.slice (some ⟨w.heap.size, 0, none⟩) n (grownCap w n 0 e)) (w.drew.alloc (.cells (Builtin.zeroCells z.cells n ++ Builtin.zeroCells z.cells (grownCap w n 0 e - n)) e)) := by
  obtain ⟨i, hi, hz, hsz, hby⟩ := T.info
  have hn : n ≠ 0 := by omega
  have h63' : ¬ (9223372036854775807 < (n : Int)) := by omega
  have hw : IntKind.i64.wrap (n : Int) = n := by rw [IntKind.wrap_i64]; omega
  have hneg : ¬ ((n : Int) < 0) := by omega
  have hp := T.pos
  have h48 : ¬ (281474976710656 < (n : Int) * (bytes : Int)) := by
    have : ((n * bytes : Nat) : Int) ≤ 140737488355328 := by omega
    rw [Int.natCast_mul] at this; omega
  have h48' : ¬ (281474976710656 < Builtin.nextslicecap n 0 * bytes) := by rw [nextslicecap_zero h0]; omega
  have hns : n * size ≠ 0 := by have := Nat.mul_pos h0 hp; omega
  subst hsz hby
  simp [Builtin.append_, run_underlying T.under, run_underlying hti, sizeOf, typeInfo, zeroValue, hi, hz, asInt, asIntOf, hw, hneg, h48, hn, h63', h48', hns, Question.forced, run_firstCells_none, newRow, grownCap]

theorem wpList_append_zeros {P : Program} (w : World) {ops : Array Oper} {rest : List Oper} {o : Oper} {a : Act} {Q : Exit → Act → World → Prop} (hgd : o.guard = none) (sl x : Operand) (t ti : TypeId)
    (ho : o.op = .call { callee := .builtin .append, args := #[sl, x], argTypes := #[t, ti] })
    {e : TypeId} {z : Value} {size bytes : Nat} (T : ElT P t e z size bytes) (hti : P.underlying ti = some (.int .i64)) (hs : a.eval sl = .slice none 0 0) (n : Nat) (hx : a.eval x = .int .i64 n)
    (h0 : 0 < n) (hb : n * bytes ≤ 140737488355328) (h63 : n ≤ 1099511627776)
    (h : ∀ (cap : Nat) (cur : Array Value), n ≤ cap → cap ≤ 9223372036854775807 → Hid (cur.size = cap * size) → wpList P ops Q rest (a.put o.dst (.slice (some ⟨w.heap.size, 0, none⟩) n cap)) (w.drew.alloc (.cells cur e))) : wpList P ops Q (o :: rest) a w := by
  refine wpList_plain hgd fun K hK => ?_
  have hr := run_append_zeros (P := P) w (ty := o.type) T hti n h0 hb h63
  have hge := grownCap_ge w n 0 e
  have hcm := grownCap_le_maxLen w n 0 e (by unfold maxLen; omega)
  unfold Oper.wp execOp
  simp only [ho, resolve, invoke, builtin, Sem.run_bind, Sem.run_pure, Result.andThen_ok, List.map_toArray, List.map_cons, List.map_nil, hs, hx, hr]
  refine hK _ _ (h _ _ hge (by unfold maxLen at hcm; exact hcm) ?_)
  show _ = _
  rw [Array.size_append, size_zeroCells, size_zeroCells, T.cells, ← Nat.add_mul]
  congr 1; omega

set_option maxHeartbeats 1000000 in
theorem growTk_nil (n : Nat) (w : World) (hn : n ≤ 1000000000) :
    Calls Try.prog 48 #[.slice none 0 0, .int .i64 n] w fun e w' => ∃ u, e = .returned u ∧ w'.ownsRow w.heap.size 39 3 u 0 [] ∧ Ext w w' := by
  by_cases h0 : 0 < n
  · have hd : decide ((0 : Int) < (n : Int)) = true := by simp; omega
    go_enter Try.func48, Try.ntmps48
    go_wp2_with (at_builtin; refine wpList_append_zeros _ rfl _ _ 36 3 rfl elTok Try.underlying3 rfl n rfl h0 ?_ ?_ ?_)
    · omega
    · omega
    intro cap cur hnc hcm Hcur
    go_wp2_with fail
    go_ret
    exact ⟨_, rfl, ⟨rfl, .inr ⟨w.heap.size, cap, cur, rfl, Nat.le_refl _, heap_alloc_new w.drew _, Nat.zero_le _, by unfold maxLen; omega, by simpa using Hcur.out, by simp⟩⟩, (Ext.drewN w 1).trans (Ext.alloc _ _)⟩
  · have h0 : n = 0 := by omega
    subst h0
    go_enter Try.func48, Try.ntmps48
    go_wp2_with fail
    go_ret
    exact ⟨_, rfl, World.ownsRow_nil _ _ _ _, Ext.refl _⟩

/-- Rows of bytes, one behind the other. -/
def BlocksTk (w : World) (xs : List (Value × List Tk)) : Prop := ∀ x ∈ xs, Toks w x.1 x.2
theorem BlocksTk.below {B : Nat} {w w' : World} {xs : List (Value × List Tk)} (h : BlocksTk w xs) (hb : Below B w w') (hB : w.heap.size ≤ B) : BlocksTk w' xs := fun x hx => (h x hx).below hb hB
def totalTk (xs : List (Value × List Tk)) : Nat := (xs.flatMap Prod.snd).length
theorem totalTk_take (xs : List (Value × List Tk)) (k : Nat) : totalTk (xs.take k) ≤ totalTk xs := by
  unfold totalTk
  conv => rhs; rw [← List.take_append_drop k xs, List.flatMap_append, List.length_append]
  omega
theorem totalTk_snoc (xs : List (Value × List Tk)) (k : Nat) (h : k < xs.length) : totalTk (xs.take (k + 1)) = totalTk (xs.take k) + xs[k].2.length := by
  unfold totalTk
  rw [take_snoc xs k h, List.flatMap_append, List.flatMap_cons, List.flatMap_nil, List.append_nil, List.length_append]
theorem blocksTk_snoc (xs : List (Value × List Tk)) (k : Nat) (h : k < xs.length) : (xs.take (k + 1)).flatMap Prod.snd = (xs.take k).flatMap Prod.snd ++ xs[k].2 := by
  rw [take_snoc xs k h, List.flatMap_append, List.flatMap_cons, List.flatMap_nil, List.append_nil]

set_option maxHeartbeats 2000000 in
theorem concatTk_any (v : Value) (xs : List (Value × List Tk)) (w : World) (hv : Sl w v xs.length (xs.map Prod.fst)) (hx : BlocksTk w xs) (ht : totalTk xs ≤ 1000000000) :
    Calls Try.prog 27 #[v] w fun e w' => ∃ u, e = .returned u ∧ OwnTk w' w.heap.size u (xs.flatMap Prod.snd) ∧ Ext w w' := by
  have hv' := hv
  obtain ⟨a, cap, rfl, hcap, hmax, hc⟩ := hv'.open_
  simp only [List.length_map] at hc
  go_enter Try.func27, Try.ntmps27
  go_wp2_with fail
  go_loop [3, 5, 11] (fun n _ i => ∃ k : Nat, k ≤ xs.length ∧ i = .int .i64 k ∧ n = .int .i64 (totalTk (xs.take k))) (fun _ _ i => xs.length - (intOf i).toNat)
  case atStart => exact ⟨0, Nat.zero_le _, rfl, rfl⟩
  case round =>
    obtain ⟨k, hk, rfl, rfl⟩ := hrel
    have htk := totalTk_take xs k
    by_cases hlt : k < xs.length
    · obtain ⟨b, o, rfl, hcell⟩ := hc k hlt
      have hck := hcell k xs[k].1 (by simp [hlt])
      obtain ⟨a', cap', e1, _, _⟩ := (hx xs[k] (List.getElem_mem hlt)).shape
      rw [e1] at hck
      have hts := totalTk_snoc xs k hlt
      have htk1 := totalTk_take xs (k + 1)
      have hle : xs[k].2.length ≤ 1000000000 := by omega
      have Hts := Lib.hid hts
      have hsum : totalTk (xs.take k) + xs[k].2.length ≤ 1000000000 := by omega
      clear hts hcell hc htk1 e1
      have hd : decide (((totalTk (xs.take k) : Nat) : Int) + ((xs[k].2.length : Nat) : Int) < 0) = false := by simp; omega
      go_wp2_with fail
      go_round
      case rel => exact ⟨k + 1, by omega, by go_num, int_congr (by rw [Hts.out]; omega)⟩
      case measure => simp [intOf]; omega
    · have hk' : k = xs.length := by omega
      have Hk := Lib.hid hk'
      clear hk'
      go_wp2_with fail
      refine (growTk_nil _ _ (by omega)).mono ?_
      rintro e w1 ⟨u1, rfl, ho1, hx1⟩
      go_wp2_with fail
      clear htk hk
      go_loopw [6, 8, 27] (fun v _ i wr => ∃ k : Nat, k ≤ xs.length ∧ i = .int .i64 k ∧ OwnTk wr w.heap.size v ((xs.take k).flatMap Prod.snd) ∧ Below w.heap.size w wr) (fun _ _ i _ => xs.length - (intOf i).toNat)
      case atStart => exact ⟨0, Nat.zero_le _, rfl, ho1, hx1⟩
      case round =>
        obtain ⟨k, hk, rfl, hown, hB⟩ := hrel
        have htk : ((xs.take k).flatMap Prod.snd).length ≤ totalTk xs := totalTk_take xs k
        by_cases hlt : k < xs.length
        · have hvr := hv.below hB (Nat.le_refl _)
          obtain ⟨_, _, e1, _, _, hc2⟩ := hvr.open_
          simp only [Value.slice.injEq] at e1
          obtain ⟨rfl, _, rfl⟩ := e1
          obtain ⟨b, o, rfl, hcell⟩ := hc2 k (by simpa using hlt)
          have hck := hcell k xs[k].1 (by simp [hlt])
          have hi := (hx xs[k] (List.getElem_mem hlt)).below hB (Nat.le_refl _)
          have hi2 := hi
          obtain ⟨a', cap', e1, _, _⟩ := hi2.shape
          rw [e1] at hck hi
          have Hbs := Lib.hid (blocksTk_snoc xs k hlt)
          have hts : ((xs.take (k + 1)).flatMap Prod.snd).length ≤ totalTk xs := totalTk_take xs (k + 1)
          rw [Hbs.out, List.length_append] at hts
          generalize hacc : (xs.take k).flatMap Prod.snd = acc at hown htk hts
          have Hacc := Lib.hid hacc
          have Hi := Lib.hid hi
          clear hcell hc2 hacc e1 hi hi2
          go_wp2_with (at_builtin; refine wpList_append_sl _ rfl _ _ 36 rfl elTok rfl hown rfl Hi.out ?_ (tk_one _) ?_ ?_ ?_ ?_)
          · exact flatMap_len tkCells 3 (fun _ => rfl) _
          · omega
          · unfold maxLen; omega
          · exact hB.size
          intro v1 w1 hown1 hb _ _
          have hfin : OwnTk w1 w.heap.size v1 ((xs.take (k + 1)).flatMap Prod.snd) := by
            rw [Hbs.out, Hacc.out]
            unfold OwnTk
            rw [List.length_append, List.flatMap_append]
            exact hown1
          have Hfin := Lib.hid hfin
          clear hfin hown1 hown
          go_wp2_with fail
          go_roundw
          case rel => exact ⟨k + 1, by omega, by go_num, Hfin.out, hB.trans hb⟩
          case measure => simp [intOf]; omega
        · go_wp2_with fail
          go_ret
          exact ⟨_, rfl, by rw [List.take_of_length_le (by omega)] at hown; exact hown, hB⟩

theorem BlocksTk.nil {w : World} : BlocksTk w [] := fun x hx => by simp at hx
theorem BlocksTk.cons {w : World} {v : Value} {l : List Tk} {xs : List (Value × List Tk)} (h : Toks w v l) (hs : BlocksTk w xs) : BlocksTk w ((v, l) :: xs) := fun x hx => (List.mem_cons.1 hx).elim (fun e => e ▸ h) (hs x)
theorem totalTk_nil : totalTk [] = 0 := rfl
theorem totalTk_cons (v : Value) (l : List Tk) (xs : List (Value × List Tk)) : totalTk ((v, l) :: xs) = l.length + totalTk xs := by simp [totalTk]
end Go.Proofs.Ytngnplghjaojhaa

/- The contracts that the laws want, in one form each. -/
namespace Go.Proofs.Ytngnplghjaojhaa
set_option maxRecDepth 100000
set_option maxHeartbeats 2000000
set_option linter.unusedSimpArgs false
open Go.RowKit Go.Shelf Go.Sort
attribute [local go_sem] Oper.semAt_some wide_fn wide_depth
set_option linter.unusedVariables false

/-- What a text's tokens come to: either all of them or none. -/
def LexIs (s : ByteArray) (l : List Tk) (a c : Int) : Prop := readF (bts s) = (l, a, c) ∧ l.length ≤ 500 ∧ (∀ t ∈ l, t.text.size ≤ 500 ∧ t.check = true) ∧ ((c ≠ 0 ∧ l = []) ∨ (c = 0 ∧ s.size ≤ 500 ∧ a = s.size))
theorem lexed (s : ByteArray) : ∃ l a c, LexIs s l a c := by
  have hcs := readF_cases (bts s)
  rw [bts_len] at hcs
  rcases hcs with ⟨_, h⟩ | ⟨_, p, _, _, h⟩ | ⟨h5, l, h, hy, _, ht⟩
  · exact ⟨_, _, _, h, by simp, fun t ht => by simp at ht, .inl ⟨by decide, rfl⟩⟩
  · exact ⟨_, _, _, h, by simp, fun t ht => by simp at ht, .inl ⟨by decide, rfl⟩⟩
  · refine ⟨_, _, _, h, ?_, fun t htl => ⟨by have := (ht t htl).2; omega, (ht t htl).1⟩, .inr ⟨rfl, h5, rfl⟩⟩
    have := yields_len (bts s)
    rw [bts_len] at this
    rw [hy]
    omega
theorem LexIs.same {s : ByteArray} {l l' : List Tk} {a c a' c' : Int} (h : LexIs s l a c) (h' : LexIs s l' a' c') : l = l' ∧ a = a' ∧ c = c' := by
  have := h.1.symm.trans h'.1
  simpa using this
theorem read_E (s : ByteArray) (w : World) (hs : s.size ≤ 9223372036854775807) :
    Calls Try.prog 18 #[.string s] w fun e w' => ∃ a1 c1 l a c, LexIs s l a c ∧ e = .returned (.tuple #[.slice a1 l.length c1, .int .i64 a, .int .i64 c]) ∧ Toks w' (.slice a1 l.length c1) l ∧ Ext w w' := by
  refine (read_any s w hs).mono ?_
  rintro e w' ⟨v, rfl, ho, hx⟩
  obtain ⟨l, a, c, hl⟩ := lexed s
  rw [hl.1] at ho ⊢
  dsimp only at ho ⊢
  obtain ⟨a1, c1, rfl⟩ := own_vw ho
  exact ⟨a1, c1, l, a, c, hl, rfl, Sl.of_own ho, hx⟩
def zPat : Pat := ⟨[], [], false, false, false, 0, 0, []⟩
/-- What the tokens' reading gives back. -/
def ResIs (ts : List Tk) (r : Except Nat Pat) (Q : Pat) (n c : Int) : Prop := (r = .ok Q ∧ n = ts.length ∧ c = 0 ∧ Q.okB = true) ∨ (∃ q : Nat, r = .error q ∧ q ≤ ts.length ∧ Q = zPat ∧ n = q ∧ c = 260)
theorem noV_at (w : World) : PatAt w (.agg #[.slice none 0 0, .slice none 0 0, .bool false, .bool false, .bool false, .int .i64 0, .int .i64 0, .slice none 0 0]) zPat :=
  ⟨_, _, _, rfl, Sl.nil w, Sl.nil w, Sl.nil w⟩
def pcells (a1 : Option Addr) (c1 : Nat) (a2 : Option Addr) (c2 : Nat) (a3 : Option Addr) (c3 : Nat) (Q : Pat) : List Value := [.slice a1 Q.atoms.length c1, .slice a2 Q.ret.length c2, .bool Q.count, .bool Q.distinct, .bool Q.limited, .int .i64 Q.limit, .int .i64 Q.offset, .slice a3 Q.hint.length c3]
theorem pat_cells {w : World} {v : Value} {Q : Pat} (h : PatAt w v Q) : ∃ a1 c1 a2 c2 a3 c3, v = .agg (pcells a1 c1 a2 c2 a3 c3 Q).toArray := by
  obtain ⟨av, rv, hv, rfl, h1, h2, h3⟩ := h
  obtain ⟨a1, c1, rfl, _, _⟩ := h1.shape
  obtain ⟨a2, c2, rfl, _, _⟩ := Sl.shape h2
  obtain ⟨a3, c3, rfl, _, _⟩ := Sl.shape h3
  exact ⟨_, _, _, _, _, _, rfl⟩
theorem tokens_E {w : World} {ts : List Tk} {tv : Value} (h : Toks w tv ts) (hl : ts.length ≤ 1000000) (hs : ∀ t ∈ ts, t.text.size ≤ 9223372036854775800) :
    Calls Try.prog 15 #[tv] w fun e w' => ∃ r Q n c a1 c1 a2 c2 a3 c3, ToksR ts r ∧ ResIs ts r Q n c ∧
      e = .returned (.tuple #[.agg #[.slice a1 Q.atoms.length c1, .slice a2 Q.ret.length c2, .bool Q.count, .bool Q.distinct, .bool Q.limited, .int .i64 Q.limit, .int .i64 Q.offset, .slice a3 Q.hint.length c3], .int .i64 n, .int .i64 c]) ∧
      PatAt w' (.agg #[.slice a1 Q.atoms.length c1, .slice a2 Q.ret.length c2, .bool Q.count, .bool Q.distinct, .bool Q.limited, .int .i64 Q.limit, .int .i64 Q.offset, .slice a3 Q.hint.length c3]) Q ∧ Ext w w' := by
  refine (tokens_go h hl hs).mono ?_
  rintro e w' ⟨r, hr, hx, hm⟩
  cases r with
  | ok P =>
    obtain ⟨v, rfl, hp⟩ := hm
    have hp' := hp.at_
    obtain ⟨a1, c1, a2, c2, a3, c3, rfl⟩ := pat_cells hp'
    exact ⟨_, P, _, _, a1, c1, a2, c2, a3, c3, hr, .inl ⟨rfl, rfl, rfl, hr.okB⟩, rfl, hp', hx⟩
  | error q =>
    obtain ⟨hq, rfl⟩ := hm
    exact ⟨_, zPat, _, _, none, 0, none, 0, none, 0, hr, .inr ⟨q, rfl, hq, rfl, rfl, rfl⟩, rfl, noV_at _, hx⟩
theorem word_size {s : ByteArray} (h : wordB s = true) : s.size ≤ 32 := by
  rw [← wordB_all] at h
  unfold allB at h
  simp only [Bool.and_eq_true, decide_eq_true_eq] at h
  have := h.2.2
  rw [bts_len] at this
  exact this
theorem worth_size {s : ByteArray} (h : worthB s = true) : s.size ≤ 40 := by
  rw [← worthB_all] at h
  unfold allB at h
  simp only [Bool.and_eq_true, decide_eq_true_eq] at h
  have := h.2.2
  rw [bts_len] at this
  exact this
theorem atomB_fits {a : Atm} (h : atomB a = true) : a.Fits := by
  have z : nilB.size = 0 := rfl
  unfold atomB at h
  split at h
  · simp only [Bool.and_eq_true, decide_eq_true_eq] at h
    obtain ⟨e1, e2, _, e3, e4⟩ := h
    have := word_size e4
    exact ⟨by omega, by rw [e1]; omega, by rw [e2]; omega, by rw [e3]; omega⟩
  · split at h
    · simp only [Bool.and_eq_true, decide_eq_true_eq] at h
      obtain ⟨e1, _, e3, e4, e5⟩ := h
      have := word_size e4
      have := word_size e5
      exact ⟨by omega, by omega, by rw [e1]; omega, by rw [e3]; omega⟩
    · split at h
      · simp only [Bool.and_eq_true, decide_eq_true_eq] at h
        obtain ⟨_, e3, e4, e5, e6⟩ := h
        have := word_size e4
        have := word_size e5
        have := worth_size e6
        exact ⟨by omega, by omega, by omega, by rw [e3]; omega⟩
      · split at h
        · simp only [Bool.and_eq_true, decide_eq_true_eq] at h
          obtain ⟨e1, e4, e5, e6⟩ := h
          have := word_size e4
          have := word_size e5
          have := word_size e6
          exact ⟨by omega, by omega, by rw [e1]; omega, by omega⟩
        · cases h
theorem okB_few {P : Pat} (h : P.okB = true) : 0 < P.atoms.length ∧ P.atoms.length ≤ 40 := by
  unfold Pat.okB sizesP at h
  simp only [Bool.and_eq_true, decide_eq_true_eq] at h
  exact ⟨h.1.1, h.1.2.1⟩
theorem okB_fits {P : Pat} (h : P.okB = true) : P.Fits := by
  refine ⟨fun a ha => ?_, by have := okB_few h; omega⟩
  unfold Pat.okB at h
  simp only [Bool.and_eq_true] at h
  exact atomB_fits (List.all_eq_true.1 h.2.2.2.2 a ha)
theorem zPat_fits : zPat.Fits := ⟨fun a ha => by simp [zPat] at ha, by simp [zPat]⟩
theorem ResIs.fits {ts : List Tk} {r : Except Nat Pat} {Q : Pat} {n c : Int} (h : ResIs ts r Q n c) : Q.Fits := by
  rcases h with ⟨_, _, _, h⟩ | ⟨q, _, _, rfl, _⟩
  · exact okB_fits h
  · exact zPat_fits
theorem toks_take {w : World} {a : Option Addr} {n cap : Nat} {l : List Tk} (h : Toks w (.slice a n cap) l) (m : Nat) (hm : m ≤ l.length) : Toks w (.slice a m cap) (l.take m) := by
  obtain ⟨a', c', e, h1, h2, h3⟩ := h
  cases e
  unfold Toks
  rw [List.length_take, Nat.min_eq_left hm]
  refine ⟨a, cap, rfl, by omega, h2, fun hp => ?_⟩
  have hlen := flatMap_len tkCells 3 (fun _ => rfl) l
  have hlen2 := flatMap_len tkCells 3 (fun _ => rfl) (l.take m)
  have hlm : ((l.take m).flatMap tkCells).length = m * 3 := by rw [hlen2, List.length_take, Nat.min_eq_left hm]
  have hpre : (l.take m).flatMap tkCells = (l.flatMap tkCells).take (m * 3) := by
    have e : l.flatMap tkCells = (l.take m).flatMap tkCells ++ (l.drop m).flatMap tkCells := by rw [← List.flatMap_append, List.take_append_drop]
    rw [e, List.take_append_of_le_length (by omega)]
    exact (List.take_of_length_le (by omega)).symm
  obtain ⟨b, o, rfl, hc⟩ := h3 (by omega)
  refine ⟨b, o, rfl, fun i u hu => ?_⟩
  rw [hpre, List.getElem?_take] at hu
  split at hu
  · exact hc i u hu
  · cases hu
/-- A text's reading, in the same form. -/
def PResIs (s : ByteArray) (r : Except Int Pat) (Q : Pat) (n c : Int) : Prop := (r = .ok Q ∧ n = s.size ∧ c = 0 ∧ Q.okB = true) ∨ (r = .error n ∧ Q = zPat ∧ c = 260)
theorem ParsR.okB {s : ByteArray} {P : Pat} (h : ParsR s (.ok P)) : P.okB = true := by
  unfold ParsR at h
  split at h
  · obtain ⟨x, hx, he⟩ := h
    cases x with
    | ok P' => cases he; exact hx.okB
    | error q => cases he
  · cases h
theorem parse_E (s : ByteArray) (w : World) (hs : s.size ≤ 9223372036854775807) :
    Calls Try.prog 10 #[.string s] w fun e w' => ∃ r Q n c a1 c1 a2 c2 a3 c3, ParsR s r ∧ PResIs s r Q n c ∧
      e = .returned (.tuple #[.agg #[.slice a1 Q.atoms.length c1, .slice a2 Q.ret.length c2, .bool Q.count, .bool Q.distinct, .bool Q.limited, .int .i64 Q.limit, .int .i64 Q.offset, .slice a3 Q.hint.length c3], .int .i64 n, .int .i64 c]) ∧
      PatAt w' (.agg #[.slice a1 Q.atoms.length c1, .slice a2 Q.ret.length c2, .bool Q.count, .bool Q.distinct, .bool Q.limited, .int .i64 Q.limit, .int .i64 Q.offset, .slice a3 Q.hint.length c3]) Q ∧ Ext w w' := by
  refine (parse_any s w hs).mono ?_
  rintro e w' ⟨r, hr, hx, hm⟩
  cases r with
  | ok P =>
    obtain ⟨v, rfl, hp⟩ := hm
    have hp' := hp.at_
    obtain ⟨a1, c1, a2, c2, a3, c3, rfl⟩ := pat_cells hp'
    exact ⟨_, P, _, _, a1, c1, a2, c2, a3, c3, hr, .inl ⟨rfl, rfl, rfl, hr.okB⟩, rfl, hp', hx⟩
  | error q =>
    subst hm
    exact ⟨_, zPat, _, _, none, 0, none, 0, none, 0, hr, .inr ⟨rfl, rfl, rfl⟩, rfl, noV_at _, hx⟩
theorem run_cut_str (s : ByteArray) (n : Nat) (i : Int) (hi : i = n) (h : n ≤ s.size) (w : World) :
    (Instr.slice 9 (.string s) none (some (.int .i64 i)) none).run Try.prog w = .ok (.string (s.extract 0 n)) w := by
  subst hi
  rw [run_slice_string_h w 9 s Try.underlying9 .i64 (n : Int) (by omega) (by omega)]
  rfl
/-- A text's first bytes, as the laws cut them. -/
theorem cut_text (s : ByteArray) (m : Nat) (i : Int) (hi : i = m) : ∃ (k : Nat) (S : ByteArray), min (s.size : Int) i = k ∧ S.size ≤ m ∧ S.size = k ∧ ∀ w, (Instr.slice 9 (.string s) none (some (.int .i64 k)) none).run Try.prog w = .ok (.string S) w := by
  refine ⟨min s.size m, s.extract 0 (min s.size m), by omega, ?_, ?_, fun w => run_cut_str s _ _ rfl (by omega) w⟩
  · rw [ByteArray.size_extract]; omega
  · rw [ByteArray.size_extract]; omega
end Go.Proofs.Ytngnplghjaojhaa
