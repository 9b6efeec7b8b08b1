/- A group of its own around an atom changes nothing: all items. Plain. -/
import Derived.Test.YtngnplghjaojhaaParLh
namespace Go.Proofs.Ytngnplghjaojhaa
set_option maxRecDepth 100000
set_option maxHeartbeats 2000000
set_option linter.unusedSimpArgs false
set_option linter.unusedVariables false

theorem ItemR.atom_ok {ts : List Tk} {d : Nat} {st s : PS} (h : kindAt ts st.p = 4) (h' : kindAt ts (st.p + 1) ≠ 4) (ha : atomP ts ⟨st.p + 1, st.atoms, st.vars⟩ = .ok s) : ItemR ts d st (.ok s) := by
  have := ItemR.atom (d := d) h h'
  rw [ha] at this; exact this
theorem ItemR.group_ok {ts : List Tk} {d : Nat} {st s : PS} (h : kindAt ts st.p = 4) (h' : kindAt ts (st.p + 1) = 4) (hd : d ≠ 4) (hi : ItemsR ts (d + 1) ⟨st.p + 1, st.atoms, st.vars⟩ (.ok s)) (h5 : kindAt ts s.p = 5) :
    ItemR ts d st (.ok ⟨s.p + 1, s.atoms, s.vars⟩) := by
  have := ItemR.group h h' hd hi
  rw [show takeP ts 5 s.p = .ok (textAt ts s.p, s.p + 1) from by unfold takeP; rw [if_pos h5]] at this
  exact this
/-- An atom with a group of its own around it. -/
theorem atom_in {ts : List Tk} {a d : Nat} {st s : PS} (ha : st.p = a) (hopn : ts[a]? = some opn) (h44 : kindAt ts (a + 1) ≠ 4) (hat : atomP ts ⟨a + 1, st.atoms, st.vars⟩ = .ok s) (he : Ends ts a s.p) (hd : d ≠ 4) :
    ItemR (ins ts a s.p) d st (.ok ⟨s.p + 2, s.atoms, s.vars⟩) := by
  obtain ⟨b, hb⟩ : ∃ b, s.p = b := ⟨_, rfl⟩
  rw [hb] at he ⊢
  have hlt := he.lt
  have hle := he.le
  have hA := drop_sh (ts := ts) (b := a) (by omega)
  have hM := ins_mid (ts := ts) (a := a) (b := b) (by omega)
  have hG : Agree (ts.drop a) ((ts.drop a).take (b - a) ++ (cls :: ts.drop b)) (b - a) := fun i hi => by
    rw [List.getElem?_append_left (by rw [List.length_take, List.length_drop]; omega), List.getElem?_take, if_pos hi]
  have hC : kindAt ((ts.drop a).take (b - a) ++ (cls :: ts.drop b)) (b - a) = 5 := by
    have hl : ((ts.drop a).take (b - a)).length = b - a := by rw [List.length_take, List.length_drop]; omega
    unfold kindAt
    rw [List.getElem?_append_right (by omega), hl, Nat.sub_self]
    show (if cls.check = true then cls.kind else 0) = 5
    decide +kernel
  generalize hm : (ts.drop a).take (b - a) ++ (cls :: ts.drop b) = mid at hM hG hC
  have hk0 : kindAt ts a = 4 := by unfold kindAt; rw [hopn]; decide +kernel
  have u0 : kindAt (ins ts a b) a = 4 := by rw [kindAt_same (ins_agree hopn a (by omega)), hk0]
  have u1 : kindAt (ins ts a b) (a + 1) = 4 := by
    rw [show a + 1 = a + 1 + 0 from rfl, hM.kind, kindAt_same (hG 0 (by omega)), ← hA.kind]; exact hk0
  have u2 : kindAt (ins ts a b) (a + 2) = kindAt ts (a + 1) := by
    have hk := atomP_kinds hat
    have := hk.1.le
    dsimp only at this
    rw [show a + 2 = a + 1 + 1 from rfl, hM.kind, kindAt_same (hG 1 (by omega)), ← hA.kind]
  have u5 : kindAt (ins ts a b) (b + 1) = 5 := by
    rw [show b + 1 = a + 1 + (b - a) by omega, hM.kind, hC]
  have h1 := hA.atom ⟨1, st.atoms, st.vars⟩
  rw [show psS a ⟨1, st.atoms, st.vars⟩ = ⟨a + 1, st.atoms, st.vars⟩ from rfl, hat] at h1
  cases e : atomP (ts.drop a) ⟨1, st.atoms, st.vars⟩ with
  | error q => rw [e] at h1; cases h1
  | ok s0 =>
    rw [e] at h1
    simp only [shE, Except.ok.injEq] at h1
    have hs0 : s0.p = b - a := by have := congrArg PS.p h1; unfold psS at this; dsimp only at this; omega
    have ht := atomP_tight (us := mid) e (by rw [hs0]; exact hG) (by rw [hs0, hC]; decide)
    have h2 := hM.atom ⟨1, st.atoms, st.vars⟩
    rw [ht] at h2
    have h3 : atomP (ins ts a b) ⟨a + 1 + 1, st.atoms, st.vars⟩ = .ok ⟨b + 1, s.atoms, s.vars⟩ := by
      rw [show (⟨a + 1 + 1, st.atoms, st.vars⟩ : PS) = psS (a + 1) ⟨1, st.atoms, st.vars⟩ from rfl, h2]
      simp only [shE, psS, Except.ok.injEq]
      rw [h1]
      unfold psS
      dsimp only
      congr 1; omega
    subst ha
    have hin : ItemsR (ins ts st.p b) (d + 1) ⟨st.p + 1, st.atoms, st.vars⟩ (.ok ⟨b + 1, s.atoms, s.vars⟩) :=
      ItemsR.last (ItemR.atom_ok u1 (by rw [u2]; exact h44) h3) (.inr (by dsimp only; rw [u5]; decide))
    exact ItemR.group_ok u0 u1 hd hin u5
theorem items_groups {ts : List Tk} (hz : ∀ a, isB ts a = true → ts[a]? = some opn) : ∀ (f d : Nat) (st s : PS), itemsF ts f d st = some (.ok s) → kindAt ts s.p ≠ 10 → (st.p = 0 ∨ kindAt ts (st.p - 1) ≠ 11) →
    st.p < s.p ∧ s.p ≤ ts.length ∧ s.atoms.length = st.atoms.length + cnt (isB ts) st.p s.p ∧
    ∀ a, st.p ≤ a → a < s.p → isB ts a = true → ∃ b, Ends ts a b ∧ b ≤ s.p ∧ (d + cnt (isA ts) st.p s.p ≤ 3 → ItemsR (ins ts a b) d st (.ok ⟨s.p + 2, s.atoms, s.vars⟩))
  | 0, _, _, _, h, _, _ => by simp [itemsF] at h
  | f + 1, d, st, s, h, h10, hprev => by
    have ih := items_groups hz f
    obtain ⟨s1, h4, hone, hcont⟩ := itemsF_step h
    have h10' : kindAt ts s1.p ≠ 10 := by
      rcases hcont with ⟨_, rfl⟩ | ⟨_, e, _⟩
      · exact h10
      · rw [e]; decide
    have O : st.p < s1.p ∧ s1.p ≤ ts.length ∧ s1.atoms.length = st.atoms.length + cnt (isB ts) st.p s1.p ∧
        (∀ a, st.p ≤ a → a < s1.p → isB ts a = true → ∃ b, Ends ts a b ∧ b ≤ s1.p ∧ (d + cnt (isA ts) st.p s1.p ≤ 3 → ItemR (ins ts a b) d st (.ok ⟨s1.p + 2, s1.atoms, s1.vars⟩))) ∧
        (∀ us, Agree ts us (s1.p + 1) → ItemR us d st (.ok s1)) := by
      rcases hone with ⟨h44, hat⟩ | ⟨h44, hd, s0, hi, h5, rfl⟩
      · obtain ⟨AK, hlen⟩ := atomP_kinds hat
        dsimp only at AK hlen
        have hle2 := AK.le
        obtain ⟨b1, b2, b3, b4⟩ := AK.scan h4 hprev h10'
        refine ⟨by omega, b4.le, ?_, ?_, ?_⟩
        · rw [hlen, cnt_step _ (show st.p < s1.p by omega), b1, cnt_none _ (fun i h1 h2 => (b3 i (by omega) h2).1)]
          rfl
        · intro a ha1 ha2 hB
          have : a = st.p := by
            rcases Nat.lt_or_ge st.p a with hlt | hge
            · have := (b3 a hlt ha2).1
              rw [hB] at this; cases this
            · omega
          subst this
          exact ⟨s1.p, b4, Nat.le_refl _, fun hA => atom_in rfl (hz _ hB) h44 hat b4 (by omega)⟩
        · intro us hu
          refine ItemR.atom_ok (by rw [kindAt_same (hu _ (by omega)), h4]) (by rw [kindAt_same (hu _ (by omega))]; exact h44) ?_
          have := (Loc.atom (ts := ts) ⟨st.p + 1, st.atoms, st.vars⟩).eq us (by rw [hat]; exact hu)
          rw [this, hat]
      · obtain ⟨g1, g2, g3, g4⟩ := ih (d + 1) _ s0 hi (by rw [h5]; decide) (.inr (by show kindAt ts (st.p + 1 - 1) ≠ 11; rw [Nat.add_sub_cancel, h4]; decide))
        try dsimp only at g1
        try dsimp only at g3
        try dsimp only at g4
        try dsimp only
        have hAs : isA ts st.p = true := by unfold isA; rw [h4, h44]; rfl
        have hBs : isB ts st.p = false := by unfold isB; rw [hAs]; rfl
        have hB0 : isB ts s0.p = false := isB_ne (by rw [h5]; decide)
        have hl0 : s0.p < ts.length := kindAt_lt (by rw [h5]; decide)
        have hcA : cnt (isA ts) st.p (s0.p + 1) = 1 + cnt (isA ts) (st.p + 1) s0.p + cnt (isA ts) s0.p (s0.p + 1) := by
          rw [cnt_step _ (show st.p < s0.p + 1 by omega), hAs, cnt_add _ (show st.p + 1 ≤ s0.p by omega) (show s0.p ≤ s0.p + 1 by omega)]
          simp only [if_true]; omega
        refine ⟨by omega, hl0, ?_, ?_, ?_⟩
        · rw [g3, cnt_step _ (show st.p < s0.p + 1 by omega), hBs, cnt_add _ (show st.p + 1 ≤ s0.p by omega) (show s0.p ≤ s0.p + 1 by omega), cnt_one, hB0]
          simp
        · intro a ha1 ha2 hB
          have n1 : a ≠ st.p := by rintro rfl; rw [hB] at hBs; cases hBs
          have n2 : a ≠ s0.p := by rintro rfl; rw [hB] at hB0; cases hB0
          obtain ⟨b, e1, e2, e3⟩ := g4 a (by omega) (by omega) hB
          refine ⟨b, e1, by omega, fun hA => ?_⟩
          have ag := ins_agree (b := b) (hz a hB)
          have := e1.lt
          have hin := e3 (by omega)
          exact ItemR.group_ok (s := ⟨s0.p + 2, s0.atoms, s0.vars⟩) (by rw [kindAt_same (ag _ (by omega)), h4]) (by rw [kindAt_same (ag _ (by omega)), h44]) hd hin (by dsimp only; rw [ins_kind (by omega) e1.le e2, h5])
        · intro us hu
          have hin : ItemsR us (d + 1) ⟨st.p + 1, st.atoms, st.vars⟩ (.ok s0) := ⟨f, (itemsF_loc f (d + 1) _ _ hi).2.2 us (hu.le (by simp only [reach]; omega))⟩
          exact ItemR.group_ok (by rw [kindAt_same (hu _ (by omega)), h4]) (by rw [kindAt_same (hu _ (by omega)), h44]) hd hin (by rw [kindAt_same (hu _ (by omega)), h5])
    obtain ⟨o1, o2, o3, o4, o5⟩ := O
    rcases hcont with ⟨hc, rfl⟩ | ⟨hc, h6, hr⟩
    · refine ⟨o1, o2, o3, fun a ha1 ha2 hB => ?_⟩
      obtain ⟨b, e1, e2, e3⟩ := o4 a ha1 ha2 hB
      refine ⟨b, e1, e2, fun hA => ItemsR.last (e3 hA) ?_⟩
      dsimp only
      have := e1.lt
      rw [ins_kind (by omega) e1.le e2]
      exact hc
    · obtain ⟨g1, g2, g3, g4⟩ := ih d _ s hr h10 (.inr (by show kindAt ts (s1.p + 1 - 1) ≠ 11; rw [Nat.add_sub_cancel, h6]; decide))
      try dsimp only at g1
      try dsimp only at g3
      try dsimp only at g4
      have hB0 : isB ts s1.p = false := isB_ne (by rw [h6]; decide)
      have hcA : cnt (isA ts) st.p s.p = cnt (isA ts) st.p s1.p + (cnt (isA ts) s1.p (s1.p + 1) + cnt (isA ts) (s1.p + 1) s.p) := by
        rw [cnt_add _ (show st.p ≤ s1.p by omega) (show s1.p ≤ s.p by omega), cnt_add _ (show s1.p ≤ s1.p + 1 by omega) (show s1.p + 1 ≤ s.p by omega)]
      refine ⟨by omega, g2, ?_, fun a ha1 ha2 hB => ?_⟩
      · rw [g3, o3, cnt_add _ (show st.p ≤ s1.p by omega) (show s1.p ≤ s.p by omega), cnt_step _ (show s1.p < s.p by omega), hB0]
        simp only [Bool.false_eq_true, if_false]; omega
      · have n1 : a ≠ s1.p := by rintro rfl; rw [hB] at hB0; cases hB0
        rcases Nat.lt_or_ge a s1.p with hlt | hge
        · obtain ⟨b, e1, e2, e3⟩ := o4 a ha1 hlt hB
          have := e1.lt
          refine ⟨b, e1, by omega, fun hA => ?_⟩
          have hn : ¬ (s1.atoms.length = 40 ∨ kindAt (ins ts a b) (s1.p + 2) ≠ 6) := by rw [ins_kind (by omega) e1.le e2]; exact hc
          exact ItemsR.more (e3 (by omega)) hn ⟨f, items_after (by omega) e1.le (st := ⟨s1.p + 1, s1.atoms, s1.vars⟩) (by dsimp only; omega) hr⟩
        · obtain ⟨b, e1, e2, e3⟩ := g4 a (by omega) ha2 hB
          have ag := ins_agree (b := b) (hz a hB)
          refine ⟨b, e1, e2, fun hA => ?_⟩
          have hn : ¬ (s1.atoms.length = 40 ∨ kindAt (ins ts a b) s1.p ≠ 6) := by rw [kindAt_same (ag _ (by omega))]; exact hc
          exact ItemsR.more (o5 _ (ag.le (by omega))) hn (e3 (by omega))
/-- Words and commas only, a word first. -/
structure OnlyW (ts : List Tk) (p q : Nat) : Prop where
  le : p ≤ q
  all : ∀ i, p ≤ i → i < q → kindAt ts i = 1 ∨ kindAt ts i = 6
  first : p < q → kindAt ts p = 1
theorem OnlyW.refl (ts : List Tk) (p : Nat) : OnlyW ts p p := ⟨Nat.le_refl _, fun i h1 h2 => by omega, fun h => by omega⟩
theorem OnlyW.one {ts : List Tk} {p : Nat} (h : kindAt ts p = 1) : OnlyW ts p (p + 1) := ⟨by omega, fun i h1 h2 => by rw [show i = p by omega]; exact .inl h, fun _ => h⟩
theorem OnlyW.trans {ts : List Tk} {p q r : Nat} (h : OnlyW ts p q) (k : OnlyW ts q r) : OnlyW ts p r := by
  refine ⟨Nat.le_trans h.le k.le, fun i h1 h2 => ?_, fun hp => ?_⟩
  · rcases Nat.lt_or_ge i q with hl | hl
    · exact h.all i h1 hl
    · exact k.all i hl h2
  · rcases Nat.lt_or_ge p q with hl | hl
    · exact h.first hl
    · have := h.le
      have e : p = q := by omega
      subst e
      exact k.first hp
theorem OnlyW.comma {ts : List Tk} {p q r : Nat} (h : OnlyW ts p q) (hp : p < q) (h6 : kindAt ts q = 6) (k : OnlyW ts (q + 1) r) : OnlyW ts p r := by
  refine ⟨by have := h.le; have := k.le; omega, fun i h1 h2 => ?_, fun _ => h.first hp⟩
  rcases Nat.lt_or_ge i q with hl | hl
  · exact h.all i h1 hl
  · rcases Nat.eq_or_lt_of_le hl with rfl | hl
    · exact .inr h6
    · exact k.all i hl h2
theorem varP_only {ts : List Tk} {v a a' : List ByteArray} {p q : Nat} (h : varP ts v a p = .ok (a', q)) : OnlyW ts p q ∧ q = p + 1 := by
  rcases varP_cases ts v a p with ⟨_, e⟩ | ⟨_, _, e⟩ | ⟨h1, _, _, e⟩
  · rw [e] at h; cases h
  · rw [e] at h; cases h
  · rw [e] at h; cases h; exact ⟨.one h1, rfl⟩
theorem retP_only {ts : List Tk} {v : List ByteArray} : ∀ (k : Nat) (a a' : List ByteArray) (p q : Nat), retP ts v k a p = .ok (a', q) → OnlyW ts p q
  | 0, a, a', p, q, h => by unfold retP at h; cases h; exact .refl _ _
  | k + 1, a, a', p, q, h => by
    unfold retP at h
    obtain ⟨⟨a1, p1⟩, h1, h2⟩ := bind_ok h
    obtain ⟨o, rfl⟩ := varP_only h1
    dsimp only at h2
    split at h2
    · rename_i hc
      exact o.comma (by omega) hc.2 (retP_only k _ _ _ _ h2)
    · cases h2; exact o
theorem hintP_only {ts : List Tk} {v : List ByteArray} : ∀ (k : Nat) (a a' : List ByteArray) (p q : Nat), hintP ts v k a p = .ok (a', q) → OnlyW ts p q
  | 0, a, a', p, q, h => by unfold hintP at h; cases h; exact .refl _ _
  | k + 1, a, a', p, q, h => by
    unfold hintP at h
    obtain ⟨⟨a1, p1⟩, h1, h2⟩ := bind_ok h
    obtain ⟨o, rfl⟩ := varP_only h1
    exact o.trans (hintP_only k _ _ _ _ h2)
theorem says_kind {ts : List Tk} {s : ByteArray} {p : Nat} (h : saysP ts s p = true) : kindAt ts p = 1 := by
  unfold saysP at h
  simp at h
  exact h.1
theorem numP_only {ts : List Tk} {p q : Nat} {n : Int} (h : numP ts p = .ok (n, q)) : OnlyW ts p q := by
  rw [numP_eq] at h
  split at h
  · rename_i hk
    split at h
    · cases h
    · cases h; exact .one hk
  · cases h
theorem toldP_only {ts : List Tk} {st : PS} {P : Pat} {q : Nat} (h : toldP ts st = .ok (P, q)) : OnlyW ts st.p q ∧ P.atoms = st.atoms := by
  unfold toldP at h
  obtain ⟨⟨r, p1⟩, g1, h2⟩ := bind_ok h
  obtain ⟨⟨g, p2⟩, g2, h3⟩ := bind_ok h2
  obtain ⟨⟨k, p3⟩, g3, h4⟩ := bind_ok h3
  cases h4
  try dsimp only at g2
  try dsimp only at g3
  have o1 : OnlyW ts st.p p1 := by
    unfold toldRet at g1
    split at g1
    · rename_i hc; exact (OnlyW.one (says_kind hc.2)).trans (retP_only _ _ _ _ _ g1)
    · cases g1; exact .refl _ _
  have o2 : OnlyW ts p1 p2 := by
    unfold toldPage at g2
    split at g2
    · rename_i hc
      split at g2
      · rename_i hd
        cases g2
        exact (OnlyW.one (says_kind hc)).trans (.one (says_kind hd))
      · cases g2; exact .one (says_kind hc)
    · obtain ⟨⟨l, n, p4⟩, j1, j2⟩ := bind_ok g2
      obtain ⟨⟨m, p5⟩, j3, j4⟩ := bind_ok j2
      cases j4
      dsimp only at j3
      have a1 : OnlyW ts p1 p4 := by
        split at j1
        · rename_i hc
          obtain ⟨⟨n', p6⟩, i1, i2⟩ := bind_ok j1
          cases i2
          exact (OnlyW.one (says_kind hc)).trans (numP_only i1)
        · cases j1; exact .refl _ _
      have a2 : OnlyW ts p4 p2 := by
        split at j3
        · rename_i hc
          obtain ⟨⟨n', p6⟩, i1, i2⟩ := bind_ok j3
          cases i2
          exact (OnlyW.one (says_kind hc)).trans (numP_only i1)
        · cases j3; exact .refl _ _
      exact a1.trans a2
  have o3 : OnlyW ts p2 q := by
    unfold toldHint at g3
    split at g3
    · rename_i hc; exact (OnlyW.one (says_kind hc.2)).trans (hintP_only _ _ _ _ _ g3)
    · cases g3; exact .refl _ _
  exact ⟨(o1.trans o2).trans o3, rfl⟩
theorem ToksR.groups0 {ts : List Tk} {P : Pat} (hz : ∀ a, isB ts a = true → ts[a]? = some opn) (h : ToksR ts (.ok P)) :
    cnt (isB ts) 0 ts.length = P.atoms.length ∧ ∀ a, a < ts.length → isB ts a = true → ∃ b, Ends ts a b ∧ (cnt (isA ts) 0 ts.length ≤ 3 → ToksR (ins ts a b) (.ok P)) := by
  obtain ⟨x, ⟨f, hf⟩, he⟩ := h
  obtain ⟨st, rfl, h1⟩ := bind_ok he.symm
  obtain ⟨⟨P1, p1⟩, h2, h3⟩ := bind_ok h1
  dsimp only at h3
  have hp : ¬ p1 < ts.length ∧ P1 = P := by
    split at h3
    · cases h3
    · cases h3; exact ⟨by assumption, rfl⟩
  obtain ⟨hp, rfl⟩ := hp
  obtain ⟨ow, hat⟩ := toldP_only h2
  have hst : st.p ≤ ts.length := (itemsF_loc f 0 _ _ hf).2.1 (Nat.zero_le _)
  have h10 : kindAt ts st.p ≠ 10 := by
    intro e
    have hl : st.p < ts.length := kindAt_lt (by rw [e]; decide)
    have := ow.first (by omega)
    omega
  obtain ⟨g1, g2, g3, g4⟩ := items_groups hz f 0 _ st hf h10 (.inl rfl)
  dsimp only at g1 g3 g4
  have n4 : ∀ i, st.p ≤ i → i < ts.length → kindAt ts i ≠ 4 := fun i h1 h2 => by
    have := ow.all i h1 (by omega)
    omega
  refine ⟨?_, fun a ha hB => ?_⟩
  · rw [hat, g3, cnt_add _ (Nat.zero_le st.p) hst, cnt_none _ (fun i h1 h2 => isB_ne (n4 i h1 h2))]
    simp
  · have hlt : a < st.p := by
      rcases Nat.lt_or_ge a st.p with h | h
      · exact h
      · have := isB_ne (n4 a h ha)
        rw [hB] at this; cases this
    obtain ⟨b, e1, e2, e3⟩ := g4 a (Nat.zero_le _) hlt hB
    refine ⟨b, e1, fun hA => ?_⟩
    have hA' : cnt (isA ts) 0 st.p ≤ 3 := by
      rw [cnt_add _ (Nat.zero_le st.p) hst] at hA; omega
    have := e1.lt
    refine ⟨_, e3 (by omega), ?_⟩
    show _ = (toldP (ins ts a b) ⟨st.p + 2, st.atoms, st.vars⟩).bind _
    rw [told_after (by omega) e1.le e2 h2]
    simp only [Except.bind]
    rw [ins_len (by omega) e1.le, if_neg (by omega)]
/-- A token whose place is forgotten. -/
def Tk.bare (t : Tk) : Tk := ⟨t.kind, t.text, 0⟩
theorem bare_check {t : Tk} (h : t.check = true) : t.bare.check = true := (checkB_iff.2 ⟨check_tok h, by show (0 : Int) ≤ 0; omega⟩ : checkB t.kind (bts t.text) 0 = true)
theorem ToksR.groups {ts : List Tk} {P : Pat} (hz : ∀ t ∈ ts, t.check = true) (h : ToksR ts (.ok P)) :
    cnt (isB ts) 0 ts.length = P.atoms.length ∧ ∀ a, a < ts.length → isB ts a = true → ∃ b, Ends ts a b ∧ (cnt (isA ts) 0 ts.length ≤ 3 → ToksR (ins ts a b) (.ok P)) := by
  obtain ⟨us, hus⟩ : ∃ us, ts.map Tk.bare = us := ⟨_, rfl⟩
  have hcu : ∀ t ∈ us, t.check = true := fun t ht => by
    rw [← hus] at ht
    obtain ⟨x, hx, rfl⟩ := List.mem_map.1 ht
    exact bare_check (hz x hx)
  have hk : kt ts = kt us := by rw [← hus]; unfold kt Tk.bare; simp
  have hS := kt_same hk hz hcu
  have hA : isA us = isA ts := by unfold isA; rw [hS.2.1]
  have hB : isB us = isB ts := by unfold isB isA; rw [hS.2.1]
  have hz0 : ∀ a, isB us a = true → us[a]? = some opn := fun a hb => by
    have h4 : kindAt us a = 4 := by
      unfold isB at hb
      simp only [Bool.and_eq_true, beq_iff_eq] at hb
      exact hb.2.1
    obtain ⟨t, ht, hc, hk4, _⟩ := kindAt_ne h4 (by decide)
    rw [ht]
    have hm : t ∈ us := List.mem_of_getElem? ht
    rw [← hus] at hm
    obtain ⟨x, hx, rfl⟩ := List.mem_map.1 hm
    have hk4' : x.kind = 4 := hk4
    have hti := check_tok (hz x hx)
    rw [hk4'] at hti
    have hb0 : bts x.text = [] := by
      generalize bts x.text = l at hti
      cases hti with
      | sign h => rfl
    have : x.text = nilB := bts_inj (by rw [hb0]; rfl)
    unfold Tk.bare opn
    rw [hk4', this]
  obtain ⟨g1, g2⟩ := ToksR.groups0 hz0 (hS.toks h)
  simp only [hA, hB, ← hS.1] at g1 g2
  refine ⟨g1, fun a ha hb => ?_⟩
  obtain ⟨b, e1, e2⟩ := g2 a ha hb
  have e1' : Ends ts a b := ⟨e1.lt, by rw [hS.1]; exact e1.le, by rw [hS.2.1]; exact e1.close, by rw [hS.2.1]; exact e1.after, by rw [hS.2.1]; exact e1.mid⟩
  refine ⟨b, e1', fun hc => ?_⟩
  have hki : kt (ins us a b) = kt (ins ts a b) := by
    unfold kt at hk ⊢
    unfold ins
    simp only [List.map_append, List.map_cons, List.map_take, List.map_drop, hk]
  have hall : ∀ xs : List Tk, (∀ t ∈ xs, t.check = true) → ∀ t ∈ ins xs a b, t.check = true := fun xs hx t ht => by
    unfold ins at ht
    rcases List.mem_append.1 ht with ht | ht
    · exact hx t (List.mem_of_mem_take ht)
    · rcases List.mem_cons.1 ht with rfl | ht
      · decide +kernel
      · rcases List.mem_append.1 ht with ht | ht
        · exact hx t (List.mem_of_mem_drop (List.mem_of_mem_take ht))
        · rcases List.mem_cons.1 ht with rfl | ht
          · decide +kernel
          · exact hx t (List.mem_of_mem_drop ht)
  exact (kt_same hki (hall us hcu) (hall ts hz)).toks (e2 hc)
end Go.Proofs.Ytngnplghjaojhaa
