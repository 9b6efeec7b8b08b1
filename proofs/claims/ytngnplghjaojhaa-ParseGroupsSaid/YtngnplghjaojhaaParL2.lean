/- What stands between tokens changes nothing. Plain. -/
import Derived.Test.YtngnplghjaojhaaParL1
namespace Go.Proofs.Ytngnplghjaojhaa
set_option maxRecDepth 100000
set_option maxHeartbeats 2000000
set_option linter.unusedSimpArgs false
set_option linter.unusedVariables false

theorem TokIs.begins2 {k : Int} {l : List UInt8} (h : TokIs k l) {r : List UInt8} (hr : spanL letterC r = 0) : BegIs (standsL k l ++ r) k l (standsL k l).length := by
  cases h with
  | word h =>
    obtain ⟨h1, h2, h3⟩ := allB_iff.1 h
    have e := all_prefix (b := r) h1
    rw [hr, Nat.add_zero] at e
    have := BegIs.word (l := l ++ r) (by omega) (by omega)
    rw [e, List.take_left] at this
    exact this
  | key h =>
    obtain ⟨h1, h2, h3⟩ := allB_iff.1 h
    have e := all_prefix (b := r) h1
    rw [hr, Nat.add_zero] at e
    have := BegIs.key (r := l ++ r) (by omega) (by omega)
    rw [e, List.take_left] at this
    exact this
  | text h =>
    obtain ⟨h1, h2, h3⟩ := allB_iff.1 h
    have e := all_prefix (b := 34 :: r) h1
    rw [spanL_no (by decide), Nat.add_zero] at e
    have := BegIs.text (r := l ++ 34 :: r) (by omega) (by rw [e, List.getElem?_append_right (Nat.le_refl _), Nat.sub_self]; rfl)
    rw [e, List.take_left] at this
    have e2 : standsL 3 l ++ r = 34 :: (l ++ 34 :: r) := by
      show (34 :: (l ++ [34])) ++ r = _
      simp
    rw [e2]
    have e3 : (standsL 3 l).length = l.length + 2 := by
      show (34 :: (l ++ [34])).length = _
      simp
    rw [e3]; exact this
  | sign h => rw [standsL_sign h]; exact .sign h
theorem TokIs.head2 {k : Int} {l : List UInt8} (h : TokIs k l) (hk : k ≠ 1) (r : List UInt8) : spanL letterC (standsL k l ++ r) = 0 := by
  cases h with
  | word h => exact absurd rfl hk
  | key h => exact spanL_no (c := 64) (by decide)
  | text h => exact spanL_no (c := 34) (by decide)
  | sign h =>
    rw [standsL_sign h]
    simp only [signs, List.mem_cons, List.not_mem_nil, or_false, Prod.mk.injEq] at h
    rcases h with ⟨rfl, rfl⟩ | ⟨rfl, rfl⟩ | ⟨rfl, rfl⟩ | ⟨rfl, rfl⟩ | ⟨rfl, rfl⟩ | ⟨rfl, rfl⟩ | ⟨rfl, rfl⟩ | ⟨rfl, rfl⟩ <;> exact spanL_no (by decide)
/-- Tokens with blanks ahead of each, if any; words stand apart. -/
inductive Laid2 : List Tk → List UInt8 → Prop
  | nil : Laid2 [] []
  | cons {t : Tk} {l : List Tk} {sep r : List UInt8} (h : TokIs t.kind (bts t.text)) (hs : ∀ c ∈ sep, blankC c.toNat = true) (hr : spanL letterC r = 0) (hl : Laid2 l r) : Laid2 (t :: l) (sep ++ (t.stands ++ r))
theorem Laid2.read {l : List Tk} {u : List UInt8} (h : Laid2 l u) : ∀ (s : List UInt8) (p : Nat), s.drop p = u → p ≤ s.length → kt (yieldsAt s (skipL s p)) = kt l ∧ ∀ t ∈ yieldsAt s (skipL s p), t.kind ≠ 0 := by
  induction h with
  | nil =>
    intro s p hd hp
    have : s.length ≤ p := by
      rcases Nat.lt_or_ge p s.length with h | h
      · have := congrArg List.length hd; rw [List.length_drop] at this; simp at this; omega
      · exact h
    have h2 := skipL_ge s p
    rw [yieldsAt_end (by omega)]
    exact ⟨rfl, fun t ht => by simp at ht⟩
  | @cons t l sep r ht hs hr hl ih =>
    intro s p hd hp
    obtain ⟨c, y, he, hc⟩ := ht.head
    have hst : t.stands = c :: y := he
    have hsk : skipL s p = p + sep.length := by
      unfold skipL
      rw [hd, spanL_append _ _ _ hs, hst, List.cons_append, spanL_no hc, Nat.add_zero]
    rw [hsk]
    have hd1 : s.drop (p + sep.length) = t.stands ++ r := by rw [← List.drop_drop, hd, List.drop_left]
    have hb := ht.begins2 hr
    have hbl : begL (s.drop (p + sep.length)) = (t.kind, bts t.text, t.stands.length) := by rw [hd1]; exact begL_of hb
    have hpos := hb.pos
    have hlen : p + sep.length + t.stands.length ≤ s.length := by
      have := congrArg List.length hd
      rw [List.length_drop, List.length_append, List.length_append] at this; omega
    have hpos' : 0 < t.stands.length := hpos
    have hlt : p + sep.length < s.length := by omega
    have hn0 : (begL (s.drop (p + sep.length))).2.2 ≠ 0 := by rw [hbl]; dsimp only; omega
    rw [yieldsAt_more hlt hn0]
    have hd2 : s.drop (p + sep.length + t.stands.length) = r := by rw [← List.drop_drop, hd1, List.drop_left]
    obtain ⟨h1, h2⟩ := ih s _ hd2 hlen
    have hnn : (begL (s.drop (p + sep.length))).2.2 = t.stands.length := by rw [hbl]
    rw [hnn]
    have htk : (tkAt s (p + sep.length)).kind = t.kind ∧ (tkAt s (p + sep.length)).text = t.text := by
      unfold tkAt
      rw [hbl]
      exact ⟨rfl, txt_bts _⟩
    refine ⟨?_, fun x hx => ?_⟩
    · unfold kt at h1 ⊢
      rw [List.map_cons, List.map_cons, h1, htk.1, htk.2]
    · rcases List.mem_cons.1 hx with rfl | hx
      · rw [htk.1]; have := hb.kind; omega
      · exact h2 x hx
theorem Laid2.reads {l : List Tk} {u : List UInt8} (h : Laid2 l u) (hu : u.length ≤ 500) : ∃ back, readF u = (back, (u.length : Int), 0) ∧ kt back = kt l := by
  obtain ⟨h1, h2⟩ := h.read u 0 (by rw [List.drop_zero]) (Nat.zero_le _)
  exact ⟨yields u, readF_good hu h2, h1⟩
/-- Is the next one a word? -/
def wordNext : List Tk → Bool
  | x :: _ => x.kind == 1
  | [] => false
/-- Tokens, a line feed ahead of some; words stand apart; from the i-th on. -/
def blT (sd : Nat → Bool) : List Tk → Nat → List UInt8
  | [], _ => []
  | t :: l, i => (if sd i = true then [10] else []) ++ (t.stands ++ ((if wordNext l = true then [32] else []) ++ blT sd l (i + 1)))
theorem laid_blT (sd : Nat → Bool) (l : List Tk) : (∀ t ∈ l, t.check = true) → ∀ (i : Nat) (pre : List UInt8), (∀ c ∈ pre, blankC c.toNat = true) → (l = [] → pre = []) → Laid2 l (pre ++ blT sd l i) := by
  induction l with
  | nil => intro _ i pre _ hp; rw [hp rfl]; exact .nil
  | cons t l ih =>
    intro h i pre hpre _
    unfold blT
    rw [← List.append_assoc]
    have ht := check_tok (h t (by simp))
    have hw : ∀ c ∈ (if wordNext l = true then ([32] : List UInt8) else []), blankC c.toNat = true := by
      intro c hc
      split at hc
      · simp at hc; subst hc; decide
      · simp at hc
    refine .cons ht ?_ ?_ (ih (fun x hx => h x (List.mem_cons_of_mem _ hx)) (i + 1) _ hw ?_)
    · intro c hc
      rcases List.mem_append.1 hc with hc | hc
      · exact hpre c hc
      · split at hc
        · simp at hc; subst hc; decide
        · simp at hc
    · cases l with
      | nil => rfl
      | cons x l' =>
        by_cases hx : wordNext (x :: l') = true
        · rw [if_pos hx]; exact spanL_no (by decide)
        · rw [if_neg hx, List.nil_append]
          unfold blT
          by_cases hsd : sd (i + 1) = true
          · rw [if_pos hsd]; exact spanL_no (by decide)
          · rw [if_neg hsd, List.nil_append]
            have hk : x.kind ≠ 1 := by
              intro e; apply hx; show (x.kind == 1) = true; rw [e]; rfl
            exact (check_tok (h x (by simp))).head2 hk _
    · rintro rfl; rfl
/-- How much stands for tokens. -/
def sumSt (l : List Tk) : Nat := (l.map fun t => t.stands.length).sum
theorem blT_len (sd : Nat → Bool) (l : List Tk) : ∀ i, (blT sd l i).length ≤ sumSt l + 2 * l.length := by
  induction l with
  | nil => intro i; simp [blT]
  | cons t l ih =>
    intro i
    have h2 := ih (i + 1)
    have h3 : (if sd i = true then ([10] : List UInt8) else []).length ≤ 1 := by split <;> simp
    have h4 : (if wordNext l = true then ([32] : List UInt8) else []).length ≤ 1 := by split <;> simp
    unfold blT sumSt
    unfold sumSt at h2
    rw [List.length_append, List.length_append, List.length_append, List.length_cons, List.map_cons, List.sum_cons]
    omega
theorem yieldsF_sum (s : List UInt8) : ∀ (f p : Nat), (∀ t ∈ yieldsF s f p, t.kind ≠ 0) → sumSt (yieldsF s f p) ≤ s.length - p ∧ ∀ t ∈ yieldsF s f p, 0 ≤ t.at_ ∧ t.at_ < s.length
  | 0, p, _ => by simp [yieldsF, sumSt]
  | f + 1, p, hk => by
    unfold yieldsF at hk ⊢
    by_cases hp : p < s.length
    · rw [if_pos hp] at hk ⊢
      have hn : (begL (s.drop p)).2.2 ≠ 0 := fun e => hk _ List.mem_cons_self (begL_kind0 e)
      rw [if_neg hn] at hk ⊢
      have hb := begL_is (Nat.pos_of_ne_zero hn)
      obtain ⟨_, hl, hle⟩ := hb.stands
      rw [List.length_drop] at hle
      have hsk := skipL_ge s (p + (begL (s.drop p)).2.2)
      obtain ⟨i1, i2⟩ := yieldsF_sum s f _ (fun x hx => hk x (List.mem_cons_of_mem _ hx))
      have hst : (⟨(begL (s.drop p)).1, txt (begL (s.drop p)).2.1, p⟩ : Tk).stands.length = (begL (s.drop p)).2.2 := by
        unfold Tk.stands
        dsimp only
        rw [bts_txt]; exact hl.symm
      refine ⟨?_, fun t ht => ?_⟩
      · unfold sumSt at i1 ⊢
        rw [List.map_cons, List.sum_cons, hst]
        omega
      · rcases List.mem_cons.1 ht with rfl | ht
        · dsimp only; omega
        · exact i2 t ht
    · rw [if_neg hp]
      exact ⟨by simp [sumSt], fun t ht => by simp at ht⟩
theorem LexIs.more {s : ByteArray} {l : List Tk} {a c : Int} (h : LexIs s l a c) : (sumSt l ≤ s.size ∧ l.length ≤ s.size) ∧ (∀ t ∈ l, 0 ≤ t.at_ ∧ t.at_ ≤ 500) ∧ 0 ≤ a ∧ a ≤ 500 := by
  have hcs := readF_cases (bts s)
  rw [bts_len] at hcs
  rcases hcs with ⟨_, e⟩ | ⟨h5, p, hp0, hp1, e⟩ | ⟨h5, m, e, hy, hk, _⟩
  · have := h.1.symm.trans e
    simp only [Prod.mk.injEq] at this
    obtain ⟨rfl, rfl, _⟩ := this
    exact ⟨by simp [sumSt], fun t ht => by simp at ht, by omega, by omega⟩
  · have := h.1.symm.trans e
    simp only [Prod.mk.injEq] at this
    obtain ⟨rfl, rfl, _⟩ := this
    exact ⟨by simp [sumSt], fun t ht => by simp at ht, by omega, by omega⟩
  · have := h.1.symm.trans e
    simp only [Prod.mk.injEq] at this
    obtain ⟨rfl, rfl, _⟩ := this
    have := yieldsF_sum (bts s) (bts s).length (skipL (bts s) 0) (by
      have : l = yieldsF (bts s) (bts s).length (skipL (bts s) 0) := hy
      rw [← this]; exact hk)
    rw [show yieldsF (bts s) (bts s).length (skipL (bts s) 0) = l from hy.symm, bts_len] at this
    have hyl := yields_len (bts s)
    rw [← hy, bts_len] at hyl
    exact ⟨⟨by omega, hyl⟩, fun t ht => by have := this.2 t ht; omega, by omega, by omega⟩
/-- Where a text is wrong. -/
theorem PResIs.place {s : ByteArray} {r : Except Int Pat} {Q : Pat} {n c : Int} (h : PResIs s r Q n c) (hr : ParsR s r) (hc : c ≠ 0) (hs : s.size ≤ 500) : Q = zPat ∧ c = 260 ∧ 0 ≤ n ∧ n ≤ 500 := by
  rcases h with ⟨_, _, h, _⟩ | ⟨rfl, h1, h2⟩
  · exact absurd h hc
  · refine ⟨h1, h2, ?_⟩
    obtain ⟨l, a, c', hl⟩ := lexed s
    have hm := hl.more
    unfold ParsR at hr
    rw [hl.1] at hr
    dsimp only at hr
    split at hr
    · obtain ⟨x, _, he⟩ := hr
      cases x with
      | ok P => cases he
      | error q =>
        cases he
        unfold placeOf
        split
        · rename_i t ht
          exact hm.2.1 t (List.mem_of_getElem? ht)
        · exact ⟨by omega, by omega⟩
    · cases hr
      exact ⟨hm.2.2.1, hm.2.2.2⟩
/-- The same kinds and texts come to the same. -/
def SameK (ts us : List Tk) : Prop := ts.length = us.length ∧ kindAt ts = kindAt us ∧ textAt ts = textAt us
theorem kt_same {ts us : List Tk} (h : kt ts = kt us) (h1 : ∀ t ∈ ts, t.check = true) (h2 : ∀ t ∈ us, t.check = true) : SameK ts us := by
  have hl : ts.length = us.length := by have := congrArg List.length h; simpa [kt] using this
  have hp : ∀ p : Nat, (ts[p]? = none ∧ us[p]? = none) ∨ ∃ t u, ts[p]? = some t ∧ us[p]? = some u ∧ t.kind = u.kind ∧ t.text = u.text ∧ t.check = true ∧ u.check = true := by
    intro p
    rcases Nat.lt_or_ge p ts.length with hlt | hge
    · refine .inr ⟨ts[p], us[p]'(by omega), List.getElem?_eq_getElem hlt, List.getElem?_eq_getElem (by omega), ?_⟩
      have := congrArg (fun l => l[p]?) h
      simp only [kt, List.getElem?_map, List.getElem?_eq_getElem hlt, List.getElem?_eq_getElem (show p < us.length by omega), Option.map_some, Option.some.injEq, Prod.mk.injEq] at this
      exact ⟨this.1, this.2, h1 _ (List.getElem_mem _), h2 _ (List.getElem_mem _)⟩
    · exact .inl ⟨List.getElem?_eq_none hge, List.getElem?_eq_none (by omega)⟩
  refine ⟨hl, funext fun p => ?_, funext fun p => ?_⟩
  · unfold kindAt
    rcases hp p with ⟨a, b⟩ | ⟨t, u, a, b, c, d, e, f⟩
    · rw [a, b]
    · rw [a, b]; simp only [e, f, if_true]; exact c
  · unfold textAt
    rw [List.getD_eq_getElem?_getD, List.getD_eq_getElem?_getD]
    rcases hp p with ⟨a, b⟩ | ⟨t, u, a, b, c, d, e, f⟩
    · rw [a, b]
    · rw [a, b]; exact d
theorem numP_eq (ts : List Tk) (p : Nat) : numP ts p = if kindAt ts p = 1 then (match numberF 1 (bts (textAt ts p)) with | none => .error p | some n => .ok (n, p + 1)) else .error p := by
  unfold numP takeP
  by_cases h : kindAt ts p = 1
  · rw [if_pos h, if_pos h]
    simp only [Except.bind]
    obtain ⟨t, ht, _, hk, hx⟩ := kindAt_ne h (by decide)
    have : (ts.getD p tkNil).number = numberF 1 (bts (textAt ts p)) := by
      rw [hx, List.getD_eq_getElem?_getD, ht]
      show numberF t.kind (bts t.text) = _
      rw [hk]
    rw [this]
    rfl
  · rw [if_neg h, if_neg h]; rfl
section
variable {ts us : List Tk}
theorem SameK.take (h : SameK ts us) : takeP ts = takeP us := by funext k p; unfold takeP; rw [h.2.1, h.2.2]
theorem SameK.term (h : SameK ts us) : termP ts = termP us := by funext v p; unfold termP; rw [h.2.1, h.2.2]
theorem SameK.mid (h : SameK ts us) : midP ts = midP us := by funext p; unfold midP; rw [h.2.1, h.take]
theorem SameK.atom (h : SameK ts us) : atomP ts = atomP us := by funext st; unfold atomP; rw [h.2.1, h.take, h.term, h.mid]
theorem SameK.var (h : SameK ts us) : varP ts = varP us := by funext v a p; unfold varP; rw [h.take]
theorem SameK.num (h : SameK ts us) : numP ts = numP us := by funext p; rw [numP_eq, numP_eq, h.2.1, h.2.2]
theorem SameK.says (h : SameK ts us) : saysP ts = saysP us := by funext s p; unfold saysP; rw [h.2.1, h.2.2]
theorem SameK.items (h : SameK ts us) : ∀ f, itemsF ts f = itemsF us f
  | 0 => by funext d st; rfl
  | f + 1 => by
    funext d st
    unfold itemsF
    rw [h.2.1, h.take, h.atom, SameK.items h f]
theorem SameK.ret (h : SameK ts us) (vars : List ByteArray) : ∀ k acc p, retP ts vars k acc p = retP us vars k acc p
  | 0, acc, p => rfl
  | k + 1, acc, p => by
    unfold retP
    rw [h.var, h.2.1]
    congr 1
    funext x
    obtain ⟨a, q⟩ := x
    dsimp only
    rw [SameK.ret h vars k]
theorem SameK.hint (h : SameK ts us) (vars : List ByteArray) : ∀ k acc p, hintP ts vars k acc p = hintP us vars k acc p
  | 0, acc, p => rfl
  | k + 1, acc, p => by
    unfold hintP
    rw [h.var]
    congr 1
    funext x
    obtain ⟨a, q⟩ := x
    dsimp only
    rw [SameK.hint h vars k]
theorem SameK.told (h : SameK ts us) : toldP ts = toldP us := by
  funext st
  have e1 : toldRet ts st.vars = toldRet us st.vars := by funext p; unfold toldRet; rw [h.says, h.ret]
  have e2 : toldPage ts = toldPage us := by funext p; unfold toldPage; rw [h.says, h.num]
  have e3 : toldHint ts st.vars = toldHint us st.vars := by funext p; unfold toldHint; rw [h.says, h.hint]
  unfold toldP
  rw [e1, e2, e3]
end
theorem SameK.toks {ts us : List Tk} (h : SameK ts us) {r : Except Nat Pat} (hr : ToksR ts r) : ToksR us r := by
  obtain ⟨x, ⟨f, hf⟩, he⟩ := hr
  refine ⟨x, ⟨f, by rw [← h.items f]; exact hf⟩, ?_⟩
  rw [he, h.told, h.1]
/-- The text with other blanks comes to the same pattern. -/
theorem ParsR.blanks {s : ByteArray} {l : List Tk} {a c : Int} {P : Pat} (hl : LexIs s l a c) (h : ParsR s (.ok P)) (hs : s.size ≤ 150) (sd : Nat → Bool) : c = 0 ∧ (∀ t ∈ l, t.check = true) ∧ (blT sd l 0).length ≤ 500 ∧ ParsR (txt (blT sd l 0)) (.ok P) := by
  have hm := hl.more
  have hck : ∀ t ∈ l, t.check = true := fun t ht => (hl.2.2.1 t ht).2
  unfold ParsR at h
  rw [hl.1] at h
  dsimp only at h
  split at h
  · rename_i hc
    obtain ⟨x, hx, he⟩ := h
    cases x with
    | error q => cases he
    | ok P' =>
      cases he
      have h1 := blT_len sd l 0
      have h5 : (blT sd l 0).length ≤ 500 := by omega
      refine ⟨hc, hck, h5, ?_⟩
      have hlaid := laid_blT sd l hck 0 [] (fun c hc => by simp at hc) (fun _ => rfl)
      rw [List.nil_append] at hlaid
      obtain ⟨back, hb, hk⟩ := hlaid.reads h5
      have hbc : ∀ t ∈ back, t.check = true := by
        obtain ⟨l2, a2, c2, hl2⟩ := lexed (txt (blT sd l 0))
        have := hl2.1
        rw [bts_txt, hb] at this
        simp only [Prod.mk.injEq] at this
        obtain ⟨rfl, _⟩ := this
        exact fun t ht => (hl2.2.2.1 t ht).2
      unfold ParsR
      rw [bts_txt, hb]
      dsimp only
      rw [if_pos rfl]
      exact ⟨.ok P, (kt_same hk.symm hck hbc).toks hx, rfl⟩
  · cases h
end Go.Proofs.Ytngnplghjaojhaa
