/- The document's state: what is told: the plain side. -/
import Derived.Test.YtngnplghjaojhaaGp32
import Derived.Test.YtngnplghjaojhaaGp28
import Derived.Test.YtngnplghjaojhaaGp33
import Derived.Test.YtngnplghjaojhaaGp23
namespace Go.Proofs.Ytngnplghjaojhaa
set_option maxRecDepth 100000
set_option maxHeartbeats 2000000
set_option linter.unusedSimpArgs false
set_option linter.unusedVariables false
theorem varF_bad (ts : List Tk) (V L : List ByteArray) (p : Nat) : varF ts V L p true = (p, true, L ++ [nilB]) := by
  unfold varF
  rw [takeR_bad, if_neg (by simp)]
theorem varF_P (ts : List Tk) (V L : List ByteArray) (p : Nat) : match varP ts V L p with
    | .ok (l, q) => varF ts V L p false = (q, false, l)
    | .error q => (varF ts V L p false).1 = q ∧ (varF ts V L p false).2.1 = true := by
  unfold varP
  have hr := takeR_P ts 1 p
  cases ht : takeP ts 1 p with
  | error q =>
    rw [ht] at hr
    simp only [Except.bind]
    unfold varF
    rw [hr, if_neg (by simp)]
    exact ⟨rfl, rfl⟩
  | ok r =>
    obtain ⟨s, q⟩ := r
    rw [ht] at hr
    simp only [Except.bind]
    by_cases hh : hasB s V = false ∨ hasB s L = true
    · rw [if_pos hh]
      unfold varF
      rw [hr, if_pos ⟨rfl, hh⟩]
      exact ⟨rfl, rfl⟩
    · rw [if_neg hh]
      unfold varF
      rw [hr, if_neg (fun e => hh e.2)]
theorem numF_P (ts : List Tk) (p : Nat) : match numP ts p with
    | .ok (n, q) => numF ts p false = (q, false, n)
    | .error q => (numF ts p false).1 = q ∧ (numF ts p false).2.1 = true := by
  unfold numP
  have hr := takeR_P ts 1 p
  cases ht : takeP ts 1 p with
  | error q =>
    rw [ht] at hr
    simp only [Except.bind]
    unfold numF
    rw [hr, if_pos rfl]
    exact ⟨rfl, rfl⟩
  | ok r =>
    obtain ⟨s, q⟩ := r
    rw [ht] at hr
    have hq := takeP_ok ht
    subst hq
    simp only [Except.bind]
    unfold numF
    rw [hr]
    simp only [Nat.add_sub_cancel, Bool.false_eq_true, if_false]
    cases (ts.getD p tkNil).number with
    | none => exact ⟨rfl, rfl⟩
    | some n => rfl
theorem varF_le {ts : List Tk} (V L : List ByteArray) {p : Nat} (hp : p ≤ ts.length) (bad : Bool) : (varF ts V L p bad).1 ≤ ts.length := by
  unfold varF
  split
  · exact hp
  · exact takeR_le hp (by decide) bad
theorem numF_le {ts : List Tk} {p : Nat} (hp : p ≤ ts.length) (bad : Bool) : (numF ts p bad).1 ≤ ts.length := by
  have h := takeR_le hp (q := 1) (by decide) bad
  unfold numF
  split
  · exact h
  · split <;> simp only <;> omega
theorem varF_len {ts : List Tk} (V L : List ByteArray) {p : Nat} (bad : Bool) : (varF ts V L p bad).2.2.length ≤ L.length + 1 := by
  unfold varF
  split <;> simp
/-- What the loop behind 'return' still comes to, k more names may follow. -/
def retC (ts : List Tk) (V : List ByteArray) (k : Nat) (R : List ByteArray) (q : Nat) (qb : Bool) : Except Nat (List ByteArray × Nat) :=
  if qb = true then .error q else if k ≠ 0 ∧ kindAt ts q = 6 then retP ts V k R (q + 1) else .ok (R, q)
theorem retC_step (ts : List Tk) (V : List ByteArray) (k : Nat) (R : List ByteArray) (p : Nat) : retP ts V (k + 1) R p = retC ts V k (varF ts V R p false).2.2 (varF ts V R p false).1 (varF ts V R p false).2.1 := by
  have h := varF_P ts V R p
  unfold retP retC
  cases hv : varP ts V R p with
  | error q =>
    rw [hv] at h
    obtain ⟨h1, h2⟩ := h
    rw [h1, h2]
    simp [Except.bind]
  | ok r =>
    obtain ⟨l, q⟩ := r
    rw [hv] at h
    simp only at h
    rw [h]
    simp [Except.bind]
/-- What the loop behind 'hint' still comes to. -/
def hintC (ts : List Tk) (V : List ByteArray) (k : Nat) (R : List ByteArray) (q : Nat) (qb : Bool) : Except Nat (List ByteArray × Nat) :=
  if qb = true then .error q else hintP ts V k R q
theorem hintC_step (ts : List Tk) (V : List ByteArray) (k : Nat) (R : List ByteArray) (p : Nat) (bad : Bool) : hintC ts V (k + 1) R p bad = hintC ts V k (varF ts V R p bad).2.2 (varF ts V R p bad).1 (varF ts V R p bad).2.1 := by
  cases bad with
  | true => rw [varF_bad]; rfl
  | false =>
    have h := varF_P ts V R p
    unfold hintC
    rw [if_neg (by decide)]
    rw [hintP]
    cases hv : varP ts V R p with
    | error q =>
      rw [hv] at h
      obtain ⟨h1, h2⟩ := h
      rw [h1, h2]
      simp [Except.bind]
    | ok r =>
      obtain ⟨l, q⟩ := r
      rw [hv] at h
      simp only at h
      rw [h]
      simp [Except.bind]
end Go.Proofs.Ytngnplghjaojhaa

/- The document's Tokens, told's contract taken for granted as a premise (ToldC). -/
namespace Go.Proofs.Ytngnplghjaojhaa
set_option maxRecDepth 100000
set_option maxHeartbeats 2000000
set_option linter.unusedSimpArgs false
open Go.RowKit Go.Shelf Go.Sort
attribute [local go_sem] Oper.semAt_some wide_fn wide_depth
set_option linter.unusedVariables false
theorem named_all (ts : List Tk) : Named ts := by
  intro p hp he
  have hlt := kindAt_lt (ts := ts) (p := p) (by rw [hp]; decide)
  rw [kindAt_atS hlt] at hp
  have hc : ts[p].check = true := by
    cases h : ts[p].check with
    | true => rfl
    | false => rw [h] at hp; simp at hp
  rw [hc, if_pos rfl] at hp
  have ht : ts[p].text = nilB := by
    rw [← he]; unfold textAt; rw [List.getD_eq_getElem?_getD, List.getElem?_eq_getElem hlt]; rfl
  unfold Tk.check at hc
  rw [← right_check, hp, ht] at hc
  unfold rightB at hc
  split at hc
  · cases hc
  · rw [if_pos (.inl rfl)] at hc
    have := (allB_iff.1 hc).2.1
    simp [nilB, bts] at this
/-- The pattern of a state's cells. -/
structure PatC (W : World) (B : Nat) (c : Sc) (P : Pat) : Prop where
  oa : W.ownsRow B 64 7 (.slice c.a1 c.n1 c.k1) P.atoms.length (P.atoms.flatMap atCells)
  ort : W.ownsRow B 9 1 (.slice c.a2 c.n2 c.k2) P.ret.length (P.ret.map Value.string)
  oh : W.ownsRow B 9 1 (.slice c.a3 c.n3 c.k3) P.hint.length (P.hint.map Value.string)
  cn : c.cn = P.count
  ds : c.ds = P.distinct
  lm : c.lm = P.limited
  li : c.li = P.limit
  off : c.off = P.offset
/-- What is told behind items (the contract of told). -/
def ToldC (ts : List Tk) (a : Option Addr) (k : Nat) : Prop := ∀ (w : World) (B : Nat) (a1 : Option Addr) (n1 k1 op p : Nat) (bad : Bool) (A : List Atm), TkQ w ts a k → p ≤ ts.length → w.ownsRow B 64 7 (.slice a1 n1 k1) A.length (A.flatMap atCells) → B ≤ w.heap.size → A.length ≤ 100 →
  Calls Try.prog 31 #[.agg (stL ⟨a1, n1, k1, none, 0, 0, false, false, false, 0, 0, none, 0, 0, op⟩ (.slice a ts.length k) p bad).toArray] w fun e w' => ∃ c q qb P,
    e = .returned (.agg (stL c (.slice a ts.length k) q qb).toArray) ∧ PatC w' B c P ∧ q ≤ ts.length ∧ (bad = true → q = p ∧ qb = true) ∧
      (bad = false → (varsS A).length ≤ 32 → toldP ts ⟨p, A, varsS A⟩ = if qb = true then .error q else .ok (P, q)) ∧ Ext w w'
/-- What the tokens come to, against what is handed back. -/
theorem toks_res {ts : List Tk} {x : Except Nat PS} (hx : ItemsR ts 0 ⟨0, [], []⟩ x) {p q : Nat} {bad qb : Bool} {A : List Atm} {P : Pat} (hr : ResS x p bad A) (hv : bad = false → (varsS A).length ≤ 32) (hb : bad = true → q = p ∧ qb = true)
    (ht : bad = false → (varsS A).length ≤ 32 → toldP ts ⟨p, A, varsS A⟩ = if qb = true then .error q else .ok (P, q)) : ToksR ts (if qb = true then .error q else if q < ts.length then .error q else .ok P) := by
  refine ⟨x, hx, ?_⟩
  cases bad with
  | true =>
    obtain ⟨rfl, rfl⟩ := hb rfl
    rw [hr.err]; rfl
  | false =>
    rw [hr.okk]
    simp only [Except.bind]
    rw [ht rfl (hv rfl)]
    cases qb <;> rfl
end Go.Proofs.Ytngnplghjaojhaa

/- The document's Tokens: the walk (told's contract a premise). -/
namespace Go.Proofs.Ytngnplghjaojhaa
set_option maxRecDepth 100000
set_option maxHeartbeats 2000000
set_option linter.unusedSimpArgs false
open Go.RowKit Go.Shelf Go.Sort
attribute [local go_sem] Oper.semAt_some wide_fn wide_depth
set_option linter.unusedVariables false
def sT3 : Nat → Gro
  | 2 => .read
  | 3 => .grow
  | _ => .pure
def sT4 : Nat → Gro
  | 1 => .read
  | 3 => .read
  | 4 => .grow
  | _ => .pure
/-- What Tokens hands back. -/
def TokW (w : World) (ts : List Tk) (e : Ending) (w' : World) : Prop := ∃ u P q ok, e = .returned (.tuple #[u, .int .i64 (q : Nat), .bool ok]) ∧ PatIn w.heap.size w' u P ∧
  (∃ r, ToksR ts r ∧ match r with | .ok P' => P = P' ∧ q = ts.length ∧ ok = true | .error e => P = noPat ∧ q = e ∧ ok = false) ∧ Ext w w'
set_option maxRecDepth 100000 in
set_option maxHeartbeats 4000000 in
theorem tokensR_any {ts : List Tk} {a : Option Addr} {k : Nat} (HT : ToldC ts a k) (w : World) (h : TkQ w ts a k) :
    Calls Try.prog 16 #[.slice a ts.length k] w (TokW w ts) := by
  have hmo : Try.prog.follows .mixedOrders = true := by kernel_rfl
  have HTQ := Lib.hid h
  have HTL := Lib.hid HT
  have HX := Lib.hid (Ext.alloc w (.cells #[.slice none 0 0, .slice none 0 0, .bool false, .bool false, .bool false, .int .i64 0, .int .i64 0, .slice none 0 0] 26))
  have HY := Lib.hid (RowAt.new w 26 [.slice none 0 0, .slice none 0 0, .bool false, .bool false, .bool false, .int .i64 0, .int .i64 0, .slice none 0 0])
  clear h HT
  go_enter Try.func16, Try.ntmps16
  go_upto_region 1 with fail
  generalize w.alloc (.cells #[.slice none 0 0, .slice none 0 0, .bool false, .bool false, .bool false, .int .i64 0, .int .i64 0, .slice none 0 0] 26) = w1 at *
  obtain ⟨y0, hy0⟩ : ∃ y, w.heap.size = y := ⟨_, rfl⟩
  rw [hy0] at HY
  simp only [hy0]
  have HN := Lib.hid hy0
  clear hy0
  have hit := items_all (B := y0) (named_all ts) 4 0 rfl w1 ⟨none, 0, 0, none, 0, 0, false, false, false, 0, 0, none, 0, 0, 0⟩ 0 [] (HTQ.out.ext HX.out) (Nat.zero_le _) rfl (World.ownsRow_nil _ _ _ _) (by have := HN.out; have := HX.out.size; omega) (by decide) (by decide) (by decide)
  have HIT := Lib.hid hit
  clear hit
  apply wp_region_lit
  refine wpList_plain rfl fun K1 hK1 => ?_
  go_simp
  refine hK1 _ _ ?_
  clear hK1 K1
  refine wpList_plain rfl fun K1 hK1 => ?_
  go_simp
  refine hK1 _ _ ?_
  clear hK1 K1
  -- a call in a plain region: refine HIT.out.mono ?_; rintro e w2 ⟨b1, b2, b3, p, bad, A, rfl, ho, ⟨hp, hA⟩, ⟨r, hi, hr⟩, hx2⟩ the contract taken, and its results named
  refine wpList_plain rfl fun K1 hK1 => ?_
  go_simp
  refine HIT.out.mono ?_; rintro e w2 ⟨b1, b2, b3, p, bad, A, rfl, ho, ⟨hp, hA⟩, ⟨r, hi, hr⟩, hx2⟩
  go_simp
  refine hK1 _ _ ?_
  clear hK1 K1
  have hld := HTL.out w2 y0 b1 b2 b3 0 p bad A (HTQ.out.ext (HX.out.trans hx2)) hp ho (by have := HN.out; have := (HX.out.trans hx2).size; omega) hA
  have HLD := Lib.hid hld
  have HIR := Lib.hid hi
  have HRR := Lib.hid hr
  have hhv : bad = false → (varsS A).length ≤ 32 := fun e => by
    subst e
    have he := hr.okk
    subst he
    exact (ItemsR.good hi ⟨by decide, by decide⟩ (by decide)).2.1.1
  have HHV := Lib.hid hhv
  replace HX := Lib.hid (HX.out.trans hx2)
  replace HY := Lib.hid (HY.out.ext hx2)
  clear hld hi hr hhv hx2 hp ho hA HIT
  -- a call in a plain region: refine HLD.out.mono ?_; rintro e w3 ⟨c, q, qb, P, rfl, hpc, hq, hbad, hgood, hx3⟩ the contract taken, and its results named
  refine wpList_plain rfl fun K1 hK1 => ?_
  go_simp
  refine HLD.out.mono ?_; rintro e w3 ⟨c, q, qb, P, rfl, hpc, hq, hbad, hgood, hx3⟩
  go_simp
  refine hK1 _ _ ?_
  clear hK1 K1
  have HTK := Lib.hid (toks_res HIR.out HRR.out HHV.out hbad hgood)
  have HPC := Lib.hid hpc
  have HQ := Lib.hid hq
  replace HX := Lib.hid (HX.out.trans hx3)
  replace HY := Lib.hid (HY.out.ext hx3)
  clear hpc hq hbad hgood hx3 HLD HIR HRR HHV
  -- in a plain region: memory is made and written: w3 world before, #[.slice none 0 0, .int .i64 0, .bool false, .slice none 0 0, .slice none 0 0, .bool false, .bool false, .bool false, .int .i64 0, .int .i64 0, .slice none 0 0, .int .i64 0] zero cells (a literal array), colanderref16.State type's name, y5 block's name, (stL c (.slice a ts.length k) q qb) new cells (a list), (stL_one c _ _ _ _ _) proof that each is one cell, w4 world behind. Facts: HEw4 (Ext), HRy5 (the row), HSy5 (where it is)
  refine wpList_plain rfl fun K1 hK1 => ?_
  go_simp
  refine hK1 _ _ ?_
  clear hK1 K1
  have hax := Ext.alloc w3 (.cells #[.slice none 0 0, .int .i64 0, .bool false, .slice none 0 0, .slice none 0 0, .bool false, .bool false, .bool false, .int .i64 0, .int .i64 0, .slice none 0 0, .int .i64 0] 70)
  have har : RowAt (w3.alloc (.cells #[.slice none 0 0, .int .i64 0, .bool false, .slice none 0 0, .slice none 0 0, .bool false, .bool false, .bool false, .int .i64 0, .int .i64 0, .slice none 0 0, .int .i64 0] 70)) w3.heap.size 70 (#[.slice none 0 0, .int .i64 0, .bool false, .slice none 0 0, .slice none 0 0, .bool false, .bool false, .bool false, .int .i64 0, .int .i64 0, .slice none 0 0, .int .i64 0]).toList := RowAt.new _ _ _
  refine plain_store rfl _ _ _ rfl w3.heap.size ((stL c (.slice a ts.length k) q qb)) rfl rfl har (by kernel_rfl) rfl ((stL_one c _ _ _ _ _)) ?_
  have hex : Ext w3 ((w3.alloc (.cells #[.slice none 0 0, .int .i64 0, .bool false, .slice none 0 0, .slice none 0 0, .bool false, .bool false, .bool false, .int .i64 0, .int .i64 0, .slice none 0 0, .int .i64 0] 70)).setRow w3.heap.size ((stL c (.slice a ts.length k) q qb)).toArray) := below_setRow hax (Nat.le_refl _) _
  have HEw4 := Lib.hid hex
  have HRy5 := Lib.hid (har.setRow ((stL c (.slice a ts.length k) q qb)))
  clear hax har hex
  go_simp
  generalize (w3.alloc (.cells #[.slice none 0 0, .int .i64 0, .bool false, .slice none 0 0, .slice none 0 0, .bool false, .bool false, .bool false, .int .i64 0, .int .i64 0, .slice none 0 0, .int .i64 0] 70)).setRow w3.heap.size ((stL c (.slice a ts.length k) q qb)).toArray = w4 at *
  obtain ⟨y5, hsy5⟩ : ∃ x, w3.heap.size = x := ⟨_, rfl⟩
  rw [hsy5] at HRy5
  simp only [hsy5]
  have HSy5 := Lib.hid hsy5
  clear hsy5
  apply wpList_nil
  have HR5 := Lib.hid (show RowAt w4 y5 70 (stL c (.slice a ts.length k) q qb) from HRy5.out)
  have HNE := Lib.hid (show y0 < y5 by have h := HY.out.lt; have h2 := HSy5.out; omega)
  replace HX := Lib.hid (HX.out.trans HEw4.out)
  replace HY := Lib.hid (HY.out.ext HEw4.out)
  have HPC4 := Lib.hid (show PatC w4 y0 c P from ⟨own_ext HPC.out.oa HEw4.out, own_ext HPC.out.ort HEw4.out, own_ext HPC.out.oh HEw4.out, HPC.out.cn, HPC.out.ds, HPC.out.lm, HPC.out.li, HPC.out.off⟩)
  clear HRy5 HSy5 HEw4 HPC
  have d1 := HR5.out.cell (i := 1) rfl
  have d2 := HR5.out.cell (i := 2) rfl
  cases qb with
  | true =>
    go_upto_region 3 with fail
    clear d1 d2
    -- Tokens: nothing is handed back: HTK.out proof of ToksR
    refine wp_region_grox [y0] sT3 [0, 1, 2, 3, 4, 5] hmo (by kernel_rfl) rfl (by kernel_rfl) (fun _ _ _ _ _ h => h) ?_
    have hxd : Ext w4 w4.drew := Ext.drewN w4 1
    replace HX := Lib.hid (HX.out.trans hxd)
    replace HY := Lib.hid (HY.out.ext hxd)
    replace HR5 := Lib.hid (HR5.out.ext hxd)
    clear hxd
    generalize w4.drew = w5 at *
    have d1 := HR5.out.cell (i := 1) rfl
    have hne : ¬ y5 ∈ [y0] := by have := HNE.out; simp; omega
    have hne2 : ¬ y5 = y0 := by have := HNE.out; omega
    repeat (first
      | (refine groX_pure rfl rfl ?_; intro K hK; go_simp; refine hK _ ?_; clear hK K)
      | (refine groX_read rfl rfl ?_; intro K S hS hK; go_simp; refine hK _ ?_; clear hK K hS S)
      | (refine groX_read rfl rfl ?_; intro K S hS hK; go_simp; refine ⟨hS _ ?_, hK _ ?_⟩; (clear hK K hS S; intro w' hx'; have hce := grows_some hx'; go_simp); clear hK K hS S))
    refine groX_store rfl rfl rfl _ _ _ rfl y0 [.slice none 0 0, .slice none 0 0, .bool false, .bool false, .bool false, .int .i64 0, .int .i64 0, .slice none 0 0] rfl rfl HY.out (by simp) (by kernel_rfl) rfl (by simp [Value.oneCell']) ?_
    have HY6 := Lib.hid (HY.out.setRow [.slice none 0 0, .slice none 0 0, .bool false, .bool false, .bool false, .int .i64 0, .int .i64 0, .slice none 0 0])
    have HX6 := Lib.hid (show Ext w (w5.setRow y0 #[.slice none 0 0, .slice none 0 0, .bool false, .bool false, .bool false, .int .i64 0, .int .i64 0, .slice none 0 0]) from below_setRow HX.out (by have := HN.out; omega) _)
    clear d1 HX HY HR5
    generalize w5.setRow y0 #[.slice none 0 0, .slice none 0 0, .bool false, .bool false, .bool false, .int .i64 0, .int .i64 0, .slice none 0 0] = w6 at *
    repeat (first
      | (refine groX_pure rfl rfl ?_; intro K hK; go_simp; refine hK _ ?_; clear hK K)
      | (refine groX_read rfl rfl ?_; intro K S hS hK; go_simp; refine hK _ ?_; clear hK K hS S)
      | (refine groX_read rfl rfl ?_; intro K S hS hK; go_simp; refine ⟨hS _ ?_, hK _ ?_⟩; (clear hK K hS S; intro w' hx'; have hce := grows_some hx'; go_simp); clear hK K hS S))
    refine groX_nil ?_
    go_wp2_with fail
    refine bodyPost_ret (results_row2 rfl rfl HY6.out Try.underlying26 rfl (by kernel_rfl)) rfl ?_
    refine ⟨_, noPat, q, false, rfl, ?_, ?_, HX6.out⟩
    · exact ⟨_, _, _, rfl, World.ownsRow_nil _ _ _ _, World.ownsRow_nil _ _ _ _, World.ownsRow_nil _ _ _ _⟩
    · exact ⟨.error q, HTK.out, rfl, rfl, rfl⟩
  | false =>
    by_cases hlt : q < ts.length
    · have HLT := Lib.hid hlt
      go_upto_region 3 with fail
      clear d1 d2 hlt
      -- Tokens: nothing is handed back: (by have h := HTK.out; rw [if_neg (by decide), if_pos HLT.out] at h; exact h) proof of ToksR
      refine wp_region_grox [y0] sT3 [0, 1, 2, 3, 4, 5] hmo (by kernel_rfl) rfl (by kernel_rfl) (fun _ _ _ _ _ h => h) ?_
      have hxd : Ext w4 w4.drew := Ext.drewN w4 1
      replace HX := Lib.hid (HX.out.trans hxd)
      replace HY := Lib.hid (HY.out.ext hxd)
      replace HR5 := Lib.hid (HR5.out.ext hxd)
      clear hxd
      generalize w4.drew = w5 at *
      have d1 := HR5.out.cell (i := 1) rfl
      have hne : ¬ y5 ∈ [y0] := by have := HNE.out; simp; omega
      have hne2 : ¬ y5 = y0 := by have := HNE.out; omega
      repeat (first
        | (refine groX_pure rfl rfl ?_; intro K hK; go_simp; refine hK _ ?_; clear hK K)
        | (refine groX_read rfl rfl ?_; intro K S hS hK; go_simp; refine hK _ ?_; clear hK K hS S)
        | (refine groX_read rfl rfl ?_; intro K S hS hK; go_simp; refine ⟨hS _ ?_, hK _ ?_⟩; (clear hK K hS S; intro w' hx'; have hce := grows_some hx'; go_simp); clear hK K hS S))
      refine groX_store rfl rfl rfl _ _ _ rfl y0 [.slice none 0 0, .slice none 0 0, .bool false, .bool false, .bool false, .int .i64 0, .int .i64 0, .slice none 0 0] rfl rfl HY.out (by simp) (by kernel_rfl) rfl (by simp [Value.oneCell']) ?_
      have HY6 := Lib.hid (HY.out.setRow [.slice none 0 0, .slice none 0 0, .bool false, .bool false, .bool false, .int .i64 0, .int .i64 0, .slice none 0 0])
      have HX6 := Lib.hid (show Ext w (w5.setRow y0 #[.slice none 0 0, .slice none 0 0, .bool false, .bool false, .bool false, .int .i64 0, .int .i64 0, .slice none 0 0]) from below_setRow HX.out (by have := HN.out; omega) _)
      clear d1 HX HY HR5
      generalize w5.setRow y0 #[.slice none 0 0, .slice none 0 0, .bool false, .bool false, .bool false, .int .i64 0, .int .i64 0, .slice none 0 0] = w6 at *
      repeat (first
        | (refine groX_pure rfl rfl ?_; intro K hK; go_simp; refine hK _ ?_; clear hK K)
        | (refine groX_read rfl rfl ?_; intro K S hS hK; go_simp; refine hK _ ?_; clear hK K hS S)
        | (refine groX_read rfl rfl ?_; intro K S hS hK; go_simp; refine ⟨hS _ ?_, hK _ ?_⟩; (clear hK K hS S; intro w' hx'; have hce := grows_some hx'; go_simp); clear hK K hS S))
      refine groX_nil ?_
      go_wp2_with fail
      refine bodyPost_ret (results_row2 rfl rfl HY6.out Try.underlying26 rfl (by kernel_rfl)) rfl ?_
      refine ⟨_, noPat, q, false, rfl, ?_, ?_, HX6.out⟩
      · exact ⟨_, _, _, rfl, World.ownsRow_nil _ _ _ _, World.ownsRow_nil _ _ _ _, World.ownsRow_nil _ _ _ _⟩
      · exact ⟨.error q, (by have h := HTK.out; rw [if_neg (by decide), if_pos HLT.out] at h; exact h), rfl, rfl, rfl⟩
    · have HLT := Lib.hid hlt
      go_upto_region 4 with fail
      clear d1 d2 hlt
      have hpc := HPC4.out
      obtain ⟨a1', n1', k1', a2', n2', k2', cn, ds, lm, li, off, a3', n3', k3', op'⟩ := c
      obtain ⟨oa, ort, oh, h1, h2, h3, h4, h5⟩ := hpc
      dsimp only at oa ort oh h1 h2 h3 h4 h5
      subst h1 h2 h3 h4 h5
      have HOA := Lib.hid oa
      have HOR := Lib.hid ort
      have HOH := Lib.hid oh
      clear oa ort oh HPC4
      refine wp_region_grox [y0] sT4 [0, 1, 2, 3, 4, 5, 6] hmo (by kernel_rfl) rfl (by kernel_rfl) (fun _ _ _ _ _ h => h) ?_
      have hxd : Ext w4 w4.drew := Ext.drewN w4 1
      replace HX := Lib.hid (HX.out.trans hxd)
      replace HY := Lib.hid (HY.out.ext hxd)
      replace HR5 := Lib.hid (HR5.out.ext hxd)
      replace HOA := Lib.hid (own_ext HOA.out hxd)
      replace HOR := Lib.hid (own_ext HOR.out hxd)
      replace HOH := Lib.hid (own_ext HOH.out hxd)
      clear hxd
      generalize w4.drew = w5 at *
      have d1 := HR5.out.cell (i := 1) rfl
      have hne : ¬ y5 ∈ [y0] := by have := HNE.out; simp; omega
      have hne2 : ¬ y5 = y0 := by have := HNE.out; omega
      repeat (first
        | (refine groX_pure rfl rfl ?_; intro K hK; go_simp; refine hK _ ?_; clear hK K)
        | (refine groX_read rfl rfl ?_; intro K S hS hK; go_simp; refine hK _ ?_; clear hK K hS S)
        | (refine groX_read rfl rfl ?_; intro K S hS hK; go_simp; refine ⟨hS _ ?_, hK _ ?_⟩; (clear hK K hS S; intro w' hx'; have hce := grows_some hx'; go_simp); clear hK K hS S))
      refine groX_load rfl rfl rfl _ _ rfl y5 3 rfl [.slice a1' n1' k1', .slice a2' n2' k2', .bool P.count, .bool P.distinct, .bool P.limited, .int .i64 P.limit, .int .i64 P.offset, .slice a3' n3' k3'] _ (RowAt.range (pre := [.slice a ts.length k, .int .i64 q, .bool false]) (post := [.int .i64 op']) HR5.out) hne Try.underlying26 rfl (by kernel_rfl) ?_
      repeat (first
        | (refine groX_pure rfl rfl ?_; intro K hK; go_simp; refine hK _ ?_; clear hK K)
        | (refine groX_read rfl rfl ?_; intro K S hS hK; go_simp; refine hK _ ?_; clear hK K hS S)
        | (refine groX_read rfl rfl ?_; intro K S hS hK; go_simp; refine ⟨hS _ ?_, hK _ ?_⟩; (clear hK K hS S; intro w' hx'; have hce := grows_some hx'; go_simp); clear hK K hS S))
      refine groX_store rfl rfl rfl _ _ _ rfl y0 [.slice a1' n1' k1', .slice a2' n2' k2', .bool P.count, .bool P.distinct, .bool P.limited, .int .i64 P.limit, .int .i64 P.offset, .slice a3' n3' k3'] rfl rfl HY.out (by simp) (by kernel_rfl) rfl (by simp [Value.oneCell']) ?_
      have hgw := setRow_grown w5 y0 ([.slice a1' n1' k1', .slice a2' n2' k2', .bool P.count, .bool P.distinct, .bool P.limited, .int .i64 P.limit, .int .i64 P.offset, .slice a3' n3' k3'] : List Value).toArray
      have HPI := Lib.hid (show PatIn y0 (w5.setRow y0 ([.slice a1' n1' k1', .slice a2' n2' k2', .bool P.count, .bool P.distinct, .bool P.limited, .int .i64 P.limit, .int .i64 P.offset, .slice a3' n3' k3'] : List Value).toArray) (.agg ([.slice a1' n1' k1', .slice a2' n2' k2', .bool P.count, .bool P.distinct, .bool P.limited, .int .i64 P.limit, .int .i64 P.offset, .slice a3' n3' k3'] : List Value).toArray) P from
        ⟨_, _, _, rfl, own_turn HOA.out HY.out (by decide) hgw, own_turn HOR.out HY.out (by decide) hgw, own_turn HOH.out HY.out (by decide) hgw⟩)
      have HY6 := Lib.hid (HY.out.setRow [.slice a1' n1' k1', .slice a2' n2' k2', .bool P.count, .bool P.distinct, .bool P.limited, .int .i64 P.limit, .int .i64 P.offset, .slice a3' n3' k3'])
      have HX6 := Lib.hid (show Ext w (w5.setRow y0 ([.slice a1' n1' k1', .slice a2' n2' k2', .bool P.count, .bool P.distinct, .bool P.limited, .int .i64 P.limit, .int .i64 P.offset, .slice a3' n3' k3'] : List Value).toArray) from below_setRow HX.out (by have := HN.out; omega) _)
      clear d1 HX HY HR5 HOA HOR HOH hgw
      generalize w5.setRow y0 ([.slice a1' n1' k1', .slice a2' n2' k2', .bool P.count, .bool P.distinct, .bool P.limited, .int .i64 P.limit, .int .i64 P.offset, .slice a3' n3' k3'] : List Value).toArray = w6 at *
      repeat (first
        | (refine groX_pure rfl rfl ?_; intro K hK; go_simp; refine hK _ ?_; clear hK K)
        | (refine groX_read rfl rfl ?_; intro K S hS hK; go_simp; refine hK _ ?_; clear hK K hS S)
        | (refine groX_read rfl rfl ?_; intro K S hS hK; go_simp; refine ⟨hS _ ?_, hK _ ?_⟩; (clear hK K hS S; intro w' hx'; have hce := grows_some hx'; go_simp); clear hK K hS S))
      refine groX_nil ?_
      go_wp2_with fail
      refine bodyPost_ret (results_row2 rfl rfl HY6.out Try.underlying26 rfl (by kernel_rfl)) rfl ?_
      refine ⟨_, P, q, true, rfl, ?_, ?_, HX6.out⟩
      · rw [HN.out]; exact HPI.out
      · exact ⟨.ok P, by have h := HTK.out; rw [if_neg (by decide), if_neg HLT.out] at h; exact h, rfl, by have := HLT.out; have := HQ.out; omega, rfl⟩
end Go.Proofs.Ytngnplghjaojhaa
