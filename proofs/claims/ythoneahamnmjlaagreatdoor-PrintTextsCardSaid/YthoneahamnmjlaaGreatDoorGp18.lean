/- What is told, name by name: plain. -/
import Derived.Test.YthoneahamnmjlaaGreatDoorGp11
import Derived.Test.YthoneahamnmjlaaGreatDoorGp13
import Derived.Test.YthoneahamnmjlaaGreatDoorGp04
namespace Go.Proofs.YthoneahamnmjlaaGreatDoor
set_option maxRecDepth 100000
set_option maxHeartbeats 2000000
set_option linter.unusedSimpArgs false
set_option linter.unusedVariables false

/-- The names that are told, k more may follow; behind commas, or one behind the other; where it stops, or the place of the wrong token. -/
def someP (ts : List Tk) (vars : List ByteArray) (cm : Bool) : Nat → List ByteArray → Nat → List ByteArray × Except Nat Nat
  | 0, acc, p => (acc, .ok p)
  | k + 1, acc, p => match varP ts vars acc p with
    | .error q => (acc, .error q)
    | .ok (acc', p') => if cm = true then (if k ≠ 0 ∧ kindAt ts p' = 6 then someP ts vars cm k acc' (p' + 1) else (acc', .ok p')) else someP ts vars cm k acc' p'
def pairP (x : List ByteArray × Except Nat Nat) : Except Nat (List ByteArray × Nat) := match x with
  | (l, .ok q) => .ok (l, q)
  | (_, .error q) => .error q
theorem retP_some (ts : List Tk) (vars : List ByteArray) : ∀ (k : Nat) (acc : List ByteArray) (p : Nat), retP ts vars k acc p = pairP (someP ts vars true k acc p)
  | 0, acc, p => rfl
  | k + 1, acc, p => by
    unfold retP someP
    cases hv : varP ts vars acc p with
    | error q => rfl
    | ok x =>
      obtain ⟨acc', p'⟩ := x
      simp only [Except.bind, if_true]
      split
      · exact retP_some ts vars k acc' (p' + 1)
      · rfl
theorem hintP_some (ts : List Tk) (vars : List ByteArray) : ∀ (k : Nat) (acc : List ByteArray) (p : Nat), hintP ts vars k acc p = pairP (someP ts vars false k acc p)
  | 0, acc, p => rfl
  | k + 1, acc, p => by
    unfold hintP someP
    cases hv : varP ts vars acc p with
    | error q => rfl
    | ok x =>
      obtain ⟨acc', p'⟩ := x
      simp only [Except.bind]
      exact hintP_some ts vars k acc' p'
/-- One name. -/
theorem varP_cases (ts : List Tk) (vars acc : List ByteArray) (p : Nat) :
    (kindAt ts p ≠ 1 ∧ varP ts vars acc p = .error p) ∨ (kindAt ts p = 1 ∧ (textAt ts p ∉ vars ∨ textAt ts p ∈ acc) ∧ varP ts vars acc p = .error p) ∨
    (kindAt ts p = 1 ∧ textAt ts p ∈ vars ∧ textAt ts p ∉ acc ∧ varP ts vars acc p = .ok (acc ++ [textAt ts p], p + 1)) := by
  unfold varP takeP
  by_cases hk : kindAt ts p = 1
  · rw [if_pos hk]
    simp only [Except.bind]
    by_cases h : hasB (textAt ts p) vars = false ∨ hasB (textAt ts p) acc = true
    · rw [if_pos h]
      exact .inr (.inl ⟨hk, h.imp hasB_no.1 hasB_iff.1, rfl⟩)
    · rw [if_neg h]
      have h1 : ¬ hasB (textAt ts p) vars = false := fun e => h (.inl e)
      have h2 : ¬ hasB (textAt ts p) acc = true := fun e => h (.inr e)
      exact .inr (.inr ⟨hk, hasB_iff.1 (by simpa using h1), fun e => h2 (hasB_iff.2 e), rfl⟩)
  · rw [if_neg hk]
    exact .inl ⟨hk, rfl⟩
theorem someP_pre (ts : List Tk) (vars : List ByteArray) (cm : Bool) : ∀ (k : Nat) (acc : List ByteArray) (p : Nat), ∃ r, (someP ts vars cm k acc p).1 = acc ++ r
  | 0, acc, p => ⟨[], by simp [someP]⟩
  | k + 1, acc, p => by
    unfold someP
    rcases varP_cases ts vars acc p with ⟨_, h⟩ | ⟨_, _, h⟩ | ⟨_, _, _, h⟩
    · rw [h]; exact ⟨[], by simp⟩
    · rw [h]; exact ⟨[], by simp⟩
    · rw [h]
      simp only []
      split
      · split
        · obtain ⟨r, hr⟩ := someP_pre ts vars cm k (acc ++ [textAt ts p]) (p + 1 + 1)
          exact ⟨textAt ts p :: r, by rw [hr]; simp⟩
        · exact ⟨[textAt ts p], rfl⟩
      · obtain ⟨r, hr⟩ := someP_pre ts vars cm k (acc ++ [textAt ts p]) (p + 1)
        exact ⟨textAt ts p :: r, by rw [hr]; simp⟩
/-- May one more follow, behind n of them? -/
def folB (ts : List Tk) (cm : Bool) (many n p : Nat) : Bool := decide (n < many) && (!cm || decide (kindAt ts p = 6))
def folQ (ts : List Tk) (cm : Bool) (many n p : Nat) : Nat := if folB ts cm many n p = true ∧ cm = true then p + 1 else p
theorem someP_go {ts : List Tk} {vars : List ByteArray} {cm : Bool} {many : Nat} {acc : List ByteArray} {p : Nat} (hlt : acc.length < many) (hv : varP ts vars acc p = .ok (acc ++ [textAt ts p], p + 1)) :
    someP ts vars cm (many - acc.length) acc p = if folB ts cm many (acc.length + 1) (p + 1) = true then someP ts vars cm (many - (acc ++ [textAt ts p]).length) (acc ++ [textAt ts p]) (folQ ts cm many (acc.length + 1) (p + 1)) else (acc ++ [textAt ts p], .ok (p + 1)) := by
  obtain ⟨k, hk⟩ : ∃ k, many - acc.length = k + 1 := ⟨many - acc.length - 1, by omega⟩
  rw [hk]
  have hk2 : many - (acc ++ [textAt ts p]).length = k := by rw [List.length_append]; simp; omega
  rw [hk2]
  have hd : decide (acc.length + 1 < many) = decide (k ≠ 0) := by by_cases h : k = 0 <;> simp [h] <;> omega
  conv => lhs; unfold someP
  rw [hv]
  simp only [folB, folQ, hd]
  cases cm with
  | true =>
    by_cases h0 : k = 0
    · simp [h0]
    · by_cases h6 : kindAt ts (p + 1) = 6
      · simp [h0, h6]
      · simp [h0, h6]
  | false =>
    by_cases h0 : k = 0
    · subst h0; simp [someP]
    · simp [h0]
theorem someP_bad {ts : List Tk} {vars : List ByteArray} {cm : Bool} {many : Nat} {acc : List ByteArray} {p q : Nat} (hlt : acc.length < many) (hv : varP ts vars acc p = .error q) :
    someP ts vars cm (many - acc.length) acc p = (acc, .error q) := by
  obtain ⟨k, hk⟩ : ∃ k, many - acc.length = k + 1 := ⟨many - acc.length - 1, by omega⟩
  rw [hk]
  unfold someP
  rw [hv]
end Go.Proofs.YthoneahamnmjlaaGreatDoor

/- The iterator of the names that are told. -/
namespace Go.Proofs.YthoneahamnmjlaaGreatDoor
set_option maxRecDepth 100000
set_option linter.unusedSimpArgs false
open Go.RowKit Go.Shelf Go.Sort
attribute [local go_sem] Oper.semAt_some wide_fn wide_depth
set_option linter.unusedVariables false

theorem run_len_map {P : Program} {w : World} {t kt et : TypeId} {d : TypeDesc} {b : Nat} {kv : List (Value × Value)} (ht : P.underlying t = some (.map kt et)) (h : MapAt d w b kv) (ty : TypeId) :
    (Builtin.len_ #[t] ty #[.map (some b)]).run P w = .ok (.int .i64 kv.length) w := by
  obtain ⟨es, c, h1, h2, h3, h4⟩ := h
  have : kv.length = es.size := by rw [← h4]; simp
  rw [this]
  simp [Builtin.len_, run_underlying ht, MapKept.run_getObj_map h1, goInt, Result.andThen]
/-- What does not change while names are told. -/
structure SomeS (w0 : World) (g : Nat) (c : Rc) (m : Nat) (w1 : World) (b1 b2 : Nat) : Prop where
  c13 : c.c13 = .map (some m)
  g : g < w1.heap.size
  m : m < w1.heap.size
  b1 : b1 < w1.heap.size
  b2 : b2 < w1.heap.size
  w0 : w0.heap.size ≤ w1.heap.size
/-- The reader, and the boxes of the iterator. -/
structure SomeI (w0 : World) (ts : List Tk) (tv : Value) (g : Nat) (c : Rc) (m : Nat) (vars : List ByteArray) (w1 : World) (b1 b2 : Nat) (F : Value) (p : Nat) (W : World) : Prop where
  rd : RdT w0 ts tv g c p W
  met : MapAt .string W m (metKv vars)
  r1 : RowAt W b1 116 [.pointer (some ⟨g, 0, none⟩)]
  r2 : RowAt W b2 64 [F]
  gr : w1.grownBy W (some g)
structure SomeL (w0 : World) (ts : List Tk) (tv : Value) (g : Nat) (c : Rc) (m : Nat) (vars : List ByteArray) (w1 : World) (b1 b2 : Nat) (F : Value) (o : Nat) (acc : List ByteArray) (p : Nat) (W : World) : Prop where
  i : SomeI w0 ts tv g c m vars w1 b1 b2 F p W
  once : MapAt .string W o (metKv acc)
  few : acc.length < vars.length
  o : o < W.heap.size
def SomeFin (w0 : World) (ts : List Tk) (tv : Value) (g : Nat) (c : Rc) (w1 : World) (r : Except Nat Nat) (e : Ending) (W : World) : Prop := match r with
  | .ok q => (∃ v, e = .returned v) ∧ RdT w0 ts tv g c q W ∧ w1.grownBy W (some g)
  | .error q => e = wrongE ∧ RdT w0 ts tv g c q W ∧ w1.grownBy W (some g)
/-- The reader's place, as the world has it. -/
def plc (W : World) (g : Nat) : Nat := match W.cell? ⟨g, 9, none⟩ with
  | some (.int .i64 n) => n.toNat
  | _ => 0
theorem plc_at {w0 : World} {ts : List Tk} {tv : Value} {g : Nat} {c : Rc} {p : Nat} {W : World} (h : RdT w0 ts tv g c p W) : plc W g = p := by
  unfold plc; rw [h.facts.2.1]; simp
theorem row_ne_rd {W : World} {g b : Nat} {t t' : TypeId} {xs ys : List Value} (h : RowAt W g t xs) (h' : RowAt W b t' ys) (hne : t ≠ t') : b ≠ g := by
  rintro rfl
  have h1 := (show W.heap[b]? = _ from h).symm.trans h'
  simp only [Option.some.injEq, Obj.cells.injEq] at h1
  exact hne h1.2.1
theorem turn_rd {w0 : World} {ts : List Tk} {tv : Value} {g : Nat} {c : Rc} {p : Nat} {W W' : World} {B : Nat} (h : RdT w0 ts tv g c p W) (hg : W.grownBy W' (some g)) : Turn 119 0 B W W' :=
  ⟨some g, hg, fun r e => by cases e; exact ⟨_, h.row, .inr ⟨Nat.zero_le _, _, _, rfl⟩⟩⟩
theorem turn_map {T : TypeId} {X B o : Nat} {dd : TypeDesc} {W W' : World} {kv : List (Value × Value)} (h : MapAt dd W o kv) (hg : W.grownBy W' (some o)) (hB : B ≤ o) : Turn T X B W W' :=
  ⟨some o, hg, fun r e => by cases e; obtain ⟨es, c, h1, _⟩ := h; exact ⟨_, h1, .inl ⟨hB, rfl⟩⟩⟩
section
variable {w0 : World} {ts : List Tk} {tv : Value} {g : Nat} {c : Rc} {m : Nat} {vars : List ByteArray} {w1 : World} {b1 b2 : Nat} {F : Value} {p q : Nat} {W W' : World} {o : Nat} {acc : List ByteArray}
theorem SomeI.ext (h : SomeI w0 ts tv g c m vars w1 b1 b2 F p W) (hx : Ext W W') : SomeI w0 ts tv g c m vars w1 b1 b2 F p W' :=
  ⟨h.rd.grow hx, h.met.ext hx, h.r1.ext hx, h.r2.ext hx, h.gr.trans (grown_of_ext hx g)⟩
theorem SomeI.turn (h : SomeI w0 ts tv g c m vars w1 b1 b2 F p W) (hS : SomeS w0 g c m w1 b1 b2) (hr : RdT w0 ts tv g c q W') (hg : W.grownBy W' (some g)) : SomeI w0 ts tv g c m vars w1 b1 b2 F q W' :=
  ⟨hr, h.met.kept hg (fun e => row_ne_map h.rd.row h.met (Option.some.inj e)), h.r1.kept hg (fun e => row_ne_rd h.rd.row h.r1 (by decide) (Option.some.inj e).symm), h.r2.kept hg (fun e => row_ne_rd h.rd.row h.r2 (by decide) (Option.some.inj e).symm), h.gr.trans hg⟩
theorem SomeI.below (h : SomeI w0 ts tv g c m vars w1 b1 b2 F p W) (hS : SomeS w0 g c m w1 b1 b2) (hb : Below w1.heap.size W W') : SomeI w0 ts tv g c m vars w1 b1 b2 F p W' := by
  have hrow : ∀ {b : Nat} {t : TypeId} {xs : List Value}, b < w1.heap.size → RowAt W b t xs → RowAt W' b t xs := fun hlt hr => (hb.block _ hlt).trans hr
  refine ⟨⟨Below.trans h.rd.ext (Below.mono hb hS.w0), h.rd.toks, h.rd.lo, hrow hS.g h.rd.row, h.rd.le, h.rd.szs⟩, ?_, hrow hS.b1 h.r1, hrow hS.b2 h.r2, ?_⟩
  · obtain ⟨es, cl, h1, h2⟩ := h.met
    exact ⟨es, cl, (hb.block _ hS.m).trans h1, h2⟩
  · exact ⟨hb.os.trans h.gr.os, hb.tape.trans h.gr.tape, hb.output.trans h.gr.output, Nat.le_trans h.gr.size hb.size, fun i hi hn => (hb.block i hi).trans (h.gr.block i hi hn)⟩
theorem SomeL.turn (h : SomeL w0 ts tv g c m vars w1 b1 b2 F o acc p W) (hS : SomeS w0 g c m w1 b1 b2) (hr : RdT w0 ts tv g c q W') (hg : W.grownBy W' (some g)) : SomeL w0 ts tv g c m vars w1 b1 b2 F o acc q W' :=
  ⟨h.i.turn hS hr hg, h.once.kept hg (fun e => row_ne_map h.i.rd.row h.once (Option.some.inj e)), h.few, Nat.lt_of_lt_of_le h.o hg.size⟩
/-- A name more has been told. -/
theorem SomeL.put {s : ByteArray} (h : SomeL w0 ts tv g c m vars w1 b1 b2 F o acc p W) (hS : SomeS w0 g c m w1 b1 b2) (ho : w1.heap.size ≤ o) (hm : MapAt .string W' o (metKv (acc ++ [s]))) (hg : W.grownBy W' (some o)) :
    SomeI w0 ts tv g c m vars w1 b1 b2 F p W' ∧ MapAt .string W' o (metKv (acc ++ [s])) ∧ o < W'.heap.size := by
  refine ⟨h.i.below hS ⟨hg.os, hg.tape, hg.output, hg.size, fun k hk => hg.block k (Nat.lt_of_lt_of_le hk h.i.gr.size) (fun e => by have := Option.some.inj e; omega)⟩, hm, Nat.lt_of_lt_of_le h.o hg.size⟩
end
set_option maxHeartbeats 2000000
theorem some_ret {w0 : World} {ts : List Tk} {tv : Value} {g : Nat} {c : Rc} {m : Nat} {vars : List ByteArray} {w1 : World} {b1 b2 b3 b4 : Nat} (p0 : Nat) (hl : ts.length ≤ 1000000) (hS : SomeS w0 g c m w1 b1 b2) (hmany : vars.length ≤ 1000000) (hpos : 0 < vars.length)
    (hfol : ∀ n p W, n ≤ vars.length → SomeI w0 ts tv g c m vars w1 b1 b2 (.func (.func 121) #[] #[.pointer (some ⟨b3, 0, none⟩), .pointer (some ⟨b4, 0, none⟩)]) p W → Calls Tryz.prog 121 #[.int .i64 n, .pointer (some ⟨b3, 0, none⟩), .pointer (some ⟨b4, 0, none⟩)] W fun e W' => e = .returned (.bool (folB ts true vars.length n p)) ∧ RdT w0 ts tv g c (folQ ts true vars.length n p) W' ∧ W.grownBy W' (some g)) :
    IterX Tryz.prog 136 #[.pointer (some ⟨b1, 0, none⟩), .pointer (some ⟨b2, 0, none⟩)] (SomeI w0 ts tv g c m vars w1 b1 b2 (.func (.func 121) #[] #[.pointer (some ⟨b3, 0, none⟩), .pointer (some ⟨b4, 0, none⟩)]) p0) 119 w1.heap.size (someP ts vars true vars.length [] p0).1.length
      (fun k args => ∃ h : k < (someP ts vars true vars.length [] p0).1.length, args = #[.string (someP ts vars true vars.length [] p0).1[k]]) (SomeFin w0 ts tv g c w1 (someP ts vars true vars.length [] p0).2) := by
  intro L W J hY hI hJ hround h0
  refine callsIn_of_wp Tryz.func136 rfl trivial ?_
  simp only [Tryz.ntmps136, List.size_toArray, List.length_cons, List.length_nil, Nat.reduceAdd, Nat.reduceSub, Array.replicate_succ, Array.replicate_zero, List.push_toArray, List.append_toArray, List.nil_append, List.cons_append]
  have hpre := fun k acc p => someP_pre ts vars true k acc p
  have hgo := fun (acc : List ByteArray) (p : Nat) (hlt : acc.length < vars.length) (hv : varP ts vars acc p = .ok (acc ++ [textAt ts p], p + 1)) => someP_go (cm := true) hlt hv
  have hbad := fun (acc : List ByteArray) (p q : Nat) (hlt : acc.length < vars.length) (hv : varP ts vars acc p = .error q) => someP_bad (cm := true) hlt hv
  obtain ⟨R, hR⟩ : ∃ R, someP ts vars true vars.length [] p0 = R := ⟨_, rfl⟩
  rw [hR] at hround ⊢
  have hst : someP ts vars true (vars.length - ([] : List ByteArray).length) [] p0 = R := hR
  have hmm := @run_makeMap Tryz.prog
  have hmap : MapAt .string (W.alloc (.map #[] 0)) W.heap.size (metKv []) := MapAt.new _ W
  have hxa := Ext.alloc W (.map #[] 0)
  have hI1 := hI.ext hxa
  have hj1 := hJ 0 _ _ (Turn.ext hxa) h0
  have HJ := Lib.hid hJ
  have HRound := Lib.hid hround
  have HPRE := Lib.hid hpre
  have HGO := Lib.hid hgo
  have HBAD := Lib.hid hbad
  have HFOL := Lib.hid hfol
  have HST := Lib.hid hst
  have HS := Lib.hid hS
  have HI1 := Lib.hid hI1
  have HJ1 := Lib.hid hj1
  have HMAP := Lib.hid hmap
  have HY := Lib.hid hY
  clear hJ hround hpre hgo hbad hfol hst hS hI1 hj1 hmap hY hxa hI h0 hR
  gi_wp2_with fail
  clear hmm
  obtain ⟨o, ho⟩ : ∃ o, W.heap.size = o := ⟨_, rfl⟩
  rw [ho] at HMAP HY HRound HJ
  try simp only [ho]
  have HLT : Hid (o < (W.alloc (.map #[] 0)).heap.size) := Lib.hid (by simp [← ho])
  clear ho
  generalize W.alloc (.map #[] 0) = wa at *
  gi_loopw [5] (fun _ wr => ∃ (acc : List ByteArray) (p : Nat), Hid (SomeL w0 ts tv g c m vars w1 b1 b2 (.func (.func 121) #[] #[.pointer (some ⟨b3, 0, none⟩), .pointer (some ⟨b4, 0, none⟩)]) o acc p wr ∧ someP ts vars true (vars.length - acc.length) acc p = R ∧ J acc.length wr)) (fun _ wr => ts.length - plc wr g)
  case atStart => exact ⟨[], p0, Lib.hid ⟨⟨HI1.out, HMAP.out, hpos, HLT.out⟩, HST.out, HJ1.out⟩⟩
  case round =>
    obtain ⟨acc, p, hh⟩ := hrel
    have HPL := Lib.hid (plc_at hh.out.1.i.rd)
    have HTK := Lib.hid (take_any hh.out.1.i.rd 1 (by decide) hl)
    have f1 := hh.out.1.i.r1.facts1.1
    clear HST HI1 HJ1 HMAP HLT
    rcases varP_cases ts vars acc p with ⟨hk, hv⟩ | ⟨hk, hq, hv⟩ | ⟨hk, hin, hno, hv⟩
    · have htp : takeP ts 1 p = .error p := by unfold takeP; rw [if_neg hk]
      rw [htp] at HTK
      have HV := Lib.hid (HBAD.out acc p p hh.out.1.few hv)
      clear hk hv htp
      gi_wp2_with fail
      refine (callsIn_wide.2 HTK.out).mono ?_
      rintro e w2 ⟨rfl, hr2, hg2⟩
      have HF := Lib.hid (hh.out.1.i.turn HS.out hr2 hg2)
      have HJ2 := Lib.hid (HJ.out _ _ _ (turn_rd hh.out.1.i.rd hg2) hh.out.2.2)
      clear hr2 hg2 f1 HTK
      unfold wrongE
      gi_wp2_with fail
      exact ⟨rfl, by rw [← hh.out.2.1, HV.out]; exact ⟨rfl, HF.out.rd, HF.out.gr⟩, .inr ⟨⟨_, rfl⟩, _, HJ2.out⟩⟩
    · have htp : takeP ts 1 p = .ok (textAt ts p, p + 1) := by unfold takeP; rw [if_pos hk]
      rw [htp] at HTK
      have HV := Lib.hid (HBAD.out acc p p hh.out.1.few hv)
      have HQ := Lib.hid hq
      clear hk hv htp hq
      generalize textAt ts p = s at *
      gi_wp2_with fail
      refine (callsIn_wide.2 HTK.out).mono ?_
      rintro e w2 ⟨rfl, hr2, hg2⟩
      have HL2 := Lib.hid (hh.out.1.turn HS.out hr2 hg2)
      have HJ2 := Lib.hid (HJ.out _ _ _ (turn_rd hh.out.1.i.rd hg2) hh.out.2.2)
      have HB := Lib.hid (bad_any HL2.out.i.rd 1 (by omega) (by omega))
      rw [Nat.add_sub_cancel] at HB
      clear hr2 hg2 f1 HTK
      have f1 := HL2.out.i.r1.facts1.1
      have f13 : w2.cell? ⟨g, 13, none⟩ = some (.map (some m)) := by rw [← HS.out.c13]; exact HL2.out.i.rd.row.cell (i := 13) rfl
      by_cases hin : s ∈ vars
      · have hac : s ∈ acc := HQ.out.resolve_left (fun h => h hin)
        obtain ⟨jm, hjm⟩ := metKv_yes hin
        have hlk := run_get_yes Tryz.underlying117 Tryz.underlying9 HL2.out.i.met (isKey_str s) hjm false
        rw [if_neg (by simp)] at hlk
        obtain ⟨jn, hjn⟩ := metKv_yes hac
        have hlk2 := run_get_yes Tryz.underlying117 Tryz.underlying9 HL2.out.once (isKey_str s) hjn false
        rw [if_neg (by simp)] at hlk2
        clear hjm hjn hin hac
        gi_wp2_with fail
        refine (callsIn_wide.2 HB.out).mono ?_
        rintro e w3 ⟨rfl, hr3, hg3⟩
        have HF := Lib.hid (HL2.out.i.turn HS.out hr3 hg3)
        have HJ3 := Lib.hid (HJ.out _ _ _ (turn_rd HL2.out.i.rd hg3) HJ2.out)
        clear hr3 hg3 f1 f13 HB hlk
        unfold wrongE
        gi_wp2_with fail
        exact ⟨rfl, by rw [← hh.out.2.1, HV.out]; exact ⟨rfl, HF.out.rd, HF.out.gr⟩, .inr ⟨⟨_, rfl⟩, _, HJ3.out⟩⟩
      · have hlk := run_get_no (z := .int .i64 0) Tryz.underlying117 Tryz.underlying9 HL2.out.i.met (isKey_str s) (metKv_no hin) (by rfl) false
        rw [if_neg (by simp)] at hlk
        clear hin
        gi_wp2_with fail
        refine (callsIn_wide.2 HB.out).mono ?_
        rintro e w3 ⟨rfl, hr3, hg3⟩
        have HF := Lib.hid (HL2.out.i.turn HS.out hr3 hg3)
        have HJ3 := Lib.hid (HJ.out _ _ _ (turn_rd HL2.out.i.rd hg3) HJ2.out)
        clear hr3 hg3 f1 f13 HB hlk
        unfold wrongE
        gi_wp2_with fail
        exact ⟨rfl, by rw [← hh.out.2.1, HV.out]; exact ⟨rfl, HF.out.rd, HF.out.gr⟩, .inr ⟨⟨_, rfl⟩, _, HJ3.out⟩⟩
    · have htp : takeP ts 1 p = .ok (textAt ts p, p + 1) := by unfold takeP; rw [if_pos hk]
      rw [htp] at HTK
      have HV := Lib.hid (HGO.out acc p hh.out.1.few hv)
      have hlt : p < ts.length := takeP_lt (by decide) hk
      obtain ⟨r, hr⟩ := HPRE.out (vars.length - (acc ++ [textAt ts p]).length) (acc ++ [textAt ts p]) (folQ ts true vars.length (acc.length + 1) (p + 1))
      have hnm : ∃ r, R.1 = acc ++ [textAt ts p] ++ r := by
        rw [← hh.out.2.1, HV.out]
        split
        · exact ⟨r, hr⟩
        · exact ⟨[], by simp⟩
      have HNM := Lib.hid hnm
      have HIN := Lib.hid hin
      have HNO := Lib.hid hno
      have HPLT := Lib.hid hlt
      clear hk hv htp hlt hr hnm hin hno r
      generalize textAt ts p = s at *
      gi_wp2_with fail
      refine (callsIn_wide.2 HTK.out).mono ?_
      rintro e w2 ⟨rfl, hr2, hg2⟩
      have HL2 := Lib.hid (hh.out.1.turn HS.out hr2 hg2)
      have HJ2 := Lib.hid (HJ.out _ _ _ (turn_rd hh.out.1.i.rd hg2) hh.out.2.2)
      clear hr2 hg2 f1 HTK
      have f1 := HL2.out.i.r1.facts1.1
      have f13 : w2.cell? ⟨g, 13, none⟩ = some (.map (some m)) := by rw [← HS.out.c13]; exact HL2.out.i.rd.row.cell (i := 13) rfl
      obtain ⟨jm, hjm⟩ := metKv_yes HIN.out
      have hlk := run_get_yes Tryz.underlying117 Tryz.underlying9 HL2.out.i.met (isKey_str s) hjm false
      rw [if_neg (by simp)] at hlk
      have hlk2 := run_get_no (z := .int .i64 0) Tryz.underlying117 Tryz.underlying9 HL2.out.once (isKey_str s) (metKv_no HNO.out) (by rfl) false
      rw [if_neg (by simp)] at hlk2
      obtain ⟨w3, hput, hm3, hg3, -⟩ := run_put_new Tryz.underlying117 Tryz.underlying9 HL2.out.once (isKey_str s) (metKv_no HNO.out) (.int .i64 1)
      rw [← metKv_snoc] at hm3
      have HL3 := Lib.hid (HL2.out.put HS.out (by have := HY.out; omega) hm3 hg3)
      have HJ3 := Lib.hid (HJ.out _ _ _ (turn_map HL2.out.once hg3 (Nat.le_refl _)) HJ2.out)
      obtain ⟨r, hr⟩ := HNM.out
      have hk : acc.length < R.1.length := by rw [hr]; simp
      have hs : R.1[acc.length] = s := by simp [hr]
      obtain ⟨N, hN⟩ : ∃ N, acc.length + 1 = N := ⟨_, rfl⟩
      have hNl : (metKv (acc ++ [s])).length = N := by unfold metKv; simp [← hN]
      have HN := Lib.hid hN
      have HNL := Lib.hid hNl
      have HF := Lib.hid hh.out.1.few
      obtain ⟨fn', tmps', assign', body', hy, hRd⟩ := HRound.out acc.length _ w3 hk HJ3.out ⟨hk, rfl⟩
      rw [hs] at hy
      rw [hN] at hRd HV
      clear hjm hm3 hg3 hr hs hk hN hNl r
      gi_wp2_with fail
      clear hy hlk hlk2 hput f1 f13
      refine hRd.mono ?_
      rintro e w6 ⟨hkf, hbl, rfl, hj6⟩
      have HL6 := Lib.hid (show SomeI w0 ts tv g c m vars w1 b1 b2 _ (p + 1) w6 from HL3.out.1.below HS.out hbl)
      have HO6 := Lib.hid (show MapAt .string w6 o (metKv (acc ++ [s])) from by obtain ⟨es, cl, h1, h2⟩ := HL3.out.2.1; exact ⟨es, cl, hkf.same _ _ (Nat.le_refl _) h1 rfl, h2⟩)
      have HOS := Lib.hid (show o < w6.heap.size from Nat.lt_of_lt_of_le HL3.out.2.2 hkf.size)
      have HJ6 := Lib.hid hj6
      have f2 := HL6.out.r2.facts1.1
      have hln := run_len_map Tryz.underlying117 HO6.out 3
      rw [HNL.out] at hln
      have hfl := HFOL.out N (p + 1) w6 (by have := HN.out; have := HF.out; omega) HL6.out
      clear hkf hbl hj6 hRd
      cases hf : folB ts true vars.length N (p + 1) with
      | true =>
        rw [hf] at hfl
        have HFL := Lib.hid hfl
        have HFB := Lib.hid hf
        clear hfl hf
        gi_wp2_with fail
        refine (callsIn_wide.2 HFL.out).mono ?_
        rintro e w7 ⟨rfl, hr7, hg7⟩
        have HI7 := Lib.hid (HL6.out.turn HS.out hr7 hg7)
        have HO7 := Lib.hid (HO6.out.kept hg7 (fun e => row_ne_map HL6.out.rd.row HO6.out (Option.some.inj e)))
        have HJ7 := Lib.hid (HJ.out _ _ _ (turn_rd HL6.out.rd hg7) HJ6.out)
        have HP7 := Lib.hid (plc_at hr7)
        have HOS7 := Lib.hid (Nat.lt_of_lt_of_le HOS.out hg7.size)
        clear hr7 hg7 hln f2
        gi_wp2_with fail
        refine ⟨⟨acc ++ [s], folQ ts true vars.length N (p + 1), Lib.hid ⟨⟨HI7.out, HO7.out, ?_, HOS7.out⟩, ?_, ?_⟩⟩, ?_⟩
        · have h1 := HFB.out
          have := HN.out
          simp only [folB, Bool.and_eq_true, decide_eq_true_eq] at h1
          rw [List.length_append]; simp; omega
        · have h1 := HV.out
          rw [if_pos HFB.out, hh.out.2.1] at h1
          exact h1.symm
        · rw [List.length_append, List.length_singleton, HN.out]; exact HJ7.out
        · rw [HP7.out, HPL.out]
          have := HPLT.out
          unfold folQ
          split <;> omega
      | false =>
        rw [hf] at hfl
        have HFL := Lib.hid hfl
        have HFB := Lib.hid hf
        clear hfl hf
        gi_wp2_with fail
        refine (callsIn_wide.2 HFL.out).mono ?_
        rintro e w7 ⟨rfl, hr7, hg7⟩
        have HI7 := Lib.hid (HL6.out.turn HS.out hr7 hg7)
        have HJ7 := Lib.hid (HJ.out _ _ _ (turn_rd HL6.out.rd hg7) HJ6.out)
        clear hr7 hg7 hln f2
        gi_wp2_with fail
        refine bodyPost_ret (results_none rfl _ _ _) rfl ⟨?_, .inl ⟨⟨_, rfl⟩, ?_⟩⟩
        · have h1 := HV.out
          rw [if_neg (by rw [HFB.out]; decide), hh.out.2.1] at h1
          rw [h1]
          have h2 := HI7.out
          unfold folQ at h2
          rw [if_neg (by rw [HFB.out]; simp)] at h2
          exact ⟨⟨_, rfl⟩, h2.rd, h2.gr⟩
        · have h1 := HV.out
          have h2 := HN.out
          rw [if_neg (by rw [HFB.out]; decide), hh.out.2.1] at h1
          rw [h1]
          simp only [List.length_append, List.length_singleton]
          rw [h2]
          exact HJ7.out
theorem some_hint {w0 : World} {ts : List Tk} {tv : Value} {g : Nat} {c : Rc} {m : Nat} {vars : List ByteArray} {w1 : World} {b1 b2 b3 b4 : Nat} (p0 : Nat) (hl : ts.length ≤ 1000000) (hS : SomeS w0 g c m w1 b1 b2) (hmany : vars.length ≤ 1000000) (hpos : 0 < vars.length)
    (hfol : ∀ n p W, n ≤ vars.length → SomeI w0 ts tv g c m vars w1 b1 b2 (.func (.func 123) #[] #[.pointer (some ⟨b3, 0, none⟩)]) p W → Calls Tryz.prog 123 #[.int .i64 n, .pointer (some ⟨b3, 0, none⟩)] W fun e W' => e = .returned (.bool (folB ts false vars.length n p)) ∧ RdT w0 ts tv g c (folQ ts false vars.length n p) W' ∧ W.grownBy W' (some g)) :
    IterX Tryz.prog 136 #[.pointer (some ⟨b1, 0, none⟩), .pointer (some ⟨b2, 0, none⟩)] (SomeI w0 ts tv g c m vars w1 b1 b2 (.func (.func 123) #[] #[.pointer (some ⟨b3, 0, none⟩)]) p0) 119 w1.heap.size (someP ts vars false vars.length [] p0).1.length
      (fun k args => ∃ h : k < (someP ts vars false vars.length [] p0).1.length, args = #[.string (someP ts vars false vars.length [] p0).1[k]]) (SomeFin w0 ts tv g c w1 (someP ts vars false vars.length [] p0).2) := by
  intro L W J hY hI hJ hround h0
  refine callsIn_of_wp Tryz.func136 rfl trivial ?_
  simp only [Tryz.ntmps136, List.size_toArray, List.length_cons, List.length_nil, Nat.reduceAdd, Nat.reduceSub, Array.replicate_succ, Array.replicate_zero, List.push_toArray, List.append_toArray, List.nil_append, List.cons_append]
  have hpre := fun k acc p => someP_pre ts vars false k acc p
  have hgo := fun (acc : List ByteArray) (p : Nat) (hlt : acc.length < vars.length) (hv : varP ts vars acc p = .ok (acc ++ [textAt ts p], p + 1)) => someP_go (cm := false) hlt hv
  have hbad := fun (acc : List ByteArray) (p q : Nat) (hlt : acc.length < vars.length) (hv : varP ts vars acc p = .error q) => someP_bad (cm := false) hlt hv
  obtain ⟨R, hR⟩ : ∃ R, someP ts vars false vars.length [] p0 = R := ⟨_, rfl⟩
  rw [hR] at hround ⊢
  have hst : someP ts vars false (vars.length - ([] : List ByteArray).length) [] p0 = R := hR
  have hmm := @run_makeMap Tryz.prog
  have hmap : MapAt .string (W.alloc (.map #[] 0)) W.heap.size (metKv []) := MapAt.new _ W
  have hxa := Ext.alloc W (.map #[] 0)
  have hI1 := hI.ext hxa
  have hj1 := hJ 0 _ _ (Turn.ext hxa) h0
  have HJ := Lib.hid hJ
  have HRound := Lib.hid hround
  have HPRE := Lib.hid hpre
  have HGO := Lib.hid hgo
  have HBAD := Lib.hid hbad
  have HFOL := Lib.hid hfol
  have HST := Lib.hid hst
  have HS := Lib.hid hS
  have HI1 := Lib.hid hI1
  have HJ1 := Lib.hid hj1
  have HMAP := Lib.hid hmap
  have HY := Lib.hid hY
  clear hJ hround hpre hgo hbad hfol hst hS hI1 hj1 hmap hY hxa hI h0 hR
  gi_wp2_with fail
  clear hmm
  obtain ⟨o, ho⟩ : ∃ o, W.heap.size = o := ⟨_, rfl⟩
  rw [ho] at HMAP HY HRound HJ
  try simp only [ho]
  have HLT : Hid (o < (W.alloc (.map #[] 0)).heap.size) := Lib.hid (by simp [← ho])
  clear ho
  generalize W.alloc (.map #[] 0) = wa at *
  gi_loopw [5] (fun _ wr => ∃ (acc : List ByteArray) (p : Nat), Hid (SomeL w0 ts tv g c m vars w1 b1 b2 (.func (.func 123) #[] #[.pointer (some ⟨b3, 0, none⟩)]) o acc p wr ∧ someP ts vars false (vars.length - acc.length) acc p = R ∧ J acc.length wr)) (fun _ wr => ts.length - plc wr g)
  case atStart => exact ⟨[], p0, Lib.hid ⟨⟨HI1.out, HMAP.out, hpos, HLT.out⟩, HST.out, HJ1.out⟩⟩
  case round =>
    obtain ⟨acc, p, hh⟩ := hrel
    have HPL := Lib.hid (plc_at hh.out.1.i.rd)
    have HTK := Lib.hid (take_any hh.out.1.i.rd 1 (by decide) hl)
    have f1 := hh.out.1.i.r1.facts1.1
    clear HST HI1 HJ1 HMAP HLT
    rcases varP_cases ts vars acc p with ⟨hk, hv⟩ | ⟨hk, hq, hv⟩ | ⟨hk, hin, hno, hv⟩
    · have htp : takeP ts 1 p = .error p := by unfold takeP; rw [if_neg hk]
      rw [htp] at HTK
      have HV := Lib.hid (HBAD.out acc p p hh.out.1.few hv)
      clear hk hv htp
      gi_wp2_with fail
      refine (callsIn_wide.2 HTK.out).mono ?_
      rintro e w2 ⟨rfl, hr2, hg2⟩
      have HF := Lib.hid (hh.out.1.i.turn HS.out hr2 hg2)
      have HJ2 := Lib.hid (HJ.out _ _ _ (turn_rd hh.out.1.i.rd hg2) hh.out.2.2)
      clear hr2 hg2 f1 HTK
      unfold wrongE
      gi_wp2_with fail
      exact ⟨rfl, by rw [← hh.out.2.1, HV.out]; exact ⟨rfl, HF.out.rd, HF.out.gr⟩, .inr ⟨⟨_, rfl⟩, _, HJ2.out⟩⟩
    · have htp : takeP ts 1 p = .ok (textAt ts p, p + 1) := by unfold takeP; rw [if_pos hk]
      rw [htp] at HTK
      have HV := Lib.hid (HBAD.out acc p p hh.out.1.few hv)
      have HQ := Lib.hid hq
      clear hk hv htp hq
      generalize textAt ts p = s at *
      gi_wp2_with fail
      refine (callsIn_wide.2 HTK.out).mono ?_
      rintro e w2 ⟨rfl, hr2, hg2⟩
      have HL2 := Lib.hid (hh.out.1.turn HS.out hr2 hg2)
      have HJ2 := Lib.hid (HJ.out _ _ _ (turn_rd hh.out.1.i.rd hg2) hh.out.2.2)
      have HB := Lib.hid (bad_any HL2.out.i.rd 1 (by omega) (by omega))
      rw [Nat.add_sub_cancel] at HB
      clear hr2 hg2 f1 HTK
      have f1 := HL2.out.i.r1.facts1.1
      have f13 : w2.cell? ⟨g, 13, none⟩ = some (.map (some m)) := by rw [← HS.out.c13]; exact HL2.out.i.rd.row.cell (i := 13) rfl
      by_cases hin : s ∈ vars
      · have hac : s ∈ acc := HQ.out.resolve_left (fun h => h hin)
        obtain ⟨jm, hjm⟩ := metKv_yes hin
        have hlk := run_get_yes Tryz.underlying117 Tryz.underlying9 HL2.out.i.met (isKey_str s) hjm false
        rw [if_neg (by simp)] at hlk
        obtain ⟨jn, hjn⟩ := metKv_yes hac
        have hlk2 := run_get_yes Tryz.underlying117 Tryz.underlying9 HL2.out.once (isKey_str s) hjn false
        rw [if_neg (by simp)] at hlk2
        clear hjm hjn hin hac
        gi_wp2_with fail
        refine (callsIn_wide.2 HB.out).mono ?_
        rintro e w3 ⟨rfl, hr3, hg3⟩
        have HF := Lib.hid (HL2.out.i.turn HS.out hr3 hg3)
        have HJ3 := Lib.hid (HJ.out _ _ _ (turn_rd HL2.out.i.rd hg3) HJ2.out)
        clear hr3 hg3 f1 f13 HB hlk
        unfold wrongE
        gi_wp2_with fail
        exact ⟨rfl, by rw [← hh.out.2.1, HV.out]; exact ⟨rfl, HF.out.rd, HF.out.gr⟩, .inr ⟨⟨_, rfl⟩, _, HJ3.out⟩⟩
      · have hlk := run_get_no (z := .int .i64 0) Tryz.underlying117 Tryz.underlying9 HL2.out.i.met (isKey_str s) (metKv_no hin) (by rfl) false
        rw [if_neg (by simp)] at hlk
        clear hin
        gi_wp2_with fail
        refine (callsIn_wide.2 HB.out).mono ?_
        rintro e w3 ⟨rfl, hr3, hg3⟩
        have HF := Lib.hid (HL2.out.i.turn HS.out hr3 hg3)
        have HJ3 := Lib.hid (HJ.out _ _ _ (turn_rd HL2.out.i.rd hg3) HJ2.out)
        clear hr3 hg3 f1 f13 HB hlk
        unfold wrongE
        gi_wp2_with fail
        exact ⟨rfl, by rw [← hh.out.2.1, HV.out]; exact ⟨rfl, HF.out.rd, HF.out.gr⟩, .inr ⟨⟨_, rfl⟩, _, HJ3.out⟩⟩
    · have htp : takeP ts 1 p = .ok (textAt ts p, p + 1) := by unfold takeP; rw [if_pos hk]
      rw [htp] at HTK
      have HV := Lib.hid (HGO.out acc p hh.out.1.few hv)
      have hlt : p < ts.length := takeP_lt (by decide) hk
      obtain ⟨r, hr⟩ := HPRE.out (vars.length - (acc ++ [textAt ts p]).length) (acc ++ [textAt ts p]) (folQ ts false vars.length (acc.length + 1) (p + 1))
      have hnm : ∃ r, R.1 = acc ++ [textAt ts p] ++ r := by
        rw [← hh.out.2.1, HV.out]
        split
        · exact ⟨r, hr⟩
        · exact ⟨[], by simp⟩
      have HNM := Lib.hid hnm
      have HIN := Lib.hid hin
      have HNO := Lib.hid hno
      have HPLT := Lib.hid hlt
      clear hk hv htp hlt hr hnm hin hno r
      generalize textAt ts p = s at *
      gi_wp2_with fail
      refine (callsIn_wide.2 HTK.out).mono ?_
      rintro e w2 ⟨rfl, hr2, hg2⟩
      have HL2 := Lib.hid (hh.out.1.turn HS.out hr2 hg2)
      have HJ2 := Lib.hid (HJ.out _ _ _ (turn_rd hh.out.1.i.rd hg2) hh.out.2.2)
      clear hr2 hg2 f1 HTK
      have f1 := HL2.out.i.r1.facts1.1
      have f13 : w2.cell? ⟨g, 13, none⟩ = some (.map (some m)) := by rw [← HS.out.c13]; exact HL2.out.i.rd.row.cell (i := 13) rfl
      obtain ⟨jm, hjm⟩ := metKv_yes HIN.out
      have hlk := run_get_yes Tryz.underlying117 Tryz.underlying9 HL2.out.i.met (isKey_str s) hjm false
      rw [if_neg (by simp)] at hlk
      have hlk2 := run_get_no (z := .int .i64 0) Tryz.underlying117 Tryz.underlying9 HL2.out.once (isKey_str s) (metKv_no HNO.out) (by rfl) false
      rw [if_neg (by simp)] at hlk2
      obtain ⟨w3, hput, hm3, hg3, -⟩ := run_put_new Tryz.underlying117 Tryz.underlying9 HL2.out.once (isKey_str s) (metKv_no HNO.out) (.int .i64 1)
      rw [← metKv_snoc] at hm3
      have HL3 := Lib.hid (HL2.out.put HS.out (by have := HY.out; omega) hm3 hg3)
      have HJ3 := Lib.hid (HJ.out _ _ _ (turn_map HL2.out.once hg3 (Nat.le_refl _)) HJ2.out)
      obtain ⟨r, hr⟩ := HNM.out
      have hk : acc.length < R.1.length := by rw [hr]; simp
      have hs : R.1[acc.length] = s := by simp [hr]
      obtain ⟨N, hN⟩ : ∃ N, acc.length + 1 = N := ⟨_, rfl⟩
      have hNl : (metKv (acc ++ [s])).length = N := by unfold metKv; simp [← hN]
      have HN := Lib.hid hN
      have HNL := Lib.hid hNl
      have HF := Lib.hid hh.out.1.few
      obtain ⟨fn', tmps', assign', body', hy, hRd⟩ := HRound.out acc.length _ w3 hk HJ3.out ⟨hk, rfl⟩
      rw [hs] at hy
      rw [hN] at hRd HV
      clear hjm hm3 hg3 hr hs hk hN hNl r
      gi_wp2_with fail
      clear hy hlk hlk2 hput f1 f13
      refine hRd.mono ?_
      rintro e w6 ⟨hkf, hbl, rfl, hj6⟩
      have HL6 := Lib.hid (show SomeI w0 ts tv g c m vars w1 b1 b2 _ (p + 1) w6 from HL3.out.1.below HS.out hbl)
      have HO6 := Lib.hid (show MapAt .string w6 o (metKv (acc ++ [s])) from by obtain ⟨es, cl, h1, h2⟩ := HL3.out.2.1; exact ⟨es, cl, hkf.same _ _ (Nat.le_refl _) h1 rfl, h2⟩)
      have HOS := Lib.hid (show o < w6.heap.size from Nat.lt_of_lt_of_le HL3.out.2.2 hkf.size)
      have HJ6 := Lib.hid hj6
      have f2 := HL6.out.r2.facts1.1
      have hln := run_len_map Tryz.underlying117 HO6.out 3
      rw [HNL.out] at hln
      have hfl := HFOL.out N (p + 1) w6 (by have := HN.out; have := HF.out; omega) HL6.out
      clear hkf hbl hj6 hRd
      cases hf : folB ts false vars.length N (p + 1) with
      | true =>
        rw [hf] at hfl
        have HFL := Lib.hid hfl
        have HFB := Lib.hid hf
        clear hfl hf
        gi_wp2_with fail
        refine (callsIn_wide.2 HFL.out).mono ?_
        rintro e w7 ⟨rfl, hr7, hg7⟩
        have HI7 := Lib.hid (HL6.out.turn HS.out hr7 hg7)
        have HO7 := Lib.hid (HO6.out.kept hg7 (fun e => row_ne_map HL6.out.rd.row HO6.out (Option.some.inj e)))
        have HJ7 := Lib.hid (HJ.out _ _ _ (turn_rd HL6.out.rd hg7) HJ6.out)
        have HP7 := Lib.hid (plc_at hr7)
        have HOS7 := Lib.hid (Nat.lt_of_lt_of_le HOS.out hg7.size)
        clear hr7 hg7 hln f2
        gi_wp2_with fail
        refine ⟨⟨acc ++ [s], folQ ts false vars.length N (p + 1), Lib.hid ⟨⟨HI7.out, HO7.out, ?_, HOS7.out⟩, ?_, ?_⟩⟩, ?_⟩
        · have h1 := HFB.out
          have := HN.out
          simp only [folB, Bool.and_eq_true, decide_eq_true_eq] at h1
          rw [List.length_append]; simp; omega
        · have h1 := HV.out
          rw [if_pos HFB.out, hh.out.2.1] at h1
          exact h1.symm
        · rw [List.length_append, List.length_singleton, HN.out]; exact HJ7.out
        · rw [HP7.out, HPL.out]
          have := HPLT.out
          unfold folQ
          split <;> omega
      | false =>
        rw [hf] at hfl
        have HFL := Lib.hid hfl
        have HFB := Lib.hid hf
        clear hfl hf
        gi_wp2_with fail
        refine (callsIn_wide.2 HFL.out).mono ?_
        rintro e w7 ⟨rfl, hr7, hg7⟩
        have HI7 := Lib.hid (HL6.out.turn HS.out hr7 hg7)
        have HJ7 := Lib.hid (HJ.out _ _ _ (turn_rd HL6.out.rd hg7) HJ6.out)
        clear hr7 hg7 hln f2
        gi_wp2_with fail
        refine bodyPost_ret (results_none rfl _ _ _) rfl ⟨?_, .inl ⟨⟨_, rfl⟩, ?_⟩⟩
        · have h1 := HV.out
          rw [if_neg (by rw [HFB.out]; decide), hh.out.2.1] at h1
          rw [h1]
          have h2 := HI7.out
          unfold folQ at h2
          rw [if_neg (by rw [HFB.out]; simp)] at h2
          exact ⟨⟨_, rfl⟩, h2.rd, h2.gr⟩
        · have h1 := HV.out
          have h2 := HN.out
          rw [if_neg (by rw [HFB.out]; decide), hh.out.2.1] at h1
          rw [h1]
          simp only [List.length_append, List.length_singleton]
          rw [h2]
          exact HJ7.out
end Go.Proofs.YthoneahamnmjlaaGreatDoor
