/- The iterator of the names that are told. -/
import Derived.Test.YtngnplghjaojhaaGp19
import Derived.Test.YtngnplghjaojhaaGp14
import Derived.Test.YtngnplghjaojhaaGp03
namespace Go.Proofs.Ytngnplghjaojhaa
set_option maxRecDepth 100000
set_option linter.unusedSimpArgs false
open Go.RowKit Go.Shelf Go.Sort
attribute [local go_sem] Oper.semAt_some wide_fn wide_depth
set_option linter.unusedVariables false

theorem run_len_map {P : Program} {w : World} {t kt et : TypeId} {d : TypeDesc} {b : Nat} {kv : List (Value × Value)} (ht : P.underlying t = some (.map kt et)) (h : MapAt d w b kv) (ty : TypeId) :
    (Builtin.len_ #[t] ty #[.map (some b)]).run P w = .ok (.int .i64 kv.length) w := by
  obtain ⟨es, c, h1, h2, h3, h4⟩ := h
  have : kv.length = es.size := by rw [← h4]; simp
  rw [this]
  simp [Builtin.len_, run_underlying ht, MapKept.run_getObj_map h1, goInt, Result.andThen]
/-- What does not change while names are told. -/
structure SomeS (w0 : World) (g : Nat) (c : Rc) (m : Nat) (w1 : World) (b1 b2 : Nat) : Prop where
  c13 : c.c13 = .map (some m)
  g : g < w1.heap.size
  m : m < w1.heap.size
  b1 : b1 < w1.heap.size
  b2 : b2 < w1.heap.size
  w0 : w0.heap.size ≤ w1.heap.size
/-- The reader, and the boxes of the iterator. -/
structure SomeI (w0 : World) (ts : List Tk) (tv : Value) (g : Nat) (c : Rc) (m : Nat) (vars : List ByteArray) (w1 : World) (b1 b2 : Nat) (F : Value) (p : Nat) (W : World) : Prop where
  rd : RdT w0 ts tv g c p W
  met : MapAt .string W m (metKv vars)
  r1 : RowAt W b1 65 [.pointer (some ⟨g, 0, none⟩)]
  r2 : RowAt W b2 80 [F]
  gr : w1.grownBy W (some g)
structure SomeL (w0 : World) (ts : List Tk) (tv : Value) (g : Nat) (c : Rc) (m : Nat) (vars : List ByteArray) (w1 : World) (b1 b2 : Nat) (F : Value) (o : Nat) (acc : List ByteArray) (p : Nat) (W : World) : Prop where
  i : SomeI w0 ts tv g c m vars w1 b1 b2 F p W
  once : MapAt .string W o (metKv acc)
  few : acc.length < vars.length
  o : o < W.heap.size
def SomeFin (w0 : World) (ts : List Tk) (tv : Value) (g : Nat) (c : Rc) (w1 : World) (r : Except Nat Nat) (e : Ending) (W : World) : Prop := match r with
  | .ok q => (∃ v, e = .returned v) ∧ RdT w0 ts tv g c q W ∧ w1.grownBy W (some g)
  | .error q => e = wrongE ∧ RdT w0 ts tv g c q W ∧ w1.grownBy W (some g)
/-- The reader's place, as the world has it. -/
def plc (W : World) (g : Nat) : Nat := match W.cell? ⟨g, 9, none⟩ with
  | some (.int .i64 n) => n.toNat
  | _ => 0
theorem plc_at {w0 : World} {ts : List Tk} {tv : Value} {g : Nat} {c : Rc} {p : Nat} {W : World} (h : RdT w0 ts tv g c p W) : plc W g = p := by
  unfold plc; rw [h.facts.2.1]; simp
theorem row_ne_rd {W : World} {g b : Nat} {t t' : TypeId} {xs ys : List Value} (h : RowAt W g t xs) (h' : RowAt W b t' ys) (hne : t ≠ t') : b ≠ g := by
  rintro rfl
  have h1 := (show W.heap[b]? = _ from h).symm.trans h'
  simp only [Option.some.injEq, Obj.cells.injEq] at h1
  exact hne h1.2.1
theorem turn_rd {w0 : World} {ts : List Tk} {tv : Value} {g : Nat} {c : Rc} {p : Nat} {W W' : World} {B : Nat} (h : RdT w0 ts tv g c p W) (hg : W.grownBy W' (some g)) : Turn 68 0 B W W' :=
  ⟨some g, hg, fun r e => by cases e; exact ⟨_, h.row, .inr ⟨Nat.zero_le _, _, _, rfl⟩⟩⟩
theorem turn_map {T : TypeId} {X B o : Nat} {dd : TypeDesc} {W W' : World} {kv : List (Value × Value)} (h : MapAt dd W o kv) (hg : W.grownBy W' (some o)) (hB : B ≤ o) : Turn T X B W W' :=
  ⟨some o, hg, fun r e => by cases e; obtain ⟨es, c, h1, _⟩ := h; exact ⟨_, h1, .inl ⟨hB, rfl⟩⟩⟩
section
variable {w0 : World} {ts : List Tk} {tv : Value} {g : Nat} {c : Rc} {m : Nat} {vars : List ByteArray} {w1 : World} {b1 b2 : Nat} {F : Value} {p q : Nat} {W W' : World} {o : Nat} {acc : List ByteArray}
theorem SomeI.ext (h : SomeI w0 ts tv g c m vars w1 b1 b2 F p W) (hx : Ext W W') : SomeI w0 ts tv g c m vars w1 b1 b2 F p W' :=
  ⟨h.rd.grow hx, h.met.ext hx, h.r1.ext hx, h.r2.ext hx, h.gr.trans (grown_of_ext hx g)⟩
theorem SomeI.turn (h : SomeI w0 ts tv g c m vars w1 b1 b2 F p W) (hS : SomeS w0 g c m w1 b1 b2) (hr : RdT w0 ts tv g c q W') (hg : W.grownBy W' (some g)) : SomeI w0 ts tv g c m vars w1 b1 b2 F q W' :=
  ⟨hr, h.met.kept hg (fun e => row_ne_map h.rd.row h.met (Option.some.inj e)), h.r1.kept hg (fun e => row_ne_rd h.rd.row h.r1 (by decide) (Option.some.inj e).symm), h.r2.kept hg (fun e => row_ne_rd h.rd.row h.r2 (by decide) (Option.some.inj e).symm), h.gr.trans hg⟩
theorem SomeI.below (h : SomeI w0 ts tv g c m vars w1 b1 b2 F p W) (hS : SomeS w0 g c m w1 b1 b2) (hb : Below w1.heap.size W W') : SomeI w0 ts tv g c m vars w1 b1 b2 F p W' := by
  have hrow : ∀ {b : Nat} {t : TypeId} {xs : List Value}, b < w1.heap.size → RowAt W b t xs → RowAt W' b t xs := fun hlt hr => (hb.block _ hlt).trans hr
  refine ⟨⟨Below.trans h.rd.ext (Below.mono hb hS.w0), h.rd.toks, h.rd.lo, hrow hS.g h.rd.row, h.rd.le, h.rd.szs⟩, ?_, hrow hS.b1 h.r1, hrow hS.b2 h.r2, ?_⟩
  · obtain ⟨es, cl, h1, h2⟩ := h.met
    exact ⟨es, cl, (hb.block _ hS.m).trans h1, h2⟩
  · exact ⟨hb.os.trans h.gr.os, hb.tape.trans h.gr.tape, hb.output.trans h.gr.output, Nat.le_trans h.gr.size hb.size, fun i hi hn => (hb.block i hi).trans (h.gr.block i hi hn)⟩
theorem SomeL.turn (h : SomeL w0 ts tv g c m vars w1 b1 b2 F o acc p W) (hS : SomeS w0 g c m w1 b1 b2) (hr : RdT w0 ts tv g c q W') (hg : W.grownBy W' (some g)) : SomeL w0 ts tv g c m vars w1 b1 b2 F o acc q W' :=
  ⟨h.i.turn hS hr hg, h.once.kept hg (fun e => row_ne_map h.i.rd.row h.once (Option.some.inj e)), h.few, Nat.lt_of_lt_of_le h.o hg.size⟩
/-- A name more has been told. -/
theorem SomeL.put {s : ByteArray} (h : SomeL w0 ts tv g c m vars w1 b1 b2 F o acc p W) (hS : SomeS w0 g c m w1 b1 b2) (ho : w1.heap.size ≤ o) (hm : MapAt .string W' o (metKv (acc ++ [s]))) (hg : W.grownBy W' (some o)) :
    SomeI w0 ts tv g c m vars w1 b1 b2 F p W' ∧ MapAt .string W' o (metKv (acc ++ [s])) ∧ o < W'.heap.size := by
  refine ⟨h.i.below hS ⟨hg.os, hg.tape, hg.output, hg.size, fun k hk => hg.block k (Nat.lt_of_lt_of_le hk h.i.gr.size) (fun e => by have := Option.some.inj e; omega)⟩, hm, Nat.lt_of_lt_of_le h.o hg.size⟩
end
set_option maxHeartbeats 2000000
theorem some_ret {w0 : World} {ts : List Tk} {tv : Value} {g : Nat} {c : Rc} {m : Nat} {vars : List ByteArray} {w1 : World} {b1 b2 b3 b4 : Nat} (p0 : Nat) (hl : ts.length ≤ 1000000) (hS : SomeS w0 g c m w1 b1 b2) (hmany : vars.length ≤ 1000000) (hpos : 0 < vars.length)
    (hfol : ∀ n p W, n ≤ vars.length → SomeI w0 ts tv g c m vars w1 b1 b2 (.func (.func 82) #[] #[.pointer (some ⟨b3, 0, none⟩), .pointer (some ⟨b4, 0, none⟩)]) p W → Calls Try.prog 82 #[.int .i64 n, .pointer (some ⟨b3, 0, none⟩), .pointer (some ⟨b4, 0, none⟩)] W fun e W' => e = .returned (.bool (folB ts true vars.length n p)) ∧ RdT w0 ts tv g c (folQ ts true vars.length n p) W' ∧ W.grownBy W' (some g)) :
    IterX Try.prog 105 #[.pointer (some ⟨b1, 0, none⟩), .pointer (some ⟨b2, 0, none⟩)] (SomeI w0 ts tv g c m vars w1 b1 b2 (.func (.func 82) #[] #[.pointer (some ⟨b3, 0, none⟩), .pointer (some ⟨b4, 0, none⟩)]) p0) 68 w1.heap.size (someP ts vars true vars.length [] p0).1.length
      (fun k args => ∃ h : k < (someP ts vars true vars.length [] p0).1.length, args = #[.string (someP ts vars true vars.length [] p0).1[k]]) (SomeFin w0 ts tv g c w1 (someP ts vars true vars.length [] p0).2) := by
  intro L W J hY hI hJ hround h0
  refine callsIn_of_wp Try.func105 rfl trivial ?_
  simp only [Try.ntmps105, List.size_toArray, List.length_cons, List.length_nil, Nat.reduceAdd, Nat.reduceSub, Array.replicate_succ, Array.replicate_zero, List.push_toArray, List.append_toArray, List.nil_append, List.cons_append]
  have hpre := fun k acc p => someP_pre ts vars true k acc p
  have hgo := fun (acc : List ByteArray) (p : Nat) (hlt : acc.length < vars.length) (hv : varP ts vars acc p = .ok (acc ++ [textAt ts p], p + 1)) => someP_go (cm := true) hlt hv
  have hbad := fun (acc : List ByteArray) (p q : Nat) (hlt : acc.length < vars.length) (hv : varP ts vars acc p = .error q) => someP_bad (cm := true) hlt hv
  obtain ⟨R, hR⟩ : ∃ R, someP ts vars true vars.length [] p0 = R := ⟨_, rfl⟩
  rw [hR] at hround ⊢
  have hst : someP ts vars true (vars.length - ([] : List ByteArray).length) [] p0 = R := hR
  have hmm := @run_makeMap Try.prog
  have hmap : MapAt .string (W.alloc (.map #[] 0)) W.heap.size (metKv []) := MapAt.new _ W
  have hxa := Ext.alloc W (.map #[] 0)
  have hI1 := hI.ext hxa
  have hj1 := hJ 0 _ _ (Turn.ext hxa) h0
  have HJ := Lib.hid hJ
  have HRound := Lib.hid hround
  have HPRE := Lib.hid hpre
  have HGO := Lib.hid hgo
  have HBAD := Lib.hid hbad
  have HFOL := Lib.hid hfol
  have HST := Lib.hid hst
  have HS := Lib.hid hS
  have HI1 := Lib.hid hI1
  have HJ1 := Lib.hid hj1
  have HMAP := Lib.hid hmap
  have HY := Lib.hid hY
  clear hJ hround hpre hgo hbad hfol hst hS hI1 hj1 hmap hY hxa hI h0 hR
  gi_wp2_with fail
  clear hmm
  obtain ⟨o, ho⟩ : ∃ o, W.heap.size = o := ⟨_, rfl⟩
  rw [ho] at HMAP HY HRound HJ
  try simp only [ho]
  have HLT : Hid (o < (W.alloc (.map #[] 0)).heap.size) := Lib.hid (by simp [← ho])
  clear ho
  generalize W.alloc (.map #[] 0) = wa at *
  gi_loopw [5] (fun _ wr => ∃ (acc : List ByteArray) (p : Nat), Hid (SomeL w0 ts tv g c m vars w1 b1 b2 (.func (.func 82) #[] #[.pointer (some ⟨b3, 0, none⟩), .pointer (some ⟨b4, 0, none⟩)]) o acc p wr ∧ someP ts vars true (vars.length - acc.length) acc p = R ∧ J acc.length wr)) (fun _ wr => ts.length - plc wr g)
  case atStart => exact ⟨[], p0, Lib.hid ⟨⟨HI1.out, HMAP.out, hpos, HLT.out⟩, HST.out, HJ1.out⟩⟩
  case round =>
    obtain ⟨acc, p, hh⟩ := hrel
    have HPL := Lib.hid (plc_at hh.out.1.i.rd)
    have HTK := Lib.hid (take_any hh.out.1.i.rd 1 (by decide) hl)
    have f1 := hh.out.1.i.r1.facts1.1
    clear HST HI1 HJ1 HMAP HLT
    rcases varP_cases ts vars acc p with ⟨hk, hv⟩ | ⟨hk, hq, hv⟩ | ⟨hk, hin, hno, hv⟩
    · have htp : takeP ts 1 p = .error p := by unfold takeP; rw [if_neg hk]
      rw [htp] at HTK
      have HV := Lib.hid (HBAD.out acc p p hh.out.1.few hv)
      clear hk hv htp
      gi_wp2_with fail
      refine (callsIn_wide.2 HTK.out).mono ?_
      rintro e w2 ⟨rfl, hr2, hg2⟩
      have HF := Lib.hid (hh.out.1.i.turn HS.out hr2 hg2)
      have HJ2 := Lib.hid (HJ.out _ _ _ (turn_rd hh.out.1.i.rd hg2) hh.out.2.2)
      clear hr2 hg2 f1 HTK
      unfold wrongE
      gi_wp2_with fail
      exact ⟨rfl, by rw [← hh.out.2.1, HV.out]; exact ⟨rfl, HF.out.rd, HF.out.gr⟩, .inr ⟨⟨_, rfl⟩, _, HJ2.out⟩⟩
    · have htp : takeP ts 1 p = .ok (textAt ts p, p + 1) := by unfold takeP; rw [if_pos hk]
      rw [htp] at HTK
      have HV := Lib.hid (HBAD.out acc p p hh.out.1.few hv)
      have HQ := Lib.hid hq
      clear hk hv htp hq
      generalize textAt ts p = s at *
      gi_wp2_with fail
      refine (callsIn_wide.2 HTK.out).mono ?_
      rintro e w2 ⟨rfl, hr2, hg2⟩
      have HL2 := Lib.hid (hh.out.1.turn HS.out hr2 hg2)
      have HJ2 := Lib.hid (HJ.out _ _ _ (turn_rd hh.out.1.i.rd hg2) hh.out.2.2)
      have HB := Lib.hid (bad_any HL2.out.i.rd 1 (by omega) (by omega))
      rw [Nat.add_sub_cancel] at HB
      clear hr2 hg2 f1 HTK
      have f1 := HL2.out.i.r1.facts1.1
      have f13 : w2.cell? ⟨g, 13, none⟩ = some (.map (some m)) := by rw [← HS.out.c13]; exact HL2.out.i.rd.row.cell (i := 13) rfl
      by_cases hin : s ∈ vars
      · have hac : s ∈ acc := HQ.out.resolve_left (fun h => h hin)
        obtain ⟨jm, hjm⟩ := metKv_yes hin
        have hlk := run_get_yes Try.underlying66 Try.underlying9 HL2.out.i.met (isKey_str s) hjm false
        rw [if_neg (by simp)] at hlk
        obtain ⟨jn, hjn⟩ := metKv_yes hac
        have hlk2 := run_get_yes Try.underlying66 Try.underlying9 HL2.out.once (isKey_str s) hjn false
        rw [if_neg (by simp)] at hlk2
        clear hjm hjn hin hac
        gi_wp2_with fail
        refine (callsIn_wide.2 HB.out).mono ?_
        rintro e w3 ⟨rfl, hr3, hg3⟩
        have HF := Lib.hid (HL2.out.i.turn HS.out hr3 hg3)
        have HJ3 := Lib.hid (HJ.out _ _ _ (turn_rd HL2.out.i.rd hg3) HJ2.out)
        clear hr3 hg3 f1 f13 HB hlk
        unfold wrongE
        gi_wp2_with fail
        exact ⟨rfl, by rw [← hh.out.2.1, HV.out]; exact ⟨rfl, HF.out.rd, HF.out.gr⟩, .inr ⟨⟨_, rfl⟩, _, HJ3.out⟩⟩
      · have hlk := run_get_no (z := .int .i64 0) Try.underlying66 Try.underlying9 HL2.out.i.met (isKey_str s) (metKv_no hin) (by rfl) false
        rw [if_neg (by simp)] at hlk
        clear hin
        gi_wp2_with fail
        refine (callsIn_wide.2 HB.out).mono ?_
        rintro e w3 ⟨rfl, hr3, hg3⟩
        have HF := Lib.hid (HL2.out.i.turn HS.out hr3 hg3)
        have HJ3 := Lib.hid (HJ.out _ _ _ (turn_rd HL2.out.i.rd hg3) HJ2.out)
        clear hr3 hg3 f1 f13 HB hlk
        unfold wrongE
        gi_wp2_with fail
        exact ⟨rfl, by rw [← hh.out.2.1, HV.out]; exact ⟨rfl, HF.out.rd, HF.out.gr⟩, .inr ⟨⟨_, rfl⟩, _, HJ3.out⟩⟩
    · have htp : takeP ts 1 p = .ok (textAt ts p, p + 1) := by unfold takeP; rw [if_pos hk]
      rw [htp] at HTK
      have HV := Lib.hid (HGO.out acc p hh.out.1.few hv)
      have hlt : p < ts.length := takeP_lt (by decide) hk
      obtain ⟨r, hr⟩ := HPRE.out (vars.length - (acc ++ [textAt ts p]).length) (acc ++ [textAt ts p]) (folQ ts true vars.length (acc.length + 1) (p + 1))
      have hnm : ∃ r, R.1 = acc ++ [textAt ts p] ++ r := by
        rw [← hh.out.2.1, HV.out]
        split
        · exact ⟨r, hr⟩
        · exact ⟨[], by simp⟩
      have HNM := Lib.hid hnm
      have HIN := Lib.hid hin
      have HNO := Lib.hid hno
      have HPLT := Lib.hid hlt
      clear hk hv htp hlt hr hnm hin hno r
      generalize textAt ts p = s at *
      gi_wp2_with fail
      refine (callsIn_wide.2 HTK.out).mono ?_
      rintro e w2 ⟨rfl, hr2, hg2⟩
      have HL2 := Lib.hid (hh.out.1.turn HS.out hr2 hg2)
      have HJ2 := Lib.hid (HJ.out _ _ _ (turn_rd hh.out.1.i.rd hg2) hh.out.2.2)
      clear hr2 hg2 f1 HTK
      have f1 := HL2.out.i.r1.facts1.1
      have f13 : w2.cell? ⟨g, 13, none⟩ = some (.map (some m)) := by rw [← HS.out.c13]; exact HL2.out.i.rd.row.cell (i := 13) rfl
      obtain ⟨jm, hjm⟩ := metKv_yes HIN.out
      have hlk := run_get_yes Try.underlying66 Try.underlying9 HL2.out.i.met (isKey_str s) hjm false
      rw [if_neg (by simp)] at hlk
      have hlk2 := run_get_no (z := .int .i64 0) Try.underlying66 Try.underlying9 HL2.out.once (isKey_str s) (metKv_no HNO.out) (by rfl) false
      rw [if_neg (by simp)] at hlk2
      obtain ⟨w3, hput, hm3, hg3, -⟩ := run_put_new Try.underlying66 Try.underlying9 HL2.out.once (isKey_str s) (metKv_no HNO.out) (.int .i64 1)
      rw [← metKv_snoc] at hm3
      have HL3 := Lib.hid (HL2.out.put HS.out (by have := HY.out; omega) hm3 hg3)
      have HJ3 := Lib.hid (HJ.out _ _ _ (turn_map HL2.out.once hg3 (Nat.le_refl _)) HJ2.out)
      obtain ⟨r, hr⟩ := HNM.out
      have hk : acc.length < R.1.length := by rw [hr]; simp
      have hs : R.1[acc.length] = s := by simp [hr]
      obtain ⟨N, hN⟩ : ∃ N, acc.length + 1 = N := ⟨_, rfl⟩
      have hNl : (metKv (acc ++ [s])).length = N := by unfold metKv; simp [← hN]
      have HN := Lib.hid hN
      have HNL := Lib.hid hNl
      have HF := Lib.hid hh.out.1.few
      obtain ⟨fn', tmps', assign', body', hy, hRd⟩ := HRound.out acc.length _ w3 hk HJ3.out ⟨hk, rfl⟩
      rw [hs] at hy
      rw [hN] at hRd HV
      clear hjm hm3 hg3 hr hs hk hN hNl r
      gi_wp2_with fail
      clear hy hlk hlk2 hput f1 f13
      refine hRd.mono ?_
      rintro e w6 ⟨hkf, hbl, rfl, hj6⟩
      have HL6 := Lib.hid (show SomeI w0 ts tv g c m vars w1 b1 b2 _ (p + 1) w6 from HL3.out.1.below HS.out hbl)
      have HO6 := Lib.hid (show MapAt .string w6 o (metKv (acc ++ [s])) from by obtain ⟨es, cl, h1, h2⟩ := HL3.out.2.1; exact ⟨es, cl, hkf.same _ _ (Nat.le_refl _) h1 rfl, h2⟩)
      have HOS := Lib.hid (show o < w6.heap.size from Nat.lt_of_lt_of_le HL3.out.2.2 hkf.size)
      have HJ6 := Lib.hid hj6
      have f2 := HL6.out.r2.facts1.1
      have hln := run_len_map Try.underlying66 HO6.out 3
      rw [HNL.out] at hln
      have hfl := HFOL.out N (p + 1) w6 (by have := HN.out; have := HF.out; omega) HL6.out
      clear hkf hbl hj6 hRd
      cases hf : folB ts true vars.length N (p + 1) with
      | true =>
        rw [hf] at hfl
        have HFL := Lib.hid hfl
        have HFB := Lib.hid hf
        clear hfl hf
        gi_wp2_with fail
        refine (callsIn_wide.2 HFL.out).mono ?_
        rintro e w7 ⟨rfl, hr7, hg7⟩
        have HI7 := Lib.hid (HL6.out.turn HS.out hr7 hg7)
        have HO7 := Lib.hid (HO6.out.kept hg7 (fun e => row_ne_map HL6.out.rd.row HO6.out (Option.some.inj e)))
        have HJ7 := Lib.hid (HJ.out _ _ _ (turn_rd HL6.out.rd hg7) HJ6.out)
        have HP7 := Lib.hid (plc_at hr7)
        have HOS7 := Lib.hid (Nat.lt_of_lt_of_le HOS.out hg7.size)
        clear hr7 hg7 hln f2
        gi_wp2_with fail
        refine ⟨⟨acc ++ [s], folQ ts true vars.length N (p + 1), Lib.hid ⟨⟨HI7.out, HO7.out, ?_, HOS7.out⟩, ?_, ?_⟩⟩, ?_⟩
        · have h1 := HFB.out
          have := HN.out
          simp only [folB, Bool.and_eq_true, decide_eq_true_eq] at h1
          rw [List.length_append]; simp; omega
        · have h1 := HV.out
          rw [if_pos HFB.out, hh.out.2.1] at h1
          exact h1.symm
        · rw [List.length_append, List.length_singleton, HN.out]; exact HJ7.out
        · rw [HP7.out, HPL.out]
          have := HPLT.out
          unfold folQ
          split <;> omega
      | false =>
        rw [hf] at hfl
        have HFL := Lib.hid hfl
        have HFB := Lib.hid hf
        clear hfl hf
        gi_wp2_with fail
        refine (callsIn_wide.2 HFL.out).mono ?_
        rintro e w7 ⟨rfl, hr7, hg7⟩
        have HI7 := Lib.hid (HL6.out.turn HS.out hr7 hg7)
        have HJ7 := Lib.hid (HJ.out _ _ _ (turn_rd HL6.out.rd hg7) HJ6.out)
        clear hr7 hg7 hln f2
        gi_wp2_with fail
        refine bodyPost_ret (results_none rfl _ _ _) rfl ⟨?_, .inl ⟨⟨_, rfl⟩, ?_⟩⟩
        · have h1 := HV.out
          rw [if_neg (by rw [HFB.out]; decide), hh.out.2.1] at h1
          rw [h1]
          have h2 := HI7.out
          unfold folQ at h2
          rw [if_neg (by rw [HFB.out]; simp)] at h2
          exact ⟨⟨_, rfl⟩, h2.rd, h2.gr⟩
        · have h1 := HV.out
          have h2 := HN.out
          rw [if_neg (by rw [HFB.out]; decide), hh.out.2.1] at h1
          rw [h1]
          simp only [List.length_append, List.length_singleton]
          rw [h2]
          exact HJ7.out
theorem some_hint {w0 : World} {ts : List Tk} {tv : Value} {g : Nat} {c : Rc} {m : Nat} {vars : List ByteArray} {w1 : World} {b1 b2 b3 b4 : Nat} (p0 : Nat) (hl : ts.length ≤ 1000000) (hS : SomeS w0 g c m w1 b1 b2) (hmany : vars.length ≤ 1000000) (hpos : 0 < vars.length)
    (hfol : ∀ n p W, n ≤ vars.length → SomeI w0 ts tv g c m vars w1 b1 b2 (.func (.func 84) #[] #[.pointer (some ⟨b3, 0, none⟩)]) p W → Calls Try.prog 84 #[.int .i64 n, .pointer (some ⟨b3, 0, none⟩)] W fun e W' => e = .returned (.bool (folB ts false vars.length n p)) ∧ RdT w0 ts tv g c (folQ ts false vars.length n p) W' ∧ W.grownBy W' (some g)) :
    IterX Try.prog 105 #[.pointer (some ⟨b1, 0, none⟩), .pointer (some ⟨b2, 0, none⟩)] (SomeI w0 ts tv g c m vars w1 b1 b2 (.func (.func 84) #[] #[.pointer (some ⟨b3, 0, none⟩)]) p0) 68 w1.heap.size (someP ts vars false vars.length [] p0).1.length
      (fun k args => ∃ h : k < (someP ts vars false vars.length [] p0).1.length, args = #[.string (someP ts vars false vars.length [] p0).1[k]]) (SomeFin w0 ts tv g c w1 (someP ts vars false vars.length [] p0).2) := by
  intro L W J hY hI hJ hround h0
  refine callsIn_of_wp Try.func105 rfl trivial ?_
  simp only [Try.ntmps105, List.size_toArray, List.length_cons, List.length_nil, Nat.reduceAdd, Nat.reduceSub, Array.replicate_succ, Array.replicate_zero, List.push_toArray, List.append_toArray, List.nil_append, List.cons_append]
  have hpre := fun k acc p => someP_pre ts vars false k acc p
  have hgo := fun (acc : List ByteArray) (p : Nat) (hlt : acc.length < vars.length) (hv : varP ts vars acc p = .ok (acc ++ [textAt ts p], p + 1)) => someP_go (cm := false) hlt hv
  have hbad := fun (acc : List ByteArray) (p q : Nat) (hlt : acc.length < vars.length) (hv : varP ts vars acc p = .error q) => someP_bad (cm := false) hlt hv
  obtain ⟨R, hR⟩ : ∃ R, someP ts vars false vars.length [] p0 = R := ⟨_, rfl⟩
  rw [hR] at hround ⊢
  have hst : someP ts vars false (vars.length - ([] : List ByteArray).length) [] p0 = R := hR
  have hmm := @run_makeMap Try.prog
  have hmap : MapAt .string (W.alloc (.map #[] 0)) W.heap.size (metKv []) := MapAt.new _ W
  have hxa := Ext.alloc W (.map #[] 0)
  have hI1 := hI.ext hxa
  have hj1 := hJ 0 _ _ (Turn.ext hxa) h0
  have HJ := Lib.hid hJ
  have HRound := Lib.hid hround
  have HPRE := Lib.hid hpre
  have HGO := Lib.hid hgo
  have HBAD := Lib.hid hbad
  have HFOL := Lib.hid hfol
  have HST := Lib.hid hst
  have HS := Lib.hid hS
  have HI1 := Lib.hid hI1
  have HJ1 := Lib.hid hj1
  have HMAP := Lib.hid hmap
  have HY := Lib.hid hY
  clear hJ hround hpre hgo hbad hfol hst hS hI1 hj1 hmap hY hxa hI h0 hR
  gi_wp2_with fail
  clear hmm
  obtain ⟨o, ho⟩ : ∃ o, W.heap.size = o := ⟨_, rfl⟩
  rw [ho] at HMAP HY HRound HJ
  try simp only [ho]
  have HLT : Hid (o < (W.alloc (.map #[] 0)).heap.size) := Lib.hid (by simp [← ho])
  clear ho
  generalize W.alloc (.map #[] 0) = wa at *
  gi_loopw [5] (fun _ wr => ∃ (acc : List ByteArray) (p : Nat), Hid (SomeL w0 ts tv g c m vars w1 b1 b2 (.func (.func 84) #[] #[.pointer (some ⟨b3, 0, none⟩)]) o acc p wr ∧ someP ts vars false (vars.length - acc.length) acc p = R ∧ J acc.length wr)) (fun _ wr => ts.length - plc wr g)
  case atStart => exact ⟨[], p0, Lib.hid ⟨⟨HI1.out, HMAP.out, hpos, HLT.out⟩, HST.out, HJ1.out⟩⟩
  case round =>
    obtain ⟨acc, p, hh⟩ := hrel
    have HPL := Lib.hid (plc_at hh.out.1.i.rd)
    have HTK := Lib.hid (take_any hh.out.1.i.rd 1 (by decide) hl)
    have f1 := hh.out.1.i.r1.facts1.1
    clear HST HI1 HJ1 HMAP HLT
    rcases varP_cases ts vars acc p with ⟨hk, hv⟩ | ⟨hk, hq, hv⟩ | ⟨hk, hin, hno, hv⟩
    · have htp : takeP ts 1 p = .error p := by unfold takeP; rw [if_neg hk]
      rw [htp] at HTK
      have HV := Lib.hid (HBAD.out acc p p hh.out.1.few hv)
      clear hk hv htp
      gi_wp2_with fail
      refine (callsIn_wide.2 HTK.out).mono ?_
      rintro e w2 ⟨rfl, hr2, hg2⟩
      have HF := Lib.hid (hh.out.1.i.turn HS.out hr2 hg2)
      have HJ2 := Lib.hid (HJ.out _ _ _ (turn_rd hh.out.1.i.rd hg2) hh.out.2.2)
      clear hr2 hg2 f1 HTK
      unfold wrongE
      gi_wp2_with fail
      exact ⟨rfl, by rw [← hh.out.2.1, HV.out]; exact ⟨rfl, HF.out.rd, HF.out.gr⟩, .inr ⟨⟨_, rfl⟩, _, HJ2.out⟩⟩
    · have htp : takeP ts 1 p = .ok (textAt ts p, p + 1) := by unfold takeP; rw [if_pos hk]
      rw [htp] at HTK
      have HV := Lib.hid (HBAD.out acc p p hh.out.1.few hv)
      have HQ := Lib.hid hq
      clear hk hv htp hq
      generalize textAt ts p = s at *
      gi_wp2_with fail
      refine (callsIn_wide.2 HTK.out).mono ?_
      rintro e w2 ⟨rfl, hr2, hg2⟩
      have HL2 := Lib.hid (hh.out.1.turn HS.out hr2 hg2)
      have HJ2 := Lib.hid (HJ.out _ _ _ (turn_rd hh.out.1.i.rd hg2) hh.out.2.2)
      have HB := Lib.hid (bad_any HL2.out.i.rd 1 (by omega) (by omega))
      rw [Nat.add_sub_cancel] at HB
      clear hr2 hg2 f1 HTK
      have f1 := HL2.out.i.r1.facts1.1
      have f13 : w2.cell? ⟨g, 13, none⟩ = some (.map (some m)) := by rw [← HS.out.c13]; exact HL2.out.i.rd.row.cell (i := 13) rfl
      by_cases hin : s ∈ vars
      · have hac : s ∈ acc := HQ.out.resolve_left (fun h => h hin)
        obtain ⟨jm, hjm⟩ := metKv_yes hin
        have hlk := run_get_yes Try.underlying66 Try.underlying9 HL2.out.i.met (isKey_str s) hjm false
        rw [if_neg (by simp)] at hlk
        obtain ⟨jn, hjn⟩ := metKv_yes hac
        have hlk2 := run_get_yes Try.underlying66 Try.underlying9 HL2.out.once (isKey_str s) hjn false
        rw [if_neg (by simp)] at hlk2
        clear hjm hjn hin hac
        gi_wp2_with fail
        refine (callsIn_wide.2 HB.out).mono ?_
        rintro e w3 ⟨rfl, hr3, hg3⟩
        have HF := Lib.hid (HL2.out.i.turn HS.out hr3 hg3)
        have HJ3 := Lib.hid (HJ.out _ _ _ (turn_rd HL2.out.i.rd hg3) HJ2.out)
        clear hr3 hg3 f1 f13 HB hlk
        unfold wrongE
        gi_wp2_with fail
        exact ⟨rfl, by rw [← hh.out.2.1, HV.out]; exact ⟨rfl, HF.out.rd, HF.out.gr⟩, .inr ⟨⟨_, rfl⟩, _, HJ3.out⟩⟩
      · have hlk := run_get_no (z := .int .i64 0) Try.underlying66 Try.underlying9 HL2.out.i.met (isKey_str s) (metKv_no hin) (by rfl) false
        rw [if_neg (by simp)] at hlk
        clear hin
        gi_wp2_with fail
        refine (callsIn_wide.2 HB.out).mono ?_
        rintro e w3 ⟨rfl, hr3, hg3⟩
        have HF := Lib.hid (HL2.out.i.turn HS.out hr3 hg3)
        have HJ3 := Lib.hid (HJ.out _ _ _ (turn_rd HL2.out.i.rd hg3) HJ2.out)
        clear hr3 hg3 f1 f13 HB hlk
        unfold wrongE
        gi_wp2_with fail
        exact ⟨rfl, by rw [← hh.out.2.1, HV.out]; exact ⟨rfl, HF.out.rd, HF.out.gr⟩, .inr ⟨⟨_, rfl⟩, _, HJ3.out⟩⟩
    · have htp : takeP ts 1 p = .ok (textAt ts p, p + 1) := by unfold takeP; rw [if_pos hk]
      rw [htp] at HTK
      have HV := Lib.hid (HGO.out acc p hh.out.1.few hv)
      have hlt : p < ts.length := takeP_lt (by decide) hk
      obtain ⟨r, hr⟩ := HPRE.out (vars.length - (acc ++ [textAt ts p]).length) (acc ++ [textAt ts p]) (folQ ts false vars.length (acc.length + 1) (p + 1))
      have hnm : ∃ r, R.1 = acc ++ [textAt ts p] ++ r := by
        rw [← hh.out.2.1, HV.out]
        split
        · exact ⟨r, hr⟩
        · exact ⟨[], by simp⟩
      have HNM := Lib.hid hnm
      have HIN := Lib.hid hin
      have HNO := Lib.hid hno
      have HPLT := Lib.hid hlt
      clear hk hv htp hlt hr hnm hin hno r
      generalize textAt ts p = s at *
      gi_wp2_with fail
      refine (callsIn_wide.2 HTK.out).mono ?_
      rintro e w2 ⟨rfl, hr2, hg2⟩
      have HL2 := Lib.hid (hh.out.1.turn HS.out hr2 hg2)
      have HJ2 := Lib.hid (HJ.out _ _ _ (turn_rd hh.out.1.i.rd hg2) hh.out.2.2)
      clear hr2 hg2 f1 HTK
      have f1 := HL2.out.i.r1.facts1.1
      have f13 : w2.cell? ⟨g, 13, none⟩ = some (.map (some m)) := by rw [← HS.out.c13]; exact HL2.out.i.rd.row.cell (i := 13) rfl
      obtain ⟨jm, hjm⟩ := metKv_yes HIN.out
      have hlk := run_get_yes Try.underlying66 Try.underlying9 HL2.out.i.met (isKey_str s) hjm false
      rw [if_neg (by simp)] at hlk
      have hlk2 := run_get_no (z := .int .i64 0) Try.underlying66 Try.underlying9 HL2.out.once (isKey_str s) (metKv_no HNO.out) (by rfl) false
      rw [if_neg (by simp)] at hlk2
      obtain ⟨w3, hput, hm3, hg3, -⟩ := run_put_new Try.underlying66 Try.underlying9 HL2.out.once (isKey_str s) (metKv_no HNO.out) (.int .i64 1)
      rw [← metKv_snoc] at hm3
      have HL3 := Lib.hid (HL2.out.put HS.out (by have := HY.out; omega) hm3 hg3)
      have HJ3 := Lib.hid (HJ.out _ _ _ (turn_map HL2.out.once hg3 (Nat.le_refl _)) HJ2.out)
      obtain ⟨r, hr⟩ := HNM.out
      have hk : acc.length < R.1.length := by rw [hr]; simp
      have hs : R.1[acc.length] = s := by simp [hr]
      obtain ⟨N, hN⟩ : ∃ N, acc.length + 1 = N := ⟨_, rfl⟩
      have hNl : (metKv (acc ++ [s])).length = N := by unfold metKv; simp [← hN]
      have HN := Lib.hid hN
      have HNL := Lib.hid hNl
      have HF := Lib.hid hh.out.1.few
      obtain ⟨fn', tmps', assign', body', hy, hRd⟩ := HRound.out acc.length _ w3 hk HJ3.out ⟨hk, rfl⟩
      rw [hs] at hy
      rw [hN] at hRd HV
      clear hjm hm3 hg3 hr hs hk hN hNl r
      gi_wp2_with fail
      clear hy hlk hlk2 hput f1 f13
      refine hRd.mono ?_
      rintro e w6 ⟨hkf, hbl, rfl, hj6⟩
      have HL6 := Lib.hid (show SomeI w0 ts tv g c m vars w1 b1 b2 _ (p + 1) w6 from HL3.out.1.below HS.out hbl)
      have HO6 := Lib.hid (show MapAt .string w6 o (metKv (acc ++ [s])) from by obtain ⟨es, cl, h1, h2⟩ := HL3.out.2.1; exact ⟨es, cl, hkf.same _ _ (Nat.le_refl _) h1 rfl, h2⟩)
      have HOS := Lib.hid (show o < w6.heap.size from Nat.lt_of_lt_of_le HL3.out.2.2 hkf.size)
      have HJ6 := Lib.hid hj6
      have f2 := HL6.out.r2.facts1.1
      have hln := run_len_map Try.underlying66 HO6.out 3
      rw [HNL.out] at hln
      have hfl := HFOL.out N (p + 1) w6 (by have := HN.out; have := HF.out; omega) HL6.out
      clear hkf hbl hj6 hRd
      cases hf : folB ts false vars.length N (p + 1) with
      | true =>
        rw [hf] at hfl
        have HFL := Lib.hid hfl
        have HFB := Lib.hid hf
        clear hfl hf
        gi_wp2_with fail
        refine (callsIn_wide.2 HFL.out).mono ?_
        rintro e w7 ⟨rfl, hr7, hg7⟩
        have HI7 := Lib.hid (HL6.out.turn HS.out hr7 hg7)
        have HO7 := Lib.hid (HO6.out.kept hg7 (fun e => row_ne_map HL6.out.rd.row HO6.out (Option.some.inj e)))
        have HJ7 := Lib.hid (HJ.out _ _ _ (turn_rd HL6.out.rd hg7) HJ6.out)
        have HP7 := Lib.hid (plc_at hr7)
        have HOS7 := Lib.hid (Nat.lt_of_lt_of_le HOS.out hg7.size)
        clear hr7 hg7 hln f2
        gi_wp2_with fail
        refine ⟨⟨acc ++ [s], folQ ts false vars.length N (p + 1), Lib.hid ⟨⟨HI7.out, HO7.out, ?_, HOS7.out⟩, ?_, ?_⟩⟩, ?_⟩
        · have h1 := HFB.out
          have := HN.out
          simp only [folB, Bool.and_eq_true, decide_eq_true_eq] at h1
          rw [List.length_append]; simp; omega
        · have h1 := HV.out
          rw [if_pos HFB.out, hh.out.2.1] at h1
          exact h1.symm
        · rw [List.length_append, List.length_singleton, HN.out]; exact HJ7.out
        · rw [HP7.out, HPL.out]
          have := HPLT.out
          unfold folQ
          split <;> omega
      | false =>
        rw [hf] at hfl
        have HFL := Lib.hid hfl
        have HFB := Lib.hid hf
        clear hfl hf
        gi_wp2_with fail
        refine (callsIn_wide.2 HFL.out).mono ?_
        rintro e w7 ⟨rfl, hr7, hg7⟩
        have HI7 := Lib.hid (HL6.out.turn HS.out hr7 hg7)
        have HJ7 := Lib.hid (HJ.out _ _ _ (turn_rd HL6.out.rd hg7) HJ6.out)
        clear hr7 hg7 hln f2
        gi_wp2_with fail
        refine bodyPost_ret (results_none rfl _ _ _) rfl ⟨?_, .inl ⟨⟨_, rfl⟩, ?_⟩⟩
        · have h1 := HV.out
          rw [if_neg (by rw [HFB.out]; decide), hh.out.2.1] at h1
          rw [h1]
          have h2 := HI7.out
          unfold folQ at h2
          rw [if_neg (by rw [HFB.out]; simp)] at h2
          exact ⟨⟨_, rfl⟩, h2.rd, h2.gr⟩
        · have h1 := HV.out
          have h2 := HN.out
          rw [if_neg (by rw [HFB.out]; decide), hh.out.2.1] at h1
          rw [h1]
          simp only [List.length_append, List.length_singleton]
          rw [h2]
          exact HJ7.out
end Go.Proofs.Ytngnplghjaojhaa

/- The names that are told are collected. -/
namespace Go.Proofs.Ytngnplghjaojhaa
set_option maxRecDepth 100000
set_option maxHeartbeats 2000000
set_option linter.unusedSimpArgs false
open Go.RowKit Go.Shelf Go.Sort
attribute [local go_sem] Oper.semAt_some wide_fn wide_depth
set_option linter.unusedVariables false

def SeqQ (w1 : World) (names : List ByteArray) (Fin : Ending → World → Prop) (e : Ending) (W : World) : Prop :=
  (∃ v u, e = .returned v ∧ W.ownsRow w1.heap.size 9 1 v names.length (names.map Value.string) ∧ Fin (.returned u) W) ∨ (∃ c, e = .panicked c ∧ Fin e W)
structure SeqI (w1 : World) (names : List ByteArray) (k : Nat) (v : Value) (W : World) : Prop where
  box : RowAt W w1.heap.size 22 [v]
  own : W.ownsRow w1.heap.size 9 1 v (names.take k).length ((names.take k).map Value.string)
  size : w1.heap.size < W.heap.size
theorem SeqI.stab (w1 : World) (names : List ByteArray) (B k : Nat) (v : Value) : PStab 68 0 B (SeqI w1 names k v) := fun W W' ht h =>
  ⟨PStab.row (T := 68) (X := 0) (B := B) _ _ _ (.inl (by decide)) W W' ht h.box, PStab.own (T := 68) (X := 0) (B := B) _ _ _ _ _ _ (by decide) W W' ht h.own, by obtain ⟨row, hg, _⟩ := ht; exact Nat.lt_of_lt_of_le h.size hg.size⟩
theorem take_snocN (l : List ByteArray) (k : Nat) (h : k < l.length) : l.take (k + 1) = l.take k ++ [l[k]] := by
  rw [List.take_succ_eq_append_getElem h]
theorem own_cells {w : World} {B size n r : Nat} {ty : TypeId} {v : Value} {xs : List Value} (h : w.ownsRow B ty size v n xs) (hv : v.ownBlock = some r) : ∃ o : Obj, w.heap[r]? = some o ∧ o.isCells = true := by
  rcases h.2 with ⟨rfl, _⟩ | ⟨g', cap, cur, rfl, hbg, hgg, rest⟩
  · cases hv
  · cases hv
    exact ⟨_, hgg, rfl⟩
set_option maxHeartbeats 2000000 in
theorem seq_any {gf : Nat} {lb : Array Value} {Inv : World → Prop} {Fin : Ending → World → Prop} {names : List ByteArray} (w1 : World)
    (hit : IterX Try.prog gf lb Inv 68 w1.heap.size names.length (fun k args => ∃ h : k < names.length, args = #[.string names[k]]) Fin)
    (eg : ∀ args w, (callFunc gf args).run Try.prog w = .ok (.enter gf args) w) (hInv : Stab (w1.heap.size + 1) Inv) (hFin : ∀ e, Stab (w1.heap.size + 1) (Fin e)) (hb : Inv (w1.alloc (.cells #[.slice none 0 0] 22))) (hn : names.length ≤ 1000000) :
    Calls Try.prog 104 #[.slice none 0 0, .func (.func gf) #[] lb] w1 (SeqQ w1 names Fin) := by
  refine calls_of_wp_marks Try.func104 rfl ?_
  simp only [Try.ntmps104, List.size_toArray, List.length_cons, List.length_nil, Nat.reduceAdd, Nat.reduceSub, Array.replicate_succ, Array.replicate_zero, List.push_toArray, List.append_toArray, List.nil_append, List.cons_append]
  have hI0 : SeqI w1 names 0 (.slice none 0 0) (w1.alloc (.cells #[.slice none 0 0] 22)) := ⟨RowAt.new w1 _ [.slice none 0 0], World.ownsRow_nil _ _ _ _, by simp⟩
  have hsz : (w1.alloc (.cells #[.slice none 0 0] 22)).heap.size = w1.heap.size + 1 := by simp
  have HI0 := Lib.hid hI0
  have HSZ := Lib.hid hsz
  have HB := Lib.hid hb
  have HIT := Lib.hid hit
  have HINV := Lib.hid hInv
  have HFIN := Lib.hid hFin
  clear hI0 hb hit hInv hFin
  go_wp2_with fail
  generalize w1.alloc (.cells #[.slice none 0 0] 22) = wa at *
  rw [← hsz] at HINV HFIN
  clear hsz
  refine wp_overX rfl eg HIT.out (by have := HSZ.out; omega) (by rintro k args ⟨_, rfl⟩; rfl) (fun k W => ∃ v, SeqI w1 names k v W) (fun k => PStab.ex fun v => SeqI.stab w1 names _ k v) HINV.out HFIN.out HB.out ⟨_, HI0.out⟩ ?_ ?_ ?_
  · rintro k args W L hk hL ⟨v, hI⟩ ⟨_, rfl⟩
    gi_wp2
    refine ⟨keeps_ext _ (Ext.refl _), Below.refl _ _, ⟨v, hI⟩, ?_⟩
    rintro W2 - ⟨v2, hI2⟩
    clear hI v
    have hkk := take_snocN names k hk
    generalize names[k] = s at *
    have hlt2 := hI2.size
    have hlen2 : (names.take k).length ≤ k := List.length_take_le _ _
    obtain ⟨c0, f0⟩ := hI2.box.facts1
    have hx := Ext.alloc W2 (.cells #[.string s] 9)
    have hown := hI2.own
    have HI := Lib.hid hI2.box
    clear hI2
    generalize names.take k = l at *
    have HKK := Lib.hid hkk
    have HOW := Lib.hid hown
    clear hkk
    gi_wp2_with (gi_at_builtin; refine wpListIn_append_sl _ rfl _ _ 22 rfl elSt rfl (own_ext hown hx) rfl (Sl.new _ _ _ 1 1 (Nat.le_refl _) ?_) rfl ?_ ?_ ?_ ?_ ?_)
    · unfold maxLen; omega
    · exact rfl
    · omega
    · unfold maxLen; omega
    · have := hx.size; omega
    intro v4 w4 hown4 hB4 hg4 hat4
    have hrow := (HI.out.ext hx).kept hg4 (fun e => own_ne_row (own_ext HOW.out hx) (HI.out.ext hx) (by decide) _ e rfl)
    obtain ⟨a4, c4, rfl⟩ := own_vw hown4
    obtain ⟨c1, f1⟩ := hrow.facts1
    have HO := Lib.hid hown4
    have HR := Lib.hid hrow
    have HG := Lib.hid hg4
    have HX := Lib.hid hx
    have HB4 := Lib.hid hB4
    clear hown4 hg4 hat4 hrow hB4 hown hx c0 f0
    gi_wp2
    refine ⟨((keeps_ext _ HX.out).trans (keeps_grown _ HG.out (fun r e => own_cells (own_ext HOW.out HX.out) e))).trans (keeps_set _ c1 _), (Below.trans (Below.mono HX.out (by omega)) HB4.out).setCell (p := ⟨w1.heap.size, 0, none⟩) (Nat.le_refl _) _, rfl, _, HR.out.set 0 _, ?_, ?_⟩
    · rw [HKK.out, List.length_append, List.map_append]
      show World.ownsRow _ _ _ _ _ (l.length + 1) (l.map Value.string ++ [Value.string s])
      exact own_turn HO.out HR.out (by decide) (grown_set _ _ _ _)
    · have := (grown_set w4 w1.heap.size 0 (.slice a4 (l.length + 1) c4)).size
      have := HG.out.size
      have := HX.out.size
      omega
  · rintro D u W hD ⟨v, hI⟩ hF hdf
    obtain ⟨c0, f0⟩ := hI.box.facts1
    have hown := hI.own
    rw [List.take_of_length_le (Nat.le_refl _)] at hown
    have HO := Lib.hid (own_mark hown hdf)
    have HF := Lib.hid ((HFIN.out _).put hF hdf rfl hD (.deferred none))
    clear hown hI hF
    go_wp2
    exact leave_marked hdf (fun _ => results_tmp rfl _ _ _) (.inl ⟨v, u, rfl, HO.out, HF.out⟩)
  · rintro D c k W hD ⟨v, hI⟩ hF hdf
    exact leave_panic hdf (.inr ⟨c, rfl, (HFIN.out _).put hF hdf rfl hD (.deferred none)⟩)
end Go.Proofs.Ytngnplghjaojhaa
