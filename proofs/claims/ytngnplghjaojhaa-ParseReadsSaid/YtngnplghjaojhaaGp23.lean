/- All tokens are read; what no pattern says is caught. -/
import Derived.Test.YtngnplghjaojhaaGp22
import Derived.Test.YtngnplghjaojhaaGp18
namespace Go.Proofs.Ytngnplghjaojhaa
set_option maxRecDepth 100000
set_option maxHeartbeats 2000000
set_option linter.unusedSimpArgs false
open Go.RowKit Go.Shelf Go.Sort
attribute [local go_sem] Oper.semAt_some wide_fn wide_depth
set_option linter.unusedVariables false

theorem assertWrong (w : World) : (Instr.typeAssert (.iface 91 (.agg #[])) 20 91 true).run Try.prog w = .ok (.tuple #[.agg #[], .bool true]) w := by kernel_rfl
theorem p_catch_idle (p : Addr) (w : World) :
    CallsD Try.prog 50 #[.pointer (some p)] .returning w fun e u' w' => e = .returned (.tuple #[]) ∧ u' = .returning ∧ w' = w := by
  refine callsD_of_wpS Try.func50 rfl fun c₀ cs hu => ?_
  simp only [Try.ntmps50, List.size_toArray, List.length_cons, List.length_nil, Nat.reduceAdd, Nat.reduceSub, Array.replicate_succ, Array.replicate_zero, List.push_toArray, List.append_toArray, List.nil_append, List.cons_append]
  apply wpS_seq
  apply wpS_region
  simp [wpOpsS, go_sem, recoverD, hu, Exit.thenS]
  refine wpS_of_wp ?_
  go_wp2
  refine ⟨rfl, .returning, ?_, .tuple #[], results_none rfl _ _ _, rfl, rfl, rfl⟩
  cases c₀
  simp_all
theorem p_catch_pan (p : Addr) (w : World) (pe : List PanicEntry) (x : Value) (hp : w.cell? p = some x) (fp : w.frozen? p = false) :
    CallsD Try.prog 50 #[.pointer (some p)] (.panicking ({ v := .iface 91 (.agg #[]), recovered := false } :: pe)) w fun e u' w' =>
      e = .returned (.tuple #[]) ∧ u' = .panicking ({ v := .iface 91 (.agg #[]), recovered := true } :: pe) ∧ w' = (w.alloc (.cells #[] 91)).setCell p (.bool false) := by
  have hlt := World.block_lt_of_cell? w p hp
  have hp2 : (w.alloc (.cells #[] 91)).cell? p = some x := by
    obtain ⟨b, o, e⟩ := p
    exact (Below.cell (Ext.alloc w _) hlt).trans hp
  have fp2 : (w.alloc (.cells #[] 91)).frozen? p = false := by
    obtain ⟨b, o, e⟩ := p
    exact (Below.frozen (Ext.alloc w _) hlt).trans fp
  refine callsD_of_wpS Try.func50 rfl fun c₀ cs hu => ?_
  simp only [Try.ntmps50, List.size_toArray, List.length_cons, List.length_nil, Nat.reduceAdd, Nat.reduceSub, Array.replicate_succ, Array.replicate_zero, List.push_toArray, List.append_toArray, List.nil_append, List.cons_append]
  apply wpS_seq
  apply wpS_region
  simp [wpOpsS, go_sem, recoverD, hu, Exit.thenS]
  refine wpS_of_wp ?_
  have ha := assertWrong
  go_wp2
  refine ⟨rfl, _, rfl, .tuple #[], results_none rfl _ _ _, rfl, rfl, rfl⟩
theorem p_results {W : World} {A : Nat} {x : Value} {T : Array Value} (h2 : T.getD 2 undef = .pointer (some ⟨A, 0, none⟩)) (bA : W.cell? ⟨A, 0, none⟩ = some x) :
    (results Try.f30 T).run Try.prog W = .ok x W := by
  simp only [Array.getD_eq_getD_getElem?] at h2
  simp [results, Try.results30, go_sem, h2, bA]
theorem p_leave_pan {R : Ending → World → Prop} {W : World} {A : Nat} {x : Value} {T : Array Value} (h2 : T.getD 2 undef = .pointer (some ⟨A, 0, none⟩)) (bA : RowAt W A 4 [x])
    (hR : R (.returned (.bool false)) ((W.alloc (.cells #[] 91)).setCell ⟨A, 0, none⟩ (.bool false))) :
    Leaves Try.prog Try.f30 T R [{ target := .fn (.func 50) #[.pointer (some ⟨A, 0, none⟩)], args := #[] }] (.panicking [{ v := .iface 91 (.agg #[]), recovered := false }]) W := by
  refine leaves_cons (f := 50) (args := #[.pointer (some ⟨A, 0, none⟩)]) (by simp) (by simp [go_sem]) ?_
  refine (p_catch_pan _ W [] _ bA.facts1.1 bA.facts1.2).mono ?_
  rintro e u' w'' ⟨rfl, rfl, rfl⟩
  exact ⟨_, p_results h2 ((bA.ext (Ext.alloc _ _)).set 0 (.bool false)).facts1.1, hR⟩
theorem p_leave_ret {R : Ending → World → Prop} {W : World} {A : Nat} {x : Value} {T : Array Value} (h2 : T.getD 2 undef = .pointer (some ⟨A, 0, none⟩)) (bA : RowAt W A 4 [x]) (hR : R (.returned x) W) :
    Leaves Try.prog Try.f30 T R [{ target := .fn (.func 50) #[.pointer (some ⟨A, 0, none⟩)], args := #[] }] .returning W := by
  refine leaves_cons (f := 50) (args := #[.pointer (some ⟨A, 0, none⟩)]) (by simp) (by simp [go_sem]) ?_
  refine (p_catch_idle _ W).mono ?_
  rintro e u' w'' ⟨rfl, rfl, rfl⟩
  exact ⟨_, p_results h2 bA.facts1.1, hR⟩
/-- What reading all tokens comes to. -/
def ReadP (w0 : World) (ts : List Tk) (tv : Value) (g : Nat) (r : Except Nat Pat) (e : Ending) (w' : World) : Prop := match r with
  | .ok P => e = .returned (.bool true) ∧ ∃ av vv rv hv m, RdT w0 ts tv g (rcT av vv m 0 (edgesOf P.atoms) rv P.count P.distinct P.limited P.limit P.offset hv) ts.length w' ∧ w'.ownsRow w0.heap.size 64 7 av P.atoms.length (P.atoms.flatMap atCells) ∧ Own9 w0 w' rv P.ret ∧ Own9 w0 w' hv P.hint
  | .error q => e = .returned (.bool false) ∧ ∃ c, RdT w0 ts tv g c q w'
def ReadQ (w0 : World) (ts : List Tk) (tv : Value) (g : Nat) (own : List Nat) (w : World) (e : Ending) (w' : World) : Prop := ∃ r, ToksR ts r ∧ ReadP w0 ts tv g r e w' ∧ ∃ own', Chg own w own' w'
theorem readQ_bad {w0 : World} {ts : List Tk} {tv : Value} {g : Nat} {own own' : List Nat} {w w' : World} {c : Rc} {q A : Nat} (hr : ToksR ts (.error q)) (h : RdT w0 ts tv g c q w') (hc : Chg own w own' w') (hA : RowAt w' A 4 [.bool false]) (hw : w0.heap.size ≤ w.heap.size) (hn : w.heap.size ≤ A) :
    ReadQ w0 ts tv g own w (.returned (.bool false)) ((w'.alloc (.cells #[] 91)).setCell ⟨A, 0, none⟩ (.bool false)) := by
  have hx := Ext.alloc w' (.cells #[] 91)
  have h1 := h.grow hx
  have hne := row_ne_rd h.row hA (by decide)
  exact ⟨_, hr, ⟨rfl, c, Ext.set_of h1.ext (Nat.le_trans hw hn) _, h1.toks, h1.lo, h1.row.kept (grown_set _ A 0 _) (fun e => hne (Option.some.inj e)), h1.le, h1.szs⟩, own', (hc.trans (Chg.ext hx)).side (grown_set _ A 0 _) hn⟩
theorem readQ_ok {w0 : World} {ts : List Tk} {tv : Value} {g : Nat} {own own' : List Nat} {w w' : World} {A : Nat} {P : Pat} {av vv rv hv : Value} {m : Nat} (hr : ToksR ts (.ok P)) (h : RdT w0 ts tv g (rcT av vv m 0 (edgesOf P.atoms) rv P.count P.distinct P.limited P.limit P.offset hv) ts.length w')
    (ha : w'.ownsRow w0.heap.size 64 7 av P.atoms.length (P.atoms.flatMap atCells)) (hrv : Own9 w0 w' rv P.ret) (hhv : Own9 w0 w' hv P.hint) (hc : Chg own w own' w') (hA : RowAt w' A 4 [.bool false]) (hw : w0.heap.size ≤ w.heap.size) (hn : w.heap.size ≤ A) :
    ReadQ w0 ts tv g own w (.returned (.bool true)) (w'.setCell ⟨A, 0, none⟩ (.bool true)) := by
  have hne := row_ne_rd h.row hA (by decide)
  exact ⟨_, hr, ⟨rfl, av, vv, rv, hv, m, ⟨Ext.set_of h.ext (Nat.le_trans hw hn) _, h.toks, h.lo, h.row.kept (grown_set _ A 0 _) (fun e => hne (Option.some.inj e)), h.le, h.szs⟩, own_turn ha hA (by decide) (grown_set _ A 0 _), own_turn hrv hA (by decide) (grown_set _ A 0 _), own_turn hhv hA (by decide) (grown_set _ A 0 _)⟩, own', hc.side (grown_set _ A 0 _) hn⟩
set_option maxHeartbeats 2000000 in
theorem read_all {w0 : World} {ts : List Tk} {tv : Value} {g : Nat} {own : List Nat} {w : World} (h : RdP w0 ts tv g own ⟨0, [], []⟩ 0 0 w) (hl : ts.length ≤ 1000000) :
    Calls Try.prog 30 #[.pointer (some ⟨g, 0, none⟩)] w (ReadQ w0 ts tv g own w) := by
  have hmf : ∀ (fn : Fn) (first cap : Array Value) (w : World), (Instr.makeFunc fn first cap).run Try.prog w = .ok (.func fn first cap) w := fun _ _ _ _ => rfl
  have hmo : Try.prog.follows .mixedOrders = true := by kernel_rfl
  obtain ⟨av, vv, m, hj⟩ := h
  have hw := hj.rd.ext.size
  have hx0 := Ext.alloc w (.cells #[.bool false] 4)
  have hA : RowAt (w.alloc (.cells #[.bool false] 4)) w.heap.size 4 [.bool false] := RowAt.new _ _ _
  have hnA : w.heap.size ∉ own := fun hm => by have := (hj.lo _ hm).2; omega
  have HJ := Lib.hid (hj.grow hx0)
  have HC : Hid (Chg own w own (w.alloc (.cells #[.bool false] 4))) := Lib.hid (Chg.ext hx0)
  have HA := Lib.hid hA
  have HNA := Lib.hid hnA
  clear hj hx0 hA hnA
  go_enter_defers Try.func30, Try.ntmps30
  go_wp2_with fail
  generalize w.alloc (.cells #[.bool false] 4) = w1 at *
  have HIT := Lib.hid (items_any hl 4 0 rfl own ⟨0, [], []⟩ w1 ⟨_, _, _, HJ.out⟩ ⟨by simp, by simp [edgesOf]⟩ (by simp))
  obtain ⟨A, hA⟩ : ∃ A, w.heap.size = A := ⟨_, rfl⟩
  rw [hA] at HA HNA
  simp only [hA]
  have HAE := Lib.hid (show w.heap.size ≤ A from Nat.le_of_eq hA)
  clear hA
  refine HIT.out.mono ?_
  rintro en w2 ⟨r, hir, haq⟩
  clear HIT
  cases r with
  | error q =>
    obtain ⟨rfl, ⟨c, hrd⟩, own', hc⟩ := (show BadI w0 ts tv g own w1 q en w2 from haq)
    have HB := Lib.hid (readQ_bad (show ToksR ts (.error q) from ⟨_, hir, rfl⟩) hrd (HC.out.trans hc) (HA.out.chg hc HNA.out).1 hw HAE.out)
    have HA2 := Lib.hid (HA.out.chg hc HNA.out).1
    clear hir haq hrd hc
    unfold wrongE
    go_wp2_with fail
    exact p_leave_pan rfl HA2.out HB.out
  | ok st =>
    obtain ⟨p, atoms, vars⟩ := st
    obtain ⟨rfl, own', ⟨av2, vv2, m2, hj2⟩, hc2⟩ := haq
    obtain ⟨hg1, hg2, hg3⟩ := hir.good ⟨by simp, by simp [edgesOf]⟩ (by simp)
    dsimp only at hj2 hg2
    have HV := Lib.hid hg2.1
    have HIR := Lib.hid hir
    have HA2 := Lib.hid (HA.out.chg hc2 HNA.out)
    have HC2 := Lib.hid (HC.out.trans hc2)
    have HTO := Lib.hid (told_any hj2 hl (by have := hg2.1; dsimp only at this ⊢; omega))
    have HJ2 := Lib.hid hj2
    clear hir hc2 hj2 hg1 hg2 hg3 HJ HC HA HNA
    go_wp2_with fail
    refine HTO.out.mono ?_
    rintro en w3 htq
    clear HTO
    cases htp : toldP ts ⟨p, atoms, vars⟩ with
    | error q =>
      rw [htp] at htq
      have HTR := Lib.hid (show ToksR ts (.error q) from ⟨_, HIR.out, by simp only [Except.bind]; rw [htp]⟩)
      obtain ⟨rfl, ⟨c, hrd⟩, hg⟩ := htq
      have hA3 := HA2.out.1.kept hg (fun e => HA2.out.2 (by cases e; exact HJ2.out.gin))
      have HB := Lib.hid (readQ_bad HTR.out hrd (HC2.out.trans (Chg.grown hg HJ2.out.gin)) hA3 hw HAE.out)
      have HA3 := Lib.hid hA3
      clear htp hrd hg hA3
      unfold wrongE
      go_wp2_with fail
      exact p_leave_pan rfl HA3.out HB.out
    | ok Pq =>
      obtain ⟨P, q⟩ := Pq
      rw [htp] at htq
      have hpa : P.atoms = atoms := by
        unfold toldP at htp
        obtain ⟨⟨r1, p1⟩, _, h2⟩ := bind_ok htp
        obtain ⟨⟨r2, p2⟩, _, h3⟩ := bind_ok h2
        obtain ⟨⟨r3, p3⟩, _, h4⟩ := bind_ok h3
        cases h4
        rfl
      have hTR : ∀ r, r = (if q < ts.length then (.error q : Except Nat Pat) else .ok P) → ToksR ts r := fun r e => ⟨_, HIR.out, by subst e; simp only [Except.bind]; rw [htp]⟩
      have HTR := Lib.hid hTR
      obtain ⟨rfl, ⟨rv, hv, hrd, hrv, hhv⟩, hg⟩ := htq
      have HA3 := Lib.hid (HA2.out.1.kept hg (fun e => HA2.out.2 (by cases e; exact HJ2.out.gin)))
      have HC3 := Lib.hid (HC2.out.trans (Chg.grown hg HJ2.out.gin))
      have HR3 := Lib.hid hrd
      have HO3 := Lib.hid (own_turn HJ2.out.atoms HJ2.out.rd.row (by decide) hg)
      have HRV := Lib.hid hrv
      have HHV := Lib.hid hhv
      have HPA := Lib.hid hpa
      have HGIN := Lib.hid HJ2.out.gin
      have hqle := hrd.le
      obtain ⟨ta, tc, rfl, htc, htm⟩ := hrd.toks.shape
      clear htp hpa hTR hrd hrv hhv hg HA2 HC2 HIR
      go_upto_region 4 with fail
      obtain ⟨f8, f9, f10⟩ := HR3.out.facts
      by_cases hlt : q < ts.length
      · have hd : decide ((q : Int) < (ts.length : Int)) = true := decide_eq_true (by omega)
        have hd2 : decide (q < ts.length) = true := decide_eq_true hlt
        have HTRE := Lib.hid (HTR.out _ (if_pos hlt).symm)
        clear hlt
        go_quiet (fail)
        clear f8 f9 f10
        generalize hw4 : w3.drewN nq = w4
        have hxd : Ext w3 w4 := by subst hw4; exact Ext.drewN w3 _
        have HR4 := Lib.hid (HR3.out.grow hxd)
        have HA4 := Lib.hid (HA3.out.ext hxd)
        have HC4 := Lib.hid (HC3.out.trans (Chg.ext hxd))
        have HO4 := Lib.hid (own_ext HO3.out hxd)
        have HRV4 := Lib.hid (own_ext HRV.out hxd)
        have HHV4 := Lib.hid (own_ext HHV.out hxd)
        clear hxd hw4 HR3 HA3 HC3 HO3 HRV HHV
        have HB := Lib.hid (bad_any HR4.out 0 (Nat.zero_le _) (by omega))
        go_wp2_with fail
        refine HB.out.mono ?_
        rintro en w5 ⟨rfl, hrd, hg⟩
        have hA5 := HA4.out.kept hg (fun e => row_ne_rd HR4.out.row HA4.out (by decide) (Option.some.inj e).symm)
        have HBQ := Lib.hid (readQ_bad HTRE.out hrd (HC4.out.trans (Chg.grown hg HGIN.out)) hA5 hw HAE.out)
        have HA5 := Lib.hid hA5
        clear hrd hg hA5 HB
        unfold wrongE
        go_wp2_with fail
        exact p_leave_pan rfl HA5.out HBQ.out
      · have hd : decide ((q : Int) < (ts.length : Int)) = false := decide_eq_false (by omega)
        have hd2 : decide (q < ts.length) = false := decide_eq_false hlt
        have hq : q = ts.length := by omega
        have HTRE := Lib.hid (HTR.out _ (if_neg hlt).symm)
        have HQ := Lib.hid hq
        clear hlt hq
        go_quiet (fail)
        clear f8 f9 f10
        generalize hw4 : w3.drewN nq = w4
        have hxd : Ext w3 w4 := by subst hw4; exact Ext.drewN w3 _
        have HR4 := Lib.hid (HR3.out.grow hxd)
        have HA4 := Lib.hid (HA3.out.ext hxd)
        have HC4 := Lib.hid (HC3.out.trans (Chg.ext hxd))
        have HO4 := Lib.hid (own_ext HO3.out hxd)
        have HRV4 := Lib.hid (own_ext HRV.out hxd)
        have HHV4 := Lib.hid (own_ext HHV.out hxd)
        clear hxd hw4 HR3 HA3 HC3 HO3 HRV HHV
        have fA := HA4.out.facts1.1
        have fAf := HA4.out.facts1.2
        have hr5 := HR4.out
        have ho5 := HO4.out
        rw [HQ.out] at hr5
        rw [← HPA.out] at hr5 ho5
        have HBQ := Lib.hid (readQ_ok HTRE.out hr5 ho5 HRV4.out HHV4.out HC4.out HA4.out hw HAE.out)
        clear hr5 ho5
        go_wp2_with fail
        exact p_leave_ret rfl (HA4.out.set 0 (.bool true)) HBQ.out
end Go.Proofs.Ytngnplghjaojhaa

/- The pattern of tokens. -/
namespace Go.Proofs.Ytngnplghjaojhaa
set_option maxRecDepth 100000
set_option maxHeartbeats 2000000
set_option linter.unusedSimpArgs false
open Go.RowKit Go.Shelf Go.Sort
attribute [local go_sem] Oper.semAt_some wide_fn wide_depth
set_option linter.unusedVariables false

/-- A pattern in memory of its own. -/
def PatIn (B : Nat) (W : World) (v : Value) (P : Pat) : Prop := ∃ av rv hv, v = patV av rv hv P ∧ W.ownsRow B 64 7 av P.atoms.length (P.atoms.flatMap atCells) ∧ W.ownsRow B 9 1 rv P.ret.length (P.ret.map Value.string) ∧ W.ownsRow B 9 1 hv P.hint.length (P.hint.map Value.string)
def TokQ (w : World) (ts : List Tk) (e : Ending) (w' : World) : Prop := ∃ r, ToksR ts r ∧ Ext w w' ∧ match r with
  | .ok P => ∃ v, e = .returned (.tuple #[v, .int .i64 ts.length, .int .i64 0]) ∧ PatIn w.heap.size w' v P
  | .error q => q ≤ ts.length ∧ e = .returned (.tuple #[pnoV, .int .i64 q, .int .i64 260])
def groT15 : Nat → Gro
  | 4 => .read
  | 5 => .grow
  | _ => .pure
def groT16 : Nat → Gro
  | 3 => .read
  | 7 => .read
  | 8 => .grow
  | _ => .pure
theorem below_chg {own own' : List Nat} {w w1 w' : World} (hx : Ext w w1) (hc : Chg own w1 own' w') (ho : ∀ b ∈ own, w.heap.size ≤ b) : Ext w w' :=
  ⟨hc.os.trans hx.os, hc.tape.trans hx.tape, hc.output.trans hx.output, Nat.le_trans hx.size hc.size, fun b hb => (hc.block b (Nat.lt_of_lt_of_le hb hx.size) (fun hm => by have := ho b hm; omega)).trans (hx.block b hb)⟩
set_option maxRecDepth 100000 in
set_option maxHeartbeats 2000000 in
theorem tokens_go {w : World} {ts : List Tk} {tv : Value} (h : Toks w tv ts) (hl : ts.length ≤ 1000000) (hs : ∀ t ∈ ts, t.text.size ≤ 9223372036854775800) :
    Calls Try.prog 15 #[tv] w (TokQ w ts) := by
  have hmo : Try.prog.follows .mixedOrders = true := by kernel_rfl
  have hmm := @run_makeMap Try.prog
  obtain ⟨a, cap, rfl, hcap, hmax⟩ := h.shape
  have hxa := Ext.alloc w (.cells #[.slice none 0 0, .slice none 0 0, .bool false, .bool false, .bool false, .int .i64 0, .int .i64 0, .slice none 0 0] 26)
  have hxb := Ext.alloc (w.alloc (.cells #[.slice none 0 0, .slice none 0 0, .bool false, .bool false, .bool false, .int .i64 0, .int .i64 0, .slice none 0 0] 26)) (.map #[] 0)
  have hxc := Ext.alloc ((w.alloc (.cells #[.slice none 0 0, .slice none 0 0, .bool false, .bool false, .bool false, .int .i64 0, .int .i64 0, .slice none 0 0] 26)).alloc (.map #[] 0)) (.cells #[.slice none 0 0, .slice none 0 0, .bool false, .bool false, .bool false, .int .i64 0, .int .i64 0, .slice none 0 0, .slice a ts.length cap, .int .i64 0, .int .i64 0, .int .i64 0, .slice none 0 0, .map (some (w.heap.size + 1))] 68)
  have hA : RowAt (((w.alloc (.cells #[.slice none 0 0, .slice none 0 0, .bool false, .bool false, .bool false, .int .i64 0, .int .i64 0, .slice none 0 0] 26)).alloc (.map #[] 0)).alloc (.cells #[.slice none 0 0, .slice none 0 0, .bool false, .bool false, .bool false, .int .i64 0, .int .i64 0, .slice none 0 0, .slice a ts.length cap, .int .i64 0, .int .i64 0, .int .i64 0, .slice none 0 0, .map (some (w.heap.size + 1))] 68)) w.heap.size 26 [.slice none 0 0, .slice none 0 0, .bool false, .bool false, .bool false, .int .i64 0, .int .i64 0, .slice none 0 0] := ((RowAt.new w 26 [.slice none 0 0, .slice none 0 0, .bool false, .bool false, .bool false, .int .i64 0, .int .i64 0, .slice none 0 0]).ext hxb).ext hxc
  have hG : RowAt (((w.alloc (.cells #[.slice none 0 0, .slice none 0 0, .bool false, .bool false, .bool false, .int .i64 0, .int .i64 0, .slice none 0 0] 26)).alloc (.map #[] 0)).alloc (.cells #[.slice none 0 0, .slice none 0 0, .bool false, .bool false, .bool false, .int .i64 0, .int .i64 0, .slice none 0 0, .slice a ts.length cap, .int .i64 0, .int .i64 0, .int .i64 0, .slice none 0 0, .map (some (w.heap.size + 1))] 68)) (w.heap.size + 1 + 1) 68 (rdRowP (rcI (.slice none 0 0) (.slice none 0 0) (w.heap.size + 1) 0 0) (.slice a ts.length cap) (0 : Nat)) := row_at (xs := rdRowP (rcI (.slice none 0 0) (.slice none 0 0) (w.heap.size + 1) 0 0) (.slice a ts.length cap) (0 : Nat)) (by simp)
  have hM : MapAt .string (((w.alloc (.cells #[.slice none 0 0, .slice none 0 0, .bool false, .bool false, .bool false, .int .i64 0, .int .i64 0, .slice none 0 0] 26)).alloc (.map #[] 0)).alloc (.cells #[.slice none 0 0, .slice none 0 0, .bool false, .bool false, .bool false, .int .i64 0, .int .i64 0, .slice none 0 0, .slice a ts.length cap, .int .i64 0, .int .i64 0, .int .i64 0, .slice none 0 0, .map (some (w.heap.size + 1))] 68)) (w.heap.size + 1) (metKv []) := by
    have h1 := MapAt.new .string (w.alloc (.cells #[.slice none 0 0, .slice none 0 0, .bool false, .bool false, .bool false, .int .i64 0, .int .i64 0, .slice none 0 0] 26))
    rw [World.size_alloc] at h1
    exact h1.ext hxc
  have hsz : (((w.alloc (.cells #[.slice none 0 0, .slice none 0 0, .bool false, .bool false, .bool false, .int .i64 0, .int .i64 0, .slice none 0 0] 26)).alloc (.map #[] 0)).alloc (.cells #[.slice none 0 0, .slice none 0 0, .bool false, .bool false, .bool false, .int .i64 0, .int .i64 0, .slice none 0 0, .slice a ts.length cap, .int .i64 0, .int .i64 0, .int .i64 0, .slice none 0 0, .map (some (w.heap.size + 1))] 68)).heap.size = w.heap.size + 1 + 1 + 1 := by simp
  have hrd : RdT w ts (.slice a ts.length cap) (w.heap.size + 1 + 1) (rcI (.slice none 0 0) (.slice none 0 0) (w.heap.size + 1) 0 0) 0 (((w.alloc (.cells #[.slice none 0 0, .slice none 0 0, .bool false, .bool false, .bool false, .int .i64 0, .int .i64 0, .slice none 0 0] 26)).alloc (.map #[] 0)).alloc (.cells #[.slice none 0 0, .slice none 0 0, .bool false, .bool false, .bool false, .int .i64 0, .int .i64 0, .slice none 0 0, .slice a ts.length cap, .int .i64 0, .int .i64 0, .int .i64 0, .slice none 0 0, .map (some (w.heap.size + 1))] 68)) := ⟨(hxa.trans hxb).trans hxc, h, by omega, hG, Nat.zero_le _, hs⟩
  have hj : RdJ w ts (.slice a ts.length cap) (w.heap.size + 1 + 1) [w.heap.size + 1 + 1, w.heap.size + 1] ⟨0, [], []⟩ 0 0 (.slice none 0 0) (.slice none 0 0) (w.heap.size + 1) (((w.alloc (.cells #[.slice none 0 0, .slice none 0 0, .bool false, .bool false, .bool false, .int .i64 0, .int .i64 0, .slice none 0 0] 26)).alloc (.map #[] 0)).alloc (.cells #[.slice none 0 0, .slice none 0 0, .bool false, .bool false, .bool false, .int .i64 0, .int .i64 0, .slice none 0 0, .slice a ts.length cap, .int .i64 0, .int .i64 0, .int .i64 0, .slice none 0 0, .map (some (w.heap.size + 1))] 68)) :=
    ⟨hrd, by simp, by simp, by omega, (fun b hb => by simp at hb; rw [hsz]; omega), World.ownsRow_nil _ _ _ _, (fun b hb => by cases hb), World.ownsRow_nil _ _ _ _, (fun b hb => by cases hb), hM⟩
  have hx0 : Ext w (((w.alloc (.cells #[.slice none 0 0, .slice none 0 0, .bool false, .bool false, .bool false, .int .i64 0, .int .i64 0, .slice none 0 0] 26)).alloc (.map #[] 0)).alloc (.cells #[.slice none 0 0, .slice none 0 0, .bool false, .bool false, .bool false, .int .i64 0, .int .i64 0, .slice none 0 0, .slice a ts.length cap, .int .i64 0, .int .i64 0, .int .i64 0, .slice none 0 0, .map (some (w.heap.size + 1))] 68)) := (hxa.trans hxb).trans hxc
  have HA := Lib.hid hA
  have HJ := Lib.hid hj
  have HX := Lib.hid hx0
  have HSZ := Lib.hid hsz
  clear h hs hxa hxb hxc hA hG hM hsz hrd hj hx0
  go_enter Try.func15, Try.ntmps15
  go_upto_region 2 with fail
  clear hmm
  generalize (((w.alloc (.cells #[.slice none 0 0, .slice none 0 0, .bool false, .bool false, .bool false, .int .i64 0, .int .i64 0, .slice none 0 0] 26)).alloc (.map #[] 0)).alloc (.cells #[.slice none 0 0, .slice none 0 0, .bool false, .bool false, .bool false, .int .i64 0, .int .i64 0, .slice none 0 0, .slice a ts.length cap, .int .i64 0, .int .i64 0, .int .i64 0, .slice none 0 0, .map (some (w.heap.size + 1))] 68)) = w1 at *
  have HRD := Lib.hid (read_all ⟨_, _, _, HJ.out⟩ hl)
  obtain ⟨A, hA⟩ : ∃ A, w.heap.size = A := ⟨_, rfl⟩
  obtain ⟨G, hG⟩ : ∃ G, A + 1 + 1 = G := ⟨_, rfl⟩
  rw [hA] at HA HRD HJ HSZ
  rw [hG] at HRD HJ HSZ
  simp only [hA, hG]
  have HN := Lib.hid (show w.heap.size = A ∧ A + 1 + 1 = G from ⟨hA, hG⟩)
  clear hA hG
  go_wp2_with fail
  refine HRD.out.mono ?_
  rintro en w2 ⟨r, htr, hrp, own', hc⟩
  have HA2 := Lib.hid (HA.out.chg hc (by have := HN.out; simp; omega)).1
  have HX2 := Lib.hid (below_chg HX.out hc (by have := HN.out; intro b hb; simp at hb; omega))
  have HTR := Lib.hid htr
  have hAG : A ≠ G := by have := HN.out; omega
  clear HRD htr hc HA HX
  cases r with
  | error q =>
    obtain ⟨rfl, c, hrd⟩ := hrp
    have hq := hrd.le
    have HR2 := Lib.hid hrd
    clear hrd
    go_upto_region 3 with fail
    refine wp_region_grox [A] groT15 [0, 1, 2, 3, 4, 5, 6, 7] hmo (by kernel_rfl) rfl (by kernel_rfl) (fun _ _ _ _ _ h => h) ?_
    have hxd : Ext w2 w2.drew := Ext.drewN w2 1
    have HA3 := Lib.hid (HA2.out.ext hxd)
    have HX3 := Lib.hid (HX2.out.trans hxd)
    have HR3 := Lib.hid (HR2.out.grow hxd)
    clear hxd HA2 HX2 HR2
    generalize w2.drew = w3 at *
    obtain ⟨f8, f9, f10⟩ := HR3.out.facts
    have hGA : ¬ G ∈ [A] := by simp; omega
    have hGA2 : ¬ G = A := by omega
    repeat (first
      | (refine groX_pure rfl rfl ?_; intro K hK; go_simp; refine hK _ ?_; clear hK K)
      | (refine groX_read rfl rfl ?_; intro K S hS hK; go_simp; refine hK _ ?_; clear hK K hS S)
      | (refine groX_read rfl rfl ?_; intro K S hS hK; go_simp; refine ⟨hS _ ?_, hK _ ?_⟩; (clear hK K hS S; intro w' hx'; have hce := grows_some hx'; go_simp); clear hK K hS S))
    refine groX_store rfl rfl rfl _ _ _ rfl A [.slice none 0 0, .slice none 0 0, .bool false, .bool false, .bool false, .int .i64 0, .int .i64 0, .slice none 0 0] rfl rfl HA3.out (by simp) (by kernel_rfl) rfl (by simp [Value.oneCell']) ?_
    have HA4 := Lib.hid (HA3.out.setRow [.slice none 0 0, .slice none 0 0, .bool false, .bool false, .bool false, .int .i64 0, .int .i64 0, .slice none 0 0])
    have HX4 := Lib.hid (show Ext w (w3.setRow A #[.slice none 0 0, .slice none 0 0, .bool false, .bool false, .bool false, .int .i64 0, .int .i64 0, .slice none 0 0]) from below_setRow HX3.out (by have := HN.out; omega) _)
    clear f8 f9 f10 HA3 HX3 HR3
    generalize w3.setRow A #[.slice none 0 0, .slice none 0 0, .bool false, .bool false, .bool false, .int .i64 0, .int .i64 0, .slice none 0 0] = w4 at *
    repeat (first
      | (refine groX_pure rfl rfl ?_; intro K hK; go_simp; refine hK _ ?_; clear hK K)
      | (refine groX_read rfl rfl ?_; intro K S hS hK; go_simp; refine hK _ ?_; clear hK K hS S)
      | (refine groX_read rfl rfl ?_; intro K S hS hK; go_simp; refine ⟨hS _ ?_, hK _ ?_⟩; (clear hK K hS S; intro w' hx'; have hce := grows_some hx'; go_simp); clear hK K hS S))
    refine groX_nil ?_
    go_wp2_with fail
    exact bodyPost_ret (results_row2 rfl rfl HA4.out Try.underlying26 rfl (by kernel_rfl)) rfl ⟨_, HTR.out, HX4.out, hq, rfl⟩
  | ok P =>
    obtain ⟨rfl, av, vv, rv, hv, m, hrd, ho, hor, hoh⟩ := hrp
    obtain ⟨ava, avc, rfl⟩ := own_vw ho
    obtain ⟨rva, rvc, rfl⟩ := own_vw hor
    obtain ⟨hva, hvc, rfl⟩ := own_vw hoh
    have HR2 := Lib.hid hrd
    have HO2 := Lib.hid ho
    have HOR2 := Lib.hid hor
    have HOH2 := Lib.hid hoh
    clear hrd ho hor hoh
    go_upto_region 4 with fail
    refine wp_region_grox [A] groT16 [0, 1, 2, 3, 4, 5, 6, 7, 8, 9, 10] hmo (by kernel_rfl) rfl (by kernel_rfl) (fun _ _ _ _ _ h => h) ?_
    have hxd : Ext w2 w2.drew := Ext.drewN w2 1
    have HA3 := Lib.hid (HA2.out.ext hxd)
    have HX3 := Lib.hid (HX2.out.trans hxd)
    have HR3 := Lib.hid (HR2.out.grow hxd)
    have HO3 := Lib.hid (own_ext HO2.out hxd)
    have HOR3 := Lib.hid (own_ext HOR2.out hxd)
    have HOH3 := Lib.hid (own_ext HOH2.out hxd)
    clear hxd HA2 HX2 HR2 HO2 HOR2 HOH2
    generalize w2.drew = w3 at *
    obtain ⟨f8, f9, f10⟩ := HR3.out.facts
    have hGA : ¬ G ∈ [A] := by simp; omega
    have hGA2 : ¬ G = A := by omega
    repeat (first
      | (refine groX_pure rfl rfl ?_; intro K hK; go_simp; refine hK _ ?_; clear hK K)
      | (refine groX_read rfl rfl ?_; intro K S hS hK; go_simp; refine hK _ ?_; clear hK K hS S)
      | (refine groX_read rfl rfl ?_; intro K S hS hK; go_simp; refine ⟨hS _ ?_, hK _ ?_⟩; (clear hK K hS S; intro w' hx'; have hce := grows_some hx'; go_simp); clear hK K hS S))
    refine groX_load rfl rfl rfl _ _ rfl G 0 rfl (patL (.slice ava P.atoms.length avc) (.slice rva P.ret.length rvc) (.slice hva P.hint.length hvc) P) _ (RowAt.range (pre := []) HR3.out.row) hGA Try.underlying26 rfl (by kernel_rfl) ?_
    repeat (first
      | (refine groX_pure rfl rfl ?_; intro K hK; go_simp; refine hK _ ?_; clear hK K)
      | (refine groX_read rfl rfl ?_; intro K S hS hK; go_simp; refine hK _ ?_; clear hK K hS S)
      | (refine groX_read rfl rfl ?_; intro K S hS hK; go_simp; refine ⟨hS _ ?_, hK _ ?_⟩; (clear hK K hS S; intro w' hx'; have hce := grows_some hx'; go_simp); clear hK K hS S))
    refine groX_store rfl rfl rfl _ _ _ rfl A (patL (.slice ava P.atoms.length avc) (.slice rva P.ret.length rvc) (.slice hva P.hint.length hvc) P) rfl rfl HA3.out (by simp) (by kernel_rfl) rfl (by simp [patL, Value.oneCell']) ?_
    have HA4 := Lib.hid (HA3.out.setRow (patL (.slice ava P.atoms.length avc) (.slice rva P.ret.length rvc) (.slice hva P.hint.length hvc) P))
    have HX4 := Lib.hid (show Ext w (w3.setRow A (patL (.slice ava P.atoms.length avc) (.slice rva P.ret.length rvc) (.slice hva P.hint.length hvc) P).toArray) from below_setRow HX3.out (by have := HN.out; omega) _)
    have hgw := setRow_grown w3 A (patL (.slice ava P.atoms.length avc) (.slice rva P.ret.length rvc) (.slice hva P.hint.length hvc) P).toArray
    have hPI : PatIn w.heap.size (w3.setRow A (patL (.slice ava P.atoms.length avc) (.slice rva P.ret.length rvc) (.slice hva P.hint.length hvc) P).toArray) (patV (.slice ava P.atoms.length avc) (.slice rva P.ret.length rvc) (.slice hva P.hint.length hvc) P) P :=
      ⟨_, _, _, rfl, own_turn HO3.out HA3.out (by decide) hgw, own_turn HOR3.out HA3.out (by decide) hgw, own_turn HOH3.out HA3.out (by decide) hgw⟩
    have HPI := Lib.hid hPI
    clear f8 f9 f10 HA3 HX3 HR3 hgw hPI HO3 HOR3 HOH3
    generalize w3.setRow A (patL (.slice ava P.atoms.length avc) (.slice rva P.ret.length rvc) (.slice hva P.hint.length hvc) P).toArray = w4 at *
    repeat (first
      | (refine groX_pure rfl rfl ?_; intro K hK; go_simp; refine hK _ ?_; clear hK K)
      | (refine groX_read rfl rfl ?_; intro K S hS hK; go_simp; refine hK _ ?_; clear hK K hS S)
      | (refine groX_read rfl rfl ?_; intro K S hS hK; go_simp; refine ⟨hS _ ?_, hK _ ?_⟩; (clear hK K hS S; intro w' hx'; have hce := grows_some hx'; go_simp); clear hK K hS S))
    refine groX_nil ?_
    go_wp2_with fail
    exact bodyPost_ret (results_row2 rfl rfl HA4.out Try.underlying26 rfl (by kernel_rfl)) rfl ⟨_, HTR.out, HX4.out, _, rfl, HPI.out⟩
end Go.Proofs.Ytngnplghjaojhaa
