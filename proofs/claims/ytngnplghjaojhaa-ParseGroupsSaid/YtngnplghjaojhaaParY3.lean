/- A pattern's variables; are patterns the same? The program. -/
import Derived.Test.YtngnplghjaojhaaParY2
import Derived.Test.YtngnplghjaojhaaGenX1
import Derived.OpenShut
import Derived.ChangeSame
import Derived.SizedLaws
namespace Go.Proofs.Ytngnplghjaojhaa
set_option maxRecDepth 100000
set_option maxHeartbeats 2000000
set_option linter.unusedSimpArgs false
open Go.RowKit Go.Shelf Go.Sort
attribute [local go_sem] Oper.semAt_some wide_fn wide_depth
set_option linter.unusedVariables false

def varsE (P : Pat) : List ByteArray := if P.okB = true then varsS P.atoms else []
set_option maxRecDepth 100000 in
set_option maxHeartbeats 2000000 in
theorem varsP_any (v : Value) (P : Pat) (w : World) (h : PatAt w v P) (hf : P.Fits) :
    Calls Try.prog 26 #[v] w fun e w' => ∃ u, e = .returned u ∧ w'.ownsRow w.heap.size 9 1 u (varsE P).length ((varsE P).map Value.string) ∧ Ext w w' := by
  have hck := fun w' (hx : Ext w w') => checkP_any v P w' (h.ext hx) hf
  obtain ⟨av, rv, hv, rfl, ha, hr, hh⟩ := h
  obtain ⟨ava, avc, rfl, hac, _⟩ := ha.shape
  obtain ⟨rva, rvc, rfl, hrc, _⟩ := Sl.shape hr
  obtain ⟨hva, hvc, rfl, hhc, _⟩ := Sl.shape hh
  have hfew := hf.few
  obtain ⟨R, hR⟩ : ∃ R, varsE P = R := ⟨_, rfl⟩
  rw [hR]
  have HV := Lib.hid (fun w' (hx : Ext w w') => variables_any _ P.atoms w' (ha.ext hx) hfew)
  obtain ⟨ok, hok⟩ : ∃ b, P.okB = b := ⟨_, rfl⟩
  have HE : Hid (R = if ok = true then varsS P.atoms else []) := Lib.hid (by rw [← hR]; unfold varsE; rw [hok])
  obtain ⟨cd, hcd⟩ : ∃ c, checkE P = c := ⟨_, rfl⟩
  have HCD : Hid ((ok = true → cd = 0) ∧ (ok = false → cd = 261)) := Lib.hid (by
    rw [← hcd]; unfold checkE; rw [hok]
    exact ⟨fun h => if_pos h, fun h => if_neg (by rw [h]; decide)⟩)
  rw [hcd] at hck
  have HCK := Lib.hid hck
  clear hck hcd hok hR hf ha hr hh
  obtain ⟨atoms, ret, cn, ds, lm, li, off, hint⟩ := P
  unfold patV patL at HCK ⊢
  dsimp only at *
  have HX := Lib.hid (Ext.alloc w (.cells #[.slice ava atoms.length avc, .slice rva ret.length rvc, .bool cn, .bool ds, .bool lm, .int .i64 li, .int .i64 off, .slice hva hint.length hvc] 26))
  have HB := Lib.hid (show RowAt (w.alloc (.cells #[.slice ava atoms.length avc, .slice rva ret.length rvc, .bool cn, .bool ds, .bool lm, .int .i64 li, .int .i64 off, .slice hva hint.length hvc] 26)) w.heap.size 26 [.slice ava atoms.length avc, .slice rva ret.length rvc, .bool cn, .bool ds, .bool lm, .int .i64 li, .int .i64 off, .slice hva hint.length hvc] from RowAt.new _ _ _)
  go_enter Try.func26, Try.ntmps26
  go_upto_region 1 with fail
  generalize w.alloc (.cells #[.slice ava atoms.length avc, .slice rva ret.length rvc, .bool cn, .bool ds, .bool lm, .int .i64 li, .int .i64 off, .slice hva hint.length hvc] 26) = w1 at *
  obtain ⟨x, hx⟩ : ∃ x, w.heap.size = x := ⟨_, rfl⟩
  rw [hx] at HB
  simp only [hx]
  have HWX := Lib.hid hx
  clear hx
  obtain ⟨d0, d1, d2, d3, d4, d5, d6, d7⟩ := row8_facts HB.out
  cases ok with
  | false =>
    have h261 := HCD.out.2 rfl
    subst h261
    clear HCD
    have HE2 : Hid (R = []) := HE
    go_wp2_with fail
    refine (HCK.out w1 HX.out).mono ?_
    rintro e w2 ⟨rfl, hx2⟩
    have HX2 := Lib.hid (HX.out.trans hx2)
    clear hx2 d0 d1 d2 d3 d4 d5 d6 d7
    go_wp2_with fail
    go_ret
    exact ⟨_, rfl, by rw [HE2.out]; exact World.ownsRow_nil _ _ _ _, HX2.out⟩
  | true =>
    have h0 := HCD.out.1 rfl
    subst h0
    clear HCD
    have HE2 : Hid (R = varsS atoms) := HE
    clear HE
    go_wp2_with fail
    refine (HCK.out w1 HX.out).mono ?_
    rintro e w2 ⟨rfl, hx2⟩
    have HX2 := Lib.hid (HX.out.trans hx2)
    have HB2 := Lib.hid (HB.out.ext hx2)
    clear hx2 d0 d1 d2 d3 d4 d5 d6 d7 HB HCK HX
    obtain ⟨d0, d1, d2, d3, d4, d5, d6, d7⟩ := row8_facts HB2.out
    have HV2 := Lib.hid (HV.out w2 HX2.out)
    clear HV
    generalize varsS atoms = V at *
    have hrv := HE2.out
    subst hrv
    clear HE2
    go_wp2_with fail
    refine HV2.out.mono ?_
    rintro e w3 ⟨u, rfl, ho, hx3⟩
    have HO := Lib.hid (own_base ho (show w.heap.size ≤ w2.heap.size from HX2.out.size))
    have HX3 := Lib.hid (HX2.out.trans hx3)
    obtain ⟨ua, uc, rfl⟩ := own_vw ho
    clear ho hx3 HV2
    go_wp2_with fail
    go_ret
    exact ⟨_, rfl, HO.out, HX3.out⟩
/-- Are patterns the same? -/
def sameB (P Q : Pat) : Bool := (P.count == Q.count && (P.distinct == Q.distinct && (P.limited == Q.limited && (P.limit == Q.limit && P.offset == Q.offset)))) && (decide (P.atoms = Q.atoms) && (decide (P.ret = Q.ret) && decide (P.hint = Q.hint)))
theorem sameB_iff (P Q : Pat) : sameB P Q = true ↔ P = Q := by
  obtain ⟨a, b, c, d, e, f, g, h⟩ := P
  obtain ⟨a', b', c', d', e', f', g', h'⟩ := Q
  unfold sameB
  simp only [decide_eq_true_eq, Bool.and_eq_true, beq_iff_eq, Pat.mk.injEq]
  constructor
  · rintro ⟨⟨h3, h4, h5, h6, h7⟩, h1, h2, h8⟩
    exact ⟨h1, h2, h3, h4, h5, h6, h7, h8⟩
  · rintro ⟨h1, h2, h3, h4, h5, h6, h7, h8⟩
    exact ⟨⟨h3, h4, h5, h6, h7⟩, h1, h2, h8⟩
set_option maxRecDepth 100000 in
set_option maxHeartbeats 2000000 in
theorem sameP_any (v u : Value) (P Q : Pat) (w : World) (h : PatAt w v P) (k : PatAt w u Q) (hf : P.atoms.length ≤ 1000000000) (hf2 : Q.atoms.length ≤ 1000000000) :
    Calls Try.prog 20 #[v, u] w fun e w' => e = .returned (.bool (sameB P Q)) ∧ Ext w w' := by
  obtain ⟨av, rv, hv, rfl, ha, hr, hh⟩ := h
  obtain ⟨au, ru, hu, rfl, ka, kr, kh⟩ := k
  obtain ⟨ava, avc, rfl, _, _⟩ := ha.shape
  obtain ⟨rva, rvc, rfl, _, _⟩ := Sl.shape hr
  obtain ⟨hva, hvc, rfl, _, _⟩ := Sl.shape hh
  obtain ⟨aua, auc, rfl, _, _⟩ := ka.shape
  obtain ⟨rua, ruc, rfl, _, _⟩ := Sl.shape kr
  obtain ⟨hua, huc, rfl, _, _⟩ := Sl.shape kh
  unfold sameB
  obtain ⟨atoms, ret, cn, ds, lm, li, off, hint⟩ := P
  obtain ⟨atoms2, ret2, cn2, ds2, lm2, li2, off2, hint2⟩ := Q
  unfold patV patL
  dsimp only at *
  have HA := Lib.hid (show ∀ w', Ext w w' → Calls Try.prog 36 #[.slice ava atoms.length avc, .slice aua atoms2.length auc] w' (fun e w'' => e = .returned (.bool (decide (atoms = atoms2))) ∧ Ext w' w'') from fun w' (hx : Ext w w') => eqAts_any _ _ atoms atoms2 w' (ha.ext hx) (ka.ext hx) hf hf2)
  have HR := Lib.hid (show ∀ w', Ext w w' → Calls Try.prog 25 #[.slice rva ret.length rvc, .slice rua ret2.length ruc] w' (fun e w'' => e = .returned (.bool (decide (ret = ret2))) ∧ Ext w' w'') from fun w' (hx : Ext w w') => eqStrs_any _ _ ret ret2 w' (Strs.ext hr hx) (Strs.ext kr hx))
  have HH := Lib.hid (show ∀ w', Ext w w' → Calls Try.prog 25 #[.slice hva hint.length hvc, .slice hua hint2.length huc] w' (fun e w'' => e = .returned (.bool (decide (hint = hint2))) ∧ Ext w' w'') from fun w' (hx : Ext w w') => eqStrs_any _ _ hint hint2 w' (Strs.ext hh hx) (Strs.ext kh hx))
  obtain ⟨b1, q1⟩ : ∃ b, (cn == cn2) = b := ⟨_, rfl⟩
  obtain ⟨b2, q2⟩ : ∃ b, (ds == ds2) = b := ⟨_, rfl⟩
  obtain ⟨b3, q3⟩ : ∃ b, (lm == lm2) = b := ⟨_, rfl⟩
  obtain ⟨b4, q4⟩ : ∃ b, (li == li2) = b := ⟨_, rfl⟩
  obtain ⟨b5, q5⟩ : ∃ b, (off == off2) = b := ⟨_, rfl⟩
  obtain ⟨c1, p1⟩ : ∃ b, decide (atoms = atoms2) = b := ⟨_, rfl⟩
  obtain ⟨c2, p2⟩ : ∃ b, decide (ret = ret2) = b := ⟨_, rfl⟩
  obtain ⟨c3, p3⟩ : ∃ b, decide (hint = hint2) = b := ⟨_, rfl⟩
  rw [q1, q2, q3, q4, q5, p1, p2, p3]
  obtain ⟨F, hF⟩ : ∃ F, (b1 && (b2 && (b3 && (b4 && b5)))) = F := ⟨_, rfl⟩
  obtain ⟨RS, hRS⟩ : ∃ R, (F && (c1 && (c2 && c3))) = R := ⟨_, rfl⟩
  rw [hF, hRS]
  have HFF := Lib.hid hF
  have HRS := Lib.hid hRS
  clear hF hRS
  rw [p1] at HA
  rw [p2] at HR
  rw [p3] at HH
  have hx1 := Ext.alloc w (.cells #[.slice ava atoms.length avc, .slice rva ret.length rvc, .bool cn, .bool ds, .bool lm, .int .i64 li, .int .i64 off, .slice hva hint.length hvc] 26)
  have hx2 := Ext.alloc (w.alloc (.cells #[.slice ava atoms.length avc, .slice rva ret.length rvc, .bool cn, .bool ds, .bool lm, .int .i64 li, .int .i64 off, .slice hva hint.length hvc] 26)) (.cells #[.slice aua atoms2.length auc, .slice rua ret2.length ruc, .bool cn2, .bool ds2, .bool lm2, .int .i64 li2, .int .i64 off2, .slice hua hint2.length huc] 26)
  have hb1 := (RowAt.new w 26 [.slice ava atoms.length avc, .slice rva ret.length rvc, .bool cn, .bool ds, .bool lm, .int .i64 li, .int .i64 off, .slice hva hint.length hvc]).ext hx2
  have hb2 : RowAt ((w.alloc (.cells #[.slice ava atoms.length avc, .slice rva ret.length rvc, .bool cn, .bool ds, .bool lm, .int .i64 li, .int .i64 off, .slice hva hint.length hvc] 26)).alloc (.cells #[.slice aua atoms2.length auc, .slice rua ret2.length ruc, .bool cn2, .bool ds2, .bool lm2, .int .i64 li2, .int .i64 off2, .slice hua hint2.length huc] 26)) (w.heap.size + 1) 26 [.slice aua atoms2.length auc, .slice rua ret2.length ruc, .bool cn2, .bool ds2, .bool lm2, .int .i64 li2, .int .i64 off2, .slice hua hint2.length huc] := row_at (by simp)
  have HX := Lib.hid (hx1.trans hx2)
  have HB := Lib.hid hb1
  have HB2 := Lib.hid hb2
  clear hx1 hx2 hb1 hb2 ha hr hh ka kr kh p1 p2 p3
  go_enter Try.func20, Try.ntmps20
  go_upto_region 1 with fail
  generalize ((w.alloc (.cells #[.slice ava atoms.length avc, .slice rva ret.length rvc, .bool cn, .bool ds, .bool lm, .int .i64 li, .int .i64 off, .slice hva hint.length hvc] 26)).alloc (.cells #[.slice aua atoms2.length auc, .slice rua ret2.length ruc, .bool cn2, .bool ds2, .bool lm2, .int .i64 li2, .int .i64 off2, .slice hua hint2.length huc] 26)) = w1 at *
  obtain ⟨x, hx⟩ : ∃ x, w.heap.size = x := ⟨_, rfl⟩
  obtain ⟨y, hy⟩ : ∃ y, x + 1 = y := ⟨_, rfl⟩
  rw [hx] at HB HB2
  rw [hy] at HB2
  simp only [hx, hy]
  clear hx hy
  obtain ⟨d0, d1, d2, d3, d4, d5, d6, d7⟩ := row8_facts HB.out
  obtain ⟨e0, e1, e2, e3, e4, e5, e6, e7⟩ := row8_facts HB2.out
  go_cut [5] (fun s5 wx => s5 = .bool F ∧ wx = w1)
  case first =>
    cases b1
    case false =>
      go_wp2_with fail
      go_meet
      exact ⟨by rw [← HFF.out]; rfl, rfl⟩
    cases b2
    case false =>
      go_wp2_with fail
      go_meet
      exact ⟨by rw [← HFF.out]; rfl, rfl⟩
    cases b3
    case false =>
      go_wp2_with fail
      go_meet
      exact ⟨by rw [← HFF.out]; rfl, rfl⟩
    cases b4
    all_goals
      go_wp2_with fail
      go_meet
      exact ⟨by rw [← HFF.out]; rfl, rfl⟩
  case rest =>
    obtain ⟨rfl, hwc⟩ := hcut
    rw [hwc]
    clear hwc q1 q2 q3 q4 q5
    clear HFF
    have HA1 := Lib.hid (HA.out w1 HX.out)
    clear HA
    cases F with
    | false =>
      go_wp2_with fail
      go_ret
      exact ⟨ret_bool HRS.out, HX.out⟩
    | true =>
      go_wp2_with fail
      refine HA1.out.mono ?_
      rintro e w2 ⟨rfl, hx2⟩
      have HX2 := Lib.hid (HX.out.trans hx2)
      have HR2 := Lib.hid (HR.out w2 HX2.out)
      have HB3 := Lib.hid (HB.out.ext hx2)
      have HB4 := Lib.hid (HB2.out.ext hx2)
      clear d0 d1 d2 d3 d4 d5 d6 d7 e0 e1 e2 e3 e4 e5 e6 e7 HA1 HR hx2 HB HB2
      obtain ⟨d0, d1, d2, d3, d4, d5, d6, d7⟩ := row8_facts HB3.out
      obtain ⟨e0, e1, e2, e3, e4, e5, e6, e7⟩ := row8_facts HB4.out
      cases c1 with
      | false =>
        go_wp2_with fail
        go_ret
        exact ⟨ret_bool HRS.out, HX2.out⟩
      | true =>
        go_wp2_with fail
        refine HR2.out.mono ?_
        rintro e w3 ⟨rfl, hx3⟩
        have HX3 := Lib.hid (HX2.out.trans hx3)
        have HH3 := Lib.hid (HH.out w3 HX3.out)
        have HB5 := Lib.hid (HB3.out.ext hx3)
        have HB6 := Lib.hid (HB4.out.ext hx3)
        clear d0 d1 d2 d3 d4 d5 d6 d7 e0 e1 e2 e3 e4 e5 e6 e7 HR2 HH hx3 HB3 HB4
        obtain ⟨d0, d1, d2, d3, d4, d5, d6, d7⟩ := row8_facts HB5.out
        obtain ⟨e0, e1, e2, e3, e4, e5, e6, e7⟩ := row8_facts HB6.out
        cases c2 with
        | false =>
          go_wp2_with fail
          go_ret
          exact ⟨ret_bool HRS.out, HX3.out⟩
        | true =>
          go_wp2_with fail
          refine HH3.out.mono ?_
          rintro e w4 ⟨rfl, hx4⟩
          have HX4 := Lib.hid (HX3.out.trans hx4)
          clear d0 d1 d2 d3 d4 d5 d6 d7 e0 e1 e2 e3 e4 e5 e6 e7 HH3 hx4
          go_wp2_with fail
          go_ret
          exact ⟨ret_bool HRS.out, HX4.out⟩
end Go.Proofs.Ytngnplghjaojhaa

/- An argument that is a pattern; what it weighs. -/
namespace Go.Proofs.Ytngnplghjaojhaa
set_option maxRecDepth 100000
set_option maxHeartbeats 2000000
set_option linter.unusedVariables false
set_option linter.unusedSimpArgs false
open Go.ChangeShapes Go.WideShapes Go.ChangeAt Go.RowKit Go.Deep

/-- All of it is within reach. -/
def Light {H : Type} (P : Program) (t : TypeId) (d : DataW H) : Prop := ∀ n ∈ d.weights P t, n ≤ reachBytes
theorem light_str {H : Type} {P : Program} {t : TypeId} {s : ByteArray} (h : Light P t (.lit (.string s.data.toList) : DataW H)) : s.size ≤ reachBytes := by
  have := h s.data.toList.length (by simp [DataW.weights])
  simpa using this
theorem light_part {H : Type} {P : Program} {t : TypeId} {fs : Array Field} {parts : List (DataW H)} (ht : P.underlying t = some (.struct fs)) (h : Light P t (.agg parts)) {i : Nat} {f : Field} {d : DataW H}
    (hf : fs[i]? = some f) (hd : parts[i]? = some d) : Light P f.type d := by
  intro n hn
  refine h n ?_
  simp only [DataW.weights, ht]
  exact DataW.weights_mem_each (j := i) (by simp [hf]) hd n hn
theorem weightsAll_mem {H : Type} {P : Program} {e : TypeId} {n : Nat} : ∀ {l : List (DataW H)} {d : DataW H}, d ∈ l → n ∈ d.weights P e → n ∈ DataW.weightsAll P e l
  | x :: r, d, h, hn => by
    simp only [DataW.weightsAll, List.mem_append]
    rcases List.mem_cons.1 h with rfl | h
    · exact .inl hn
    · exact .inr (weightsAll_mem h hn)
theorem light_elem {H : Type} {P : Program} {t e : TypeId} {elems spare : List (DataW H)} (ht : P.underlying t = some (.slice e)) (h : Light P t (.slice elems spare)) {d : DataW H} (hd : d ∈ elems) : Light P e d := by
  intro n hn
  refine h n ?_
  simp only [DataW.weights, ht, List.mem_cons, List.mem_append]
  exact .inr (.inl (weightsAll_mem hd hn))
theorem light_arg {H : Type} {P : Program} {ts : List TypeId} {ds : List (DataW H)} (h : (DataW.weightsEach P ts ds).all (· ≤ reachBytes) = true) {j : Nat} {t : TypeId} {d : DataW H} (ht : ts[j]? = some t) (hd : ds[j]? = some d) : Light P t d := fun n hn => by
  have := List.all_eq_true.1 h n (DataW.weights_mem_each ht hd n hn)
  simpa using this
theorem seven {α : Type} {cs : List α} (h : cs.length = 7) : ∃ c0 c1 c2 c3 c4 c5 c6, cs = [c0, c1, c2, c3, c4, c5, c6] := by
  match cs, h with
  | [c0, c1, c2, c3, c4, c5, c6], _ => exact ⟨c0, c1, c2, c3, c4, c5, c6, rfl⟩
theorem eight {α : Type} {cs : Array α} (h : cs.size = 8) : ∃ c0 c1 c2 c3 c4 c5 c6 c7, cs = #[c0, c1, c2, c3, c4, c5, c6, c7] := by
  obtain ⟨l⟩ := cs
  match l, h with
  | [c0, c1, c2, c3, c4, c5, c6, c7], _ => exact ⟨c0, c1, c2, c3, c4, c5, c6, c7, rfl⟩
theorem open_term {H : Type} {enc : TypeId × Value → H} {w : World} {base : Nat} {spare : Nat → Bool} {held : Bool} {m : Nat} {x y : Value} {z : DataW H × List MemPlace}
    (h : DataW.trod enc Try.prog w base spare held m 62 [x, y] = some z) : ∃ b s, x = .bool b ∧ y = .string s ∧ z.1 = .agg [.lit (.bool b), .lit (.string s.data.toList)] := by
  obtain ⟨y0, y1, n, hz, _, h0, h1⟩ := trod_struct2 Try.underlying62 h
  have h0' : DataW.trod enc Try.prog w base spare held n 4 [x] = some y0 := h0
  have h1' : DataW.trod enc Try.prog w base spare held n 9 [y] = some y1 := h1
  obtain ⟨b, e0, e0'⟩ := DataW.trod_bool Try.underlying4 h0'
  obtain ⟨s, e1, e1', _⟩ := DataW.trod_string Try.underlying9 h1'
  simp at e0 e1
  exact ⟨b, s, e0, e1, by rw [hz, e0', e1']⟩
def Atm.Near (a : Atm) : Prop := a.fn.size ≤ reachBytes ∧ a.name.size ≤ reachBytes ∧ a.value.size ≤ reachBytes ∧ a.tn.size ≤ reachBytes ∧ -9223372036854775808 ≤ a.kind ∧ a.kind ≤ 9223372036854775807
theorem light_term {H : Type} {b : Bool} {s : ByteArray} (h : Light Try.prog 62 (.agg [.lit (.bool b), .lit (.string s.data.toList)] : DataW H)) : s.size ≤ reachBytes :=
  light_str (light_part (i := 1) Try.underlying62 h rfl rfl)
theorem open_atom {H : Type} {enc : TypeId × Value → H} {w : World} {base : Nat} {spare : Nat → Bool} {held : Bool} {m : Nat} {cs : List Value} {z : DataW H × List MemPlace}
    (h : DataW.trod enc Try.prog w base spare held m 64 cs = some z) (hl : Light Try.prog 64 z.1) : ∃ a : Atm, cs = atCells a ∧ a.Near := by
  obtain ⟨xs, n, _, hz, hlc, hlen, hf⟩ := DataW.trod_struct Try.underlying64 h
  rw [show Try.prog.cellsOf 64 = 7 from by kernel_rfl] at hlc
  obtain ⟨c0, c1, c2, c3, c4, c5, c6, rfl⟩ := seven hlc
  have hlen' : xs.length = 5 := hlen
  obtain ⟨x0, x1, x2, x3, x4, rfl⟩ : ∃ x0 x1 x2 x3 x4, xs = [x0, x1, x2, x3, x4] := by
    match xs, hlen' with
    | [x0, x1, x2, x3, x4], _ => exact ⟨x0, x1, x2, x3, x4, rfl⟩
  have hi : Try.prog.cellsOf 3 = 1 := by kernel_rfl
  have hs : Try.prog.cellsOf 9 = 1 := by kernel_rfl
  have ht : Try.prog.cellsOf 62 = 2 := by kernel_rfl
  have h0 : DataW.trod enc Try.prog w base spare held n 3 [c0] = some x0 := hf 0 _ rfl
  have h1 : DataW.trod enc Try.prog w base spare held n 62 [c1, c2] = some x1 := hf 1 _ rfl
  have h2 : DataW.trod enc Try.prog w base spare held n 9 [c3] = some x2 := hf 2 _ rfl
  have h3 : DataW.trod enc Try.prog w base spare held n 9 [c4] = some x3 := hf 3 _ rfl
  have h4 : DataW.trod enc Try.prog w base spare held n 62 [c5, c6] = some x4 := hf 4 _ rfl
  rw [hz] at hl
  have l1 : Light Try.prog 62 x1.1 := light_part (i := 1) Try.underlying64 hl rfl rfl
  have l2 : Light Try.prog 9 x2.1 := light_part (i := 2) Try.underlying64 hl rfl rfl
  have l3 : Light Try.prog 9 x3.1 := light_part (i := 3) Try.underlying64 hl rfl rfl
  have l4 : Light Try.prog 62 x4.1 := light_part (i := 4) Try.underlying64 hl rfl rfl
  obtain ⟨q0, e0, _, w0⟩ := DataW.trod_int Try.underlying3 h0
  obtain ⟨b1, s1, rfl, rfl, z1⟩ := open_term h1
  obtain ⟨s2, e2, z2, _⟩ := DataW.trod_string Try.underlying9 h2
  obtain ⟨s3, e3, z3, _⟩ := DataW.trod_string Try.underlying9 h3
  obtain ⟨b4, s4, rfl, rfl, z4⟩ := open_term h4
  simp at e0 e2 e3
  subst e0 e2 e3
  rw [z1] at l1
  rw [z2] at l2
  rw [z3] at l3
  rw [z4] at l4
  have b0 := bd_i64 w0
  exact ⟨⟨q0, b1, s1, s2, s3, b4, s4⟩, rfl, light_term l1, light_str l2, light_str l3, light_term l4, b0.1, b0.2⟩
theorem open_atoms {H : Type} {enc : TypeId × Value → H} {w : World} {base : Nat} {spare : Nat → Bool} {held : Bool} {m : Nat} {v : Value} {z : DataW H × List MemPlace}
    (h : DataW.trod enc Try.prog w base spare held m 24 [v] = some z) (hl : Light Try.prog 24 z.1) : ∃ l, Ats w v l ∧ ∀ a ∈ l, a.Near := by
  have hC : Try.prog.cellsOf 64 = 7 := by kernel_rfl
  rcases open_slice Try.underlying24 h with ⟨hcs, _⟩ | ⟨x, len, cap, m, n, D, Pl, hcs, _, hlc, hm, hz, hx, hcell⟩
  · simp at hcs
    subst hcs
    exact ⟨[], Sl.nil w, fun t ht => by simp at ht⟩
  · simp at hcs
    subst hcs
    have hlm : len ≤ m := by split at hz <;> omega
    rw [hx] at hl
    rw [hC] at hcell
    obtain ⟨xs, hx1, hx2⟩ := choose_row len (fun i (t : Atm) => (∀ j v, (atCells t)[j]? = some v → w.cell? (x.add (i * 7 + j)) = some v) ∧ t.Near) (fun i hi => by
      obtain ⟨cs', hc, ht⟩ := hcell i (by omega)
      obtain ⟨a, rfl, hn⟩ := open_atom ht (light_elem Try.underlying24 hl (List.mem_map.2 ⟨i, by simpa using hi, rfl⟩))
      obtain ⟨_, hcl, hat⟩ := World.cells?_some hc
      refine ⟨a, fun j v hj => ?_, hn⟩
      have hjl : j < 7 := (List.getElem?_eq_some_iff.1 hj).1
      have := hat j hjl
      rw [Go.Deep.add_add] at this
      rw [this, hj])
    refine ⟨xs, ?_, fun t ht => ?_⟩
    · have := sl_of_rows (w := w) (x := x) atCells (m := 7) (fun _ => rfl) (by omega) hlc hm xs hx1 (fun i hi j v hj => (hx2 i hi).1 j v hj)
      unfold Ats; rw [hx1]; exact this
    · obtain ⟨i, hi, rfl⟩ := List.getElem_of_mem ht
      exact (hx2 i hi).2
theorem slice_shape_of {H : Type} {enc : TypeId × Value → H} {P : Program} {w : World} {base : Nat} {spare : Nat → Bool} {held : Bool} {n : Nat} {t e : TypeId} {v : Value} {y : DataW H × List MemPlace}
    (ht : P.underlying t = some (.slice e)) (h : DataW.trod enc P w base spare held n t [v] = some y) : ∃ a len cap, v = .slice a len cap := by
  rcases open_slice ht h with ⟨hcs, _⟩ | ⟨a, len, cap, m, k, D, Pl, hcs, _⟩
  · simp at hcs; exact ⟨_, _, _, hcs⟩
  · simp at hcs; exact ⟨_, _, _, hcs⟩
theorem open_texts {H : Type} {enc : TypeId × Value → H} {w : World} {base : Nat} {spare : Nat → Bool} {held : Bool} {m : Nat} {v : Value} {z : DataW H × List MemPlace}
    (h : DataW.trod enc Try.prog w base spare held m 22 [v] = some z) : ∃ l, Strs w v l := by
  obtain ⟨a, len, cap, rfl⟩ := slice_shape_of Try.underlying22 h
  obtain ⟨T, hT, _⟩ := open_Strs (d := z.1) (p := z.2) Try.underlying22 Try.underlying9 (by kernel_rfl) ⟨m, by simpa [Value.cells] using h⟩
  exact ⟨T, hT⟩
/-- What is known of a pattern that an argument holds. -/
def Pat.Near (P : Pat) : Prop := (∀ a ∈ P.atoms, a.Near) ∧ -9223372036854775808 ≤ P.limit ∧ P.limit ≤ 9223372036854775807 ∧ -9223372036854775808 ≤ P.offset ∧ P.offset ≤ 9223372036854775807
theorem open_pattern {H : Type} {enc : TypeId × Value → H} {w : World} {M : Reach} {base base' : Nat} {spare : Nat → Bool} {held : Bool} {v : Value} {d : DataW H} {p : List MemPlace}
    (ho : Value.okWide Try.prog w M base' 26 v) (h : DataW.Trod enc Try.prog w base spare held 26 v d p) (hl : Light Try.prog 26 d) :
    ∃ P : Pat, PatAt w v P ∧ P.Near := by
  obtain ⟨cs, rfl, hsz⟩ := okWide_struct Try.underlying26 ho
  have hC : Try.prog.cellsOf 26 = 8 := by kernel_rfl
  obtain ⟨c0, c1, c2, c3, c4, c5, c6, c7, rfl⟩ := eight (hsz.trans hC)
  obtain ⟨fuel, hf0⟩ := h
  obtain ⟨xs, n, _, hz, _, hlen, hf⟩ := DataW.trod_struct Try.underlying26 hf0
  obtain ⟨rfl, _⟩ := Prod.mk.inj hz
  have hlen' : xs.length = 8 := hlen
  obtain ⟨x0, x1, x2, x3, x4, x5, x6, x7, rfl⟩ : ∃ x0 x1 x2 x3 x4 x5 x6 x7, xs = [x0, x1, x2, x3, x4, x5, x6, x7] := by
    match xs, hlen' with
    | [x0, x1, x2, x3, x4, x5, x6, x7], _ => exact ⟨x0, x1, x2, x3, x4, x5, x6, x7, rfl⟩
  have h0 : DataW.trod enc Try.prog w base spare held n 24 [c0] = some x0 := hf 0 _ rfl
  have h1 : DataW.trod enc Try.prog w base spare held n 22 [c1] = some x1 := hf 1 _ rfl
  have h2 : DataW.trod enc Try.prog w base spare held n 4 [c2] = some x2 := hf 2 _ rfl
  have h3 : DataW.trod enc Try.prog w base spare held n 4 [c3] = some x3 := hf 3 _ rfl
  have h4 : DataW.trod enc Try.prog w base spare held n 4 [c4] = some x4 := hf 4 _ rfl
  have h5 : DataW.trod enc Try.prog w base spare held n 3 [c5] = some x5 := hf 5 _ rfl
  have h6 : DataW.trod enc Try.prog w base spare held n 3 [c6] = some x6 := hf 6 _ rfl
  have h7 : DataW.trod enc Try.prog w base spare held n 22 [c7] = some x7 := hf 7 _ rfl
  have l0 : Light Try.prog 24 x0.1 := light_part (i := 0) Try.underlying26 hl rfl rfl
  obtain ⟨A, hA, hAn⟩ := open_atoms h0 l0
  obtain ⟨R, hR⟩ := open_texts h1
  obtain ⟨K, hK⟩ := open_texts h7
  obtain ⟨b2, e2, _⟩ := DataW.trod_bool Try.underlying4 h2
  obtain ⟨b3, e3, _⟩ := DataW.trod_bool Try.underlying4 h3
  obtain ⟨b4, e4, _⟩ := DataW.trod_bool Try.underlying4 h4
  obtain ⟨q5, e5, _, w5⟩ := DataW.trod_int Try.underlying3 h5
  obtain ⟨q6, e6, _, w6⟩ := DataW.trod_int Try.underlying3 h6
  simp at e2 e3 e4 e5 e6
  subst e2 e3 e4 e5 e6
  have b5 := bd_i64 w5
  have b6 := bd_i64 w6
  exact ⟨⟨A, R, b2, b3, b4, q5, q6, K⟩, ⟨_, _, _, rfl, hA, hR, hK⟩, hAn, b5.1, b5.2, b6.1, b6.2⟩
end Go.Proofs.Ytngnplghjaojhaa
