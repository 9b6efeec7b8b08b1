/- What is told is read: words behind the items. -/
import Derived.Test.YtngnplghjaojhaaGp21
namespace Go.Proofs.Ytngnplghjaojhaa
set_option maxRecDepth 100000
set_option maxHeartbeats 2000000
set_option linter.unusedSimpArgs false
open Go.RowKit Go.Shelf Go.Sort
attribute [local go_sem] Oper.semAt_some wide_fn wide_depth
set_option linter.unusedVariables false

def rcT (av vv : Value) (m d e : Nat) (rv : Value) (cn ds lm : Bool) (li off : Int) (hv : Value) : Rc := ⟨av, rv, .bool cn, .bool ds, .bool lm, .int .i64 li, .int .i64 off, hv, .int .i64 d, .int .i64 e, vv, .map (some m)⟩
/-- The reader while it reads what is told: its boxes x (the reader) and y (how many variables). -/
structure ToI (w0 : World) (ts : List Tk) (tv : Value) (g m : Nat) (vars : List ByteArray) (w : World) (x y : Nat) (c : Rc) (p : Nat) (W : World) : Prop where
  rd : RdT w0 ts tv g c p W
  met : MapAt .string W m (metKv vars)
  rb : RowAt W x 65 [.pointer (some ⟨g, 0, none⟩)]
  mb : RowAt W y 3 [.int .i64 vars.length]
  gr : w.grownBy W (some g)
/-- Texts of its own that are told. -/
def Own9 (w0 W : World) (v : Value) (l : List ByteArray) : Prop := W.ownsRow w0.heap.size 9 1 v l.length (l.map Value.string)
section
variable {w0 : World} {ts : List Tk} {tv : Value} {g m : Nat} {vars : List ByteArray} {w : World} {x y : Nat} {c c' : Rc} {p q : Nat} {W W' : World} {v : Value} {l : List ByteArray}
theorem ToI.turn (h : ToI w0 ts tv g m vars w x y c p W) (hr : RdT w0 ts tv g c' q W') (hg : W.grownBy W' (some g)) : ToI w0 ts tv g m vars w x y c' q W' :=
  ⟨hr, h.met.kept hg (fun e => row_ne_map h.rd.row h.met (Option.some.inj e)), h.rb.kept hg (fun e => row_ne_rd h.rd.row h.rb (by decide) (Option.some.inj e).symm), h.mb.kept hg (fun e => row_ne_rd h.rd.row h.mb (by decide) (Option.some.inj e).symm), h.gr.trans hg⟩
theorem ToI.ext (h : ToI w0 ts tv g m vars w x y c p W) (hx : Ext W W') : ToI w0 ts tv g m vars w x y c p W' := h.turn (h.rd.grow hx) (grown_of_ext hx g)
theorem ToI.fld (h : ToI w0 ts tv g m vars w x y c p W) (i : Nat) (u : Value) (hc : (rdRowP c tv p).set i u = rdRowP c' tv p) : ToI w0 ts tv g m vars w x y c' p (W.setCell ⟨g, i, none⟩ u) :=
  h.turn ⟨Ext.set_of h.rd.ext h.rd.lo _, h.rd.toks, h.rd.lo, hc ▸ h.rd.row.set i u, h.rd.le, h.rd.szs⟩ (grown_set W g i u)
theorem ToI.ne (h : ToI w0 ts tv g m vars w x y c p W) : ¬ x = g ∧ ¬ y = g := ⟨row_ne_rd h.rd.row h.rb (by decide), row_ne_rd h.rd.row h.mb (by decide)⟩
theorem Own9.turn (h : Own9 w0 W v l) (hr : RdT w0 ts tv g c q W) (hg : W.grownBy W' (some g)) : Own9 w0 W' v l := own_turn h hr.row (by decide) hg
theorem Own9.nil : Own9 w0 W (.slice none 0 0) [] := World.ownsRow_nil _ _ _ _
end
/-- What reading what is told comes to. -/
def ToldQ (w0 : World) (ts : List Tk) (tv : Value) (g : Nat) (av vv : Value) (m d e : Nat) (w : World) (r : Except Nat (Pat × Nat)) (en : Ending) (w' : World) : Prop := match r with
  | .ok (P, q) => en = .returned (.tuple #[]) ∧ (∃ rv hv, RdT w0 ts tv g (rcT av vv m d e rv P.count P.distinct P.limited P.limit P.offset hv) q w' ∧ Own9 w0 w' rv P.ret ∧ Own9 w0 w' hv P.hint) ∧ w.grownBy w' (some g)
  | .error q => en = wrongE ∧ (∃ c, RdT w0 ts tv g c q w') ∧ w.grownBy w' (some g)
theorem toldQ_bad {w0 : World} {ts : List Tk} {tv : Value} {g : Nat} {av vv : Value} {m d e : Nat} {w : World} {r : Except Nat (Pat × Nat)} {w' : World} {c : Rc} {q : Nat} (hr : r = .error q) (h : RdT w0 ts tv g c q w') (hg : w.grownBy w' (some g)) : ToldQ w0 ts tv g av vv m d e w r wrongE w' := by
  subst hr; exact ⟨rfl, ⟨_, h⟩, hg⟩
def groL3 : Nat → Gro
  | 0 => .read
  | 1 => .read
  | 3 => .grow
  | 4 => .grow
  | 8 => .grow
  | _ => .pure
def groL5 : Nat → Gro
  | 0 => .read
  | 1 => .read
  | 2 => .read
  | 3 => .grow
  | 7 => .grow
  | 11 => .grow
  | _ => .pure
def groL9 : Nat → Gro
  | 0 => .read
  | 1 => .read
  | 2 => .grow
  | 6 => .grow
  | _ => .pure
def limP (ts : List Tk) (p : Nat) : Except Nat (Bool × Int × Nat) := if saysP ts wLimit p = true then (numP ts (p + 1)).bind fun (n, p) => .ok (true, n, p) else .ok (false, 0, p)
def offP (ts : List Tk) (p : Nat) : Except Nat (Int × Nat) := if saysP ts wOffset p = true then (numP ts (p + 1)).bind fun (m, p) => .ok (m, p) else .ok (0, p)
theorem toldPage_no {ts : List Tk} {p : Nat} (h : saysP ts wCount p = false) : toldPage ts p = (limP ts p).bind fun (l, n, p) => (offP ts p).bind fun (m, p) => .ok ((false, false, l, n, m), p) := by
  unfold toldPage limP offP; rw [if_neg (by rw [h]; decide)]
theorem toldPage_yes {ts : List Tk} {p : Nat} (h : saysP ts wCount p = true) : toldPage ts p = .ok ((true, saysP ts wDistinct (p + 1), false, 0, 0), if saysP ts wDistinct (p + 1) = true then p + 1 + 1 else p + 1) := by
  unfold toldPage
  rw [if_pos h]
  split
  · rename_i h2; rw [h2]
  · rename_i h2; rw [Bool.eq_false_iff.2 h2]
theorem toldP_2 {ts : List Tk} {st : PS} {r : List ByteArray} {p q : Nat} (h1 : toldRet ts st.vars st.p = .ok (r, p)) (h : toldPage ts p = .error q) : toldP ts st = .error q := by unfold toldP; rw [h1]; simp only [Except.bind]; rw [h]
theorem toldP_3 {ts : List Tk} {st : PS} {r : List ByteArray} {p p2 q : Nat} {g : Bool × Bool × Bool × Int × Int} (h1 : toldRet ts st.vars st.p = .ok (r, p)) (h2 : toldPage ts p = .ok (g, p2)) (h : toldHint ts st.vars p2 = .error q) : toldP ts st = .error q := by
  unfold toldP; rw [h1]; simp only [Except.bind]; rw [h2]; simp only []; rw [h]
theorem toldP_ok {ts : List Tk} {st : PS} {r hh : List ByteArray} {p p2 q : Nat} {g : Bool × Bool × Bool × Int × Int} (h1 : toldRet ts st.vars st.p = .ok (r, p)) (h2 : toldPage ts p = .ok (g, p2)) (h : toldHint ts st.vars p2 = .ok (hh, q)) :
    toldP ts st = .ok (⟨st.atoms, r, g.1, g.2.1, g.2.2.1, g.2.2.2.1, g.2.2.2.2, hh⟩, q) := by
  unfold toldP; rw [h1]; simp only [Except.bind]; rw [h2]; simp only []; rw [h]
theorem toldP_1 {ts : List Tk} {st : PS} {q : Nat} (h : toldRet ts st.vars st.p = .error q) : toldP ts st = .error q := by unfold toldP; rw [h]; rfl
set_option maxHeartbeats 2000000 in
theorem told_any {w0 : World} {ts : List Tk} {tv : Value} {g : Nat} {own : List Nat} {st : PS} {d e : Nat} {av vv : Value} {m : Nat} {w : World} (h : RdJ w0 ts tv g own st d e av vv m w) (hl : ts.length ≤ 1000000) (hb : st.vars.length ≤ 1000000) :
    Calls Try.prog 52 #[.pointer (some ⟨g, 0, none⟩)] w (ToldQ w0 ts tv g av vv m d e w (toldP ts st)) := by
  have hmo : Try.prog.follows .mixedOrders = true := by kernel_rfl
  obtain ⟨p, atoms, vars⟩ := st
  dsimp only at hb
  obtain ⟨vva, vvc, rfl⟩ := own_vw h.vars
  have hx1 := Ext.alloc w (.cells #[.pointer (some ⟨g, 0, none⟩)] 65)
  have hx2 := Ext.alloc (w.alloc (.cells #[.pointer (some ⟨g, 0, none⟩)] 65)) (.cells #[.int .i64 vars.length] 3)
  have f12 : (w.alloc (.cells #[.pointer (some ⟨g, 0, none⟩)] 65)).cell? ⟨g, 12, none⟩ = some (.slice vva vars.length vvc) := (h.rd.grow hx1).row.cell (i := 12) rfl
  have hI : ToI w0 ts tv g m vars w w.heap.size (w.heap.size + 1) (rcI av (.slice vva vars.length vvc) m d e) p ((w.alloc (.cells #[.pointer (some ⟨g, 0, none⟩)] 65)).alloc (.cells #[.int .i64 vars.length] 3)) :=
    ⟨h.rd.grow (hx1.trans hx2), (h.met.ext hx1).ext hx2, (RowAt.new w _ [.pointer (some ⟨g, 0, none⟩)]).ext hx2, row_at (xs := [.int .i64 vars.length]) (by simp), grown_of_ext (hx1.trans hx2) g⟩
  have HI := Lib.hid hI
  clear h hx1 hx2 hI
  go_enter Try.func52, Try.ntmps52
  go_upto_region 2 with fail
  clear f12
  generalize ((w.alloc (.cells #[.pointer (some ⟨g, 0, none⟩)] 65)).alloc (.cells #[.int .i64 vars.length] 3)) = w1 at *
  obtain ⟨x, hx⟩ : ∃ x, w.heap.size = x := ⟨_, rfl⟩
  obtain ⟨y, hy⟩ : ∃ y, x + 1 = y := ⟨_, rfl⟩
  rw [hx, hy] at HI
  try simp only [hx, hy]
  clear hx hy
  obtain ⟨c1, hc1⟩ : ∃ c1, c1 = rcT av (.slice vva vars.length vvc) m d e (.slice none 0 0) false false false 0 0 (.slice none 0 0) := ⟨_, rfl⟩
  rw [show rcI av (.slice vva vars.length vvc) m d e = c1 from hc1.symm] at HI
  have HC1 := Lib.hid hc1
  clear hc1
  go_cut [13] (fun s13 wx => Hid (∃ b, s13 = .bool b ∧ b = (decide (vars ≠ []) && saysP ts wReturn p) ∧ ToI w0 ts tv g m vars w x y c1 (if b = true then p + 1 else p) wx))
  case first =>
    have fx := HI.out.rb.facts1.1
    have fy := HI.out.mb.facts1.1
    by_cases hv : vars = []
    · have hd : decide ((0 : Int) < (vars.length : Int)) = false := by rw [hv]; rfl
      have hd2 : decide (0 < vars.length) = false := by rw [hv]; rfl
      have hres : (decide (vars ≠ []) && saysP ts wReturn p) = false := by rw [hv]; rfl
      have HR := Lib.hid hres
      clear hres hv
      go_wp2_with fail
      go_meet
      exact Lib.hid ⟨false, rfl, HR.out.symm, HI.out⟩
    · have hv2 : 0 < vars.length := List.length_pos_iff.2 hv
      have hd : decide ((0 : Int) < (vars.length : Int)) = true := decide_eq_true (by omega)
      have hd2 : decide (0 < vars.length) = true := decide_eq_true hv2
      have hres : (decide (vars ≠ []) && saysP ts wReturn p) = saysP ts wReturn p := by rw [decide_eq_true hv]; rfl
      have HW := Lib.hid (word_any' HI.out.rd wReturn hl)
      obtain ⟨b, hbb⟩ : ∃ b, saysP ts wReturn p = b := ⟨_, rfl⟩
      have HR := Lib.hid (hres.trans hbb)
      rw [hbb] at HW
      clear hres hv hbb hv2
      go_wp2_with fail
      refine HW.out.mono ?_
      rintro en w2 ⟨rfl, hr2, hg2⟩
      have HI2 := Lib.hid (HI.out.turn hr2 hg2)
      clear hr2 hg2 HW fx fy
      go_wp2_with fail
      go_meet
      exact Lib.hid ⟨b, rfl, HR.out.symm, HI2.out⟩
  case rest =>
    obtain ⟨b, rfl, hb1, hi1⟩ := hcut.out
    clear hcut HI
    have HB1 := Lib.hid hb1
    have HI := Lib.hid hi1
    clear hb1 hi1
    go_upto_if 13 with fail
    go_cut [] (fun wx => Hid (∃ r q rv, toldRet ts vars p = .ok (r, q) ∧ ToI w0 ts tv g m vars w x y (rcT av (.slice vva vars.length vvc) m d e rv false false false 0 0 (.slice none 0 0)) q wx ∧ Own9 w0 wx rv r))
    case first =>
      cases b with
      | false =>
        go_wp2_with fail
        go_meet
        refine Lib.hid ⟨[], p, .slice none 0 0, ?_, ?_, Own9.nil⟩
        · unfold toldRet
          rw [if_neg (fun hh => by have h1 := HB1.out; rw [decide_eq_true hh.1, hh.2] at h1; cases h1)]
        · rw [← HC1.out]; exact HI.out
      | true =>
        have hvs : vars ≠ [] ∧ saysP ts wReturn p = true := by
          have h1 := HB1.out
          simpa using h1.symm
        have hres : toldRet ts vars p = retP ts vars vars.length [] (p + 1) := by unfold toldRet; rw [if_pos hvs]
        have hpos : 0 < vars.length := List.length_pos_iff.2 hvs.1
        have HP := Lib.hid hpos
        have HRS := Lib.hid hres
        clear hvs hres hpos
        go_upto_region 3 with fail
        refine wp_region_grob g groL3 [0, 1, 2, 3, 4, 5, 6, 7, 8] hmo (by kernel_rfl) rfl (by kernel_rfl) (fun _ _ _ _ _ h => h) ?_
        have hi := HI.out
        rw [if_pos rfl] at hi
        clear HI
        rw [HC1.out] at hi
        have HI := Lib.hid (hi.ext (show Ext wc wc.drew from Ext.drewN _ 1))
        clear hi
        generalize wc.drew = w3 at *
        have fx := HI.out.rb.facts1.1
        have hxg := HI.out.ne.1
        repeat (first
          | (refine groB_pure rfl rfl ?_; intro K hK; go_simp; refine hK _ ?_; clear hK K)
          | (refine groB_read rfl rfl ?_; intro K S hS hK; go_simp; refine hK _ ?_; clear hK K hS S)
          | (refine groB_read rfl rfl ?_; intro K S hS hK; go_simp; refine ⟨hS _ ?_, hK _ ?_⟩; (clear hK K hS S; intro w' hx'; have hce := grown_some hx'; go_simp); clear hK K hS S))
        refine groB_grow rfl rfl ?_
        intro K hK
        go_simp
        (refine (some_call g _ _ w3).mono ?_; rintro en w4 ⟨rfl, rfl⟩)
        go_simp
        refine hK _ _ ⟨(grown_of_ext ((Ext.alloc _ _).trans (Ext.alloc _ _)) g), ?_⟩
        clear hK K
        have r1 := (RowAt.new w3 65 [.pointer (some ⟨g, 0, none⟩)]).ext (Ext.alloc _ (.cells #[.func (.func 82) #[] #[.pointer (some ⟨y, 0, none⟩), .pointer (some ⟨x, 0, none⟩)]] 80))
        have r2 : RowAt ((w3.alloc (.cells #[.pointer (some ⟨g, 0, none⟩)] 65)).alloc (.cells #[.func (.func 82) #[] #[.pointer (some ⟨y, 0, none⟩), .pointer (some ⟨x, 0, none⟩)]] 80)) (w3.heap.size + 1) 80 [.func (.func 82) #[] #[.pointer (some ⟨y, 0, none⟩), .pointer (some ⟨x, 0, none⟩)]] := row_at (by simp)
        have HI4 := Lib.hid (HI.out.ext ((Ext.alloc w3 (.cells #[.pointer (some ⟨g, 0, none⟩)] 65)).trans (Ext.alloc _ (.cells #[.func (.func 82) #[] #[.pointer (some ⟨y, 0, none⟩), .pointer (some ⟨x, 0, none⟩)]] 80))))
        have HCO := Lib.hid (collect_ret hl HI4.out.rd HI4.out.met rfl r1 r2 HI4.out.mb HI4.out.rb hb HP.out)
        clear r1 r2 fx HI
        generalize ((w3.alloc (.cells #[.pointer (some ⟨g, 0, none⟩)] 65)).alloc (.cells #[.func (.func 82) #[] #[.pointer (some ⟨y, 0, none⟩), .pointer (some ⟨x, 0, none⟩)]] 80)) = w4 at *
        cases hrp : retP ts vars vars.length [] (p + 1) with
        | error q =>
          rw [hrp] at HCO HRS
          clear hrp
          refine groB_grow rfl rfl ?_
          intro K hK
          go_simp
          refine HCO.out.mono ?_
          rintro en w5 ⟨rfl, hr5, hg5⟩
          have HI5 := Lib.hid (HI4.out.turn hr5 hg5)
          clear hr5 hg5 hK HCO
          unfold wrongE
          dsimp only
          clear K
          go_wp2_with fail
          exact ⟨rfl, toldQ_bad (toldP_1 HRS.out) HI5.out.rd HI5.out.gr⟩
        | ok lq =>
          obtain ⟨l, q⟩ := lq
          rw [hrp] at HCO HRS
          clear hrp
          refine groB_grow rfl rfl ?_
          intro K hK
          go_simp
          refine HCO.out.mono ?_
          rintro en w5 ⟨rv, rfl, ho5, hr5, hg5⟩
          go_simp
          refine hK _ _ ⟨hg5, ?_⟩
          clear hK K
          have HI5 := Lib.hid (HI4.out.turn hr5 hg5)
          have HO5 := Lib.hid (show Own9 w0 w5 rv l from own_base ho5 HI4.out.rd.ext.size)
          clear hr5 hg5 ho5 HCO HI4
          obtain ⟨rva, rvc, rfl⟩ := own_vw HO5.out
          have f1 := HI5.out.rd.row.cell (i := 1) rfl
          have f1f := HI5.out.rd.row.frozen 1
          repeat (first
            | (refine groB_pure rfl rfl ?_; intro K hK; go_simp; refine hK _ ?_; clear hK K)
            | (refine groB_read rfl rfl ?_; intro K S hS hK; go_simp; refine hK _ ?_; clear hK K hS S)
            | (refine groB_read rfl rfl ?_; intro K S hS hK; go_simp; refine ⟨hS _ ?_, hK _ ?_⟩; (clear hK K hS S; intro w' hx'; have hce := grown_some hx'; go_simp); clear hK K hS S))
          refine groB_grow rfl rfl ?_
          intro K hK
          go_simp
          refine hK _ _ ⟨grown_set w5 g 1 (.slice rva l.length rvc), ?_⟩
          clear hK K
          refine groB_nil ?_
          have HI6 := Lib.hid (HI5.out.fld (c' := rcT av (.slice vva vars.length vvc) m d e (.slice rva l.length rvc) false false false 0 0 (.slice none 0 0)) 1 (.slice rva l.length rvc) rfl)
          have HO6 := Lib.hid (HO5.out.turn HI5.out.rd (grown_set w5 g 1 (.slice rva l.length rvc)))
          clear f1 f1f HI5 HO5
          go_wp2_with fail
          go_meet
          exact Lib.hid ⟨l, q, _, HRS.out, HI6.out, HO6.out⟩
    case rest =>
      obtain ⟨r, q, rv, hr1, hi, ho⟩ := hcut.out
      obtain ⟨rva, rvc, rfl⟩ := own_vw ho
      clear hcut HI HC1 HB1
      have HR1 := Lib.hid hr1
      have HI := Lib.hid hi
      have HO := Lib.hid ho
      clear hr1 hi ho
      have fx := HI.out.rb.facts1.1
      have HW := Lib.hid (word_any' HI.out.rd wCount hl)
      obtain ⟨b, hbb⟩ : ∃ b, saysP ts wCount q = b := ⟨_, rfl⟩
      rw [hbb] at HW
      have HB := Lib.hid hbb
      clear hbb
      go_wp2_with fail
      refine HW.out.mono ?_
      rintro en w2 ⟨rfl, hr2, hg2⟩
      have HI2 := Lib.hid (HI.out.turn hr2 hg2)
      have HO2 := Lib.hid (HO.out.turn HI.out.rd hg2)
      clear hr2 hg2 HW fx HI HO
      go_upto_if 23 with fail
      go_cut [] (fun wx => Hid (∃ gg q2, toldPage ts q = .ok (gg, q2) ∧ ToI w0 ts tv g m vars w x y (rcT av (.slice vva vars.length vvc) m d e (.slice rva r.length rvc) gg.1 gg.2.1 gg.2.2.1 gg.2.2.2.1 gg.2.2.2.2 (.slice none 0 0)) q2 wx ∧ Own9 w0 wx (.slice rva r.length rvc) r))
      case first =>
        cases b with
        | true =>
          rw [if_pos rfl] at HI2
          have HPG := Lib.hid (toldPage_yes HB.out)
          clear HB
          go_upto_region 5 with fail
          refine wp_region_grob g groL5 [0, 1, 2, 3, 4, 5, 6, 7, 8, 9, 10, 11] hmo (by kernel_rfl) rfl (by kernel_rfl) (fun _ _ _ _ _ h => h) ?_
          have HI := Lib.hid (HI2.out.ext (show Ext w2 w2.drew from Ext.drewN _ 1))
          have HO := Lib.hid (HO2.out.turn HI2.out.rd (grown_of_ext (show Ext w2 w2.drew from Ext.drewN _ 1) g))
          clear HI2 HO2
          generalize w2.drew = w3 at *
          have fx := HI.out.rb.facts1.1
          have hxg := HI.out.ne.1
          have HW := Lib.hid (word_any' HI.out.rd wDistinct hl)
          obtain ⟨b, hbb⟩ : ∃ b, saysP ts wDistinct (q + 1) = b := ⟨_, rfl⟩
          rw [hbb] at HW HPG
          clear hbb
          repeat (first
            | (refine groB_pure rfl rfl ?_; intro K hK; go_simp; refine hK _ ?_; clear hK K)
            | (refine groB_read rfl rfl ?_; intro K S hS hK; go_simp; refine hK _ ?_; clear hK K hS S)
            | (refine groB_read rfl rfl ?_; intro K S hS hK; go_simp; refine ⟨hS _ ?_, hK _ ?_⟩; (clear hK K hS S; intro w' hx'; have hce := grown_some hx'; go_simp); clear hK K hS S))
          refine groB_grow rfl rfl ?_
          intro K hK
          go_simp
          refine HW.out.mono ?_
          rintro en w4 ⟨rfl, hr4, hg4⟩
          go_simp
          refine hK _ _ ⟨hg4, ?_⟩
          clear hK K
          have HI4 := Lib.hid (HI.out.turn hr4 hg4)
          have HO4 := Lib.hid (HO.out.turn HI.out.rd hg4)
          clear hr4 hg4 HW fx HI HO
          have f1 := HI4.out.rd.row.cell (i := 2) rfl
          have f1f := HI4.out.rd.row.frozen 2
          repeat (first
            | (refine groB_pure rfl rfl ?_; intro K hK; go_simp; refine hK _ ?_; clear hK K)
            | (refine groB_read rfl rfl ?_; intro K S hS hK; go_simp; refine hK _ ?_; clear hK K hS S)
            | (refine groB_read rfl rfl ?_; intro K S hS hK; go_simp; refine ⟨hS _ ?_, hK _ ?_⟩; (clear hK K hS S; intro w' hx'; have hce := grown_some hx'; go_simp); clear hK K hS S))
          refine groB_grow rfl rfl ?_
          intro K hK
          go_simp
          refine hK _ _ ⟨grown_set w4 g 2 (.bool true), ?_⟩
          clear hK K
          have HI5 := Lib.hid (HI4.out.fld (c' := rcT av (.slice vva vars.length vvc) m d e (.slice rva r.length rvc) true false false 0 0 (.slice none 0 0)) 2 (.bool true) rfl)
          have HO5 := Lib.hid (HO4.out.turn HI4.out.rd (grown_set w4 g 2 (.bool true)))
          clear f1 f1f HI4 HO4
          generalize w4.setCell ⟨g, 2, none⟩ (.bool true) = w5 at *
          have f1 := HI5.out.rd.row.cell (i := 3) rfl
          have f1f := HI5.out.rd.row.frozen 3
          repeat (first
            | (refine groB_pure rfl rfl ?_; intro K hK; go_simp; refine hK _ ?_; clear hK K)
            | (refine groB_read rfl rfl ?_; intro K S hS hK; go_simp; refine hK _ ?_; clear hK K hS S)
            | (refine groB_read rfl rfl ?_; intro K S hS hK; go_simp; refine ⟨hS _ ?_, hK _ ?_⟩; (clear hK K hS S; intro w' hx'; have hce := grown_some hx'; go_simp); clear hK K hS S))
          refine groB_grow rfl rfl ?_
          intro K hK
          go_simp
          refine hK _ _ ⟨grown_set w5 g 3 (.bool b), ?_⟩
          clear hK K
          refine groB_nil ?_
          have HI6 := Lib.hid (HI5.out.fld (c' := rcT av (.slice vva vars.length vvc) m d e (.slice rva r.length rvc) true b false 0 0 (.slice none 0 0)) 3 (.bool b) rfl)
          have HO6 := Lib.hid (HO5.out.turn HI5.out.rd (grown_set w5 g 3 (.bool b)))
          clear f1 f1f HI5 HO5
          go_wp2_with fail
          go_meet
          exact Lib.hid ⟨_, _, HPG.out, HI6.out, HO6.out⟩
        | false =>
          rw [if_neg (by decide)] at HI2
          have HPG := Lib.hid (toldPage_no HB.out)
          clear HB
          have fx := HI2.out.rb.facts1.1
          have HW := Lib.hid (word_any' HI2.out.rd wLimit hl)
          obtain ⟨b, hbb⟩ : ∃ b, saysP ts wLimit q = b := ⟨_, rfl⟩
          rw [hbb] at HW
          have HB := Lib.hid hbb
          clear hbb
          go_wp2_with fail
          refine HW.out.mono ?_
          rintro en w3 ⟨rfl, hr3, hg3⟩
          have HI3 := Lib.hid (HI2.out.turn hr3 hg3)
          have HO3 := Lib.hid (HO2.out.turn HI2.out.rd hg3)
          clear hr3 hg3 HW fx HI2 HO2
          go_upto_if 35 with fail
          go_cut [] (fun wx => Hid (∃ lm li q2, limP ts q = .ok (lm, li, q2) ∧ ToI w0 ts tv g m vars w x y (rcT av (.slice vva vars.length vvc) m d e (.slice rva r.length rvc) false false lm li 0 (.slice none 0 0)) q2 wx ∧ Own9 w0 wx (.slice rva r.length rvc) r))
          case first =>
            cases b with
            | false =>
              rw [if_neg (by decide)] at HI3
              go_wp2_with fail
              go_meet
              exact Lib.hid ⟨false, 0, q, by unfold limP; rw [if_neg (by rw [HB.out]; decide)], HI3.out, HO3.out⟩
            | true =>
              rw [if_pos rfl] at HI3
              go_upto_region 7 with fail
              refine wp_region_grob g groL5 [0, 1, 2, 3, 4, 5, 6, 7, 8, 9, 10, 11] hmo (by kernel_rfl) rfl (by kernel_rfl) (fun _ _ _ _ _ h => h) ?_
              have HI := Lib.hid (HI3.out.ext (show Ext w3 w3.drew from Ext.drewN _ 1))
              have HO := Lib.hid (HO3.out.turn HI3.out.rd (grown_of_ext (show Ext w3 w3.drew from Ext.drewN _ 1) g))
              clear HI3 HO3
              generalize w3.drew = w4 at *
              have fx := HI.out.rb.facts1.1
              have hxg := HI.out.ne.1
              repeat (first
                | (refine groB_pure rfl rfl ?_; intro K hK; go_simp; refine hK _ ?_; clear hK K)
                | (refine groB_read rfl rfl ?_; intro K S hS hK; go_simp; refine hK _ ?_; clear hK K hS S)
                | (refine groB_read rfl rfl ?_; intro K S hS hK; go_simp; refine ⟨hS _ ?_, hK _ ?_⟩; (clear hK K hS S; intro w' hx'; have hce := grown_some hx'; go_simp); clear hK K hS S))
              have HNM := Lib.hid (number_any' HI.out.rd hl)
              cases hnp : numP ts (q + 1) with
              | error qe =>
                rw [hnp] at HNM
                have HE := Lib.hid ((fun h => by rw [HPG.out]; unfold limP; rw [if_pos HB.out, h]; rfl : _ → toldPage ts q = .error qe) hnp)
                clear hnp
                refine groB_grow rfl rfl ?_
                intro K hK
                go_simp
                refine HNM.out.mono ?_
                rintro en w5 ⟨rfl, hr5, hg5⟩
                have HI5 := Lib.hid (HI.out.turn hr5 hg5)
                clear hr5 hg5 hK HNM
                unfold wrongE
                dsimp only
                clear K
                go_wp2_with fail
                exact ⟨rfl, toldQ_bad (toldP_2 HR1.out HE.out) HI5.out.rd HI5.out.gr⟩
              | ok nq =>
                obtain ⟨n, q2⟩ := nq
                rw [hnp] at HNM
                have HE := Lib.hid hnp
                clear hnp
                refine groB_grow rfl rfl ?_
                intro K hK
                go_simp
                refine HNM.out.mono ?_
                rintro en w5 ⟨rfl, hr5, hg5⟩
                go_simp
                refine hK _ _ ⟨hg5, ?_⟩
                clear hK K
                have HI5 := Lib.hid (HI.out.turn hr5 hg5)
                have HO5 := Lib.hid (HO.out.turn HI.out.rd hg5)
                clear hr5 hg5 HNM fx HI HO
                have f1 := HI5.out.rd.row.cell (i := 4) rfl
                have f1f := HI5.out.rd.row.frozen 4
                repeat (first
                  | (refine groB_pure rfl rfl ?_; intro K hK; go_simp; refine hK _ ?_; clear hK K)
                  | (refine groB_read rfl rfl ?_; intro K S hS hK; go_simp; refine hK _ ?_; clear hK K hS S)
                  | (refine groB_read rfl rfl ?_; intro K S hS hK; go_simp; refine ⟨hS _ ?_, hK _ ?_⟩; (clear hK K hS S; intro w' hx'; have hce := grown_some hx'; go_simp); clear hK K hS S))
                refine groB_grow rfl rfl ?_
                intro K hK
                go_simp
                refine hK _ _ ⟨grown_set w5 g 4 (.bool true), ?_⟩
                clear hK K
                have HI6 := Lib.hid (HI5.out.fld (c' := rcT av (.slice vva vars.length vvc) m d e (.slice rva r.length rvc) false false true 0 0 (.slice none 0 0)) 4 (.bool true) rfl)
                have HO6 := Lib.hid (HO5.out.turn HI5.out.rd (grown_set w5 g 4 (.bool true)))
                clear f1 f1f HI5 HO5
                generalize w5.setCell ⟨g, 4, none⟩ (.bool true) = w6 at *
                have f1 := HI6.out.rd.row.cell (i := 5) rfl
                have f1f := HI6.out.rd.row.frozen 5
                repeat (first
                  | (refine groB_pure rfl rfl ?_; intro K hK; go_simp; refine hK _ ?_; clear hK K)
                  | (refine groB_read rfl rfl ?_; intro K S hS hK; go_simp; refine hK _ ?_; clear hK K hS S)
                  | (refine groB_read rfl rfl ?_; intro K S hS hK; go_simp; refine ⟨hS _ ?_, hK _ ?_⟩; (clear hK K hS S; intro w' hx'; have hce := grown_some hx'; go_simp); clear hK K hS S))
                refine groB_grow rfl rfl ?_
                intro K hK
                go_simp
                refine hK _ _ ⟨grown_set w6 g 5 (.int .i64 n), ?_⟩
                clear hK K
                refine groB_nil ?_
                have HI7 := Lib.hid (HI6.out.fld (c' := rcT av (.slice vva vars.length vvc) m d e (.slice rva r.length rvc) false false true n 0 (.slice none 0 0)) 5 (.int .i64 n) rfl)
                have HO7 := Lib.hid (HO6.out.turn HI6.out.rd (grown_set w6 g 5 (.int .i64 n)))
                clear f1 f1f HI6 HO6
                go_wp2_with fail
                go_meet
                exact Lib.hid ⟨true, n, q2, by unfold limP; rw [if_pos HB.out, HE.out]; rfl, HI7.out, HO7.out⟩
          case rest =>
            obtain ⟨lm, li, q1, hlp, hi, ho⟩ := hcut.out
            clear hcut HI3 HO3 HB
            have HLP := Lib.hid hlp
            have HI3 := Lib.hid hi
            have HO3 := Lib.hid ho
            clear hlp hi ho
            have fx := HI3.out.rb.facts1.1
            have HW := Lib.hid (word_any' HI3.out.rd wOffset hl)
            obtain ⟨b, hbb⟩ : ∃ b, saysP ts wOffset q1 = b := ⟨_, rfl⟩
            rw [hbb] at HW
            have HB := Lib.hid hbb
            clear hbb
            go_wp2_with fail
            refine HW.out.mono ?_
            rintro en w4 ⟨rfl, hr4, hg4⟩
            have HI4 := Lib.hid (HI3.out.turn hr4 hg4)
            have HO4 := Lib.hid (HO3.out.turn HI3.out.rd hg4)
            clear hr4 hg4 HW fx HI3 HO3
            cases b with
            | false =>
              rw [if_neg (by decide)] at HI4
              go_wp2_with fail
              go_meet
              exact Lib.hid ⟨(false, false, lm, li, 0), q1, by rw [HPG.out, HLP.out]; simp only [Except.bind]; unfold offP; rw [if_neg (by rw [HB.out]; decide)], HI4.out, HO4.out⟩
            | true =>
              rw [if_pos rfl] at HI4
              go_upto_region 9 with fail
              refine wp_region_grob g groL9 [0, 1, 2, 3, 4, 5, 6] hmo (by kernel_rfl) rfl (by kernel_rfl) (fun _ _ _ _ _ h => h) ?_
              have HI := Lib.hid (HI4.out.ext (show Ext w4 w4.drew from Ext.drewN _ 1))
              have HO := Lib.hid (HO4.out.turn HI4.out.rd (grown_of_ext (show Ext w4 w4.drew from Ext.drewN _ 1) g))
              clear HI4 HO4
              generalize w4.drew = w3 at *
              have fx := HI.out.rb.facts1.1
              have hxg := HI.out.ne.1
              repeat (first
                | (refine groB_pure rfl rfl ?_; intro K hK; go_simp; refine hK _ ?_; clear hK K)
                | (refine groB_read rfl rfl ?_; intro K S hS hK; go_simp; refine hK _ ?_; clear hK K hS S)
                | (refine groB_read rfl rfl ?_; intro K S hS hK; go_simp; refine ⟨hS _ ?_, hK _ ?_⟩; (clear hK K hS S; intro w' hx'; have hce := grown_some hx'; go_simp); clear hK K hS S))
              have HNM := Lib.hid (number_any' HI.out.rd hl)
              cases hnp : numP ts (q1 + 1) with
              | error qe =>
                rw [hnp] at HNM
                have HE := Lib.hid ((fun h => by rw [HPG.out, HLP.out]; simp only [Except.bind]; unfold offP; rw [if_pos HB.out, h]; rfl : _ → toldPage ts q = .error qe) hnp)
                clear hnp
                refine groB_grow rfl rfl ?_
                intro K hK
                go_simp
                refine HNM.out.mono ?_
                rintro en w5 ⟨rfl, hr5, hg5⟩
                have HI5 := Lib.hid (HI.out.turn hr5 hg5)
                clear hr5 hg5 hK HNM
                unfold wrongE
                dsimp only
                clear K
                go_wp2_with fail
                exact ⟨rfl, toldQ_bad (toldP_2 HR1.out HE.out) HI5.out.rd HI5.out.gr⟩
              | ok nq =>
                obtain ⟨n, q2⟩ := nq
                rw [hnp] at HNM
                have HE := Lib.hid hnp
                clear hnp
                refine groB_grow rfl rfl ?_
                intro K hK
                go_simp
                refine HNM.out.mono ?_
                rintro en w5 ⟨rfl, hr5, hg5⟩
                go_simp
                refine hK _ _ ⟨hg5, ?_⟩
                clear hK K
                have HI5 := Lib.hid (HI.out.turn hr5 hg5)
                have HO5 := Lib.hid (HO.out.turn HI.out.rd hg5)
                clear hr5 hg5 HNM fx HI HO
                have f1 := HI5.out.rd.row.cell (i := 6) rfl
                have f1f := HI5.out.rd.row.frozen 6
                repeat (first
                  | (refine groB_pure rfl rfl ?_; intro K hK; go_simp; refine hK _ ?_; clear hK K)
                  | (refine groB_read rfl rfl ?_; intro K S hS hK; go_simp; refine hK _ ?_; clear hK K hS S)
                  | (refine groB_read rfl rfl ?_; intro K S hS hK; go_simp; refine ⟨hS _ ?_, hK _ ?_⟩; (clear hK K hS S; intro w' hx'; have hce := grown_some hx'; go_simp); clear hK K hS S))
                refine groB_grow rfl rfl ?_
                intro K hK
                go_simp
                refine hK _ _ ⟨grown_set w5 g 6 (.int .i64 n), ?_⟩
                clear hK K
                refine groB_nil ?_
                have HI7 := Lib.hid (HI5.out.fld (c' := rcT av (.slice vva vars.length vvc) m d e (.slice rva r.length rvc) false false lm li n (.slice none 0 0)) 6 (.int .i64 n) rfl)
                have HO7 := Lib.hid (HO5.out.turn HI5.out.rd (grown_set w5 g 6 (.int .i64 n)))
                clear f1 f1f HI5 HO5
                go_wp2_with fail
                go_meet
                exact Lib.hid ⟨(false, false, lm, li, n), q2, by rw [HPG.out, HLP.out]; simp only [Except.bind]; unfold offP; rw [if_pos HB.out, HE.out]; rfl, HI7.out, HO7.out⟩
      case rest =>
        obtain ⟨gg, q1, hpg, hi, ho⟩ := hcut.out
        obtain ⟨cn, ds, lm, li, off⟩ := gg
        dsimp only at hi
        clear hcut HI2 HO2 HB
        have HPG := Lib.hid hpg
        have HI := Lib.hid hi
        have HO := Lib.hid ho
        clear hpg hi ho
        go_upto_region 10 with fail
        go_cut [59] (fun s59 wx => Hid (∃ b, s59 = .bool b ∧ b = (decide (vars ≠ []) && saysP ts wHint q1) ∧ ToI w0 ts tv g m vars w x y (rcT av (.slice vva vars.length vvc) m d e (.slice rva r.length rvc) cn ds lm li off (.slice none 0 0)) (if b = true then q1 + 1 else q1) wx ∧ Own9 w0 wx (.slice rva r.length rvc) r))
        case first =>
          have fx := HI.out.rb.facts1.1
          have fy := HI.out.mb.facts1.1
          by_cases hv : vars = []
          · have hd : decide ((0 : Int) < (vars.length : Int)) = false := by rw [hv]; rfl
            have hd2 : decide (0 < vars.length) = false := by rw [hv]; rfl
            have hres : (decide (vars ≠ []) && saysP ts wHint q1) = false := by rw [hv]; rfl
            have HR := Lib.hid hres
            clear hres hv
            go_wp2_with fail
            go_meet
            exact Lib.hid ⟨false, rfl, HR.out.symm, HI.out, HO.out⟩
          · have hv2 : 0 < vars.length := List.length_pos_iff.2 hv
            have hd : decide ((0 : Int) < (vars.length : Int)) = true := decide_eq_true (by omega)
            have hd2 : decide (0 < vars.length) = true := decide_eq_true hv2
            have hres : (decide (vars ≠ []) && saysP ts wHint q1) = saysP ts wHint q1 := by rw [decide_eq_true hv]; rfl
            have HW := Lib.hid (word_any' HI.out.rd wHint hl)
            obtain ⟨b, hbb⟩ : ∃ b, saysP ts wHint q1 = b := ⟨_, rfl⟩
            have HR := Lib.hid (hres.trans hbb)
            rw [hbb] at HW
            clear hres hv hbb hv2
            go_wp2_with fail
            refine HW.out.mono ?_
            rintro en w3 ⟨rfl, hr3, hg3⟩
            have HI3 := Lib.hid (HI.out.turn hr3 hg3)
            have HO3 := Lib.hid (HO.out.turn HI.out.rd hg3)
            clear hr3 hg3 HW fx fy
            go_wp2_with fail
            go_meet
            exact Lib.hid ⟨b, rfl, HR.out.symm, HI3.out, HO3.out⟩
        case rest =>
          obtain ⟨b, rfl, hb1, hi1, ho1⟩ := hcut.out
          clear hcut HI HO
          have HB1 := Lib.hid hb1
          have HI := Lib.hid hi1
          have HO := Lib.hid ho1
          clear hb1 hi1 ho1
          cases b with
          | false =>
            rw [if_neg (by decide)] at HI
            go_wp2_with fail
            go_end0
            have hh : toldHint ts vars q1 = .ok ([], q1) := by
              unfold toldHint
              rw [if_neg (fun hh => by have h1 := HB1.out; rw [decide_eq_true hh.1, hh.2] at h1; cases h1)]
            rw [toldP_ok HR1.out HPG.out hh]
            exact ⟨rfl, ⟨_, _, HI.out.rd, HO.out, Own9.nil⟩, HI.out.gr⟩
          | true =>
            have hvs : vars ≠ [] ∧ saysP ts wHint q1 = true := by
              have h1 := HB1.out
              simpa using h1.symm
            have hres : toldHint ts vars q1 = hintP ts vars vars.length [] (q1 + 1) := by unfold toldHint; rw [if_pos hvs]
            have hpos : 0 < vars.length := List.length_pos_iff.2 hvs.1
            have HP := Lib.hid hpos
            have HRS := Lib.hid hres
            clear hvs hres hpos
            go_upto_region 11 with fail
            refine wp_region_grob g groL3 [0, 1, 2, 3, 4, 5, 6, 7, 8] hmo (by kernel_rfl) rfl (by kernel_rfl) (fun _ _ _ _ _ h => h) ?_
            rw [if_pos rfl] at HI
            have hi := HI.out.ext (show Ext wc wc.drew from Ext.drewN _ 1)
            have ho := HO.out.turn HI.out.rd (grown_of_ext (show Ext wc wc.drew from Ext.drewN _ 1) g)
            clear HI HO
            have HI := Lib.hid hi
            have HO := Lib.hid ho
            clear hi ho
            generalize wc.drew = w3 at *
            have fx := HI.out.rb.facts1.1
            have hxg := HI.out.ne.1
            repeat (first
              | (refine groB_pure rfl rfl ?_; intro K hK; go_simp; refine hK _ ?_; clear hK K)
              | (refine groB_read rfl rfl ?_; intro K S hS hK; go_simp; refine hK _ ?_; clear hK K hS S)
              | (refine groB_read rfl rfl ?_; intro K S hS hK; go_simp; refine ⟨hS _ ?_, hK _ ?_⟩; (clear hK K hS S; intro w' hx'; have hce := grown_some hx'; go_simp); clear hK K hS S))
            refine groB_grow rfl rfl ?_
            intro K hK
            go_simp
            (refine (some_call g _ _ w3).mono ?_; rintro en w4 ⟨rfl, rfl⟩)
            go_simp
            refine hK _ _ ⟨(grown_of_ext ((Ext.alloc _ _).trans (Ext.alloc _ _)) g), ?_⟩
            clear hK K
            have r1 := (RowAt.new w3 65 [.pointer (some ⟨g, 0, none⟩)]).ext (Ext.alloc _ (.cells #[.func (.func 84) #[] #[.pointer (some ⟨y, 0, none⟩)]] 80))
            have r2 : RowAt ((w3.alloc (.cells #[.pointer (some ⟨g, 0, none⟩)] 65)).alloc (.cells #[.func (.func 84) #[] #[.pointer (some ⟨y, 0, none⟩)]] 80)) (w3.heap.size + 1) 80 [.func (.func 84) #[] #[.pointer (some ⟨y, 0, none⟩)]] := row_at (by simp)
            have hxx := (Ext.alloc w3 (.cells #[.pointer (some ⟨g, 0, none⟩)] 65)).trans (Ext.alloc _ (.cells #[.func (.func 84) #[] #[.pointer (some ⟨y, 0, none⟩)]] 80))
            have HI4 := Lib.hid (HI.out.ext hxx)
            have HO4 := Lib.hid (HO.out.turn HI.out.rd (grown_of_ext hxx g))
            have HCO := Lib.hid (collect_hint hl HI4.out.rd HI4.out.met rfl r1 r2 HI4.out.mb hb HP.out)
            clear r1 r2 fx HI HO hxx
            generalize ((w3.alloc (.cells #[.pointer (some ⟨g, 0, none⟩)] 65)).alloc (.cells #[.func (.func 84) #[] #[.pointer (some ⟨y, 0, none⟩)]] 80)) = w4 at *
            cases hrp : hintP ts vars vars.length [] (q1 + 1) with
            | error qe =>
              rw [hrp] at HCO HRS
              clear hrp
              refine groB_grow rfl rfl ?_
              intro K hK
              go_simp
              refine HCO.out.mono ?_
              rintro en w5 ⟨rfl, hr5, hg5⟩
              have HI5 := Lib.hid (HI4.out.turn hr5 hg5)
              clear hr5 hg5 hK HCO
              unfold wrongE
              dsimp only
              clear K
              go_wp2_with fail
              exact ⟨rfl, toldQ_bad (toldP_3 HR1.out HPG.out HRS.out) HI5.out.rd HI5.out.gr⟩
            | ok lq =>
              obtain ⟨l, q2⟩ := lq
              rw [hrp] at HCO HRS
              clear hrp
              refine groB_grow rfl rfl ?_
              intro K hK
              go_simp
              refine HCO.out.mono ?_
              rintro en w5 ⟨hv, rfl, ho5, hr5, hg5⟩
              go_simp
              refine hK _ _ ⟨hg5, ?_⟩
              clear hK K
              have HI5 := Lib.hid (HI4.out.turn hr5 hg5)
              have HO5 := Lib.hid (HO4.out.turn HI4.out.rd hg5)
              have HH5 := Lib.hid (show Own9 w0 w5 hv l from own_base ho5 HI4.out.rd.ext.size)
              clear hr5 hg5 ho5 HCO HI4 HO4
              obtain ⟨hva, hvc, rfl⟩ := own_vw HH5.out
              have f1 := HI5.out.rd.row.cell (i := 7) rfl
              have f1f := HI5.out.rd.row.frozen 7
              repeat (first
                | (refine groB_pure rfl rfl ?_; intro K hK; go_simp; refine hK _ ?_; clear hK K)
                | (refine groB_read rfl rfl ?_; intro K S hS hK; go_simp; refine hK _ ?_; clear hK K hS S)
                | (refine groB_read rfl rfl ?_; intro K S hS hK; go_simp; refine ⟨hS _ ?_, hK _ ?_⟩; (clear hK K hS S; intro w' hx'; have hce := grown_some hx'; go_simp); clear hK K hS S))
              refine groB_grow rfl rfl ?_
              intro K hK
              go_simp
              refine hK _ _ ⟨grown_set w5 g 7 (.slice hva l.length hvc), ?_⟩
              clear hK K
              refine groB_nil ?_
              have HI6 := Lib.hid (HI5.out.fld (c' := rcT av (.slice vva vars.length vvc) m d e (.slice rva r.length rvc) cn ds lm li off (.slice hva l.length hvc)) 7 (.slice hva l.length hvc) rfl)
              have HO6 := Lib.hid (HO5.out.turn HI5.out.rd (grown_set w5 g 7 (.slice hva l.length hvc)))
              have HH6 := Lib.hid (HH5.out.turn HI5.out.rd (grown_set w5 g 7 (.slice hva l.length hvc)))
              clear f1 f1f HI5 HO5 HH5
              go_wp2_with fail
              go_end0
              rw [toldP_ok HR1.out HPG.out HRS.out]
              exact ⟨rfl, ⟨_, _, HI6.out.rd, HO6.out, HH6.out⟩, HI6.out.gr⟩
end Go.Proofs.Ytngnplghjaojhaa
