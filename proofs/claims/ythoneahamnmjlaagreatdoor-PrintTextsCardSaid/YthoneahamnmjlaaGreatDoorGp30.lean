/- A pattern's text: the walk. -/
import Derived.Test.YthoneahamnmjlaaGreatDoorGp29
import Derived.Test.YthoneahamnmjlaaGreatDoorGp21
import Derived.Test.YthoneahamnmjlaaGreatDoorGp27
import Derived.Test.YthoneahamnmjlaaGreatDoorGp17
import Derived.Test.YthoneahamnmjlaaGreatDoorGp01
import Derived.Test.YthoneahamnmjlaaGreatDoorGp03
import Derived.Test.YthoneahamnmjlaaGreatDoorGp02
namespace Go.Proofs.YthoneahamnmjlaaGreatDoor
set_option maxRecDepth 100000
set_option maxHeartbeats 2000000
set_option linter.unusedSimpArgs false
open Go.RowKit Go.Shelf Go.Sort
attribute [local go_sem] Oper.semAt_some wide_fn wide_depth
set_option linter.unusedVariables false

/-- What holds when k parts have been gathered. -/
structure TxI (w : World) (bx : Nat) (ws : List (List UInt8)) (k : Nat) (v : Value) (W : World) : Prop where
  below : Ext w W
  lo : w.heap.size ≤ bx
  out : RowAt W bx 23 [v]
  own : W.ownsRow (bx + 1) 9 1 v k ((ws.take k).map fun s => Value.string (txt s))
def KtS (t : TypeId) : Prop := t = 97
theorem TxI.stab (w : World) (bx : Nat) (ws : List (List UInt8)) (k : Nat) (v : Value) {X B : Nat} (hX : w.heap.size ≤ X) (hB : w.heap.size ≤ B) : PStab 97 X B (TxI w bx ws k v) := fun W W' ht h =>
  ⟨PStab.below _ _ hX hB (Nat.le_refl _) W W' ht h.below, h.lo, PStab.row _ _ _ (.inl (by decide)) W W' ht h.out, PStab.own _ _ _ _ _ _ (by decide) W W' ht h.own⟩
theorem TxI.ext {w : World} {bx : Nat} {ws : List (List UInt8)} {k : Nat} {v : Value} {W W' : World} (h : TxI w bx ws k v W) (hx : Ext W W') : TxI w bx ws k v W' :=
  ⟨h.below.trans hx, h.lo, h.out.ext hx, own_ext h.own hx⟩
theorem keepsC_own {Kt : TypeId → Prop} {X : Nat} {W W' : World} {base size n : Nat} {e : TypeId} {v : Value} {xs : List Value} (h : W.ownsRow base e size v n xs) (hg : W.grownBy W' v.ownBlock) (he : ¬ Kt e) : KeepsC Kt X W W' := by
  refine KeepsC.grown hg fun r hr => ?_
  rcases h.2 with hn | ⟨g, cap, cur, rfl, hbg, hgg, rest⟩
  · obtain ⟨rfl, -⟩ := hn
    cases hr
  · cases hr
    exact .inr ⟨_, hgg, fun cs t fr e' => by cases e'; exact he⟩
theorem keepsC_row {Kt : TypeId → Prop} {X : Nat} {W : World} {g : Nat} {t : TypeId} {xs : List Value} (h : RowAt W g t xs) (i : Nat) (v : Value) (ht : ¬ Kt t) : KeepsC Kt X W (W.setCell ⟨g, i, none⟩ v) :=
  KeepsC.grown (grown_set W g i v) fun r hr => by
    cases hr
    exact .inr ⟨_, h, fun cs t' fr e' => by cases e'; exact ht⟩
theorem TxI.next {w : World} {bx : Nat} {ws : List (List UInt8)} {k : Nat} {v v4 : Value} {W2 w4 : World} {B X : Nat} (h : TxI w bx ws k v W2) (hg : W2.grownBy w4 v.ownBlock) (hk : k < ws.length)
    (hown : w4.ownsRow (bx + 1) 9 1 v4 (k + 1) (((ws.take k).map fun s => Value.string (txt s)) ++ [Value.string (txt ws[k])])) :
    KeepsFrom B W2 (w4.setCell ⟨bx, 0, none⟩ v4) ∧ KeepsC KtS X W2 (w4.setCell ⟨bx, 0, none⟩ v4) ∧ TxI w bx ws (k + 1) v4 (w4.setCell ⟨bx, 0, none⟩ v4) := by
  have hne : v.ownBlock ≠ some bx := fun e => by have := (own_lt h.own e).1; omega
  have hout := h.out.kept hg hne
  have hlo := h.lo
  have hbel : Ext w w4 := h.below.grown hg h.below.size (fun r hr => by have := (own_lt h.own hr).1; omega)
  refine ⟨(keeps_own h.own hg).trans (keeps_set B hout.facts1.1 v4), (keepsC_own h.own hg (by unfold KtS; decide)).trans (keepsC_row hout 0 v4 (by unfold KtS; decide)), ?_, hlo, ?_, ?_⟩
  · exact Ext.set_of hbel hlo _
  · exact hout.set 0 v4
  · have := own_kept hown (grown_set w4 bx 0 v4) (fun r hr => by cases hr; omega)
    rw [List.take_succ_eq_append_getElem hk, List.map_append]
    exact this
theorem parts_ok {P : Pat} (h : P.okB = true) : PartsOk P := by
  obtain ⟨h1, h2, h3, h4, h5, h6, h7, h8, h9, h10⟩ := okB_facts h
  obtain ⟨hwr, hwh⟩ := okB_words h
  have hw : ∀ s : ByteArray, wordB s = true → (bts s).length ≤ 1000 := fun s hs => by
    rw [← wordB_all] at hs
    have := (allB_iff.1 hs).2.2
    omega
  have l1 := chosenB_len h5
  have l2 := chosenB_len h6
  unfold pagedP numB at h9
  simp only [Bool.and_eq_true, decide_eq_true_eq] at h9
  exact ⟨List.all_eq_true.1 h10, by omega, fun s hs => hw s (hwr s hs), by omega, fun s hs => hw s (hwh s hs), by omega, by omega, by omega⟩
theorem picks_small {P : Pat} (h : P.okB = true) : (picks (partsL P)).length ≤ 7 ∧ ∀ s ∈ picks (partsL P), s.length ≤ 100000 := by
  have hp := parts_ok h
  obtain ⟨h1, h2, h3, h4, h5, h6, h7, h8, h9, h10⟩ := okB_facts h
  have l1 := chosenB_len h5
  have l2 := chosenB_len h6
  refine ⟨by unfold picks; rw [List.length_map]; exact Nat.le_trans (List.length_filter_le _ _) (by unfold partsL; simp), ?_⟩
  have hj : ∀ (l : List ByteArray) (sep : List UInt8), (∀ s ∈ l, (bts s).length ≤ 1000) → l.length ≤ 32 → sep.length ≤ 10 → (Lib.join (l.map bts) sep).length ≤ 33000 := fun l sep h hn hs => by
    have := join_size (l.map bts) sep 1000 (fun x hx => by obtain ⟨s, hs, rfl⟩ := List.mem_map.1 hx; exact h s hs)
    rw [List.length_map] at this
    have h2 : l.length * (1000 + sep.length) ≤ 32 * 1010 := Nat.mul_le_mul hn (by omega)
    omega
  have ha : (atomsX P.atoms).length ≤ 60000 := by
    have := join_size (P.atoms.map atomX) [44, 32] 1000 (fun x hx => by
      obtain ⟨a, ham, rfl⟩ := List.mem_map.1 hx
      have := atomX_size a
      obtain ⟨z1, z2, z3, z4⟩ := Atm.size_of (hp.atoms a ham)
      omega)
    rw [List.length_map] at this
    have h2 : P.atoms.length * (1000 + ([44, 32] : List UInt8).length) ≤ 40 * 1010 := Nat.mul_le_mul h2 (by decide)
    unfold atomsX
    omega
  have hr := hj P.ret [44, 32] hp.ret (by omega) (by decide)
  have hh := hj P.hint [32] hp.hint (by omega) (by decide)
  have hl := Lib.itoa_length_le P.limit hp.lim.1 hp.lim.2
  have ho := Lib.itoa_length_le P.offset hp.off.1 hp.off.2
  have w1 : (bts wReturn).length = 6 := rfl
  have w2 : (bts wCount).length = 5 := rfl
  have w3 : (bts wDistinct).length = 8 := rfl
  have w4 : (bts wLimit).length = 5 := rfl
  have w5 : (bts wOffset).length = 6 := rfl
  have w6 : (bts wHint).length = 4 := rfl
  intro s hs
  obtain ⟨x, hx, rfl⟩ := List.mem_map.1 hs
  have hx := (List.mem_filter.1 hx).1
  unfold partsL at hx
  simp only [List.mem_cons, List.not_mem_nil, or_false] at hx
  rcases hx with rfl | rfl | rfl | rfl | rfl | rfl | rfl
  · dsimp only; omega
  · dsimp only [retW]; rw [List.length_append, List.length_cons]; omega
  · dsimp only; omega
  · dsimp only; omega
  · dsimp only [limW]; rw [List.length_append, List.length_cons]; omega
  · dsimp only [offW]; rw [List.length_append, List.length_cons]; omega
  · dsimp only [hintW]; rw [List.length_append, List.length_cons]; omega
theorem Pows.stab (B : Nat) : Stab B Pows := fun W W' row h hg hr => by
  unfold Pows Lib.TabIs World.var? at h ⊢
  rw [show Tryz.prog.globalNamed "internal/strconv.uint64pow10" = some 0 by kernel_rfl] at h ⊢
  simp only [Option.bind_some] at h ⊢
  cases hh : W.heap[0]? with
  | none => rw [hh] at h; cases h
  | some o =>
    rw [hg.block _ (Array.getElem?_eq_some_iff.1 hh).1 (fun e => by
      obtain ⟨_, o', ho, hc⟩ := hr _ e.symm
      rw [hh] at ho
      cases ho
      rw [hh] at h
      cases o with
      | cells cs t fr => cases hc
      | _ => cases h)]
    exact h
theorem PartsAt.stab (x : Nat) (P : Pat) (B : Nat) : Stab B (PartsAt x P) := fun W W' row h hg hr => by
  obtain ⟨av, rv, hv, h1, h2, h3, h4⟩ := h.row
  refine ⟨⟨av, rv, hv, ?_, Stab.sl B _ _ _ W W' row h2 hg hr, Stab.sl B _ _ _ W W' row h3 hg hr, Stab.sl B _ _ _ W W' row h4 hg hr⟩, Pows.stab B W W' row h.pows hg hr⟩
  exact h1.kept hg (fun e => by
    obtain ⟨_, o, ho, hc⟩ := hr x e
    rw [show W.heap[x]? = _ from h1] at ho
    cases ho; cases hc)
set_option maxRecDepth 100000 in
set_option maxHeartbeats 2000000 in
theorem Text_any (v : Value) (P : Pat) (w : World) (h : PatAt w v P) (hf : P.Fits) (hW : Pows w) :
    Calls Tryz.prog 14 #[v] w fun e w' => e = .returned (.tuple #[.string (textF P).1, .int .i64 (textF P).2]) ∧ Ext w w' := by
  have hck := fun w' (hx : Ext w w') => checkP_any v P w' (h.ext hx) hf
  obtain ⟨av, rv, hv, rfl, ha, hr, hh⟩ := h
  have hx1 := Ext.alloc w (.cells (patL av rv hv P).toArray 25)
  have hb1 := RowAt.new w 25 (patL av rv hv P)
  cases hk : P.okB with
  | false =>
    have hF : textF P = (nilB, 261) := by unfold textF; rw [if_neg (by rw [hk]; decide)]
    unfold checkE at hck
    rw [if_neg (by rw [hk]; decide)] at hck
    have HC := Lib.hid hck
    rw [hF]
    unfold patV patL at *
    have HX := Lib.hid hx1
    obtain ⟨d0, d1, d2, d3, d4, d5, d6, d7⟩ := row8_facts hb1
    clear hk hck hF hb1 hx1 ha hr hh
    refine calls_of_wp_marks Tryz.func14 rfl ?_
    simp only [Tryz.ntmps14, List.size_toArray, List.length_cons, List.length_nil, Nat.reduceAdd, Nat.reduceSub, Array.replicate_succ, Array.replicate_zero, List.push_toArray, List.append_toArray, List.nil_append, List.cons_append]
    go_wp2_with fail
    refine (HC.out _ HX.out).mono ?_
    rintro e w2 ⟨rfl, hx2⟩
    go_wp2_with fail
    exact ⟨_, results_tmp2 rfl _ _ _, rfl, HX.out.trans hx2⟩
  | true =>
    have hF : textF P = if 500 < (textX P).length then (nilB, 3) else (txt (textX P), 0) := by unfold textF; rw [if_pos hk]
    unfold checkE at hck
    rw [if_pos hk] at hck
    have HC := Lib.hid hck
    have hps := picks_small hk
    have hpo := parts_ok hk
    have htp := text_parts P
    have HIT := Lib.hid (fun x X => parts_iter P hpo x X 97 KtS rfl)
    rw [hF]
    have HW := Lib.hid hW
    have HA := Lib.hid ha
    have HR := Lib.hid hr
    have HH := Lib.hid hh
    have HX := Lib.hid hx1
    have HB := Lib.hid hb1
    generalize textX P = TX at *
    generalize picks (partsL P) = ws at *
    have HPS := Lib.hid hps
    have HTP := Lib.hid htp
    have HP2 := Lib.hid (fun w' => parts_any av rv hv P w')
    obtain ⟨d0, d1, d2, d3, d4, d5, d6, d7⟩ := row8_facts hb1
    unfold patV patL at *
    clear hk hck hF hb1 hx1 ha hr hh hps hpo htp hW hf
    refine calls_of_wp_marks Tryz.func14 rfl ?_
    simp only [Tryz.ntmps14, List.size_toArray, List.length_cons, List.length_nil, Nat.reduceAdd, Nat.reduceSub, Array.replicate_succ, Array.replicate_zero, List.push_toArray, List.append_toArray, List.nil_append, List.cons_append]
    go_wp2_with fail
    refine (HC.out _ HX.out).mono ?_
    rintro e w2 ⟨rfl, hx2⟩
    have HX2 := Lib.hid (HX.out.trans hx2)
    have HB2 := Lib.hid (HB.out.ext hx2)
    clear hx2 HX HB HC d0 d1 d2 d3 d4 d5 d6 d7
    go_upto_region 5 with fail
    have hxa := Ext.alloc w2 (.cells #[.slice none 0 0] 23)
    have HB3 := Lib.hid (HB2.out.ext hxa)
    have HX3 := Lib.hid (HX2.out.trans hxa)
    have HV3 := Lib.hid (RowAt.new w2 23 [.slice none 0 0])
    have HLO := Lib.hid HX2.out.size
    clear hxa HB2 HX2
    generalize w2.alloc (.cells #[.slice none 0 0] 23) = w3 at *
    obtain ⟨bx, hbx⟩ : ∃ g, w2.heap.size = g := ⟨_, rfl⟩
    rw [hbx] at HV3 HLO
    try simp only [hbx]
    clear hbx
    obtain ⟨d0, d1, d2, d3, d4, d5, d6, d7⟩ := row8_facts HB3.out
    go_wp2_with fail
    refine (HP2.out _).mono ?_
    rintro e w4 ⟨rfl, hw4⟩
    have hxb := Ext.alloc w3 (.cells #[av, rv, .bool P.count, .bool P.distinct, .bool P.limited, .int .i64 P.limit, .int .i64 P.offset, hv] 25)
    rw [← hw4] at hxb
    have HR4 := Lib.hid (show RowAt w4 w3.heap.size 25 [av, rv, .bool P.count, .bool P.distinct, .bool P.limited, .int .i64 P.limit, .int .i64 P.offset, hv] from by rw [hw4]; exact RowAt.new w3 _ _)
    have HX4 := Lib.hid (HX3.out.trans hxb)
    have HV4 := Lib.hid (HV3.out.ext hxb)
    have hbw := HV3.out.lt
    clear hxb hw4 HX3 HB3 HV3 HP2 d0 d1 d2 d3 d4 d5 d6 d7
    obtain ⟨x, hx⟩ : ∃ x, w3.heap.size = x := ⟨_, rfl⟩
    rw [hx] at HR4 hbw
    simp only [hx]
    clear hx
    have HPA := Lib.hid (show PartsAt x P w4 from ⟨⟨av, rv, hv, HR4.out, HA.out.ext HX4.out, Strs.ext HR.out HX4.out, Strs.ext HH.out HX4.out⟩, HW.out.ext HX4.out⟩)
    have hI0 : TxI w bx ws 0 (.slice none 0 0) w4 := ⟨HX4.out, HLO.out, HV4.out, World.ownsRow_nil _ _ _ _⟩
    have hxs := HR4.out.lt
    clear HR4 HA HR HH HW
    go_wp2_with fail
    refine wp_overP (X := w.heap.size) rfl (enters_of Tryz.func66 (by kernel_rfl) rfl) (HIT.out _ _) HX4.out.size
      ?_ (fun k args => Stab.exP fun hk => Stab.pure _ _)
      (fun k W => ∃ v, TxI w bx ws k v W) (fun q W => False)
      (fun k => PStab.ex (fun v => TxI.stab w bx ws k v (Nat.le_refl _) HX4.out.size)) (fun q => PStab.pure _)
      (PartsAt.stab x P _) HPA.out ⟨_, hI0⟩ ?_ ?_ ?_
    · rintro k W args ⟨_, rfl⟩
      rfl
    · rintro k args W L hk hL ⟨v, hI⟩ ⟨_, rfl⟩
      gi_wp2
      refine ⟨keeps_ext _ (Ext.refl _), KeepsC.refl _ _ _, ⟨v, hI⟩, ⟨hk, by first | rfl | trivial⟩, ?_⟩
      rintro W2 - ⟨v2, hI2⟩ -
      obtain ⟨c0, f0⟩ := hI2.out.facts1
      obtain ⟨va, vc, rfl⟩ := own_vw hI2.own
      have hw2 := hI2.below.size
      have hsz6 := hI2.out.lt
      have hxa := Ext.alloc W2 (.cells #[.string (txt ws[k])] 9)
      have hI3 := hI2.ext hxa
      have HI3 := Lib.hid hI3
      have HK := Lib.hid hk
      have hk7 : k ≤ 7 := by have := HPS.out.1; omega
      have hown := hI2.own
      have hSl := Sl.new W2 #[.string (txt ws[k])] 9 1 1 (Nat.le_refl _) (by unfold maxLen; omega)
      gi_wp2_with (gi_at_builtin; refine wpListIn_append_sl _ rfl _ _ 23 rfl elStr rfl (own_ext hown (Ext.alloc _ _)) rfl hSl rfl ?_ ?_ ?_ ?_ ?_)
      · rfl
      · omega
      · unfold maxLen; omega
      · first | omega | (simp; omega)
      intro v4 w5 hown4 hB4 hg4 hat4
      obtain ⟨a4, c4, rfl⟩ := own_vw hown4
      have hne4 : (Value.slice va k vc).ownBlock ≠ some bx := fun e => by have := (own_lt HI3.out.own e).1; omega
      obtain ⟨e2, e3⟩ := (HI3.out.out.kept hg4 hne4).facts1
      have HNX := Lib.hid (HI3.out.next (B := w4.heap.size) (X := w.heap.size) hg4 HK.out (by rw [List.map_take]; exact hown4))
      clear hown4 hB4 hg4 hat4 hSl c0 f0 hne4 hI3
      gi_wp2_with fail
      exact ⟨(keeps_ext _ hxa).trans HNX.out.1, (KeepsC.ext hxa).trans HNX.out.2.1, _, HNX.out.2.2⟩
    · rintro D W hD ⟨v, hI⟩ hdf
      obtain ⟨va, vc, rfl⟩ := own_vw hI.own
      obtain ⟨c0, f0⟩ := hI.out.facts1
      have hst : Strs W (.slice va ws.length vc) (ws.map txt) := by
        have := Sl.of_own hI.own
        rw [List.take_of_length_le (Nat.le_refl _)] at this
        unfold Strs
        rw [List.map_map, List.length_map]
        exact this
      have hmb : (ws.map txt).map bts = ws := by
        rw [List.map_map]
        have : (bts ∘ txt) = id := by funext l; exact bts_txt l
        rw [this, List.map_id]
      have hjl : (Lib.join ws [32]).length ≤ 140737488355328 := by
        have := join_size ws [32] 100000 HPS.out.2
        have h2 : ws.length * (100000 + ([32] : List UInt8).length) ≤ 7 * 100001 := Nat.mul_le_mul HPS.out.1 (by decide)
        omega
      have hj := joinS_any _ (ws.map txt) ⟨#[32]⟩ W hst (by rw [hmb]; exact hjl) (by rw [List.length_map]; have := HPS.out.1; omega)
      rw [hmb, show bts (⟨#[32]⟩ : ByteArray) = [32] from rfl, HTP.out] at hj
      have HJ := Lib.hid hj
      have HXW := Lib.hid hI.below
      have HDF := Lib.hid hdf
      have hss : (txt TX).size = TX.length := txt_size _
      obtain ⟨S, hS⟩ : ∃ S, txt TX = S := ⟨_, rfl⟩
      rw [hS] at HJ hss
      clear hj hjl hmb hst hI hdf HIT hI0 HPA
      go_wp2_with fail
      refine HJ.out.mono ?_
      rintro e w6 ⟨rfl, hx6⟩
      have HD6 := Lib.hid ((hx6.block D (Array.getElem?_eq_some_iff.1 HDF.out).1).trans HDF.out)
      have HX6 := Lib.hid (HXW.out.trans hx6)
      have hDw : w.heap.size ≤ D := Nat.le_trans HX4.out.size hD
      by_cases h5 : 500 < S.size
      · have h5' : 500 < TX.length := by omega
        go_wp2_with fail
        exact leave_marked HD6.out (fun _ => results_tmp2 rfl _ _ _) ⟨rfl, below_mark HX6.out hDw⟩
      · have h5' : ¬ 500 < TX.length := by omega
        go_wp2_with fail
        exact leave_marked HD6.out (fun _ => results_tmp2 rfl _ _ _) ⟨rfl, below_mark HX6.out hDw⟩
    · rintro D q W hD hF
      exact hF.elim
end Go.Proofs.YthoneahamnmjlaaGreatDoor

/- A pattern, its variables named otherwise: the program. -/
namespace Go.Proofs.YthoneahamnmjlaaGreatDoor
set_option maxRecDepth 100000
set_option maxHeartbeats 2000000
set_option linter.unusedSimpArgs false
open Go.RowKit Go.Shelf Go.Sort
attribute [local go_sem] Oper.semAt_some wide_fn wide_depth
set_option linter.unusedVariables false

theorem boxes2 (w : World) (xs : List Value) (t : TypeId) (ys : List Value) (u : TypeId) :
    Ext w ((w.alloc (.cells xs.toArray t)).alloc (.cells ys.toArray u)) ∧ RowAt ((w.alloc (.cells xs.toArray t)).alloc (.cells ys.toArray u)) w.heap.size t xs ∧ RowAt ((w.alloc (.cells xs.toArray t)).alloc (.cells ys.toArray u)) (w.heap.size + 1) u ys := by
  refine ⟨(Ext.alloc _ _).trans (Ext.alloc _ _), (RowAt.new w t xs).ext (Ext.alloc _ _), ?_⟩
  have := RowAt.new (w.alloc (.cells xs.toArray t)) u ys
  rwa [World.size_alloc] at this
/-- What a map of names holds. -/
def kvN (vars names : List ByteArray) : List (Value × Value) := (vars.zip names).map fun x => (.string x.1, .agg #[.string x.2])
theorem kvN_at : ∀ (vars names : List ByteArray) (s : ByteArray), names.length = vars.length → s ∈ vars → ∃ j : Nat, (kvN vars names)[j]? = some (Value.string s, Value.agg #[Value.string (nameAt vars names s)])
  | [], _, s, _, h => by simp at h
  | _ :: _, [], s, h, _ => by simp at h
  | x :: xs, n :: ns, s, hl, hs => by
    by_cases e : x = s
    · subst e
      refine ⟨0, ?_⟩
      unfold nameAt
      rw [if_pos rfl]; rfl
    · have hs' : s ∈ xs := by
        rcases List.mem_cons.1 hs with h | h
        · exact absurd h.symm e
        · exact h
      obtain ⟨j, hj⟩ := kvN_at xs ns s (by simpa using hl) hs'
      refine ⟨j + 1, ?_⟩
      unfold nameAt
      rw [if_neg e]
      exact hj
theorem kvN_not {vars names : List ByteArray} {s : ByteArray} (h : s ∉ vars) : ∀ p ∈ kvN vars names, p.1 ≠ .string s := by
  intro p hp
  obtain ⟨x, hx, rfl⟩ := List.mem_map.1 hp
  intro e
  have e' : x.1 = s := by simpa using e
  exact h (e' ▸ (List.of_mem_zip hx).1)
theorem nameAt_none : ∀ (vars names : List ByteArray) (s : ByteArray), s ∉ vars → nameAt vars names s = nilB
  | [], [], _, _ => rfl
  | [], _ :: _, _, _ => rfl
  | _ :: _, [], _, _ => rfl
  | y :: ys, n :: ns, s, h => by
    unfold nameAt
    rw [if_neg (fun e => h (by simp [e]))]
    exact nameAt_none ys ns s (fun hm => h (List.mem_cons_of_mem _ hm))
theorem named_lookup {w : World} {M : Nat} {vars names : List ByteArray} (h : MapAt .string w M (kvN vars names)) (hl : names.length = vars.length) (s : ByteArray) :
    (Instr.lookup 55 (.map (some M)) (.string s) false).run Tryz.prog w = .ok (.agg #[.string (nameAt vars names s)]) w := by
  by_cases hs : s ∈ vars
  · obtain ⟨j, hj⟩ := kvN_at vars names s hl hs
    exact run_get_yes Tryz.underlying55 Tryz.underlying9 h (isKey_str s) hj false
  · rw [nameAt_none vars names s hs]
    exact run_get_no Tryz.underlying55 Tryz.underlying9 h (isKey_str s) (kvN_not hs) (by kernel_rfl) false
theorem name58_any (vars names : List ByteArray) (M y : Nat) (s : ByteArray) (w : World) (hm : MapAt .string w M (kvN vars names)) (hl : names.length = vars.length) (hy : RowAt w y 55 [.map (some M)]) :
    Calls Tryz.prog 58 #[.string s, .pointer (some ⟨y, 0, none⟩)] w fun e w' => e = .returned (.string (nameAt vars names s)) ∧ w' = w := by
  have c0 := hy.cell (i := 0) rfl
  have hlk := named_lookup hm hl s
  clear hm hl hy
  generalize nameAt vars names s = n at *
  have hfd : ∀ w', (Instr.field 58 (.agg #[.string n]) 0).run Tryz.prog w' = .ok (.string n) w' := fun w' => by kernel_rfl
  go_enter Tryz.func58, Tryz.ntmps58
  go_wp2_with fail
  go_ret
  exact ⟨rfl, rfl⟩
theorem enters_58 : ∀ args w, (callFunc 58 args).run Tryz.prog w = .ok (.enter 58 args) w := enters_of Tryz.func58 (by kernel_rfl) rfl
theorem enters_61 : ∀ args w, (callFunc 61 args).run Tryz.prog w = .ok (.enter 61 args) w := enters_of Tryz.func61 (by kernel_rfl) rfl
/-- A map of names, in its box, and what gives a name by it, in its own. -/
structure NamesAt (vars names : List ByteArray) (M y z : Nat) (w : World) : Prop where
  map : MapAt .string w M (kvN vars names)
  len : names.length = vars.length
  box : RowAt w y 55 [.map (some M)]
  fn : RowAt w z 47 [.func (.func 58) #[] #[.pointer (some ⟨y, 0, none⟩)]]
theorem NamesAt.ext {vars names : List ByteArray} {M y z : Nat} {w w' : World} (h : NamesAt vars names M y z w) (hx : Ext w w') : NamesAt vars names M y z w' := ⟨h.map.ext hx, h.len, h.box.ext hx, h.fn.ext hx⟩
theorem turn59_any (vars names : List ByteArray) (M y z : Nat) (k : Bool) (n : ByteArray) (w : World) (h : NamesAt vars names M y z w) :
    Calls Tryz.prog 59 #[.agg #[.bool k, .string n], .pointer (some ⟨z, 0, none⟩)] w fun e w' => e = .returned (.agg #[.bool k, .string (turnT (nameAt vars names) k n)]) ∧ Ext w w' := by
  have HH := Lib.hid h
  clear h
  have hT : (k = false ∧ n ≠ nilB → turnT (nameAt vars names) k n = nameAt vars names n) ∧ (¬ (k = false ∧ n ≠ nilB) → turnT (nameAt vars names) k n = n) := ⟨fun h => by unfold turnT; rw [if_pos h], fun h => by unfold turnT; rw [if_neg h]⟩
  generalize turnT (nameAt vars names) k n = R at *
  have HT := Lib.hid hT
  clear hT
  -- a function with two boxes at its head: colander/print.turned$2 its name, [.bool k, .string n] [.bool false, .string ⟨#[]⟩] their cells (lists), api.Term api.Term their types' names
  have hbx := boxes2 w ([.bool k, .string n]) 38 ([.bool false, .string ⟨#[]⟩]) 38
  have HBX := Lib.hid hbx
  clear hbx
  go_enter Tryz.func59, Tryz.ntmps59
  go_upto_region 1 with fail
  generalize (w.alloc (.cells ([.bool k, .string n]).toArray 38)).alloc (.cells ([.bool false, .string ⟨#[]⟩]).toArray 38) = w1 at *
  obtain ⟨y0, hy0⟩ : ∃ x, w.heap.size = x := ⟨_, rfl⟩
  obtain ⟨y1, hy1⟩ : ∃ x, y0 + 1 = x := ⟨_, rfl⟩
  rw [hy0, hy1] at HBX
  simp only [hy0, hy1]
  have HN := Lib.hid (show w.heap.size = y0 ∧ y0 + 1 = y1 from ⟨hy0, hy1⟩)
  have HX := Lib.hid HBX.out.1
  have H0 := Lib.hid HBX.out.2.1
  have H1 := Lib.hid HBX.out.2.2
  clear hy0 hy1 HBX
  have k0 := H0.out.cell (i := 0) rfl
  have k1 := H0.out.cell (i := 1) rfl
  by_cases hc : k = false ∧ n ≠ nilB
  · have hR := HT.out.1 hc
    obtain ⟨rfl, hn⟩ := hc
    have hb := nil_no hn
    have HF := Lib.hid (HH.out.ext HX.out)
    have HN58 := Lib.hid (name58_any vars names M y n w1 HF.out.map HF.out.len HF.out.box)
    have k2 := HF.out.fn.cell (i := 0) rfl
    rw [← hR] at HN58
    clear HT hn hR
    have f1 := H0.out.frozen 1
    go_upto_region 3 with (refine HN58.out.mono ?_; rintro e w' ⟨rfl, hww⟩; rw [hww]; clear hww)
    have hgs := grown_set w1 y0 1 (.string R)
    have H2 := Lib.hid (show RowAt (w1.setCell ⟨y0, 1, none⟩ (.string R)) y0 38 [.bool false, .string R] from H0.out.set 1 (.string R))
    have H3 := Lib.hid (H1.out.kept hgs (by have := HN.out; intro e; have := Option.some.inj e; omega))
    have HX3 := Lib.hid (show Ext w (w1.setCell ⟨y0, 1, none⟩ (.string R)) from Ext.set_of HX.out (by have := HN.out; omega) _)
    clear hgs k0 k1 k2 f1 H0 H1 HX HN58 HF
    generalize w1.setCell ⟨y0, 1, none⟩ (.string R) = w2 at *
    apply wp_region_lit
    -- a load of a whole row: y0 block, H2.out fact RowAt, api.Term the type's name
    refine plain_load rfl _ _ rfl y0 rfl _ _ (H2.out) Tryz.underlying38 rfl (by kernel_rfl) ?_
    go_simp
    -- the result's row is stored, and the function ends: y1 the box's name, H3.out its fact, [.bool false, .string R] the cells, api.Term the type's name, w2 the world now, HX3.out fact Ext, (by have := HN.out; omega) that the box is new, (by simp [Value.oneCell']) proof that each is one cell, ⟨rfl, HXX.out⟩ what is said of the result
    refine plain_store rfl _ _ _ rfl y1 ([.bool false, .string R]) rfl rfl (H3.out) (by kernel_rfl) rfl ((by simp [Value.oneCell'])) ?_
    have HRR := Lib.hid ((H3.out).setRow ([.bool false, .string R]))
    have HXX := Lib.hid (show Ext w ((w2).setRow y1 ([.bool false, .string R]).toArray) from below_setRow (HX3.out) ((by have := HN.out; omega)) _)
    go_simp
    apply wpList_nil
    go_wp2_with fail
    exact bodyPost_ret (results_row0 rfl rfl HRR.out Tryz.underlying38 rfl (by kernel_rfl)) rfl (⟨rfl, HXX.out⟩)
  · have hR := HT.out.2 hc
    subst hR
    clear HT
    cases k with
    | true =>
      clear hc
      go_upto_region 3 with fail
      clear k0 k1
      apply wp_region_lit
      -- a load of a whole row: y0 block, H0.out fact RowAt, api.Term the type's name
      refine plain_load rfl _ _ rfl y0 rfl _ _ (H0.out) Tryz.underlying38 rfl (by kernel_rfl) ?_
      go_simp
      -- the result's row is stored, and the function ends: y1 the box's name, H1.out its fact, [.bool true, .string R] the cells, api.Term the type's name, w1 the world now, HX.out fact Ext, (by have := HN.out; omega) that the box is new, (by simp [Value.oneCell']) proof that each is one cell, ⟨rfl, HXX.out⟩ what is said of the result
      refine plain_store rfl _ _ _ rfl y1 ([.bool true, .string R]) rfl rfl (H1.out) (by kernel_rfl) rfl ((by simp [Value.oneCell'])) ?_
      have HRR := Lib.hid ((H1.out).setRow ([.bool true, .string R]))
      have HXX := Lib.hid (show Ext w ((w1).setRow y1 ([.bool true, .string R]).toArray) from below_setRow (HX.out) ((by have := HN.out; omega)) _)
      go_simp
      apply wpList_nil
      go_wp2_with fail
      exact bodyPost_ret (results_row0 rfl rfl HRR.out Tryz.underlying38 rfl (by kernel_rfl)) rfl (⟨rfl, HXX.out⟩)
    | false =>
      have hn : R = nilB := by
        by_cases h : R = nilB
        · exact h
        · exact absurd ⟨rfl, h⟩ hc
      have hb := nil_yes hn
      clear hc hn
      go_upto_region 3 with fail
      clear k0 k1
      apply wp_region_lit
      -- a load of a whole row: y0 block, H0.out fact RowAt, api.Term the type's name
      refine plain_load rfl _ _ rfl y0 rfl _ _ (H0.out) Tryz.underlying38 rfl (by kernel_rfl) ?_
      go_simp
      -- the result's row is stored, and the function ends: y1 the box's name, H1.out its fact, [.bool false, .string R] the cells, api.Term the type's name, w1 the world now, HX.out fact Ext, (by have := HN.out; omega) that the box is new, (by simp [Value.oneCell']) proof that each is one cell, ⟨rfl, HXX.out⟩ what is said of the result
      refine plain_store rfl _ _ _ rfl y1 ([.bool false, .string R]) rfl rfl (H1.out) (by kernel_rfl) rfl ((by simp [Value.oneCell'])) ?_
      have HRR := Lib.hid ((H1.out).setRow ([.bool false, .string R]))
      have HXX := Lib.hid (show Ext w ((w1).setRow y1 ([.bool false, .string R]).toArray) from below_setRow (HX.out) ((by have := HN.out; omega)) _)
      go_simp
      apply wpList_nil
      go_wp2_with fail
      exact bodyPost_ret (results_row0 rfl rfl HRR.out Tryz.underlying38 rfl (by kernel_rfl)) rfl (⟨rfl, HXX.out⟩)
end Go.Proofs.YthoneahamnmjlaaGreatDoor
