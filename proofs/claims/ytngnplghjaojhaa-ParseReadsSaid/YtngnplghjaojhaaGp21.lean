/- The names that are told, in the reader's own words. -/
import Derived.Test.YtngnplghjaojhaaGp20
import Derived.Test.YtngnplghjaojhaaGp06
namespace Go.Proofs.Ytngnplghjaojhaa
set_option maxRecDepth 100000
set_option maxHeartbeats 2000000
set_option linter.unusedSimpArgs false
open Go.RowKit Go.Shelf Go.Sort
attribute [local go_sem] Oper.semAt_some wide_fn wide_depth
set_option linter.unusedVariables false

theorem some_call (g ff : Nat) (lbf : Array Value) (w : World) : Calls Try.prog 81 #[.pointer (some ⟨g, 0, none⟩), .func (.func ff) #[] lbf] w fun e w' =>
    e = .returned (.func (.func 105) #[] #[.pointer (some ⟨w.heap.size, 0, none⟩), .pointer (some ⟨w.heap.size + 1, 0, none⟩)]) ∧
      w' = (w.alloc (.cells #[.pointer (some ⟨g, 0, none⟩)] 65)).alloc (.cells #[.func (.func ff) #[] lbf] 80) := by
  go_enter Try.func81, Try.ntmps81
  go_wp2
  go_ret
  exact ⟨rfl, rfl⟩
section
variable {w0 : World} {ts : List Tk} {tv : Value} {g : Nat} {c : Rc} {m : Nat} {vars : List ByteArray} {b1 b2 b3 b4 : Nat} {p : Nat} {w W : World} {F : Value}
theorem fol_ret (hl : ts.length ≤ 1000000) {many n : Nat} (hn : n ≤ 1000000) (hm : many ≤ 1000000) (hr : RdT w0 ts tv g c p W) (h3 : RowAt W b3 3 [.int .i64 many]) (h4 : RowAt W b4 65 [.pointer (some ⟨g, 0, none⟩)]) :
    Calls Try.prog 82 #[.int .i64 n, .pointer (some ⟨b3, 0, none⟩), .pointer (some ⟨b4, 0, none⟩)] W fun e W' =>
      e = .returned (.bool (folB ts true many n p)) ∧ RdT w0 ts tv g c (folQ ts true many n p) W' ∧ W.grownBy W' (some g) := by
  have f3 := h3.facts1.1
  have f4 := h4.facts1.1
  by_cases hlt : n < many
  · have hM := Lib.hid (may_any' hr 6 (by decide) hl)
    obtain ⟨b, hb⟩ : ∃ b, decide (kindAt ts p = 6) = b := ⟨_, rfl⟩
    have hB : folB ts true many n p = b := by unfold folB; rw [decide_eq_true hlt, hb]; rfl
    have hQ : folQ ts true many n p = if b = true then p + 1 else p := by unfold folQ; rw [hB]; simp
    rw [hB, hQ]
    rw [hb] at hM
    clear hB hQ hb hr h3 h4
    cases b
    all_goals
      go_enter Try.func82, Try.ntmps82
      go_wp2_with fail
      refine hM.out.mono ?_
      rintro e w2 ⟨rfl, hr2, hg2⟩
      have HR := Lib.hid hr2
      have HG := Lib.hid hg2
      clear hr2 hg2 hM
      go_wp2_with fail
      go_ret
      exact ⟨rfl, HR.out, HG.out⟩
  · have hB : folB ts true many n p = false := by unfold folB; rw [decide_eq_false hlt]; rfl
    have hQ : folQ ts true many n p = p := by unfold folQ; rw [hB]; simp
    rw [hB, hQ]
    have HR := Lib.hid hr
    clear hB hQ hr h3 h4
    go_enter Try.func82, Try.ntmps82
    go_wp2_with fail
    go_ret
    exact ⟨rfl, HR.out, grown_of_ext (Ext.refl _) g⟩
theorem fol_hint {many n : Nat} (hn : n ≤ 1000000) (hm : many ≤ 1000000) (hr : RdT w0 ts tv g c p W) (h3 : RowAt W b3 3 [.int .i64 many]) :
    Calls Try.prog 84 #[.int .i64 n, .pointer (some ⟨b3, 0, none⟩)] W fun e W' =>
      e = .returned (.bool (folB ts false many n p)) ∧ RdT w0 ts tv g c (folQ ts false many n p) W' ∧ W.grownBy W' (some g) := by
  have f3 := h3.facts1.1
  obtain ⟨b, hb⟩ : ∃ b, decide (n < many) = b := ⟨_, rfl⟩
  have hB : folB ts false many n p = b := by unfold folB; rw [hb]; simp
  have hQ : folQ ts false many n p = p := by unfold folQ; rw [hB]; simp
  rw [hB, hQ]
  have HR := Lib.hid hr
  have HB := Lib.hid hb
  clear hB hQ hr h3 hb
  go_enter Try.func84, Try.ntmps84
  go_wp2_with fail
  go_ret
  exact ⟨by rw [← HB.out]; simp, HR.out, grown_of_ext (Ext.refl _) g⟩
/-- What collecting the names comes to. -/
def CollQ (w0 : World) (ts : List Tk) (tv : Value) (g : Nat) (c : Rc) (w : World) (r : Except Nat (List ByteArray × Nat)) (e : Ending) (w' : World) : Prop := match r with
  | .ok (l, q) => ∃ v, e = .returned v ∧ w'.ownsRow w.heap.size 9 1 v l.length (l.map Value.string) ∧ RdT w0 ts tv g c q w' ∧ w.grownBy w' (some g)
  | .error q => e = wrongE ∧ RdT w0 ts tv g c q w' ∧ w.grownBy w' (some g)
theorem grown_put_far {x : Nat} {W' : World} {row : Option Nat} (h : w.grownBy W (some x)) (hg : W.grownBy W' row) (hr : ∀ r, row = some r → w.heap.size ≤ r) : w.grownBy W' (some x) :=
  ⟨hg.os.trans h.os, hg.tape.trans h.tape, hg.output.trans h.output, Nat.le_trans h.size hg.size, fun i hi hn => (hg.block i (Nat.lt_of_lt_of_le hi h.size) (fun e => by have := hr i e.symm; omega)).trans (h.block i hi hn)⟩
theorem RdT.stab {q B : Nat} (hw : w0.heap.size ≤ B) : Stab B (fun W => RdT w0 ts tv g c q W) := fun W W' row h hg hr =>
  ⟨h.ext.grown hg h.ext.size (fun k e => Nat.le_trans hw (hr k e).1), h.toks, h.lo, Stab.row B _ _ _ W W' row h.row hg hr, h.le, h.szs⟩
theorem SomeI.stab (hS : SomeS w0 g c m w b1 b2) : Stab (w.heap.size + 1) (fun W => SomeI w0 ts tv g c m vars w b1 b2 F p W) := fun W W' row h hg hr =>
  ⟨RdT.stab (Nat.le_succ_of_le hS.w0) W W' row h.rd hg hr, h.met.kept hg (fun e => by have := (hr m e).1; have := hS.m; omega), Stab.row _ _ _ _ W W' row h.r1 hg hr, Stab.row _ _ _ _ W W' row h.r2 hg hr, grown_put_far h.gr hg (fun r e => by have := (hr r e).1; omega)⟩
theorem SomeFin.stab (hw : w0.heap.size ≤ w.heap.size) (r : Except Nat Nat) (e : Ending) : Stab (w.heap.size + 1) (SomeFin w0 ts tv g c w r e) := fun W W' row h hg hr => by
  cases r with
  | ok q => exact ⟨h.1, RdT.stab (Nat.le_succ_of_le hw) W W' row h.2.1 hg hr, grown_put_far h.2.2 hg (fun r e => by have := (hr r e).1; omega)⟩
  | error q => exact ⟨h.1, RdT.stab (Nat.le_succ_of_le hw) W W' row h.2.1 hg hr, grown_put_far h.2.2 hg (fun r e => by have := (hr r e).1; omega)⟩
theorem collQ_of {x : List ByteArray × Except Nat Nat} {r : Except Nat (List ByteArray × Nat)} (hr : r = pairP x) {e : Ending} {w' : World} (h : SeqQ w x.1 (SomeFin w0 ts tv g c w x.2) e w') : CollQ w0 ts tv g c w r e w' := by
  obtain ⟨l, y⟩ := x
  subst hr
  cases y with
  | ok q =>
    rcases h with ⟨v, u, rfl, ho, _, hrd, hg⟩ | ⟨cc, rfl, ⟨v, hv⟩, _⟩
    · exact ⟨v, rfl, ho, hrd, hg⟩
    · cases hv
  | error q =>
    rcases h with ⟨v, u, rfl, ho, hu, hrd, hg⟩ | ⟨cc, rfl, hu, hrd, hg⟩
    · cases hu
    · exact ⟨hu, hrd, hg⟩
theorem someP_len (ts : List Tk) (vars : List ByteArray) (cm : Bool) : ∀ (k : Nat) (acc : List ByteArray) (p : Nat), (someP ts vars cm k acc p).1.length ≤ acc.length + k
  | 0, acc, p => by simp [someP]
  | k + 1, acc, p => by
    unfold someP
    rcases varP_cases ts vars acc p with ⟨_, h⟩ | ⟨_, _, h⟩ | ⟨_, _, _, h⟩
    · rw [h]; simp
    · rw [h]; simp
    · rw [h]
      simp only []
      split
      · split
        · have := someP_len ts vars cm k (acc ++ [textAt ts p]) (p + 1 + 1)
          rw [List.length_append] at this
          simp at this ⊢
          omega
        · simp
      · have := someP_len ts vars cm k (acc ++ [textAt ts p]) (p + 1)
        rw [List.length_append] at this
        simp at this ⊢
        omega
theorem collect_of {lb : Array Value} {Fin : Ending → World → Prop} {names : List ByteArray} (w1 : World)
    (h : Calls Try.prog 104 #[.slice none 0 0, .func (.func 105) #[] lb] w1 (SeqQ w1 names Fin)) :
    Calls Try.prog 80 #[.func (.func 105) #[] lb] w1 (SeqQ w1 names Fin) := by
  have H := Lib.hid h
  clear h
  go_enter Try.func80, Try.ntmps80
  go_wp2_with fail
  refine H.out.mono ?_
  rintro e w' hq
  rcases hq with ⟨v, u, rfl, hq⟩ | ⟨cc, rfl, hq⟩
  · have HQ := Lib.hid hq
    clear hq H
    go_wp2_with fail
    go_ret
    exact .inl ⟨v, u, rfl, HQ.out⟩
  · have HQ := Lib.hid hq
    clear hq H
    go_wp2_with fail
    exact ⟨rfl, .inr ⟨cc, rfl, HQ.out⟩⟩
theorem collect_ret (hl : ts.length ≤ 1000000) (hr : RdT w0 ts tv g c p w) (hm : MapAt .string w m (metKv vars)) (h13 : c.c13 = .map (some m)) (r1 : RowAt w b1 65 [.pointer (some ⟨g, 0, none⟩)])
    (r2 : RowAt w b2 80 [.func (.func 82) #[] #[.pointer (some ⟨b3, 0, none⟩), .pointer (some ⟨b4, 0, none⟩)]]) (r3 : RowAt w b3 3 [.int .i64 vars.length]) (r4 : RowAt w b4 65 [.pointer (some ⟨g, 0, none⟩)])
    (hmany : vars.length ≤ 1000000) (hpos : 0 < vars.length) :
    Calls Try.prog 80 #[.func (.func 105) #[] #[.pointer (some ⟨b1, 0, none⟩), .pointer (some ⟨b2, 0, none⟩)]] w (CollQ w0 ts tv g c w (retP ts vars vars.length [] p)) := by
  have hS : SomeS w0 g c m w b1 b2 := ⟨h13, hr.row.lt, hm.lt, r1.lt, r2.lt, hr.ext.size⟩
  have hI : SomeI w0 ts tv g c m vars w b1 b2 _ p w := ⟨hr, hm, r1, r2, grown_of_ext (Ext.refl w) g⟩
  have hit := some_ret (tv := tv) (b3 := b3) (b4 := b4) p hl hS hmany hpos (fun n p W hn hi => fol_ret hl (by omega) hmany hi.rd (r3.kept hi.gr (fun e => row_ne_rd hr.row r3 (by decide) (Option.some.inj e).symm)) (r4.kept hi.gr (fun e => row_ne_rd hr.row r4 (by decide) (Option.some.inj e).symm)))
  have hlen := someP_len ts vars true vars.length [] p
  have h := seq_any w hit (enters_of Try.func105 (by kernel_rfl) rfl) (SomeI.stab hS) (SomeFin.stab hS.w0 _) (hI.ext (Ext.alloc _ _)) (by simp at hlen; omega)
  exact (collect_of w h).mono fun e w' hq => collQ_of (retP_some ts vars _ _ _) hq
theorem collect_hint (hl : ts.length ≤ 1000000) (hr : RdT w0 ts tv g c p w) (hm : MapAt .string w m (metKv vars)) (h13 : c.c13 = .map (some m)) (r1 : RowAt w b1 65 [.pointer (some ⟨g, 0, none⟩)])
    (r2 : RowAt w b2 80 [.func (.func 84) #[] #[.pointer (some ⟨b3, 0, none⟩)]]) (r3 : RowAt w b3 3 [.int .i64 vars.length])
    (hmany : vars.length ≤ 1000000) (hpos : 0 < vars.length) :
    Calls Try.prog 80 #[.func (.func 105) #[] #[.pointer (some ⟨b1, 0, none⟩), .pointer (some ⟨b2, 0, none⟩)]] w (CollQ w0 ts tv g c w (hintP ts vars vars.length [] p)) := by
  have hS : SomeS w0 g c m w b1 b2 := ⟨h13, hr.row.lt, hm.lt, r1.lt, r2.lt, hr.ext.size⟩
  have hI : SomeI w0 ts tv g c m vars w b1 b2 _ p w := ⟨hr, hm, r1, r2, grown_of_ext (Ext.refl w) g⟩
  have hit := some_hint (tv := tv) (b3 := b3) (b4 := b3) p hl hS hmany hpos (fun n p W hn hi => fol_hint (by omega) hmany hi.rd (r3.kept hi.gr (fun e => row_ne_rd hr.row r3 (by decide) (Option.some.inj e).symm)))
  have hlen := someP_len ts vars false vars.length [] p
  have h := seq_any w hit (enters_of Try.func105 (by kernel_rfl) rfl) (SomeI.stab hS) (SomeFin.stab hS.w0 _) (hI.ext (Ext.alloc _ _)) (by simp at hlen; omega)
  exact (collect_of w h).mono fun e w' hq => collQ_of (hintP_some ts vars _ _ _) hq
end
end Go.Proofs.Ytngnplghjaojhaa
