/- Words. -/
import Derived.Test.YtngnplghjaojhaaGp15
import Derived.Test.YtngnplghjaojhaaGp05
import Derived.Test.YtngnplghjaojhaaGp09
import Derived.Laws.StructEq
namespace Go.Proofs.Ytngnplghjaojhaa
set_option maxRecDepth 100000
set_option maxHeartbeats 2000000
set_option linter.unusedSimpArgs false
open Go.RowKit Go.Shelf Go.Sort
attribute [local go_sem] Oper.semAt_some wide_fn wide_depth
set_option linter.unusedVariables false

def wordB (s : ByteArray) : Bool := Tk.check ⟨1, s, 0⟩
def worthB (s : ByteArray) : Bool := Tk.check ⟨3, s, 0⟩
theorem wordB_all (s : ByteArray) : allB letterC 1 32 (bts s) = wordB s := by
  unfold wordB Tk.check
  rw [← right_check]
  unfold rightB
  simp
theorem worthB_all (s : ByteArray) : allB quotedC 0 40 (bts s) = worthB s := by
  unfold worthB Tk.check
  rw [← right_check]
  unfold rightB
  simp
theorem notWord_any (s : ByteArray) (w : World) (hs : s.size ≤ 9223372036854775800) :
    Calls Try.prog 98 #[.string s] w fun e w' => e = .returned (.bool (!wordB s)) ∧ Ext w w' := by
  cases hb : wordB s with
  | true =>
    have HC := Lib.hid (check_yes (t := ⟨1, s, 0⟩) w hs hb)
    unfold tkV at HC
    dsimp only at HC
    clear hb
    go_enter Try.func98, Try.ntmps98
    go_wp2_with fail
    refine HC.out.mono ?_
    rintro e w' ⟨rfl, hx⟩
    go_wp2
    go_ret
    exact ⟨rfl, hx⟩
  | false =>
    have HC := Lib.hid (check_no (t := ⟨1, s, 0⟩) w hs hb)
    unfold tkV at HC
    dsimp only at HC
    clear hb
    go_enter Try.func98, Try.ntmps98
    go_wp2_with fail
    refine HC.out.mono ?_
    rintro e w' ⟨rfl, hx⟩
    go_wp2
    go_ret
    exact ⟨rfl, hx⟩
/-- An index, or none. -/
def IdxQ (w : World) (b : Bool) (e : Ending) (w' : World) : Prop := ∃ n : Int, e = .returned (.int .i64 n) ∧ decide (0 ≤ n) = b ∧ -1 ≤ n ∧ n ≤ 9223372036854775807 ∧ Ext w w'
theorem idxW_any (v : Value) (l : List ByteArray) (w : World) (hv : Strs w v l) (hs : ∀ s ∈ l, s.size ≤ 9223372036854775800) :
    Calls Try.prog 110 #[v, .func (.func 98) #[] #[]] w (IdxQ w (!l.all wordB)) := by
  obtain ⟨a, c, rfl, hc1, hc2⟩ := Sl.shape hv
  have HV := Lib.hid hv
  have HS := Lib.hid hs
  clear hv hs
  go_enter Try.func110, Try.ntmps110
  go_wp2_with fail
  go_loopg [8] l.length (fun g i wr => ∃ k : Nat, k ≤ l.length ∧ g = l.length - k ∧ i = .int .i64 k ∧ Ext w wr ∧ Hid (∀ x ∈ l.take k, wordB x = true))
  case atStart => exact ⟨0, Nat.zero_le _, rfl, rfl, Ext.refl _, Lib.hid (by simp)⟩
  case round =>
    obtain ⟨k, hk, hg, rfl, hx, hall⟩ := hrel
    have Hg := Lib.hid hg
    have HX := Lib.hid hx
    clear hg
    by_cases hlt : k < l.length
    · obtain ⟨b, o, rfl, c0⟩ := Strs.at_ (Strs.ext HV.out hx) hlt
      have HC := Lib.hid (notWord_any l[k] wr (HS.out _ (List.getElem_mem hlt)))
      have hsn : l.take (k + 1) = l.take k ++ [l[k]] := List.take_succ_eq_append_getElem hlt
      have hmem := List.getElem_mem hlt
      generalize l[k] = x at *
      have HSN := Lib.hid hsn
      have HM := Lib.hid hmem
      clear hsn hmem hx
      cases hb : wordB x with
      | true =>
        rw [hb] at HC
        have HB := Lib.hid hb
        clear hb
        go_wp2_with fail
        refine HC.out.mono ?_
        rintro e w2 ⟨rfl, hx2⟩
        have HX2 := Lib.hid (HX.out.trans hx2)
        clear hx2 HC c0
        go_wp2_with fail
        go_roundg (l.length - (k + 1))
        case measure => have := Hg.out; omega
        case rel => exact ⟨k + 1, by omega, rfl, by go_num, HX2.out, Lib.hid (by rw [HSN.out]; intro y hy; rcases List.mem_append.1 hy with h | h; exact hall.out y h; rw [List.mem_singleton.1 h]; exact HB.out)⟩
      | false =>
        rw [hb] at HC
        have HB := Lib.hid hb
        clear hb
        go_wp2_with fail
        refine HC.out.mono ?_
        rintro e w2 ⟨rfl, hx2⟩
        have HX2 := Lib.hid (HX.out.trans hx2)
        clear hx2 HC c0
        go_wp2_with fail
        go_ret
        refine ⟨k, rfl, ?_, by omega, by omega, HX2.out⟩
        rw [show l.all wordB = false from List.all_eq_false.2 ⟨x, HM.out, by rw [HB.out]; decide⟩]
        simp
    · have he : k = l.length := by omega
      subst he
      go_wp2_with fail
      go_ret
      refine ⟨-1, rfl, ?_, by omega, by omega, HX.out⟩
      have h := hall.out
      rw [List.take_length] at h
      rw [List.all_eq_true.2 h]
      rfl
theorem hasNotWord_any (v : Value) (l : List ByteArray) (w : World) (hv : Strs w v l) (hs : ∀ s ∈ l, s.size ≤ 9223372036854775800) :
    Calls Try.prog 97 #[v, .func (.func 98) #[] #[]] w fun e w' => e = .returned (.bool (!l.all wordB)) ∧ Ext w w' := by
  have HC := Lib.hid (idxW_any v l w hv hs)
  obtain ⟨a, c, rfl, hc1, hc2⟩ := Sl.shape hv
  clear hv hs
  go_enter Try.func97, Try.ntmps97
  go_wp2_with fail
  refine HC.out.mono ?_
  rintro e w2 ⟨n, rfl, hb, h1, h2, hx2⟩
  have HB := Lib.hid hb
  clear hb
  go_wp2_with fail
  go_ret
  exact ⟨by rw [← HB.out]; rfl, hx2⟩
theorem words_any (v : Value) (l : List ByteArray) (w : World) (hv : Strs w v l) (hs : ∀ s ∈ l, s.size ≤ 9223372036854775800) :
    Calls Try.prog 66 #[v] w fun e w' => e = .returned (.bool (l.all wordB)) ∧ Ext w w' := by
  have HC := Lib.hid (hasNotWord_any v l w hv hs)
  obtain ⟨a, c, rfl, hc1, hc2⟩ := Sl.shape hv
  clear hv hs
  go_enter Try.func66, Try.ntmps66
  go_wp2_with fail
  refine HC.out.mono ?_
  rintro e w2 ⟨rfl, hx2⟩
  go_wp2_with fail
  go_ret
  exact ⟨by simp, hx2⟩
end Go.Proofs.Ytngnplghjaojhaa

/- Atoms: held against one another; which may be. -/
namespace Go.Proofs.Ytngnplghjaojhaa
set_option maxRecDepth 100000
set_option maxHeartbeats 2000000
set_option linter.unusedSimpArgs false
open Go.RowKit Go.Shelf Go.Sort
set_option linter.unusedVariables false

def Atm.eqB (x y : Atm) : Bool := x.kind == y.kind && ((x.fk == y.fk && x.fn.toList == y.fn.toList) && (x.name.toList == y.name.toList && (x.value.toList == y.value.toList && (x.tk == y.tk && x.tn.toList == y.tn.toList))))
theorem Atm.eqB_iff (x y : Atm) : x.eqB y = true ↔ x = y := by
  obtain ⟨a, b, c, d, e, f, g⟩ := x
  obtain ⟨a', b', c', d', e', f', g'⟩ := y
  unfold Atm.eqB
  simp only [Bool.and_eq_true, str_beq]
  simp [and_assoc]
theorem Atm.eqB_dec (x y : Atm) : x.eqB y = decide (x = y) := by
  by_cases h : x = y
  · rw [decide_eq_true h, (Atm.eqB_iff x y).2 h]
  · rw [decide_eq_false h]
    cases hh : x.eqB y
    · rfl
    · exact absurd ((Atm.eqB_iff x y).1 hh) h
def atV (a : Atm) : Value := .agg #[.int .i64 a.kind, .bool a.fk, .string a.fn, .string a.name, .string a.value, .bool a.tk, .string a.tn]
theorem at_eql (x y : Atm) (w : World) : (Op.equalIn 10000 64 (atV x) (atV y)).run Try.prog w = .ok (x.eqB y) w := by
  unfold Atm.eqB atV
  rw [show (10000 : Nat) = 9999 + 1 from rfl, run_equalIn_struct (P := Try.prog) w 9999 64 _ _ (by kernel_rfl) (by kernel_rfl)]
  have hf : (Try.prog.fieldsOf 64).toList = _ := congrArg Array.toList (show Try.prog.fieldsOf 64 = _ by unfold Program.fieldsOf; rw [Try.underlying64])
  have hf2 : (Try.prog.fieldsOf 62).toList = _ := congrArg Array.toList (show Try.prog.fieldsOf 62 = _ by unfold Program.fieldsOf; rw [Try.underlying62])
  rw [hf]
  simp [Op.eqFields, go_sem, run_equalIn_int, run_equalIn_string]
  by_cases h1 : x.kind = y.kind
  case neg => simp [h1]
  by_cases h2 : x.fk = y.fk
  case neg => simp [h1, h2]
  by_cases h3 : x.fn.toList = y.fn.toList
  case neg => simp [h1, h2, h3]
  by_cases h4 : x.name.toList = y.name.toList
  case neg => simp [h1, h2, h3, h4]
  by_cases h5 : x.value.toList = y.value.toList
  case neg => simp [h1, h2, h3, h4, h5]
  by_cases h6 : x.tk = y.tk
  case neg => simp [h1, h2, h3, h4, h5, h6]
  by_cases h7 : x.tn.toList = y.tn.toList <;> simp [h1, h2, h3, h4, h5, h6, h7]
theorem at_eqlB (x y : Atm) (w : World) : (binOp .eql 64 (atV x) (atV y)).run Try.prog w = .ok (.bool (decide (x = y))) w := by
  rw [← Atm.eqB_dec]
  have h := at_eql x y w
  unfold atV at h ⊢
  rw [run_eql_struct, h]; rfl
theorem at_neqB (x y : Atm) (w : World) : (binOp .neq 64 (atV x) (atV y)).run Try.prog w = .ok (.bool (!decide (x = y))) w := by
  rw [← Atm.eqB_dec]
  have h := at_eql x y w
  unfold atV at h ⊢
  rw [run_neq_struct, h]; rfl
/-- May an atom be? -/
def atomB (a : Atm) : Bool :=
  if a.kind = 1 then decide (a.name = nilB) && (decide (a.value = nilB) && (!a.tk && (decide (a.tn = nilB) && wordB a.fn)))
  else if a.kind = 2 then decide (a.value = nilB) && (!a.tk && (decide (a.tn = nilB) && (wordB a.fn && wordB a.name)))
  else if a.kind = 3 then !a.tk && (decide (a.tn = nilB) && (wordB a.fn && (wordB a.name && worthB a.value)))
  else if a.kind = 4 then decide (a.value = nilB) && (wordB a.fn && (wordB a.name && wordB a.tn))
  else false
end Go.Proofs.Ytngnplghjaojhaa
