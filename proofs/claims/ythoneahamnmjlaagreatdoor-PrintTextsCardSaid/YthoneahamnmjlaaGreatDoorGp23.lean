/- The document: which atoms may be. -/
import Derived.Test.YthoneahamnmjlaaGreatDoorGp17
import Derived.Test.YthoneahamnmjlaaGreatDoorGp07
import Derived.Test.YthoneahamnmjlaaGreatDoorGp16
namespace Go.Proofs.YthoneahamnmjlaaGreatDoor
set_option maxRecDepth 100000
set_option maxHeartbeats 2000000
set_option linter.unusedSimpArgs false
open Go.RowKit Go.Shelf Go.Sort
attribute [local go_sem] Oper.semAt_some wide_fn wide_depth
set_option linter.unusedVariables false

theorem wordR' (s : ByteArray) (w : World) (hs : s.size ≤ 9223372036854775800) : Calls Tryz.prog 22 #[.string s] w fun e w' => e = .returned (.bool (wordB s)) ∧ w = w' := by
  rw [← wordB_all]; exact wordR s w (by omega)
theorem worthR' (s : ByteArray) (w : World) (hs : s.size ≤ 9223372036854775800) : Calls Tryz.prog 91 #[.string s] w fun e w' => e = .returned (.bool (worthB s)) ∧ w = w' := by
  rw [← worthB_all]; exact worthR s w (by omega)
theorem nil_dec (s : ByteArray) : decide (s = nilB) = s.toList.isEmpty := by
  by_cases h : s = nilB
  · rw [decide_eq_true h, nil_yes h]
  · rw [decide_eq_false h, nil_no h]
theorem tm_eqlB (a b : Bool) (s t : ByteArray) (w : World) : (binOp .eql 38 (.agg #[.bool a, .string s]) (.agg #[.bool b, .string t])).run Tryz.prog w = .ok (.bool (decide (a = b) && decide (s = t))) w := by
  rw [run_eql_struct]
  have h : (Op.equalIn 10000 38 (.agg #[.bool a, .string s]) (.agg #[.bool b, .string t])).run Tryz.prog w = .ok (a == b && s.toList == t.toList) w := by
    rw [show (10000 : Nat) = 9999 + 1 from rfl, run_equalIn_struct (P := Tryz.prog) w 9999 38 _ _ (by kernel_rfl) (by kernel_rfl)]
    have hf : (Tryz.prog.fieldsOf 38).toList = _ := congrArg Array.toList (show Tryz.prog.fieldsOf 38 = _ by unfold Program.fieldsOf; rw [Tryz.underlying38])
    rw [hf]
    simp [Op.eqFields, go_sem, run_equalIn_string]
    by_cases h1 : a = b <;> by_cases h2 : s.toList = t.toList <;> simp [h1, h2]
  rw [h, str_dec]
  simp only [Result.andThen_ok]
  cases a <;> cases b <;> rfl
set_option maxRecDepth 100000 in
set_option maxHeartbeats 2000000 in
theorem ratom1 (fk : Bool) (fn nm va : ByteArray) (tk : Bool) (tn : ByteArray) (w : World) (hf : Atm.Fits ⟨1, fk, fn, nm, va, tk, tn⟩) :
    Calls Tryz.prog 73 #[.agg #[.int .i64 1, .bool fk, .string fn, .string nm, .string va, .bool tk, .string tn]] w fun e w' => e = .returned (.bool (atomB ⟨1, fk, fn, nm, va, tk, tn⟩)) ∧ Ext w w' := by
  have HX0 := Lib.hid (Ext.alloc w (.cells #[.int .i64 1, .bool fk, .string fn, .string nm, .string va, .bool tk, .string tn] 40))
  have HB0 := Lib.hid (show RowAt (w.alloc (.cells #[.int .i64 1, .bool fk, .string fn, .string nm, .string va, .bool tk, .string tn] 40)) w.heap.size 40 [.int .i64 1, .bool fk, .string fn, .string nm, .string va, .bool tk, .string tn] from RowAt.new _ _ _)
  have HW1 := Lib.hid (fun w => wordR' fn w hf.fn)
  have HW2 := Lib.hid (fun w => wordR' nm w hf.name)
  have HW3 := Lib.hid (fun w => worthR' va w hf.value)
  have HW4 := Lib.hid (fun w => wordR' tn w hf.tn)
  have htm := fun w => tm_eqlB tk false tn nilB w
  obtain ⟨T, hT⟩ : ∃ T, (decide (tk = false) && decide (tn = nilB)) = T := ⟨_, rfl⟩
  obtain ⟨n1, hn1⟩ : ∃ b, nm.toList.isEmpty = b := ⟨_, rfl⟩
  obtain ⟨n2, hn2⟩ : ∃ b, va.toList.isEmpty = b := ⟨_, rfl⟩
  obtain ⟨RES, hres⟩ : ∃ R, atomB ⟨1, fk, fn, nm, va, tk, tn⟩ = R := ⟨_, rfl⟩
  rw [hres]
  obtain ⟨b1, hb1⟩ : ∃ b, wordB fn = b := ⟨_, rfl⟩
  obtain ⟨b2, hb2⟩ : ∃ b, wordB nm = b := ⟨_, rfl⟩
  obtain ⟨b3, hb3⟩ : ∃ b, worthB va = b := ⟨_, rfl⟩
  obtain ⟨b4, hb4⟩ : ∃ b, wordB tn = b := ⟨_, rfl⟩
  rw [hb1] at HW1
  rw [hb2] at HW2
  rw [hb3] at HW3
  rw [hb4] at HW4
  rw [hT] at htm
  unfold nilB at htm
  have HRES : Hid (RES = (b1 && (n1 && (n2 && T)))) := Lib.hid (by
    rw [← hres]
    unfold atomB
    dsimp only
    rw [hb1, hb2, hb3, hb4]
    rw [nil_dec nm, nil_dec va, hn1, hn2]
    try rw [← hT]
    first | (rw [if_pos rfl]; (cases b1 <;> cases n1 <;> cases n2 <;> cases tk <;> simp)) | (rw [if_neg (by decide), if_pos rfl]; (cases b1 <;> cases n1 <;> cases n2 <;> cases tk <;> simp)) | (rw [if_neg (by decide), if_neg (by decide), if_pos rfl]; (cases b1 <;> cases n1 <;> cases n2 <;> cases tk <;> simp)) | (rw [if_neg (by decide), if_neg (by decide), if_neg (by decide), if_pos rfl]; (cases b1 <;> cases n1 <;> cases n2 <;> cases tk <;> simp)))
  clear hf hT hres hb1 hb2 hb3 hb4
  go_enter Tryz.func73, Tryz.ntmps73
  go_upto_region 1 with fail
  generalize w.alloc (.cells #[.int .i64 1, .bool fk, .string fn, .string nm, .string va, .bool tk, .string tn] 40) = w1 at *
  obtain ⟨x, hx⟩ : ∃ x, w.heap.size = x := ⟨_, rfl⟩
  rw [hx] at HB0
  try simp only [hx]
  clear hx
  go_upto_region 2 with fail
  have HX := Lib.hid (HX0.out.trans (Ext.alloc w1 (.cells #[.bool false, .string ⟨#[]⟩] 38)))
  have HB := Lib.hid (HB0.out.ext (Ext.alloc w1 (.cells #[.bool false, .string ⟨#[]⟩] 38)))
  have HC := Lib.hid (RowAt.new w1 38 [.bool false, .string ⟨#[]⟩])
  clear HX0 HB0
  generalize w1.alloc (.cells #[.bool false, .string ⟨#[]⟩] 38) = w2 at *
  obtain ⟨d0, d1, d2, d3, d4, d5, d6⟩ := row7_facts HB.out
  obtain ⟨e0, e1, _, _⟩ := HC.out.facts2
  cases b1 with
  | false =>
    go_wp2_with fail
    refine (HW1.out _).mono ?_
    rintro e w' ⟨rfl, rfl⟩
    go_wp2_with fail
    go_ret
    exact ⟨ret_bool (by rw [HRES.out]; simp), HX.out⟩
  | true =>
    cases n1 with
    | false =>
      go_wp2_with fail
      refine (HW1.out _).mono ?_
      rintro e w' ⟨rfl, rfl⟩
      go_wp2_with fail
      go_ret
      exact ⟨ret_bool (by rw [HRES.out]; simp), HX.out⟩
    | true =>
      cases n2 with
      | false =>
        go_wp2_with fail
        refine (HW1.out _).mono ?_
        rintro e w' ⟨rfl, rfl⟩
        go_wp2_with fail
        go_ret
        exact ⟨ret_bool (by rw [HRES.out]; simp), HX.out⟩
      | true =>
        go_wp2_with fail
        refine (HW1.out _).mono ?_
        rintro e w' ⟨rfl, rfl⟩
        go_wp2_with fail
        go_ret
        exact ⟨ret_bool (by rw [HRES.out]; simp), HX.out⟩
set_option maxRecDepth 100000 in
set_option maxHeartbeats 2000000 in
theorem ratom2 (fk : Bool) (fn nm va : ByteArray) (tk : Bool) (tn : ByteArray) (w : World) (hf : Atm.Fits ⟨2, fk, fn, nm, va, tk, tn⟩) :
    Calls Tryz.prog 73 #[.agg #[.int .i64 2, .bool fk, .string fn, .string nm, .string va, .bool tk, .string tn]] w fun e w' => e = .returned (.bool (atomB ⟨2, fk, fn, nm, va, tk, tn⟩)) ∧ Ext w w' := by
  have HX0 := Lib.hid (Ext.alloc w (.cells #[.int .i64 2, .bool fk, .string fn, .string nm, .string va, .bool tk, .string tn] 40))
  have HB0 := Lib.hid (show RowAt (w.alloc (.cells #[.int .i64 2, .bool fk, .string fn, .string nm, .string va, .bool tk, .string tn] 40)) w.heap.size 40 [.int .i64 2, .bool fk, .string fn, .string nm, .string va, .bool tk, .string tn] from RowAt.new _ _ _)
  have HW1 := Lib.hid (fun w => wordR' fn w hf.fn)
  have HW2 := Lib.hid (fun w => wordR' nm w hf.name)
  have HW3 := Lib.hid (fun w => worthR' va w hf.value)
  have HW4 := Lib.hid (fun w => wordR' tn w hf.tn)
  have htm := fun w => tm_eqlB tk false tn nilB w
  obtain ⟨T, hT⟩ : ∃ T, (decide (tk = false) && decide (tn = nilB)) = T := ⟨_, rfl⟩
  obtain ⟨n1, hn1⟩ : ∃ b, nm.toList.isEmpty = b := ⟨_, rfl⟩
  obtain ⟨n2, hn2⟩ : ∃ b, va.toList.isEmpty = b := ⟨_, rfl⟩
  obtain ⟨RES, hres⟩ : ∃ R, atomB ⟨2, fk, fn, nm, va, tk, tn⟩ = R := ⟨_, rfl⟩
  rw [hres]
  obtain ⟨b1, hb1⟩ : ∃ b, wordB fn = b := ⟨_, rfl⟩
  obtain ⟨b2, hb2⟩ : ∃ b, wordB nm = b := ⟨_, rfl⟩
  obtain ⟨b3, hb3⟩ : ∃ b, worthB va = b := ⟨_, rfl⟩
  obtain ⟨b4, hb4⟩ : ∃ b, wordB tn = b := ⟨_, rfl⟩
  rw [hb1] at HW1
  rw [hb2] at HW2
  rw [hb3] at HW3
  rw [hb4] at HW4
  rw [hT] at htm
  unfold nilB at htm
  have HRES : Hid (RES = (b1 && (b2 && (n2 && T)))) := Lib.hid (by
    rw [← hres]
    unfold atomB
    dsimp only
    rw [hb1, hb2, hb3, hb4]
    rw [nil_dec nm, nil_dec va, hn1, hn2]
    try rw [← hT]
    first | (rw [if_pos rfl]; (cases b1 <;> cases b2 <;> cases b3 <;> cases b4 <;> cases n1 <;> cases n2 <;> cases tk <;> simp)) | (rw [if_neg (by decide), if_pos rfl]; (cases b1 <;> cases b2 <;> cases b3 <;> cases b4 <;> cases n1 <;> cases n2 <;> cases tk <;> simp)) | (rw [if_neg (by decide), if_neg (by decide), if_pos rfl]; (cases b1 <;> cases b2 <;> cases b3 <;> cases b4 <;> cases n1 <;> cases n2 <;> cases tk <;> simp)) | (rw [if_neg (by decide), if_neg (by decide), if_neg (by decide), if_pos rfl]; (cases b1 <;> cases b2 <;> cases b3 <;> cases b4 <;> cases n1 <;> cases n2 <;> cases tk <;> simp)))
  clear hf hT hres hb1 hb2 hb3 hb4
  go_enter Tryz.func73, Tryz.ntmps73
  go_upto_region 1 with fail
  generalize w.alloc (.cells #[.int .i64 2, .bool fk, .string fn, .string nm, .string va, .bool tk, .string tn] 40) = w1 at *
  obtain ⟨x, hx⟩ : ∃ x, w.heap.size = x := ⟨_, rfl⟩
  rw [hx] at HB0
  try simp only [hx]
  clear hx
  go_upto_region 2 with fail
  have HX := Lib.hid (HX0.out.trans (Ext.alloc w1 (.cells #[.bool false, .string ⟨#[]⟩] 38)))
  have HB := Lib.hid (HB0.out.ext (Ext.alloc w1 (.cells #[.bool false, .string ⟨#[]⟩] 38)))
  have HC := Lib.hid (RowAt.new w1 38 [.bool false, .string ⟨#[]⟩])
  clear HX0 HB0
  generalize w1.alloc (.cells #[.bool false, .string ⟨#[]⟩] 38) = w2 at *
  obtain ⟨d0, d1, d2, d3, d4, d5, d6⟩ := row7_facts HB.out
  obtain ⟨e0, e1, _, _⟩ := HC.out.facts2
  cases b1 with
  | false =>
    go_wp2_with fail
    refine (HW1.out _).mono ?_
    rintro e w' ⟨rfl, rfl⟩
    go_wp2_with fail
    go_ret
    exact ⟨ret_bool (by rw [HRES.out]; simp), HX.out⟩
  | true =>
    cases b2 with
    | false =>
      go_wp2_with fail
      refine (HW1.out _).mono ?_
      rintro e w' ⟨rfl, rfl⟩
      go_wp2_with fail
      refine (HW2.out _).mono ?_
      rintro e w' ⟨rfl, rfl⟩
      go_wp2_with fail
      go_ret
      exact ⟨ret_bool (by rw [HRES.out]; simp), HX.out⟩
    | true =>
      cases n2 with
      | false =>
        go_wp2_with fail
        refine (HW1.out _).mono ?_
        rintro e w' ⟨rfl, rfl⟩
        go_wp2_with fail
        refine (HW2.out _).mono ?_
        rintro e w' ⟨rfl, rfl⟩
        go_wp2_with fail
        go_ret
        exact ⟨ret_bool (by rw [HRES.out]; simp), HX.out⟩
      | true =>
        go_wp2_with fail
        refine (HW1.out _).mono ?_
        rintro e w' ⟨rfl, rfl⟩
        go_wp2_with fail
        refine (HW2.out _).mono ?_
        rintro e w' ⟨rfl, rfl⟩
        go_wp2_with fail
        go_ret
        exact ⟨ret_bool (by rw [HRES.out]; simp), HX.out⟩
set_option maxRecDepth 100000 in
set_option maxHeartbeats 2000000 in
theorem ratom3 (fk : Bool) (fn nm va : ByteArray) (tk : Bool) (tn : ByteArray) (w : World) (hf : Atm.Fits ⟨3, fk, fn, nm, va, tk, tn⟩) :
    Calls Tryz.prog 73 #[.agg #[.int .i64 3, .bool fk, .string fn, .string nm, .string va, .bool tk, .string tn]] w fun e w' => e = .returned (.bool (atomB ⟨3, fk, fn, nm, va, tk, tn⟩)) ∧ Ext w w' := by
  have HX0 := Lib.hid (Ext.alloc w (.cells #[.int .i64 3, .bool fk, .string fn, .string nm, .string va, .bool tk, .string tn] 40))
  have HB0 := Lib.hid (show RowAt (w.alloc (.cells #[.int .i64 3, .bool fk, .string fn, .string nm, .string va, .bool tk, .string tn] 40)) w.heap.size 40 [.int .i64 3, .bool fk, .string fn, .string nm, .string va, .bool tk, .string tn] from RowAt.new _ _ _)
  have HW1 := Lib.hid (fun w => wordR' fn w hf.fn)
  have HW2 := Lib.hid (fun w => wordR' nm w hf.name)
  have HW3 := Lib.hid (fun w => worthR' va w hf.value)
  have HW4 := Lib.hid (fun w => wordR' tn w hf.tn)
  have htm := fun w => tm_eqlB tk false tn nilB w
  obtain ⟨T, hT⟩ : ∃ T, (decide (tk = false) && decide (tn = nilB)) = T := ⟨_, rfl⟩
  obtain ⟨n1, hn1⟩ : ∃ b, nm.toList.isEmpty = b := ⟨_, rfl⟩
  obtain ⟨n2, hn2⟩ : ∃ b, va.toList.isEmpty = b := ⟨_, rfl⟩
  obtain ⟨RES, hres⟩ : ∃ R, atomB ⟨3, fk, fn, nm, va, tk, tn⟩ = R := ⟨_, rfl⟩
  rw [hres]
  obtain ⟨b1, hb1⟩ : ∃ b, wordB fn = b := ⟨_, rfl⟩
  obtain ⟨b2, hb2⟩ : ∃ b, wordB nm = b := ⟨_, rfl⟩
  obtain ⟨b3, hb3⟩ : ∃ b, worthB va = b := ⟨_, rfl⟩
  obtain ⟨b4, hb4⟩ : ∃ b, wordB tn = b := ⟨_, rfl⟩
  rw [hb1] at HW1
  rw [hb2] at HW2
  rw [hb3] at HW3
  rw [hb4] at HW4
  rw [hT] at htm
  unfold nilB at htm
  have HRES : Hid (RES = (b1 && (b2 && (b3 && T)))) := Lib.hid (by
    rw [← hres]
    unfold atomB
    dsimp only
    rw [hb1, hb2, hb3, hb4]
    rw [nil_dec nm, nil_dec va, hn1, hn2]
    try rw [← hT]
    first | (rw [if_pos rfl]; (cases b1 <;> cases b2 <;> cases b3 <;> cases b4 <;> cases n1 <;> cases n2 <;> cases tk <;> simp)) | (rw [if_neg (by decide), if_pos rfl]; (cases b1 <;> cases b2 <;> cases b3 <;> cases b4 <;> cases n1 <;> cases n2 <;> cases tk <;> simp)) | (rw [if_neg (by decide), if_neg (by decide), if_pos rfl]; (cases b1 <;> cases b2 <;> cases b3 <;> cases b4 <;> cases n1 <;> cases n2 <;> cases tk <;> simp)) | (rw [if_neg (by decide), if_neg (by decide), if_neg (by decide), if_pos rfl]; (cases b1 <;> cases b2 <;> cases b3 <;> cases b4 <;> cases n1 <;> cases n2 <;> cases tk <;> simp)))
  clear hf hT hres hb1 hb2 hb3 hb4
  go_enter Tryz.func73, Tryz.ntmps73
  go_upto_region 1 with fail
  generalize w.alloc (.cells #[.int .i64 3, .bool fk, .string fn, .string nm, .string va, .bool tk, .string tn] 40) = w1 at *
  obtain ⟨x, hx⟩ : ∃ x, w.heap.size = x := ⟨_, rfl⟩
  rw [hx] at HB0
  try simp only [hx]
  clear hx
  go_upto_region 2 with fail
  have HX := Lib.hid (HX0.out.trans (Ext.alloc w1 (.cells #[.bool false, .string ⟨#[]⟩] 38)))
  have HB := Lib.hid (HB0.out.ext (Ext.alloc w1 (.cells #[.bool false, .string ⟨#[]⟩] 38)))
  have HC := Lib.hid (RowAt.new w1 38 [.bool false, .string ⟨#[]⟩])
  clear HX0 HB0
  generalize w1.alloc (.cells #[.bool false, .string ⟨#[]⟩] 38) = w2 at *
  obtain ⟨d0, d1, d2, d3, d4, d5, d6⟩ := row7_facts HB.out
  obtain ⟨e0, e1, _, _⟩ := HC.out.facts2
  cases b1 with
  | false =>
    go_wp2_with fail
    refine (HW1.out _).mono ?_
    rintro e w' ⟨rfl, rfl⟩
    go_wp2_with fail
    go_ret
    exact ⟨ret_bool (by rw [HRES.out]; simp), HX.out⟩
  | true =>
    cases b2 with
    | false =>
      go_wp2_with fail
      refine (HW1.out _).mono ?_
      rintro e w' ⟨rfl, rfl⟩
      go_wp2_with fail
      refine (HW2.out _).mono ?_
      rintro e w' ⟨rfl, rfl⟩
      go_wp2_with fail
      go_ret
      exact ⟨ret_bool (by rw [HRES.out]; simp), HX.out⟩
    | true =>
      cases b3 with
      | false =>
        go_wp2_with fail
        refine (HW1.out _).mono ?_
        rintro e w' ⟨rfl, rfl⟩
        go_wp2_with fail
        refine (HW2.out _).mono ?_
        rintro e w' ⟨rfl, rfl⟩
        go_wp2_with fail
        refine (HW3.out _).mono ?_
        rintro e w' ⟨rfl, rfl⟩
        go_wp2_with fail
        go_ret
        exact ⟨ret_bool (by rw [HRES.out]; simp), HX.out⟩
      | true =>
        go_wp2_with fail
        refine (HW1.out _).mono ?_
        rintro e w' ⟨rfl, rfl⟩
        go_wp2_with fail
        refine (HW2.out _).mono ?_
        rintro e w' ⟨rfl, rfl⟩
        go_wp2_with fail
        refine (HW3.out _).mono ?_
        rintro e w' ⟨rfl, rfl⟩
        go_wp2_with fail
        go_ret
        exact ⟨ret_bool (by rw [HRES.out]; simp), HX.out⟩
set_option maxRecDepth 100000 in
set_option maxHeartbeats 2000000 in
theorem ratom4 (fk : Bool) (fn nm va : ByteArray) (tk : Bool) (tn : ByteArray) (w : World) (hf : Atm.Fits ⟨4, fk, fn, nm, va, tk, tn⟩) :
    Calls Tryz.prog 73 #[.agg #[.int .i64 4, .bool fk, .string fn, .string nm, .string va, .bool tk, .string tn]] w fun e w' => e = .returned (.bool (atomB ⟨4, fk, fn, nm, va, tk, tn⟩)) ∧ Ext w w' := by
  have HX0 := Lib.hid (Ext.alloc w (.cells #[.int .i64 4, .bool fk, .string fn, .string nm, .string va, .bool tk, .string tn] 40))
  have HB0 := Lib.hid (show RowAt (w.alloc (.cells #[.int .i64 4, .bool fk, .string fn, .string nm, .string va, .bool tk, .string tn] 40)) w.heap.size 40 [.int .i64 4, .bool fk, .string fn, .string nm, .string va, .bool tk, .string tn] from RowAt.new _ _ _)
  have HW1 := Lib.hid (fun w => wordR' fn w hf.fn)
  have HW2 := Lib.hid (fun w => wordR' nm w hf.name)
  have HW3 := Lib.hid (fun w => worthR' va w hf.value)
  have HW4 := Lib.hid (fun w => wordR' tn w hf.tn)
  have htm := fun w => tm_eqlB tk false tn nilB w
  obtain ⟨T, hT⟩ : ∃ T, (decide (tk = false) && decide (tn = nilB)) = T := ⟨_, rfl⟩
  obtain ⟨n1, hn1⟩ : ∃ b, nm.toList.isEmpty = b := ⟨_, rfl⟩
  obtain ⟨n2, hn2⟩ : ∃ b, va.toList.isEmpty = b := ⟨_, rfl⟩
  obtain ⟨RES, hres⟩ : ∃ R, atomB ⟨4, fk, fn, nm, va, tk, tn⟩ = R := ⟨_, rfl⟩
  rw [hres]
  obtain ⟨b1, hb1⟩ : ∃ b, wordB fn = b := ⟨_, rfl⟩
  obtain ⟨b2, hb2⟩ : ∃ b, wordB nm = b := ⟨_, rfl⟩
  obtain ⟨b3, hb3⟩ : ∃ b, worthB va = b := ⟨_, rfl⟩
  obtain ⟨b4, hb4⟩ : ∃ b, wordB tn = b := ⟨_, rfl⟩
  rw [hb1] at HW1
  rw [hb2] at HW2
  rw [hb3] at HW3
  rw [hb4] at HW4
  rw [hT] at htm
  unfold nilB at htm
  have HRES : Hid (RES = (b1 && (b2 && (n2 && b4)))) := Lib.hid (by
    rw [← hres]
    unfold atomB
    dsimp only
    rw [hb1, hb2, hb3, hb4]
    rw [nil_dec nm, nil_dec va, hn1, hn2]
    try rw [← hT]
    first | (rw [if_pos rfl]; (cases b1 <;> cases b2 <;> cases b3 <;> cases b4 <;> cases n1 <;> cases n2 <;> cases tk <;> simp)) | (rw [if_neg (by decide), if_pos rfl]; (cases b1 <;> cases b2 <;> cases b3 <;> cases b4 <;> cases n1 <;> cases n2 <;> cases tk <;> simp)) | (rw [if_neg (by decide), if_neg (by decide), if_pos rfl]; (cases b1 <;> cases b2 <;> cases b3 <;> cases b4 <;> cases n1 <;> cases n2 <;> cases tk <;> simp)) | (rw [if_neg (by decide), if_neg (by decide), if_neg (by decide), if_pos rfl]; (cases b1 <;> cases b2 <;> cases b3 <;> cases b4 <;> cases n1 <;> cases n2 <;> cases tk <;> simp)))
  clear hf hT hres hb1 hb2 hb3 hb4
  go_enter Tryz.func73, Tryz.ntmps73
  go_upto_region 1 with fail
  generalize w.alloc (.cells #[.int .i64 4, .bool fk, .string fn, .string nm, .string va, .bool tk, .string tn] 40) = w1 at *
  obtain ⟨x, hx⟩ : ∃ x, w.heap.size = x := ⟨_, rfl⟩
  rw [hx] at HB0
  try simp only [hx]
  clear hx
  go_upto_region 2 with fail
  have HX := Lib.hid (HX0.out.trans (Ext.alloc w1 (.cells #[.bool false, .string ⟨#[]⟩] 38)))
  have HB := Lib.hid (HB0.out.ext (Ext.alloc w1 (.cells #[.bool false, .string ⟨#[]⟩] 38)))
  have HC := Lib.hid (RowAt.new w1 38 [.bool false, .string ⟨#[]⟩])
  clear HX0 HB0
  generalize w1.alloc (.cells #[.bool false, .string ⟨#[]⟩] 38) = w2 at *
  obtain ⟨d0, d1, d2, d3, d4, d5, d6⟩ := row7_facts HB.out
  obtain ⟨e0, e1, _, _⟩ := HC.out.facts2
  cases b1 with
  | false =>
    go_wp2_with fail
    refine (HW1.out _).mono ?_
    rintro e w' ⟨rfl, rfl⟩
    go_wp2_with fail
    go_ret
    exact ⟨ret_bool (by rw [HRES.out]; simp), HX.out⟩
  | true =>
    cases b2 with
    | false =>
      go_wp2_with fail
      refine (HW1.out _).mono ?_
      rintro e w' ⟨rfl, rfl⟩
      go_wp2_with fail
      refine (HW2.out _).mono ?_
      rintro e w' ⟨rfl, rfl⟩
      go_wp2_with fail
      go_ret
      exact ⟨ret_bool (by rw [HRES.out]; simp), HX.out⟩
    | true =>
      cases n2 with
      | false =>
        go_wp2_with fail
        refine (HW1.out _).mono ?_
        rintro e w' ⟨rfl, rfl⟩
        go_wp2_with fail
        refine (HW2.out _).mono ?_
        rintro e w' ⟨rfl, rfl⟩
        go_wp2_with fail
        go_ret
        exact ⟨ret_bool (by rw [HRES.out]; simp), HX.out⟩
      | true =>
        cases b4 with
        | false =>
          go_wp2_with fail
          refine (HW1.out _).mono ?_
          rintro e w' ⟨rfl, rfl⟩
          go_wp2_with fail
          refine (HW2.out _).mono ?_
          rintro e w' ⟨rfl, rfl⟩
          go_wp2_with fail
          refine (HW4.out _).mono ?_
          rintro e w' ⟨rfl, rfl⟩
          go_wp2_with fail
          go_ret
          exact ⟨ret_bool (by rw [HRES.out]; simp), HX.out⟩
        | true =>
          go_wp2_with fail
          refine (HW1.out _).mono ?_
          rintro e w' ⟨rfl, rfl⟩
          go_wp2_with fail
          refine (HW2.out _).mono ?_
          rintro e w' ⟨rfl, rfl⟩
          go_wp2_with fail
          refine (HW4.out _).mono ?_
          rintro e w' ⟨rfl, rfl⟩
          go_wp2_with fail
          go_ret
          exact ⟨ret_bool (by rw [HRES.out]; simp), HX.out⟩
set_option maxRecDepth 100000 in
set_option maxHeartbeats 2000000 in
theorem ratomN (k : Int) (fk : Bool) (fn nm va : ByteArray) (tk : Bool) (tn : ByteArray) (w : World) (h1 : k ≠ 1) (h2 : k ≠ 2) (h3 : k ≠ 3) (h4 : k ≠ 4) :
    Calls Tryz.prog 73 #[.agg #[.int .i64 k, .bool fk, .string fn, .string nm, .string va, .bool tk, .string tn]] w fun e w' => e = .returned (.bool (atomB ⟨k, fk, fn, nm, va, tk, tn⟩)) ∧ Ext w w' := by
  have hr : atomB ⟨k, fk, fn, nm, va, tk, tn⟩ = false := by unfold atomB; dsimp only; rw [if_neg h1, if_neg h2, if_neg h3, if_neg h4]
  rw [hr]
  have k1 : (k == 1) = false := by simpa using h1
  have k2 : (k == 2) = false := by simpa using h2
  have k3 : (k == 3) = false := by simpa using h3
  have k4 : (k == 4) = false := by simpa using h4
  clear h1 h2 h3 h4 hr
  go_enter Tryz.func73, Tryz.ntmps73
  go_wp2_with fail
  go_ret
  exact ⟨rfl, (Ext.alloc _ _).trans (Ext.alloc _ _)⟩
theorem ratom_any (a : Atm) (w : World) (hf : a.Fits) : Calls Tryz.prog 73 #[atV a] w fun e w' => e = .returned (.bool (atomB a)) ∧ Ext w w' := by
  obtain ⟨k, fk, fn, nm, va, tk, tn⟩ := a
  unfold atV
  dsimp only
  by_cases h1 : k = 1
  · subst h1; exact ratom1 fk fn nm va tk tn w hf
  by_cases h2 : k = 2
  · subst h2; exact ratom2 fk fn nm va tk tn w hf
  by_cases h3 : k = 3
  · subst h3; exact ratom3 fk fn nm va tk tn w hf
  by_cases h4 : k = 4
  · subst h4; exact ratom4 fk fn nm va tk tn w hf
  exact ratomN k fk fn nm va tk tn w h1 h2 h3 h4
end Go.Proofs.YthoneahamnmjlaaGreatDoor

/- The document: the first atoms of a pattern; variables, none twice. -/
namespace Go.Proofs.YthoneahamnmjlaaGreatDoor
set_option maxRecDepth 100000
set_option maxHeartbeats 2000000
set_option linter.unusedSimpArgs false
open Go.RowKit Go.Shelf Go.Sort
attribute [local go_sem] Oper.semAt_some wide_fn wide_depth
set_option linter.unusedVariables false

def beginsB (l : List Atm) : Bool := l.all atomB && (decide (l.length ≤ 40) && (decide (edgesOf l ≤ 6) && decide ((varsS l).length ≤ 32)))
set_option maxRecDepth 100000 in
set_option maxHeartbeats 2000000 in
theorem begins_any (v : Value) (l : List Atm) (w : World) (hv : Ats w v l) (hf : ∀ a ∈ l, a.Fits) (hl : l.length ≤ 100000) :
    Calls Tryz.prog 44 #[v] w fun e w' => e = .returned (.bool (beginsB l)) ∧ Ext w w' := by
  obtain ⟨a, c, rfl, hc1, hc2⟩ := hv.shape
  have HV := Lib.hid hv
  have HF := Lib.hid hf
  have HE := Lib.hid (fun w' (hx : Ext w w') => edgesS_any _ l w' (hv.ext hx) (by omega))
  have HS := Lib.hid (fun w' (hx : Ext w w') => varsS_any _ l w' (hv.ext hx) (by omega))
  have hed : edgesOf l ≤ l.length := List.length_filter_le _ _
  have hvl := varsS_take_len l l.length (Nat.le_refl _)
  rw [List.take_length] at hvl
  obtain ⟨RES, hRES⟩ : ∃ R, beginsB l = R := ⟨_, rfl⟩
  rw [hRES]
  unfold beginsB at hRES
  have HRES := Lib.hid hRES
  clear hv hf hRES
  generalize edgesOf l = E at *
  go_enter Tryz.func44, Tryz.ntmps44
  go_wp2_with fail
  go_loopg [7] l.length (fun g i wr => ∃ k : Nat, k ≤ l.length ∧ g = l.length - k ∧ i = .int .i64 k ∧ Ext w wr ∧ Hid (∀ x ∈ l.take k, atomB x = true))
  case atStart => exact ⟨0, Nat.zero_le _, rfl, rfl, Ext.refl _, Lib.hid (by simp)⟩
  case round =>
    obtain ⟨k, hk, hg, rfl, hx, hall⟩ := hrel
    have Hg := Lib.hid hg
    have HX := Lib.hid hx
    clear hg
    by_cases hlt : k < l.length
    · obtain ⟨b, o, rfl, c0, c1, c2, c3, c4, c5, c6⟩ := (HV.out.ext hx).at_ hlt
      have HC := Lib.hid (fun w => ratom_any l[k] w (HF.out _ (List.getElem_mem hlt)))
      have hsn : l.take (k + 1) = l.take k ++ [l[k]] := List.take_succ_eq_append_getElem hlt
      have hmem := List.getElem_mem hlt
      generalize l[k] = x at *
      obtain ⟨B, hB⟩ : ∃ B, atomB x = B := ⟨_, rfl⟩
      rw [hB] at HC
      have HSN := Lib.hid hsn
      have HM := Lib.hid hmem
      have HB := Lib.hid hB
      clear hsn hmem hx hB
      obtain ⟨kk, fk, fn, nm, va, tk, tn⟩ := x
      unfold atV at HC
      dsimp only at HC c0 c1 c2 c3 c4 c5 c6
      have HXA := Lib.hid (HX.out.trans (Ext.alloc wr (.cells #[.int .i64 kk, .bool fk, .string fn, .string nm, .string va, .bool tk, .string tn] 40)))
      have HBX := Lib.hid (RowAt.new wr 40 [.int .i64 kk, .bool fk, .string fn, .string nm, .string va, .bool tk, .string tn])
      go_upto_region 4 with fail
      generalize wr.alloc (.cells #[.int .i64 kk, .bool fk, .string fn, .string nm, .string va, .bool tk, .string tn] 40) = w1 at *
      clear c0 c1 c2 c3 c4 c5 c6
      obtain ⟨d0, d1, d2, d3, d4, d5, d6⟩ := row7_facts HBX.out
      cases B with
      | true =>
        go_wp2_with fail
        refine (HC.out _).mono ?_
        rintro e w2 ⟨rfl, hx2⟩
        have HX2 := Lib.hid (HXA.out.trans hx2)
        clear hx2 HC d0 d1 d2 d3 d4 d5 d6
        go_wp2_with fail
        go_roundg (l.length - (k + 1))
        case measure => have := Hg.out; omega
        case rel => exact ⟨k + 1, by omega, rfl, by go_num, HX2.out, Lib.hid (by rw [HSN.out]; intro y hy; rcases List.mem_append.1 hy with h | h; exact hall.out y h; rw [List.mem_singleton.1 h]; exact HB.out)⟩
      | false =>
        go_wp2_with fail
        refine (HC.out _).mono ?_
        rintro e w2 ⟨rfl, hx2⟩
        have HX2 := Lib.hid (HXA.out.trans hx2)
        clear hx2 HC d0 d1 d2 d3 d4 d5 d6
        go_wp2_with fail
        go_ret
        exact ⟨ret_bool (by rw [← HRES.out, show l.all atomB = false from List.all_eq_false.2 ⟨_, HM.out, by rw [HB.out]; decide⟩]; rfl), HX2.out⟩
    · have he : k = l.length := by omega
      have HALL : Hid (l.all atomB = true) := Lib.hid (by
        have h := hall.out
        rw [he, List.take_length] at h
        exact List.all_eq_true.2 h)
      have HE2 := Lib.hid (HE.out wr HX.out)
      clear HE he
      by_cases h40 : l.length ≤ 40
      case neg =>
        have HR2 : Hid (RES = false) := Lib.hid (by rw [← HRES.out, HALL.out, decide_eq_false h40]; rfl)
        go_wp2_with fail
        go_ret
        exact ⟨ret_bool HR2.out.symm, HX.out⟩
      have HR2 : Hid (RES = (decide (E ≤ 6) && decide ((varsS l).length ≤ 32))) := Lib.hid (by rw [← HRES.out, HALL.out, decide_eq_true h40]; rfl)
      by_cases h6 : E ≤ 6
      case neg =>
        have HR3 : Hid (RES = false) := Lib.hid (by rw [HR2.out, decide_eq_false h6]; rfl)
        go_wp2_with fail
        refine HE2.out.mono ?_
        rintro e w2 ⟨rfl, hx2⟩
        go_wp2_with fail
        go_ret
        exact ⟨ret_bool HR3.out.symm, HX.out.trans hx2⟩
      have HR3 : Hid (RES = decide ((varsS l).length ≤ 32)) := Lib.hid (by rw [HR2.out, decide_eq_true h6]; rfl)
      clear HR2 HRES
      go_wp2_with fail
      refine HE2.out.mono ?_
      rintro e w2 ⟨rfl, hx2⟩
      have HX2 := Lib.hid (HX.out.trans hx2)
      have HS2 := Lib.hid (HS.out w2 HX2.out)
      clear HE2 HS hx2
      generalize varsS l = V at *
      go_wp2_with fail
      refine HS2.out.mono ?_
      rintro e w3 ⟨u, rfl, hu, hx3⟩
      obtain ⟨ua, uc, rfl, _, _⟩ := Sl.shape hu
      have HX3 := Lib.hid (HX2.out.trans hx3)
      clear hu hx3 HS2
      by_cases h32 : V.length ≤ 32
      all_goals
        go_wp2_with fail
        go_ret
        exact ⟨ret_bool (by rw [HR3.out]; simp [h32]; try omega), HX3.out⟩
set_option maxHeartbeats 1000000 in
theorem some16_any (v u : Value) (l vars : List ByteArray) (w : World) (hv : Strs w v l) (hu : Strs w u vars) :
    Calls Tryz.prog 45 #[v, u] w fun e w' => e = .returned (.bool (chosenB vars l)) ∧ Ext w w' := by
  obtain ⟨a, c, rfl, hc1, hc2⟩ := Sl.shape hv
  obtain ⟨a', c', rfl, hd1, hd2⟩ := Sl.shape hu
  have HV := Lib.hid hv
  have HU := Lib.hid hu
  have HST : Hid (chosenB vars l = chosenG vars (l.take 0) (l.drop 0)) := Lib.hid rfl
  generalize chosenB vars l = R at *
  clear hv hu
  go_enter Tryz.func45, Tryz.ntmps45
  go_wp2_with fail
  go_loopg [9] l.length (fun g i wr => ∃ k : Nat, k ≤ l.length ∧ g = l.length - k ∧ i = .int .i64 k ∧ Ext w wr ∧ Hid (R = chosenG vars (l.take k) (l.drop k)))
  case atStart => exact ⟨0, Nat.zero_le _, rfl, rfl, Ext.refl _, HST⟩
  case round =>
    obtain ⟨k, hk, hg, rfl, hx, hr⟩ := hrel
    have Hg := Lib.hid hg
    have HX := Lib.hid hx
    clear hg HST
    by_cases hlt : k < l.length
    · obtain ⟨b, o, rfl, c0⟩ := Strs.at_ (Strs.ext HV.out hx) hlt
      have hat := chosenG_at vars l k hlt
      have HT := Lib.hid (fun w' (hx : Ext w w') => strs_take (Strs.ext HV.out hx) k (by omega))
      generalize l[k] = x at *
      have H1 := Lib.hid (hasS_any x _ vars wr (Strs.ext HU.out hx))
      have H2 := Lib.hid (fun w' (hx : Ext w w') => hasS_any x _ (l.take k) w' (HT.out w' hx))
      obtain ⟨B1, hB1⟩ : ∃ B, hasB x vars = B := ⟨_, rfl⟩
      obtain ⟨B2, hB2⟩ : ∃ B, hasB x (l.take k) = B := ⟨_, rfl⟩
      rw [hB1] at H1 hat
      rw [hB2] at H2 hat
      have HAT := Lib.hid hat
      clear hB1 hB2 hat hx
      cases B1 with
      | false =>
        go_wp2_with fail
        refine H1.out.mono ?_
        rintro e w2 ⟨rfl, hx2⟩
        go_wp2_with fail
        go_ret
        exact ⟨ret_bool (by rw [hr.out, HAT.out]; rfl), HX.out.trans hx2⟩
      | true =>
        cases B2
        case true =>
          go_wp2_with fail
          refine H1.out.mono ?_
          rintro e w2 ⟨rfl, hx2⟩
          have HX2 := Lib.hid (HX.out.trans hx2)
          have H3 := Lib.hid (H2.out w2 HX2.out)
          clear hx2
          go_wp2_with fail
          refine H3.out.mono ?_
          rintro e w3 ⟨rfl, hx3⟩
          have HX3 := Lib.hid (HX2.out.trans hx3)
          clear hx3
          go_wp2_with fail
          go_ret
          exact ⟨ret_bool (by rw [hr.out, HAT.out]; rfl), HX3.out⟩
        case false =>
          go_wp2_with fail
          refine H1.out.mono ?_
          rintro e w2 ⟨rfl, hx2⟩
          have HX2 := Lib.hid (HX.out.trans hx2)
          have H3 := Lib.hid (H2.out w2 HX2.out)
          clear hx2
          go_wp2_with fail
          refine H3.out.mono ?_
          rintro e w3 ⟨rfl, hx3⟩
          have HX3 := Lib.hid (HX2.out.trans hx3)
          clear hx3
          go_wp2_with fail
          go_roundg (l.length - (k + 1))
          case measure => have := Hg.out; omega
          case rel => exact ⟨k + 1, by omega, rfl, by go_num, HX3.out, Lib.hid (by rw [hr.out, HAT.out]; rfl)⟩
    · have HE := Lib.hid (chosenG_end vars l (l.take k) k hlt)
      go_wp2_with fail
      go_ret
      exact ⟨ret_bool (by rw [hr.out, HE.out]), HX.out⟩
end Go.Proofs.YthoneahamnmjlaaGreatDoor
