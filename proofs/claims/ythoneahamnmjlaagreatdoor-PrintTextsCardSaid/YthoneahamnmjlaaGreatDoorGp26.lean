/- The texts of patterns, and patterns with other names: plain, no program in sight. -/
import Derived.Test.YthoneahamnmjlaaGreatDoorGp17
import Derived.Test.YthoneahamnmjlaaGreatDoorGp08
import Derived.Lib.ItoaLen
import Derived.Test.YthoneahamnmjlaaGreatDoorShelf
import Derived.Test.YthoneahamnmjlaaGreatDoorGp14
import Derived.Lib.SmallJoins
import Derived.Lib.AppendIntMem
import Derived.Test.YthoneahamnmjlaaGreatDoorGp02
namespace Go.Proofs.YthoneahamnmjlaaGreatDoor
set_option maxRecDepth 100000
set_option maxHeartbeats 2000000
set_option linter.unusedSimpArgs false
open Go.Lib
set_option linter.unusedVariables false

def termX (k : Bool) (n : ByteArray) : List UInt8 := if k = true then 64 :: bts n else bts n
/-- What stands behind an atom's first term. -/
def tailX (a : Atm) : List UInt8 :=
  if a.kind = 2 then 58 :: bts a.name
  else if a.kind = 3 then 46 :: (bts a.name ++ ([61, 34] ++ (bts a.value ++ [34])))
  else if a.kind = 4 then [41, 45, 91] ++ (bts a.name ++ ([93, 45, 62, 40] ++ termX a.tk a.tn))
  else []
def atomX (a : Atm) : List UInt8 := 40 :: (termX a.fk a.fn ++ (tailX a ++ [41]))
def atomsX (l : List Atm) : List UInt8 := join (l.map atomX) [44, 32]
def retW (l : List ByteArray) : List UInt8 := bts wReturn ++ 32 :: join (l.map bts) [44, 32]
def hintW (l : List ByteArray) : List UInt8 := bts wHint ++ 32 :: join (l.map bts) [32]
def limW (n : Int) : List UInt8 := bts wLimit ++ 32 :: itoa n
def offW (n : Int) : List UInt8 := bts wOffset ++ 32 :: itoa n
/-- A part that may stand there, a blank ahead of it. -/
def partX (b : Bool) (s : List UInt8) : List UInt8 := if b = true then 32 :: s else []
def textX (P : Pat) : List UInt8 := atomsX P.atoms ++ (partX (decide (0 < P.ret.length)) (retW P.ret) ++ (partX P.count (bts wCount) ++ (partX P.distinct (bts wDistinct) ++ (partX P.limited (limW P.limit) ++ (partX (decide (0 < P.offset)) (offW P.offset) ++ partX (decide (0 < P.hint.length)) (hintW P.hint))))))
/-- The parts, and whether each stands there. -/
def partsL (P : Pat) : List (Bool × List UInt8) := [(true, atomsX P.atoms), (decide (0 < P.ret.length), retW P.ret), (P.count, bts wCount), (P.distinct, bts wDistinct), (P.limited, limW P.limit), (decide (0 < P.offset), offW P.offset), (decide (0 < P.hint.length), hintW P.hint)]
def picks (l : List (Bool × List UInt8)) : List (List UInt8) := (l.filter (·.1)).map (·.2)
theorem picks_tail (l : List (Bool × List UInt8)) : joinTail [32] (picks l) = (l.map fun x => partX x.1 x.2).flatten := by
  induction l with
  | nil => rfl
  | cons x l ih =>
    obtain ⟨b, s⟩ := x
    cases b with
    | true =>
      unfold picks at ih ⊢
      simp only [List.filter_cons, if_true, List.map_cons, joinTail, List.flatten_cons] at ih ⊢
      rw [ih]; rfl
    | false =>
      unfold picks at ih ⊢
      simp only [List.filter_cons, List.map_cons, List.flatten_cons] at ih ⊢
      simpa [partX] using ih
theorem text_parts (P : Pat) : join (picks (partsL P)) [32] = textX P := by
  have h : picks (partsL P) = atomsX P.atoms :: picks (partsL P).tail := by unfold partsL picks; simp
  rw [h, join_cons, picks_tail]
  unfold partsL textX
  simp
/-- A pattern's text, and what kept it from having one. -/
def textF (P : Pat) : ByteArray × Int := if P.okB = true then (if 500 < (textX P).length then (nilB, 3) else (txt (textX P), 0)) else (nilB, 261)

/-- A term's name, turned. -/
def turnT (f : ByteArray → ByteArray) (k : Bool) (n : ByteArray) : ByteArray := if k = false ∧ n ≠ nilB then f n else n
def turnA (f : ByteArray → ByteArray) (a : Atm) : Atm := ⟨a.kind, a.fk, turnT f a.fk a.fn, a.name, a.value, a.tk, turnT f a.tk a.tn⟩
def turnP (f : ByteArray → ByteArray) (P : Pat) : Pat := ⟨P.atoms.map (turnA f), P.ret.map f, P.count, P.distinct, P.limited, P.limit, P.offset, P.hint.map f⟩
/-- The name at the place of a variable. -/
def nameAt : List ByteArray → List ByteArray → ByteArray → ByteArray
  | x :: xs, n :: ns, s => if x = s then n else nameAt xs ns s
  | _, _, _ => nilB
def plainN (n : Nat) : List ByteArray := (List.range n).map fun i => txt (118 :: decDigits i)
def renP (P : Pat) (names : List ByteArray) : Pat := turnP (nameAt (varsS P.atoms) names) P
def plainP (P : Pat) : Pat := renP P (plainN (varsS P.atoms).length)
def plainE (P : Pat) : Pat × Int := if P.okB = true then (plainP P, 0) else (noPat, 261)
def alikeB (P Q : Pat) : Bool := P.okB && (Q.okB && sameB (plainP P) (plainP Q))
def namesB (n : Nat) (names : List ByteArray) : Bool := names.all wordB && (decide names.Nodup && decide (names.length = n))
def renE (P : Pat) (names : List ByteArray) : Pat × Int := if P.okB = true then (if namesB (varsS P.atoms).length names = true then (renP P names, 0) else (noPat, 2)) else (noPat, 261)
theorem plainN_len (n : Nat) : (plainN n).length = n := by simp [plainN]
/-- A text is an atom's first part, joined of pieces. -/
theorem atomX_from (a : Atm) (h : a.kind ≠ 2) (h3 : a.kind ≠ 3) (h4 : a.kind ≠ 4) : atomX a = 40 :: (termX a.fk a.fn ++ [41]) := by
  unfold atomX tailX; rw [if_neg h, if_neg h3, if_neg h4]; simp
theorem atomX_label (a : Atm) (h : a.kind = 2) : atomX a = [[40], termX a.fk a.fn, [58], bts a.name, [41]].flatten := by
  unfold atomX tailX; rw [if_pos h]; simp
theorem atomX_prop (a : Atm) (h : a.kind = 3) : atomX a = [[40], termX a.fk a.fn, [46], bts a.name, [61, 34], bts a.value, [34, 41]].flatten := by
  unfold atomX tailX; rw [if_neg (by omega), if_pos h]; simp
theorem atomX_edge (a : Atm) (h : a.kind = 4) : atomX a = [[40] ++ (termX a.fk a.fn ++ [41]), [45, 91], bts a.name, [93, 45, 62, 40], termX a.tk a.tn, [41]].flatten := by
  unfold atomX tailX; rw [if_neg (by omega), if_neg (by omega), if_pos h]; simp
theorem termX_size (k : Bool) (n : ByteArray) : (termX k n).length ≤ n.size + 1 := by
  unfold termX; cases k <;> simp [bts_len]
theorem tailX_size (a : Atm) : (tailX a).length ≤ a.name.size + a.value.size + a.tn.size + 8 := by
  have := termX_size a.tk a.tn
  unfold tailX
  split
  · simp [bts_len]; omega
  · split
    · simp [bts_len]; omega
    · split
      · simp [bts_len]; omega
      · simp
theorem atomX_size (a : Atm) : (atomX a).length ≤ a.fn.size + a.name.size + a.value.size + a.tn.size + 11 := by
  have := termX_size a.fk a.fn
  have := tailX_size a
  unfold atomX
  simp; omega
theorem join_size (l : List (List UInt8)) (sep : List UInt8) (m : Nat) (h : ∀ x ∈ l, x.length ≤ m) : (join l sep).length ≤ l.length * (m + sep.length) := by
  induction l with
  | nil => simp [join_nil]
  | cons x r ih =>
    have h1 := h x (by simp)
    rw [join_cons, List.length_append, joinTail_length]
    have hl : lens r ≤ r.length * m := by
      clear ih
      induction r with
      | nil => simp [lens]
      | cons y r ih2 =>
        have h2 := h y (by simp)
        have := ih2 (fun z hz => h z (by simp at hz ⊢; rcases hz with h | h <;> simp [h]))
        simp only [lens, List.map_cons, List.sum_cons, List.length_cons, Nat.add_mul] at this ⊢
        omega
    rw [List.length_cons, Nat.add_mul, Nat.mul_add]
    have : sep.length * r.length = r.length * sep.length := Nat.mul_comm _ _
    omega
theorem atom_facts {a : Atm} (h : atomB a = true) : wordB a.fn = true ∧
    ((a.kind = 1 ∧ a.name = nilB ∧ a.value = nilB ∧ a.tk = false ∧ a.tn = nilB) ∨ (a.kind = 2 ∧ a.value = nilB ∧ a.tk = false ∧ a.tn = nilB ∧ wordB a.name = true) ∨
      (a.kind = 3 ∧ a.tk = false ∧ a.tn = nilB ∧ wordB a.name = true ∧ worthB a.value = true) ∨ (a.kind = 4 ∧ a.value = nilB ∧ wordB a.name = true ∧ wordB a.tn = true)) := by
  unfold atomB at h
  by_cases h1 : a.kind = 1
  · rw [if_pos h1] at h
    simp at h
    exact ⟨h.2.2.2.2, .inl ⟨h1, h.1, h.2.1, h.2.2.1, h.2.2.2.1⟩⟩
  · rw [if_neg h1] at h
    by_cases h2 : a.kind = 2
    · rw [if_pos h2] at h
      simp at h
      exact ⟨h.2.2.2.1, .inr (.inl ⟨h2, h.1, h.2.1, h.2.2.1, h.2.2.2.2⟩)⟩
    · rw [if_neg h2] at h
      by_cases h3 : a.kind = 3
      · rw [if_pos h3] at h
        simp at h
        exact ⟨h.2.2.1, .inr (.inr (.inl ⟨h3, h.1, h.2.1, h.2.2.2.1, h.2.2.2.2⟩))⟩
      · rw [if_neg h3] at h
        by_cases h4 : a.kind = 4
        · rw [if_pos h4] at h
          simp at h
          exact ⟨h.2.1, .inr (.inr (.inr ⟨h4, h.1, h.2.2.1, h.2.2.2⟩))⟩
        · rw [if_neg h4] at h; cases h
end Go.Proofs.YthoneahamnmjlaaGreatDoor

/- Words joined, numbers written; a term's text. -/
namespace Go.Proofs.YthoneahamnmjlaaGreatDoor
set_option maxRecDepth 100000
set_option maxHeartbeats 2000000
set_option linter.unusedSimpArgs false
open Go.RowKit Go.Shelf Go.Sort
attribute [local go_sem] Oper.semAt_some wide_fn wide_depth
set_option linter.unusedVariables false

/-- The table by which numbers are written stands. -/
def Pows (w : World) : Prop := Lib.TabIs Tryz.prog w "internal/strconv.uint64pow10" .u64 Lib.pow10Tab
theorem Pows.ext {w w' : World} (h : Pows w) (hx : Ext w w') : Pows w' := Go.Joins.tab_stays (show Tryz.prog.globalNamed "internal/strconv.uint64pow10" = some 0 by kernel_rfl) h hx (Nat.le_refl _)
theorem itoa_any (n : Int) (h0 : -9223372036854775808 ≤ n) (h1 : n ≤ 9223372036854775807) (w : World) (hW : Pows w) :
    Calls Tryz.prog 31 #[.int .i64 n] w fun e w' => e = .returned (.string (txt (Lib.itoa n))) ∧ Ext w w' :=
  (Tryz.strconv_Itoa n h0 h1 w hW).mono fun e w' ⟨he, k, os, hw⟩ => ⟨he, hw ▸ Go.Lib.below_grow _ w (Nat.le_refl _) k os⟩
theorem joinS_any (v : Value) (l : List ByteArray) (sep : ByteArray) (w : World) (hv : Strs w v l) (hl : (Lib.join (l.map bts) (bts sep)).length ≤ 140737488355328) (hn : l.length ≤ 140737488355328) :
    Calls Tryz.prog 42 #[v, .string sep] w fun e w' => e = .returned (.string (txt (Lib.join (l.map bts) (bts sep)))) ∧ Ext w w' := by
  obtain ⟨a, c, rfl, h1, h2, h3⟩ := hv
  by_cases h0 : l.length = 0
  · have := List.eq_nil_of_length_eq_zero h0
    subst this
    refine (Tryz.strings_Join_none _ _ _ _).mono fun e w'' ⟨he, hw⟩ => ⟨by rw [he]; rfl, hw ▸ Ext.refl _⟩
  · obtain ⟨b, o, rfl, hcell⟩ := h3 (by simp; omega)
    exact Tryz.strings_Join b o c l sep w (fun j x hj => hcell j (.string x) (by rw [List.getElem?_map, hj]; rfl)) (cell_lt (hcell 0 (.string l[0]) (by rw [List.getElem?_map, List.getElem?_eq_getElem (by omega)]; rfl))) hn h1 hl
theorem join_nosep (l : List (List UInt8)) : Lib.join l [] = l.flatten := by
  induction l with
  | nil => rfl
  | cons x r ih => rw [Lib.join_cons, List.flatten_cons]; unfold Lib.joinTail; simp
theorem joined_any (v : Value) (l : List ByteArray) (w : World) (hv : Strs w v l) (hl : (l.map bts).flatten.length ≤ 140737488355328) (hn : l.length ≤ 140737488355328) :
    Calls Tryz.prog 80 #[v] w fun e w' => e = .returned (.string (txt (l.map bts).flatten)) ∧ Ext w w' := by
  have HJ := Lib.hid (joinS_any v l ⟨#[]⟩ w hv (by rw [show bts (⟨#[]⟩ : ByteArray) = [] from rfl, join_nosep]; exact hl) hn)
  obtain ⟨a, c, rfl, _, _⟩ := Sl.shape hv
  clear hv hl hn
  go_enter Tryz.func80, Tryz.ntmps80
  go_wp2_with fail
  refine HJ.out.mono ?_
  rintro e w' ⟨rfl, hx⟩
  rw [show bts (⟨#[]⟩ : ByteArray) = [] from rfl, join_nosep]
  go_wp2
  go_ret
  exact ⟨rfl, hx⟩
theorem strs_new (w : World) (l : List ByteArray) (t : TypeId) (h : l.length ≤ 100) : Strs (w.alloc (.cells (l.map Value.string).toArray t)) (.slice (some ⟨w.heap.size, 0, none⟩) l.length l.length) l := by
  have := Sl.new w (l.map Value.string).toArray t l.length l.length (Nat.le_refl _) (by unfold maxLen; omega)
  simpa [Strs] using this
/-- The words of a row laid are joined. -/
theorem joined_new (l : List ByteArray) (t : TypeId) (w : World) (hn : l.length ≤ 100) (hl : (l.map bts).flatten.length ≤ 140737488355328) :
    Calls Tryz.prog 80 #[.slice (some ⟨w.heap.size, 0, none⟩) l.length l.length] (w.alloc (.cells (l.map Value.string).toArray t)) fun e w' => e = .returned (.string (txt (l.map bts).flatten)) ∧ Ext (w.alloc (.cells (l.map Value.string).toArray t)) w' :=
  joined_any _ l _ (strs_new w l t hn) hl (by omega)
theorem wordP_any (s : ByteArray) (w : World) (hs : s.size ≤ 9223372036854775800) :
    Calls Tryz.prog 49 #[.string s] w fun e w' => e = .returned (.bool (wordB s)) ∧ Ext w w' := by
  cases hb : wordB s with
  | true =>
    have HC := Lib.hid (check_yes (t := ⟨1, s, 0⟩) w hs hb)
    unfold tkV at HC
    dsimp only at HC
    clear hb
    go_enter Tryz.func49, Tryz.ntmps49
    go_wp2_with fail
    refine HC.out.mono ?_
    rintro e w' ⟨rfl, hx⟩
    go_wp2
    go_ret
    exact ⟨rfl, hx⟩
  | false =>
    have HC := Lib.hid (check_no (t := ⟨1, s, 0⟩) w hs hb)
    unfold tkV at HC
    dsimp only at HC
    clear hb
    go_enter Tryz.func49, Tryz.ntmps49
    go_wp2_with fail
    refine HC.out.mono ?_
    rintro e w' ⟨rfl, hx⟩
    go_wp2
    go_ret
    exact ⟨rfl, hx⟩
theorem prT_any (k : Bool) (n : ByteArray) (w : World) (hs : n.size ≤ 1000000) :
    Calls Tryz.prog 50 #[.agg #[.bool k, .string n]] w fun e w' => e = .returned (.string (txt (termX k n))) ∧ Ext w w' := by
  have HJ := Lib.hid (fun w' => joined_new [⟨#[64]⟩, n] 9 w' (by simp) (by simp [bts_len]; show 1 + n.size ≤ _; omega))
  have HX := Lib.hid (Ext.alloc w (.cells #[.bool k, .string n] 38))
  have hb0 : RowAt (w.alloc (.cells #[.bool k, .string n] 38)) w.heap.size 38 [.bool k, .string n] := RowAt.new _ _ _
  have c0 := hb0.cell (i := 0) rfl
  have c1 := hb0.cell (i := 1) rfl
  clear hb0
  cases k with
  | true =>
    go_enter Tryz.func50, Tryz.ntmps50
    go_upto_region 1 with fail
    generalize w.alloc (.cells #[.bool true, .string n] 38) = w1 at *
    go_wp2_with fail
    refine (HJ.out _).mono ?_
    rintro e w' ⟨rfl, hx⟩
    go_wp2
    go_ret
    exact ⟨by simp [termX]; rfl, HX.out.trans ((Ext.alloc _ _).trans hx)⟩
  | false =>
    go_enter Tryz.func50, Tryz.ntmps50
    go_upto_region 1 with fail
    generalize w.alloc (.cells #[.bool false, .string n] 38) = w1 at *
    go_wp2
    go_ret
    exact ⟨by simp [termX, txt_bts], HX.out⟩
theorem prTT_any (k : Bool) (n : ByteArray) (w : World) (hs : n.size ≤ 9223372036854775800) :
    Calls Tryz.prog 21 #[.agg #[.bool k, .string n]] w fun e w' => e = .returned (.tuple #[.string (if wordB n = true then txt (termX k n) else nilB), .int .i64 (if wordB n = true then 0 else 261)]) ∧ Ext w w' := by
  have HX := Lib.hid (Ext.alloc w (.cells #[.bool k, .string n] 38))
  have hb0 : RowAt (w.alloc (.cells #[.bool k, .string n] 38)) w.heap.size 38 [.bool k, .string n] := RowAt.new _ _ _
  have HB := Lib.hid hb0
  have c1 := hb0.cell (i := 1) rfl
  clear hb0
  have HW := Lib.hid (fun w' => wordP_any n w' hs)
  cases hb : wordB n with
  | true =>
    have hsz : n.size ≤ 1000000 := by
      have := wordB_all n
      rw [hb] at this
      have := (allB_iff.1 this).2.2
      rw [bts_len] at this; omega
    have HT := Lib.hid (fun w' => prT_any k n w' hsz)
    rw [hb] at HW
    clear hb
    go_enter Tryz.func21, Tryz.ntmps21
    go_upto_region 1 with fail
    generalize w.alloc (.cells #[.bool k, .string n] 38) = w1 at *
    go_wp2_with fail
    refine (HW.out _).mono ?_
    rintro e w2 ⟨rfl, hx2⟩
    have hb2 := HB.out.ext hx2
    have d0 := hb2.cell (i := 0) rfl
    have d1 := hb2.cell (i := 1) rfl
    clear hb2
    go_wp2_with fail
    refine (HT.out _).mono ?_
    rintro e w3 ⟨rfl, hx3⟩
    go_wp2
    go_ret2
    exact ⟨rfl, HX.out.trans (hx2.trans hx3)⟩
  | false =>
    rw [hb] at HW
    clear hb
    go_enter Tryz.func21, Tryz.ntmps21
    go_upto_region 1 with fail
    generalize w.alloc (.cells #[.bool k, .string n] 38) = w1 at *
    go_wp2_with fail
    refine (HW.out _).mono ?_
    rintro e w2 ⟨rfl, hx2⟩
    go_wp2
    go_ret2
    exact ⟨rfl, HX.out.trans hx2⟩
end Go.Proofs.YthoneahamnmjlaaGreatDoor

/- The texts of atoms, kind by kind. -/
namespace Go.Proofs.YthoneahamnmjlaaGreatDoor
set_option maxRecDepth 100000
set_option maxHeartbeats 2000000
set_option linter.unusedSimpArgs false
open Go.RowKit Go.Shelf Go.Sort
attribute [local go_sem] Oper.semAt_some wide_fn wide_depth
set_option linter.unusedVariables false

theorem from_any (k : Int) (fk : Bool) (fn nm va : ByteArray) (tk : Bool) (tn : ByteArray) (w : World) (hs : fn.size ≤ 1000000) :
    Calls Tryz.prog 76 #[.agg #[.int .i64 k, .bool fk, .string fn, .string nm, .string va, .bool tk, .string tn]] w fun e w' => e = .returned (.string (txt (40 :: (termX fk fn ++ [41])))) ∧ Ext w w' := by
  have hsz := termX_size fk fn
  have HT := Lib.hid (fun w' => prT_any fk fn w' hs)
  have HJ := Lib.hid (fun w' => joined_new [⟨#[40]⟩, txt (termX fk fn), ⟨#[41]⟩] 9 w' (by simp) (by simp [bts_txt]; show 1 + ((termX fk fn).length + 1) ≤ _; omega))
  -- the head of the text of an atom (print): (colander/print.atom).from the function
  have hmo : Tryz.prog.follows .mixedOrders = true := by kernel_rfl
  have HX := Lib.hid (Ext.alloc w (.cells #[.int .i64 k, .bool fk, .string fn, .string nm, .string va, .bool tk, .string tn] 77))
  have HB := Lib.hid (RowAt.new w 77 [.int .i64 k, .bool fk, .string fn, .string nm, .string va, .bool tk, .string tn])
  go_enter Tryz.func76, Tryz.ntmps76
  go_upto_region 1 with fail
  generalize w.alloc (.cells #[.int .i64 k, .bool fk, .string fn, .string nm, .string va, .bool tk, .string tn] 77) = w1 at *
  obtain ⟨y, hy⟩ : ∃ y, w.heap.size = y := ⟨_, rfl⟩
  rw [hy] at HB
  try simp only [hy]
  clear hy
  have d1 := HB.out.cell (i := 1) rfl
  have d2 := HB.out.cell (i := 2) rfl
  go_wp2_with fail
  refine (HT.out _).mono ?_
  rintro e w2 ⟨rfl, hx2⟩
  go_wp2_with fail
  refine (HJ.out _).mono ?_
  rintro e w3 ⟨rfl, hx3⟩
  go_wp2
  go_ret
  exact ⟨by simp [bts_txt]; rfl, HX.out.trans (hx2.trans ((Ext.alloc _ _).trans hx3))⟩
def prG1 : Nat → Gro
  | 2 => .read
  | 3 => .grow
  | 6 => .read
  | 7 => .grow
  | 8 => .grow
  | _ => .pure
theorem label_any (k : Int) (fk : Bool) (fn nm va : ByteArray) (tk : Bool) (tn : ByteArray) (w : World) (hs : fn.size ≤ 1000000) (hs2 : nm.size ≤ 1000000) :
    Calls Tryz.prog 77 #[.agg #[.int .i64 k, .bool fk, .string fn, .string nm, .string va, .bool tk, .string tn]] w fun e w' => e = .returned (.string (txt [[40], termX fk fn, [58], bts nm, [41]].flatten)) ∧ Ext w w' := by
  have hsz := termX_size fk fn
  have HT := Lib.hid (fun w' => prT_any fk fn w' hs)
  have HJ := Lib.hid (fun w' => joined_new [⟨#[40]⟩, txt (termX fk fn), ⟨#[58]⟩, nm, ⟨#[41]⟩] 9 w' (by simp) (by simp [bts_txt, bts_len]; show 1 + ((termX fk fn).length + (1 + (nm.size + 1))) ≤ _; omega))
  -- the head of the text of an atom (print): (colander/print.atom).label the function
  have hmo : Tryz.prog.follows .mixedOrders = true := by kernel_rfl
  have HX := Lib.hid (Ext.alloc w (.cells #[.int .i64 k, .bool fk, .string fn, .string nm, .string va, .bool tk, .string tn] 77))
  have HB := Lib.hid (RowAt.new w 77 [.int .i64 k, .bool fk, .string fn, .string nm, .string va, .bool tk, .string tn])
  go_enter Tryz.func77, Tryz.ntmps77
  go_upto_region 1 with fail
  generalize w.alloc (.cells #[.int .i64 k, .bool fk, .string fn, .string nm, .string va, .bool tk, .string tn] 77) = w1 at *
  obtain ⟨y, hy⟩ : ∃ y, w.heap.size = y := ⟨_, rfl⟩
  rw [hy] at HB
  try simp only [hy]
  clear hy
  -- into its region that draws its order: prG1 kinds, [0, 1, 2, 4, 5, 6, 3, 7, 8, 9] the order
  refine wp_region_gro prG1 [0, 1, 2, 4, 5, 6, 3, 7, 8, 9] hmo (by kernel_rfl) rfl (by kernel_rfl) (fun _ _ _ _ _ h => h) ?_
  have hxd := Ext.drewN w1 1
  have hb := HB.out.ext hxd
  replace HX := Lib.hid (HX.out.trans hxd)
  change GroW _ _ _ _ _ _ w1.drew
  replace hb : RowAt w1.drew y 77 [.int .i64 k, .bool fk, .string fn, .string nm, .string va, .bool tk, .string tn] := hb
  replace HX : Hid (Ext w w1.drew) := HX
  clear hxd HB
  generalize w1.drew = w2 at *
  have d0 := hb.cell (i := 0) rfl
  have d1 := hb.cell (i := 1) rfl
  have d2 := hb.cell (i := 2) rfl
  have d3 := hb.cell (i := 3) rfl
  have d4 := hb.cell (i := 4) rfl
  have d5 := hb.cell (i := 5) rfl
  have d6 := hb.cell (i := 6) rfl
  clear hb
  repeat (first
    | (refine groL_pure rfl rfl ?_; intro K hK; go_simp; refine hK _ ?_; clear hK K)
    | (refine groL_read rfl rfl ?_; intro K S hS hK; go_simp; refine hK _ ?_; clear hK K hS S)
    | (refine groL_read rfl rfl ?_; intro K S hS hK; go_simp; refine ⟨hS _ ?_, hK _ ?_⟩; (clear hK K hS S; intro w' hx'; have hce := ext_some hx'; go_simp); clear hK K hS S)
    | (refine groL_write rfl rfl ?_; intro K hK; go_simp; refine hK _ _ ?_; clear hK K))
  refine groL_grow rfl rfl ?_
  intro K hK
  go_simp
  (refine (HT.out _).mono ?_; rintro e w3 ⟨rfl, hx3⟩)
  go_simp
  refine hK _ _ ⟨hx3, ?_⟩
  clear hK K
  repeat (first
    | (refine groL_pure rfl rfl ?_; intro K hK; go_simp; refine hK _ ?_; clear hK K)
    | (refine groL_read rfl rfl ?_; intro K S hS hK; go_simp; refine hK _ ?_; clear hK K hS S)
    | (refine groL_read rfl rfl ?_; intro K S hS hK; go_simp; refine ⟨hS _ ?_, hK _ ?_⟩; (clear hK K hS S; intro w' hx'; have hce := ext_some hx'; go_simp); clear hK K hS S)
    | (refine groL_write rfl rfl ?_; intro K hK; go_simp; refine hK _ _ ?_; clear hK K))
  -- a row is laid in a region that draws its order
  refine groL_grow rfl rfl ?_
  intro K hK
  go_simp
  refine hK _ _ ⟨Ext.alloc _ _, ?_⟩
  clear hK K
  refine groL_grow rfl rfl ?_
  intro K hK
  go_simp
  (refine (HJ.out _).mono ?_; rintro e w4 ⟨rfl, hx4⟩)
  go_simp
  refine hK _ _ ⟨hx4, ?_⟩
  clear hK K
  repeat (first
    | (refine groL_pure rfl rfl ?_; intro K hK; go_simp; refine hK _ ?_; clear hK K)
    | (refine groL_read rfl rfl ?_; intro K S hS hK; go_simp; refine hK _ ?_; clear hK K hS S)
    | (refine groL_read rfl rfl ?_; intro K S hS hK; go_simp; refine ⟨hS _ ?_, hK _ ?_⟩; (clear hK K hS S; intro w' hx'; have hce := ext_some hx'; go_simp); clear hK K hS S)
    | (refine groL_write rfl rfl ?_; intro K hK; go_simp; refine hK _ _ ?_; clear hK K))
  refine groL_nil ?_
  go_wp2_with fail
  go_ret
  exact ⟨by simp [bts_txt]; rfl, HX.out.trans (hx3.trans ((Ext.alloc _ _).trans hx4))⟩
def prG2 : Nat → Gro
  | 2 => .read
  | 3 => .grow
  | 6 => .read
  | 9 => .read
  | 10 => .grow
  | 11 => .grow
  | _ => .pure
theorem prop_any (k : Int) (fk : Bool) (fn nm va : ByteArray) (tk : Bool) (tn : ByteArray) (w : World) (hs : fn.size ≤ 1000000) (hs2 : nm.size ≤ 1000000) (hs3 : va.size ≤ 1000000) :
    Calls Tryz.prog 78 #[.agg #[.int .i64 k, .bool fk, .string fn, .string nm, .string va, .bool tk, .string tn]] w fun e w' => e = .returned (.string (txt [[40], termX fk fn, [46], bts nm, [61, 34], bts va, [34, 41]].flatten)) ∧ Ext w w' := by
  have hsz := termX_size fk fn
  have HT := Lib.hid (fun w' => prT_any fk fn w' hs)
  have HJ := Lib.hid (fun w' => joined_new [⟨#[40]⟩, txt (termX fk fn), ⟨#[46]⟩, nm, ⟨#[61, 34]⟩, va, ⟨#[34, 41]⟩] 9 w' (by simp) (by simp [bts_txt, bts_len]; show 1 + ((termX fk fn).length + (1 + (nm.size + (2 + (va.size + 2))))) ≤ _; omega))
  -- the head of the text of an atom (print): (colander/print.atom).prop the function
  have hmo : Tryz.prog.follows .mixedOrders = true := by kernel_rfl
  have HX := Lib.hid (Ext.alloc w (.cells #[.int .i64 k, .bool fk, .string fn, .string nm, .string va, .bool tk, .string tn] 77))
  have HB := Lib.hid (RowAt.new w 77 [.int .i64 k, .bool fk, .string fn, .string nm, .string va, .bool tk, .string tn])
  go_enter Tryz.func78, Tryz.ntmps78
  go_upto_region 1 with fail
  generalize w.alloc (.cells #[.int .i64 k, .bool fk, .string fn, .string nm, .string va, .bool tk, .string tn] 77) = w1 at *
  obtain ⟨y, hy⟩ : ∃ y, w.heap.size = y := ⟨_, rfl⟩
  rw [hy] at HB
  try simp only [hy]
  clear hy
  -- into its region that draws its order: prG2 kinds, [0, 1, 2, 4, 5, 6, 7, 8, 9, 3, 10, 11, 12] the order
  refine wp_region_gro prG2 [0, 1, 2, 4, 5, 6, 7, 8, 9, 3, 10, 11, 12] hmo (by kernel_rfl) rfl (by kernel_rfl) (fun _ _ _ _ _ h => h) ?_
  have hxd := Ext.drewN w1 1
  have hb := HB.out.ext hxd
  replace HX := Lib.hid (HX.out.trans hxd)
  change GroW _ _ _ _ _ _ w1.drew
  replace hb : RowAt w1.drew y 77 [.int .i64 k, .bool fk, .string fn, .string nm, .string va, .bool tk, .string tn] := hb
  replace HX : Hid (Ext w w1.drew) := HX
  clear hxd HB
  generalize w1.drew = w2 at *
  have d0 := hb.cell (i := 0) rfl
  have d1 := hb.cell (i := 1) rfl
  have d2 := hb.cell (i := 2) rfl
  have d3 := hb.cell (i := 3) rfl
  have d4 := hb.cell (i := 4) rfl
  have d5 := hb.cell (i := 5) rfl
  have d6 := hb.cell (i := 6) rfl
  clear hb
  repeat (first
    | (refine groL_pure rfl rfl ?_; intro K hK; go_simp; refine hK _ ?_; clear hK K)
    | (refine groL_read rfl rfl ?_; intro K S hS hK; go_simp; refine hK _ ?_; clear hK K hS S)
    | (refine groL_read rfl rfl ?_; intro K S hS hK; go_simp; refine ⟨hS _ ?_, hK _ ?_⟩; (clear hK K hS S; intro w' hx'; have hce := ext_some hx'; go_simp); clear hK K hS S)
    | (refine groL_write rfl rfl ?_; intro K hK; go_simp; refine hK _ _ ?_; clear hK K))
  refine groL_grow rfl rfl ?_
  intro K hK
  go_simp
  (refine (HT.out _).mono ?_; rintro e w3 ⟨rfl, hx3⟩)
  go_simp
  refine hK _ _ ⟨hx3, ?_⟩
  clear hK K
  -- a row is laid in a region that draws its order
  refine groL_grow rfl rfl ?_
  intro K hK
  go_simp
  refine hK _ _ ⟨Ext.alloc _ _, ?_⟩
  clear hK K
  refine groL_grow rfl rfl ?_
  intro K hK
  go_simp
  (refine (HJ.out _).mono ?_; rintro e w4 ⟨rfl, hx4⟩)
  go_simp
  refine hK _ _ ⟨hx4, ?_⟩
  clear hK K
  repeat (first
    | (refine groL_pure rfl rfl ?_; intro K hK; go_simp; refine hK _ ?_; clear hK K)
    | (refine groL_read rfl rfl ?_; intro K S hS hK; go_simp; refine hK _ ?_; clear hK K hS S)
    | (refine groL_read rfl rfl ?_; intro K S hS hK; go_simp; refine ⟨hS _ ?_, hK _ ?_⟩; (clear hK K hS S; intro w' hx'; have hce := ext_some hx'; go_simp); clear hK K hS S)
    | (refine groL_write rfl rfl ?_; intro K hK; go_simp; refine hK _ _ ?_; clear hK K))
  refine groL_nil ?_
  go_wp2_with fail
  go_ret
  exact ⟨by simp [bts_txt]; rfl, HX.out.trans (hx3.trans ((Ext.alloc _ _).trans hx4))⟩
def prG3 : Nat → Gro
  | 0 => .read
  | 1 => .grow
  | 4 => .read
  | 7 => .read
  | 8 => .grow
  | 9 => .grow
  | 10 => .grow
  | _ => .pure
theorem edge_any (k : Int) (fk : Bool) (fn nm va : ByteArray) (tk : Bool) (tn : ByteArray) (w : World) (hs : fn.size ≤ 1000000) (hs2 : nm.size ≤ 1000000) (hs3 : tn.size ≤ 1000000) :
    Calls Tryz.prog 79 #[.agg #[.int .i64 k, .bool fk, .string fn, .string nm, .string va, .bool tk, .string tn]] w fun e w' => e = .returned (.string (txt [[40] ++ (termX fk fn ++ [41]), [45, 91], bts nm, [93, 45, 62, 40], termX tk tn, [41]].flatten)) ∧ Ext w w' := by
  have hsz := termX_size fk fn
  have hsz2 := termX_size tk tn
  have HF := Lib.hid (fun w' => from_any k fk fn nm va tk tn w' hs)
  have HT := Lib.hid (fun w' => prT_any tk tn w' hs3)
  have HJ := Lib.hid (fun w' => joined_new [txt (40 :: (termX fk fn ++ [41])), ⟨#[45, 91]⟩, nm, ⟨#[93, 45, 62, 40]⟩, txt (termX tk tn), ⟨#[41]⟩] 9 w' (by simp) (by simp [bts_txt, bts_len]; have z1 : (⟨#[45, 91]⟩ : ByteArray).size = 2 := rfl; have z2 : (⟨#[93, 45, 62, 40]⟩ : ByteArray).size = 4 := rfl; have z3 : (⟨#[41]⟩ : ByteArray).size = 1 := rfl; omega))
  -- the head of the text of an atom (print): (colander/print.atom).edge the function
  have hmo : Tryz.prog.follows .mixedOrders = true := by kernel_rfl
  have HX := Lib.hid (Ext.alloc w (.cells #[.int .i64 k, .bool fk, .string fn, .string nm, .string va, .bool tk, .string tn] 77))
  have HB := Lib.hid (RowAt.new w 77 [.int .i64 k, .bool fk, .string fn, .string nm, .string va, .bool tk, .string tn])
  go_enter Tryz.func79, Tryz.ntmps79
  go_upto_region 1 with fail
  generalize w.alloc (.cells #[.int .i64 k, .bool fk, .string fn, .string nm, .string va, .bool tk, .string tn] 77) = w1 at *
  obtain ⟨y, hy⟩ : ∃ y, w.heap.size = y := ⟨_, rfl⟩
  rw [hy] at HB
  try simp only [hy]
  clear hy
  -- into its region that draws its order: prG3 kinds, [0, 2, 3, 4, 5, 6, 7, 1, 8, 9, 10, 11] the order
  refine wp_region_gro prG3 [0, 2, 3, 4, 5, 6, 7, 1, 8, 9, 10, 11] hmo (by kernel_rfl) rfl (by kernel_rfl) (fun _ _ _ _ _ h => h) ?_
  have hxd := Ext.drewN w1 1
  have hb := HB.out.ext hxd
  replace HX := Lib.hid (HX.out.trans hxd)
  change GroW _ _ _ _ _ _ w1.drew
  replace hb : RowAt w1.drew y 77 [.int .i64 k, .bool fk, .string fn, .string nm, .string va, .bool tk, .string tn] := hb
  replace HX : Hid (Ext w w1.drew) := HX
  clear hxd HB
  generalize w1.drew = w2 at *
  have d0 := hb.cell (i := 0) rfl
  have d1 := hb.cell (i := 1) rfl
  have d2 := hb.cell (i := 2) rfl
  have d3 := hb.cell (i := 3) rfl
  have d4 := hb.cell (i := 4) rfl
  have d5 := hb.cell (i := 5) rfl
  have d6 := hb.cell (i := 6) rfl
  clear hb
  repeat (first
    | (refine groL_pure rfl rfl ?_; intro K hK; go_simp; refine hK _ ?_; clear hK K)
    | (refine groL_read rfl rfl ?_; intro K S hS hK; go_simp; refine hK _ ?_; clear hK K hS S)
    | (refine groL_read rfl rfl ?_; intro K S hS hK; go_simp; refine ⟨hS _ ?_, hK _ ?_⟩; (clear hK K hS S; intro w' hx'; have hce := ext_some hx'; go_simp); clear hK K hS S)
    | (refine groL_write rfl rfl ?_; intro K hK; go_simp; refine hK _ _ ?_; clear hK K))
  refine groL_grow rfl rfl ?_
  intro K hK
  go_simp
  (refine (HF.out _).mono ?_; rintro e w3 ⟨rfl, hx3⟩)
  go_simp
  refine hK _ _ ⟨hx3, ?_⟩
  clear hK K
  refine groL_grow rfl rfl ?_
  intro K hK
  go_simp
  (refine (HT.out _).mono ?_; rintro e w4 ⟨rfl, hx4⟩)
  go_simp
  refine hK _ _ ⟨hx4, ?_⟩
  clear hK K
  -- a row is laid in a region that draws its order
  refine groL_grow rfl rfl ?_
  intro K hK
  go_simp
  refine hK _ _ ⟨Ext.alloc _ _, ?_⟩
  clear hK K
  refine groL_grow rfl rfl ?_
  intro K hK
  go_simp
  (refine (HJ.out _).mono ?_; rintro e w5 ⟨rfl, hx5⟩)
  go_simp
  refine hK _ _ ⟨hx5, ?_⟩
  clear hK K
  repeat (first
    | (refine groL_pure rfl rfl ?_; intro K hK; go_simp; refine hK _ ?_; clear hK K)
    | (refine groL_read rfl rfl ?_; intro K S hS hK; go_simp; refine hK _ ?_; clear hK K hS S)
    | (refine groL_read rfl rfl ?_; intro K S hS hK; go_simp; refine ⟨hS _ ?_, hK _ ?_⟩; (clear hK K hS S; intro w' hx'; have hce := ext_some hx'; go_simp); clear hK K hS S)
    | (refine groL_write rfl rfl ?_; intro K hK; go_simp; refine hK _ _ ?_; clear hK K))
  refine groL_nil ?_
  go_wp2_with fail
  go_ret
  exact ⟨by simp [bts_txt]; rfl, HX.out.trans (hx3.trans (hx4.trans ((Ext.alloc _ _).trans hx5)))⟩
end Go.Proofs.YthoneahamnmjlaaGreatDoor
