/- The parts of a pattern's text, told one by one. -/
import Derived.Test.YthoneahamnmjlaaGreatDoorGp27
import Derived.Test.YthoneahamnmjlaaGreatDoorGp28
import Derived.Test.YthoneahamnmjlaaGreatDoorGp03
import Derived.Test.YthoneahamnmjlaaGreatDoorGp16
import Derived.Test.YthoneahamnmjlaaGreatDoorGp08
import Derived.Test.YthoneahamnmjlaaGreatDoorGp26
import Derived.Test.YthoneahamnmjlaaGreatDoorGp25
namespace Go.Proofs.YthoneahamnmjlaaGreatDoor
set_option maxRecDepth 100000
set_option maxHeartbeats 2000000
set_option linter.unusedSimpArgs false
open Go.RowKit Go.Shelf Go.Sort
attribute [local go_sem] Oper.semAt_some wide_fn wide_depth
set_option linter.unusedVariables false

theorem parts_any (av rv hv : Value) (P : Pat) (w : World) : Calls Tryz.prog 41 #[.agg (patL av rv hv P).toArray] w fun e w' =>
    e = .returned (.func (.func 66) #[] #[.pointer (some ⟨w.heap.size, 0, none⟩)]) ∧ w' = w.alloc (.cells (patL av rv hv P).toArray 25) := by
  unfold patL
  go_enter Tryz.func41, Tryz.ntmps41
  go_wp2
  go_ret
  exact ⟨rfl, rfl⟩
/-- The cells of parts, and whether each stands there. -/
def partC (l : List (Bool × List UInt8)) : List Value := l.flatMap fun x => [.bool x.1, .string (txt x.2)]
/-- What the parts are taken from. -/
structure PartsAt (x : Nat) (P : Pat) (W : World) : Prop where
  row : ∃ av rv hv, RowAt W x 25 (patL av rv hv P) ∧ Ats W av P.atoms ∧ Strs W rv P.ret ∧ Strs W hv P.hint
  pows : Pows W
/-- Small enough. -/
structure PartsOk (P : Pat) : Prop where
  atoms : ∀ a ∈ P.atoms, atomB a = true
  few : P.atoms.length ≤ 1000
  ret : ∀ s ∈ P.ret, (bts s).length ≤ 1000
  rets : P.ret.length ≤ 1000
  hint : ∀ s ∈ P.hint, (bts s).length ≤ 1000
  hints : P.hint.length ≤ 1000
  lim : -9223372036854775808 ≤ P.limit ∧ P.limit ≤ 9223372036854775807
  off : -9223372036854775808 ≤ P.offset ∧ P.offset ≤ 9223372036854775807
def prG9 : Nat → Gro
  | 1 => .read
  | 2 => .grow
  | 3 => .grow
  | 6 => .read
  | 10 => .read
  | 11 => .grow
  | 15 => .read
  | 18 => .read
  | 21 => .read
  | 23 => .read
  | 24 => .grow
  | 28 => .read
  | 31 => .read
  | 32 => .grow
  | 36 => .read
  | 40 => .read
  | 41 => .grow
  | 44 => .grow
  | _ => .pure
theorem join_small (l : List ByteArray) (sep : List UInt8) (m : Nat) (h : ∀ s ∈ l, (bts s).length ≤ m) (hn : l.length ≤ 1000) (hm : m ≤ 1000) (hs : sep.length ≤ 10) : (Lib.join (l.map bts) sep).length ≤ 140737488355328 := by
  have := join_size (l.map bts) sep m (fun x hx => by obtain ⟨s, hs, rfl⟩ := List.mem_map.1 hx; exact h s hs)
  rw [List.length_map] at this
  have h2 : l.length * (m + sep.length) ≤ 1000 * 1010 := Nat.mul_le_mul hn (by omega)
  omega
theorem enters_partT : ∀ args w, (callFunc 68 args).run Tryz.prog w = .ok (.enter 68 args) w := enters_of Tryz.func68 (by kernel_rfl) rfl
theorem picks_take (l : List (Bool × List UInt8)) (j : Nat) (h : j < l.length) : picks (l.take (j + 1)) = picks (l.take j) ++ (if l[j].1 = true then [l[j].2] else []) := by
  unfold picks
  rw [List.take_succ_eq_append_getElem h, List.filter_append, List.map_append]
  congr 1
  cases hb : l[j].1 <;> simp [List.filter, hb]
theorem picks_le (l : List (Bool × List UInt8)) (j : Nat) (h : j < l.length) (hb : l[j].1 = true) : ∃ hk : (picks (l.take j)).length < (picks l).length, (picks l)[(picks (l.take j)).length] = l[j].2 := by
  have e : picks l = picks (l.take j) ++ l[j].2 :: picks (l.drop (j + 1)) := by
    conv => lhs; rw [← List.take_append_drop j l]
    rw [List.drop_eq_getElem_cons h]
    unfold picks
    rw [List.filter_append, List.map_append]
    simp only [List.filter_cons, hb, if_true, List.map_cons]
  refine ⟨by rw [e]; simp, ?_⟩
  simp only [e]
  simp
theorem partC_at {W : World} {g : Nat} {t : TypeId} {l : List (Bool × List UInt8)} (h : RowAt W g t (partC l)) {j : Nat} (hj : j < l.length) : W.cell? ⟨g, j * 2, none⟩ = some (.bool l[j].1) ∧ W.cell? ⟨g, j * 2 + 1, none⟩ = some (.string (txt l[j].2)) := by
  have key : ∀ (l : List (Bool × List UInt8)) (j : Nat) (hj : j < l.length), (partC l)[j * 2]? = some (.bool l[j].1) ∧ (partC l)[j * 2 + 1]? = some (.string (txt l[j].2)) := by
    intro l
    induction l with
    | nil => intro j hj; simp at hj
    | cons x l ih =>
      intro j hj
      cases j with
      | zero => exact ⟨rfl, rfl⟩
      | succ j =>
        have := ih j (by simpa using hj)
        have e : partC (x :: l) = [Value.bool x.1, .string (txt x.2)] ++ partC l := rfl
        rw [e, List.getElem?_append_right (by simp; omega), List.getElem?_append_right (by simp; omega)]
        simp only [List.length_cons, List.length_nil, List.getElem_cons_succ]
        rw [show (j + 1) * 2 - (0 + 1 + 1) = j * 2 by omega, show (j + 1) * 2 + 1 - (0 + 1 + 1) = j * 2 + 1 by omega]
        exact this
  exact ⟨h.cell (key l j hj).1, h.cell (key l j hj).2⟩
set_option maxRecDepth 100000 in
set_option maxHeartbeats 4000000 in
theorem parts_iter (P : Pat) (hP : PartsOk P) (x X : Nat) (T : TypeId) (Kt : TypeId → Prop) (hKt : Kt 97) :
    IterP Tryz.prog 66 #[.pointer (some ⟨x, 0, none⟩)] (PartsAt x P) T Kt X (picks (partsL P)).length (fun k _ args => ∃ h : k < (picks (partsL P)).length, args = #[.string (txt (picks (partsL P))[k])]) := by
  intro L W J Js hXW hI hJ hJs hround h0
  have hmo : Tryz.prog.follows .mixedOrders = true := by kernel_rfl
  refine callsIn_of_wp Tryz.func66 rfl trivial ?_
  simp only [Tryz.ntmps66, List.size_toArray, List.length_cons, List.length_nil, Nat.reduceAdd, Nat.reduceSub, Array.replicate_succ, Array.replicate_zero, List.push_toArray, List.append_toArray, List.nil_append, List.cons_append]
  have HJ := Lib.hid hJ
  have HRound := Lib.hid hround
  have H0 := Lib.hid h0
  have HXW := Lib.hid hXW
  obtain ⟨⟨av, rv, hv, hrow, ha, hr, hh⟩, hpw⟩ := hI
  obtain ⟨ava, avc, rfl, hac, _⟩ := ha.shape
  obtain ⟨rva, rvc, rfl, hrc, _⟩ := Sl.shape hr
  obtain ⟨hva, hvc, rfl, hhc, _⟩ := Sl.shape hh
  obtain ⟨q1, q2, q3, q4, q5, q6, ⟨q7, q8⟩, q9, q10⟩ := hP
  obtain ⟨atoms, ret, cn, ds, lm, li, off, hint⟩ := P
  have hL : partsL ⟨atoms, ret, cn, ds, lm, li, off, hint⟩ = [(true, atomsX atoms), (decide (0 < ret.length), retW ret), (cn, bts wCount), (ds, bts wDistinct), (lm, limW li), (decide (0 < off), offW off), (decide (0 < hint.length), hintW hint)] := rfl
  unfold patL at hrow
  dsimp only at *
  have HM := Lib.hid (fun w' (hx : Ext W w') => madeAS_any (.slice ava atoms.length avc) atoms (fun a => txt (atomX a)) 68 #[] w' (ha.ext hx) (by omega) enters_partT (fun a hm w'' _ => partT_any a w'' (q1 a hm)))
  have hjm : (atoms.map (fun a => txt (atomX a))).map bts = atoms.map atomX := by rw [List.map_map]; exact List.map_congr_left (fun a _ => bts_txt _)
  have hjl : (Lib.join ((atoms.map (fun a => txt (atomX a))).map bts) (bts ⟨#[44, 32]⟩)).length ≤ 140737488355328 := join_small _ _ 1000 (fun s hs => by
    obtain ⟨a, ham, rfl⟩ := List.mem_map.1 hs
    have := atomX_size a
    obtain ⟨z1, z2, z3, z4⟩ := Atm.size_of (q1 a ham)
    rw [bts_txt]; omega) (by rw [List.length_map]; omega) (by omega) (by decide)
  have hJA : ∀ u w', Strs w' u (atoms.map (fun a => txt (atomX a))) → Calls Tryz.prog 42 #[u, .string ⟨#[44, 32]⟩] w' fun e w'' => e = .returned (.string (txt (atomsX atoms))) ∧ Ext w' w'' := fun u w' hu => by
    have := joinS_any u _ ⟨#[44, 32]⟩ w' hu hjl (by rw [List.length_map]; omega)
    rw [hjm] at this
    exact this
  have hJR : ∀ w', Ext W w' → Calls Tryz.prog 42 #[.slice rva ret.length rvc, .string ⟨#[44, 32]⟩] w' fun e w'' => e = .returned (.string (txt (Lib.join (ret.map bts) [44, 32]))) ∧ Ext w' w'' := fun w' hx => joinS_any _ ret ⟨#[44, 32]⟩ w' (Strs.ext hr hx) (join_small _ _ 1000 q3 (by omega) (by omega) (by decide)) (by omega)
  have hJH : ∀ w', Ext W w' → Calls Tryz.prog 42 #[.slice hva hint.length hvc, .string ⟨#[32]⟩] w' fun e w'' => e = .returned (.string (txt (Lib.join (hint.map bts) [32]))) ∧ Ext w' w'' := fun w' hx => joinS_any _ hint ⟨#[32]⟩ w' (Strs.ext hh hx) (join_small _ _ 1000 q5 (by omega) (by omega) (by decide)) (by omega)
  have hIL : ∀ w', Ext W w' → Calls Tryz.prog 31 #[.int .i64 li] w' fun e w'' => e = .returned (.string (txt (Lib.itoa li))) ∧ Ext w' w'' := fun w' hx => itoa_any li q7 q8 w' (hpw.ext hx)
  have hIO : ∀ w', Ext W w' → Calls Tryz.prog 31 #[.int .i64 off] w' fun e w'' => e = .returned (.string (txt (Lib.itoa off))) ∧ Ext w' w'' := fun w' hx => itoa_any off q9 q10 w' (hpw.ext hx)
  have eR : (⟨#[114, 101, 116, 117, 114, 110, 32]⟩ : ByteArray) ++ txt (Lib.join (ret.map bts) [44, 32]) = txt (retW ret) := bts_inj (by rw [bts_append, bts_txt, bts_txt]; rfl)
  have eH : (⟨#[104, 105, 110, 116, 32]⟩ : ByteArray) ++ txt (Lib.join (hint.map bts) [32]) = txt (hintW hint) := bts_inj (by rw [bts_append, bts_txt, bts_txt]; rfl)
  have eL : (⟨#[108, 105, 109, 105, 116, 32]⟩ : ByteArray) ++ txt (Lib.itoa li) = txt (limW li) := bts_inj (by rw [bts_append, bts_txt, bts_txt]; rfl)
  have eO : (⟨#[111, 102, 102, 115, 101, 116, 32]⟩ : ByteArray) ++ txt (Lib.itoa off) = txt (offW off) := bts_inj (by rw [bts_append, bts_txt, bts_txt]; rfl)
  have zR : ¬ (9223372036854775807 < 7 + (txt (Lib.join (ret.map bts) [44, 32])).size) := by rw [txt_size]; have := join_small ret [44, 32] 1000 q3 (by omega) (by omega) (by decide); omega
  have zH : ¬ (9223372036854775807 < 5 + (txt (Lib.join (hint.map bts) [32])).size) := by rw [txt_size]; have := join_small hint [32] 1000 q5 (by omega) (by omega) (by decide); omega
  have zL : ¬ (9223372036854775807 < 6 + (txt (Lib.itoa li)).size) := by rw [txt_size]; have := Lib.itoa_length_le li q7 q8; omega
  have zO : ¬ (9223372036854775807 < 7 + (txt (Lib.itoa off)).size) := by rw [txt_size]; have := Lib.itoa_length_le off q9 q10; omega
  obtain ⟨b1, hb1⟩ : ∃ b, decide (0 < ret.length) = b := ⟨_, rfl⟩
  obtain ⟨b2, hb2⟩ : ∃ b, decide ((0 : Int) < off) = b := ⟨_, rfl⟩
  obtain ⟨b3, hb3⟩ : ∃ b, decide (0 < hint.length) = b := ⟨_, rfl⟩
  have hL2 : partsL ⟨atoms, ret, cn, ds, lm, li, off, hint⟩ = [(true, atomsX atoms), (b1, retW ret), (cn, bts wCount), (ds, bts wDistinct), (lm, limW li), (b2, offW off), (b3, hintW hint)] := by
    rw [hL, ← hb1, ← hb2, ← hb3]
  obtain ⟨PL, hPL⟩ : ∃ l, partsL ⟨atoms, ret, cn, ds, lm, li, off, hint⟩ = l := ⟨_, rfl⟩
  rw [hPL] at HRound hL2 ⊢
  have HL := Lib.hid hL2
  have HJA := Lib.hid hJA
  have HJR := Lib.hid hJR
  have HJH := Lib.hid hJH
  have HIL := Lib.hid hIL
  have HIO := Lib.hid hIO
  clear ha hr hh hpw q1 q2 q3 q4 q5 q6 q7 q8 q9 q10 hL hJA hJR hJH hIL hIO hjm hjl hJ hround h0 hXW hPL hL2
  gi_wp2_with fail
  refine wpIn_wide.2 ?_
  refine wp_region_gro prG9 [0, 1, 5, 6, 7, 8, 9, 10, 14, 15, 16, 17, 18, 19, 20, 21, 22, 23, 27, 28, 29, 30, 31, 35, 36, 37, 38, 39, 40, 2, 3, 4, 11, 12, 13, 24, 25, 26, 32, 33, 34, 41, 42, 43, 44, 45] hmo (by kernel_rfl) rfl (by kernel_rfl) (fun _ _ _ _ _ h => h) ?_
  have HX0 := Lib.hid (Ext.drewN W 1)
  have hb := hrow.ext HX0.out
  change GroW _ _ _ _ _ _ W.drew
  replace hb : RowAt W.drew x 25 [.slice ava atoms.length avc, .slice rva ret.length rvc, .bool cn, .bool ds, .bool lm, .int .i64 li, .int .i64 off, .slice hva hint.length hvc] := hb
  replace HX0 : Hid (Ext W W.drew) := HX0
  clear hrow
  generalize W.drew = w0 at *
  obtain ⟨d0, d1, d2, d3, d4, d5, d6, d7⟩ := row8_facts hb
  clear hb
  repeat (first
    | (refine groL_pure rfl rfl ?_; intro K hK; go_simp; refine hK _ ?_; clear hK K)
    | (refine groL_read rfl rfl ?_; intro K S hS hK; go_simp; refine hK _ ?_; clear hK K hS S)
    | (refine groL_read rfl rfl ?_; intro K S hS hK; go_simp; refine ⟨hS _ ?_, hK _ ?_⟩; (clear hK K hS S; intro w' hx'; have hce := ext_some hx'; go_simp); clear hK K hS S)
    | (refine groL_write rfl rfl ?_; intro K hK; go_simp; refine hK _ _ ?_; clear hK K))
  clear d0 d1 d2 d3 d4 d5 d6 d7
  refine groL_grow rfl rfl ?_
  intro K hK
  go_simp
  (refine (HM.out _ HX0.out).mono ?_; rintro e w1 ⟨u, rfl, hu, hx1⟩)
  go_simp
  refine hK _ _ ⟨hx1, ?_⟩
  clear hK K
  have HU := Lib.hid (show Strs w1 u (atoms.map fun a => txt (atomX a)) from by have := Sl.of_own hu; unfold Strs; rwa [List.length_map])
  have HX1 := Lib.hid (HX0.out.trans hx1)
  clear hu hx1
  refine groL_grow rfl rfl ?_
  intro K hK
  go_simp
  (refine (HJA.out _ _ HU.out).mono ?_; rintro e w2 ⟨rfl, hx2⟩)
  go_simp
  refine hK _ _ ⟨hx2, ?_⟩
  clear hK K
  have HX2 := Lib.hid (HX1.out.trans hx2)
  clear hx2
  repeat (first
    | (refine groL_pure rfl rfl ?_; intro K hK; go_simp; refine hK _ ?_; clear hK K)
    | (refine groL_read rfl rfl ?_; intro K S hS hK; go_simp; refine hK _ ?_; clear hK K hS S)
    | (refine groL_read rfl rfl ?_; intro K S hS hK; go_simp; refine ⟨hS _ ?_, hK _ ?_⟩; (clear hK K hS S; intro w' hx'; have hce := ext_some hx'; go_simp); clear hK K hS S)
    | (refine groL_write rfl rfl ?_; intro K hK; go_simp; refine hK _ _ ?_; clear hK K))
  refine groL_grow rfl rfl ?_
  intro K hK
  go_simp
  (refine (HJR.out _ HX2.out).mono ?_; rintro e w3 ⟨rfl, hx3⟩)
  go_simp
  refine hK _ _ ⟨hx3, ?_⟩
  clear hK K
  have HX3 := Lib.hid (HX2.out.trans hx3)
  clear hx3
  repeat (first
    | (refine groL_pure rfl rfl ?_; intro K hK; go_simp; refine hK _ ?_; clear hK K)
    | (refine groL_read rfl rfl ?_; intro K S hS hK; go_simp; refine hK _ ?_; clear hK K hS S)
    | (refine groL_read rfl rfl ?_; intro K S hS hK; go_simp; refine ⟨hS _ ?_, hK _ ?_⟩; (clear hK K hS S; intro w' hx'; have hce := ext_some hx'; go_simp); clear hK K hS S)
    | (refine groL_write rfl rfl ?_; intro K hK; go_simp; refine hK _ _ ?_; clear hK K))
  refine groL_grow rfl rfl ?_
  intro K hK
  go_simp
  (refine (HIL.out _ HX3.out).mono ?_; rintro e w4 ⟨rfl, hx4⟩)
  go_simp
  refine hK _ _ ⟨hx4, ?_⟩
  clear hK K
  have HX4 := Lib.hid (HX3.out.trans hx4)
  clear hx4
  repeat (first
    | (refine groL_pure rfl rfl ?_; intro K hK; go_simp; refine hK _ ?_; clear hK K)
    | (refine groL_read rfl rfl ?_; intro K S hS hK; go_simp; refine hK _ ?_; clear hK K hS S)
    | (refine groL_read rfl rfl ?_; intro K S hS hK; go_simp; refine ⟨hS _ ?_, hK _ ?_⟩; (clear hK K hS S; intro w' hx'; have hce := ext_some hx'; go_simp); clear hK K hS S)
    | (refine groL_write rfl rfl ?_; intro K hK; go_simp; refine hK _ _ ?_; clear hK K))
  refine groL_grow rfl rfl ?_
  intro K hK
  go_simp
  (refine (HIO.out _ HX4.out).mono ?_; rintro e w5 ⟨rfl, hx5⟩)
  go_simp
  refine hK _ _ ⟨hx5, ?_⟩
  clear hK K
  have HX5 := Lib.hid (HX4.out.trans hx5)
  clear hx5
  repeat (first
    | (refine groL_pure rfl rfl ?_; intro K hK; go_simp; refine hK _ ?_; clear hK K)
    | (refine groL_read rfl rfl ?_; intro K S hS hK; go_simp; refine hK _ ?_; clear hK K hS S)
    | (refine groL_read rfl rfl ?_; intro K S hS hK; go_simp; refine ⟨hS _ ?_, hK _ ?_⟩; (clear hK K hS S; intro w' hx'; have hce := ext_some hx'; go_simp); clear hK K hS S)
    | (refine groL_write rfl rfl ?_; intro K hK; go_simp; refine hK _ _ ?_; clear hK K))
  refine groL_grow rfl rfl ?_
  intro K hK
  go_simp
  (refine (HJH.out _ HX5.out).mono ?_; rintro e w6 ⟨rfl, hx6⟩)
  go_simp
  refine hK _ _ ⟨hx6, ?_⟩
  clear hK K
  have HX6 := Lib.hid (HX5.out.trans hx6)
  clear hx6
  repeat (first
    | (refine groL_pure rfl rfl ?_; intro K hK; go_simp; refine hK _ ?_; clear hK K)
    | (refine groL_read rfl rfl ?_; intro K S hS hK; go_simp; refine hK _ ?_; clear hK K hS S)
    | (refine groL_read rfl rfl ?_; intro K S hS hK; go_simp; refine ⟨hS _ ?_, hK _ ?_⟩; (clear hK K hS S; intro w' hx'; have hce := ext_some hx'; go_simp); clear hK K hS S)
    | (refine groL_write rfl rfl ?_; intro K hK; go_simp; refine hK _ _ ?_; clear hK K))
  -- a row is laid in a region that draws its order
  refine groL_grow rfl rfl ?_
  intro K hK
  go_simp
  refine hK _ _ ⟨Ext.alloc _ _, ?_⟩
  clear hK K
  repeat (first
    | (refine groL_pure rfl rfl ?_; intro K hK; go_simp; refine hK _ ?_; clear hK K)
    | (refine groL_read rfl rfl ?_; intro K S hS hK; go_simp; refine hK _ ?_; clear hK K hS S)
    | (refine groL_read rfl rfl ?_; intro K S hS hK; go_simp; refine ⟨hS _ ?_, hK _ ?_⟩; (clear hK K hS S; intro w' hx'; have hce := ext_some hx'; go_simp); clear hK K hS S)
    | (refine groL_write rfl rfl ?_; intro K hK; go_simp; refine hK _ _ ?_; clear hK K))
  refine groL_nil ?_
  have hPC : (partC PL).toArray = #[.bool true, .string (txt (atomsX atoms)), .bool b1, .string (txt (retW ret)), .bool cn, .string ⟨#[99, 111, 117, 110, 116]⟩, .bool ds, .string ⟨#[100, 105, 115, 116, 105, 110, 99, 116]⟩, .bool lm, .string (txt (limW li)), .bool b2, .string (txt (offW off)), .bool b3, .string (txt (hintW hint))] := by rw [HL.out]; rfl
  have hlen : PL.length = 7 := by rw [HL.out]; rfl
  rw [← hPC]
  have HXA := Lib.hid (HX6.out.trans (Ext.alloc w6 (.cells (partC PL).toArray 97)))
  have HROW := Lib.hid (RowAt.new w6 97 (partC PL))
  have HJ0 := Lib.hid (HJ.out 0 _ _ (Turn.ext HXA.out) H0.out)
  have HXG := Lib.hid (show X ≤ w6.heap.size from Nat.le_trans HXW.out HX6.out.size)
  clear eR eH eL eO zR zH zL zO hb1 hb2 hb3 HX6 HX5 HX4 HX3 HX2 HX1 HX0 HJA HJR HJH HIL HIO HL HM HU hPC H0 HXW
  generalize w6.alloc (.cells (partC PL).toArray 97) = w7 at *
  obtain ⟨g, hg⟩ : ∃ g, w6.heap.size = g := ⟨_, rfl⟩
  rw [hg] at HROW HXG
  simp only [hg]
  clear hg
  clear hmo
  have HLEN := Lib.hid hlen
  gi_wp2_with fail
  gi_loopw [53] (fun i wr => ∃ j : Nat, j ≤ 7 ∧ i = .int .i64 j ∧ RowAt wr g 97 (partC PL) ∧ J (picks (PL.take j)).length wr) (fun i _ => 7 - (intOf i).toNat)
  case atStart => exact ⟨0, by omega, rfl, HROW.out, HJ0.out⟩
  case round =>
    obtain ⟨j, hj7, rfl, hrow, hj⟩ := hrel
    have hj0 : 0 ≤ j := Nat.zero_le _
    by_cases hlt : j < 7
    · have hjl : j < PL.length := by have := HLEN.out; omega
      obtain ⟨c0, c1⟩ := partC_at hrow hjl
      have hpt := picks_take PL j hjl
      have hpl := picks_le PL j hjl
      have hgl := cell_lt c0
      generalize PL[j] = y at *
      obtain ⟨b, s⟩ := y
      dsimp only at c0 c1 hpt hpl
      have HROW2 := Lib.hid (hrow.ext (Ext.alloc wr (.cells #[.bool b, .string (txt s)] 97)))
      have HB2 := Lib.hid (RowAt.new wr 97 [.bool b, .string (txt s)])
      have HJ2 := Lib.hid (HJ.out _ _ _ (Turn.ext (Ext.alloc wr (.cells #[.bool b, .string (txt s)] 97))) hj)
      cases b with
      | false =>
        have HPT := Lib.hid (show (picks (PL.take (j + 1))).length = (picks (PL.take j)).length by rw [hpt]; simp)
        clear hpt hpl
        gi_wp2_with fail
        exact ⟨⟨j + 1, by omega, by go_num, HROW2.out, by rw [HPT.out]; exact HJ2.out⟩, by simp [intOf]; omega⟩
      | true =>
        obtain ⟨hk, hks⟩ := hpl rfl
        have HPT := Lib.hid (show (picks (PL.take (j + 1))).length = (picks (PL.take j)).length + 1 by rw [hpt]; simp)
        obtain ⟨fn', tmps', assign', body', hy, hR⟩ := HRound.out _ _ _ hk HJ2.out ⟨hk, rfl⟩
        rw [hks] at hy
        clear hpt hpl hks
        have d0 := HB2.out.cell (i := 0) rfl
        have d1 := HB2.out.cell (i := 1) rfl
        gi_wp2_with fail
        refine hR.mono ?_
        rintro e w9 ⟨-, hkc, ⟨rfl, hj9⟩ | ⟨rfl, hj9⟩⟩
        · have HR9 := Lib.hid (hkc.row g _ _ HXG.out hKt HROW2.out)
          gi_wp2
          exact ⟨⟨j + 1, by omega, by go_num, HR9.out, by rw [HPT.out]; exact hj9⟩, by simp [intOf]; omega⟩
        · gi_wp2
          exact bodyPost_ret (results_none rfl _ _ _) rfl ⟨⟨_, rfl⟩, .inr hj9⟩
    · have he : j = 7 := by omega
      subst he
      have hfin : J (picks PL).length wr := by rwa [List.take_of_length_le (by have := HLEN.out; omega)] at hj
      gi_wp2_with fail
      go_end0
      exact ⟨⟨_, rfl⟩, .inl hfin⟩
end Go.Proofs.YthoneahamnmjlaaGreatDoor

/- Tokens side by side in a text: words apart, signs anywhere. Plain. -/
namespace Go.Proofs.YthoneahamnmjlaaGreatDoor
set_option maxRecDepth 100000
set_option maxHeartbeats 2000000
set_option linter.unusedSimpArgs false
set_option linter.unusedVariables false

/-- It begins with no letter. -/
def Hd (v : List UInt8) : Prop := ∀ x, spanL letterC (v ++ x) = 0
end Go.Proofs.YthoneahamnmjlaaGreatDoor

/- What a pattern's text is read as: its tokens come to the pattern. Plain. -/
namespace Go.Proofs.YthoneahamnmjlaaGreatDoor
set_option maxRecDepth 100000
set_option maxHeartbeats 2000000
set_option linter.unusedSimpArgs false
open Go.Lib
set_option linter.unusedVariables false

def wd (s : ByteArray) : Tk := ⟨1, s, 0⟩
theorem s4 : ((4 : Int), ([40] : List UInt8)) ∈ signs := by decide
theorem s5 : ((5 : Int), ([41] : List UInt8)) ∈ signs := by decide
theorem s6 : ((6 : Int), ([44] : List UInt8)) ∈ signs := by decide
theorem s7 : ((7 : Int), ([58] : List UInt8)) ∈ signs := by decide
theorem s8 : ((8 : Int), ([46] : List UInt8)) ∈ signs := by decide
end Go.Proofs.YthoneahamnmjlaaGreatDoor

/- What a pattern's tokens come to is the pattern. Plain. -/
namespace Go.Proofs.YthoneahamnmjlaaGreatDoor
set_option maxRecDepth 100000
set_option maxHeartbeats 2000000
set_option linter.unusedSimpArgs false
open Go.Lib
set_option linter.unusedVariables false

theorem u8_nat {n : Nat} (h : n < 256) : (UInt8.ofNat n).toNat = n := by
  have : (UInt8.ofNat n).toNat = n % 256 := rfl
  omega
theorem dec_digit (n : Nat) : ∀ c ∈ decDigits n, 48 ≤ c.toNat ∧ c.toNat ≤ 57 := by
  induction n using Nat.strongRecOn with
  | _ n ih =>
    intro c hc
    rw [decDigits] at hc
    split at hc
    · rename_i h
      rw [List.mem_singleton] at hc
      subst hc
      rw [u8_nat (by omega)]; omega
    · rename_i h
      rcases List.mem_append.1 hc with hc | hc
      · exact ih (n / 10) (by omega) c hc
      · rw [List.mem_singleton] at hc
        subst hc
        rw [u8_nat (by omega)]; omega
theorem numL_dec (n : Nat) : n < 2147483648 → ∀ l, numL 0 (decDigits n ++ l) = numL n l := by
  induction n using Nat.strongRecOn with
  | _ n ih =>
    intro hn l
    rw [decDigits]
    split
    · rename_i h
      have e : (UInt8.ofNat (48 + n)).toNat = 48 + n := u8_nat (by omega)
      rw [List.singleton_append, numL_yes (by rw [e]; omega), e]
      congr 1; omega
    · rename_i h
      have e : (UInt8.ofNat (48 + n % 10)).toNat = 48 + n % 10 := u8_nat (by omega)
      rw [List.append_assoc, ih (n / 10) (by omega) (by omega), List.singleton_append, numL_yes (by rw [e]; omega), e]
      congr 1; omega
theorem itoa_of {n : Int} (h : 0 ≤ n) : itoa n = decDigits n.toNat := by unfold itoa; rw [if_neg (by omega)]
end Go.Proofs.YthoneahamnmjlaaGreatDoor

/- What a pattern's text is read as: the pattern. Plain. -/
namespace Go.Proofs.YthoneahamnmjlaaGreatDoor
set_option maxRecDepth 100000
set_option maxHeartbeats 2000000
set_option linter.unusedSimpArgs false
open Go.Lib
set_option linter.unusedVariables false

theorem nodup_sub_len {α : Type} [DecidableEq α] : ∀ (l m : List α), l.Nodup → (∀ x ∈ l, x ∈ m) → l.length ≤ m.length
  | [], m, _, _ => Nat.zero_le _
  | x :: l, m, hn, hs => by
    have hx := hs x (by simp)
    have hn' := List.nodup_cons.1 hn
    have := nodup_sub_len l (m.erase x) hn'.2 (fun y hy => (List.mem_erase_of_ne (fun e => by subst e; exact hn'.1 hy)).2 (hs y (List.mem_cons_of_mem _ hy)))
    rw [List.length_erase_of_mem hx] at this
    have hp := List.length_pos_of_mem hx
    rw [List.length_cons]; omega
theorem chosenG_iff (vars : List ByteArray) : ∀ (l seen : List ByteArray), chosenG vars seen l = true ↔ (∀ s ∈ l, s ∈ vars) ∧ l.Nodup ∧ ∀ s ∈ l, s ∉ seen
  | [], seen => by simp [chosenG]
  | x :: l, seen => by
    have ih := chosenG_iff vars l (seen ++ [x])
    unfold chosenG
    rw [Bool.and_eq_true, Bool.and_eq_true, ih, hasB_iff, Bool.not_eq_true', hasB_no, List.nodup_cons]
    constructor
    · rintro ⟨h1, h2, h3, h4, h5⟩
      refine ⟨?_, ⟨fun hx => h5 x hx (by simp), h4⟩, ?_⟩
      · intro s hs
        rcases List.mem_cons.1 hs with rfl | hs
        · exact h1
        · exact h3 s hs
      · intro s hs
        rcases List.mem_cons.1 hs with rfl | hs
        · exact h2
        · exact fun h => h5 s hs (by simp [h])
    · rintro ⟨h1, ⟨h2, h3⟩, h4⟩
      refine ⟨h1 x (by simp), h4 x (by simp), fun s hs => h1 s (List.mem_cons_of_mem _ hs), h3, fun s hs h => ?_⟩
      rcases List.mem_append.1 h with h | h
      · exact h4 s (List.mem_cons_of_mem _ hs) h
      · rw [List.mem_singleton] at h; subst h; exact h2 hs
theorem chosenB_iff (vars l : List ByteArray) : chosenB vars l = true ↔ (∀ s ∈ l, s ∈ vars) ∧ l.Nodup := by
  unfold chosenB
  rw [chosenG_iff]
  simp
theorem chosenB_len {vars l : List ByteArray} (h : chosenB vars l = true) : l.length ≤ vars.length := by
  obtain ⟨h1, h2⟩ := (chosenB_iff _ _).1 h
  exact nodup_sub_len _ _ h2 h1
theorem okB_facts {P : Pat} (h : P.okB = true) : 0 < P.atoms.length ∧ P.atoms.length ≤ 40 ∧ edgesOf P.atoms ≤ 6 ∧ (varsS P.atoms).length ≤ 32 ∧ chosenB (varsS P.atoms) P.ret = true ∧ chosenB (varsS P.atoms) P.hint = true ∧
    (P.hint.length = 0 ∨ P.hint.length = (varsS P.atoms).length) ∧ countedP P.count P.distinct P.limited P.offset = true ∧ pagedP P.limited P.limit P.offset = true ∧ P.atoms.all atomB = true := by
  unfold Pat.okB sizesP namedP at h
  simp only [Bool.and_eq_true, Bool.or_eq_true, decide_eq_true_eq] at h
  exact ⟨h.1.1, h.1.2.1, h.1.2.2.1, h.1.2.2.2, h.2.1.1, h.2.1.2.1, h.2.1.2.2, h.2.2.1, h.2.2.2.1, h.2.2.2.2⟩
theorem varsS_word {l : List Atm} (h : l.all atomB = true) : ∀ s ∈ varsS l, wordB s = true := by
  have key : ∀ (l : List Atm) (T : List ByteArray), (∀ a ∈ l, atomB a = true) → (∀ s ∈ T, wordB s = true) → ∀ s ∈ l.foldl (fun T a => termS (termS T (a.fk, a.fn)) (a.tk, a.tn)) T, wordB s = true := by
    intro l
    induction l with
    | nil => intro T _ h; exact h
    | cons a l ih =>
      intro T hl hT
      rw [List.foldl_cons]
      refine ih _ (fun x hx => hl x (List.mem_cons_of_mem _ hx)) ?_
      obtain ⟨hf, hc⟩ := atom_facts (hl a (by simp))
      have ht : a.tn = nilB ∨ wordB a.tn = true := by
        rcases hc with h | h | h | h
        · exact .inl h.2.2.2.2
        · exact .inl h.2.2.2.1
        · exact .inl h.2.2.1
        · exact .inr h.2.2.2
      have step : ∀ (T : List ByteArray) (t : Bool × ByteArray), (∀ s ∈ T, wordB s = true) → (t.2 = nilB ∨ wordB t.2 = true) → ∀ s ∈ termS T t, wordB s = true := by
        intro T t hT ht s hs
        unfold termS at hs
        split at hs
        · exact hT s hs
        · rename_i hc
          rcases List.mem_append.1 hs with hs | hs
          · exact hT s hs
          · rw [List.mem_singleton] at hs
            subst hs
            rcases ht with ht | ht
            · exact absurd (.inr (.inl ht)) hc
            · exact ht
      exact step _ _ (step _ _ hT (.inr hf)) ht
  exact key l [] (List.all_eq_true.1 h) (by simp)
theorem okB_words {P : Pat} (h : P.okB = true) : (∀ s ∈ P.ret, wordB s = true) ∧ ∀ s ∈ P.hint, wordB s = true := by
  obtain ⟨_, _, _, _, h5, h6, _, _, _, h10⟩ := okB_facts h
  have hv := varsS_word h10
  exact ⟨fun s hs => hv s (((chosenB_iff _ _).1 h5).1 s hs), fun s hs => hv s (((chosenB_iff _ _).1 h6).1 s hs)⟩
end Go.Proofs.YthoneahamnmjlaaGreatDoor
