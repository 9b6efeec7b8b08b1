/- The parts of a pattern's text, told one by one. -/
import Derived.Test.YthoneahamnmjlaaGreatDoorGp23
import Derived.Test.YthoneahamnmjlaaGreatDoorGp03
import Derived.Test.YthoneahamnmjlaaGreatDoorGp15
import Derived.Test.YthoneahamnmjlaaGreatDoorGp08
import Derived.Test.YthoneahamnmjlaaGreatDoorGp22
namespace Go.Proofs.YthoneahamnmjlaaGreatDoor
set_option maxRecDepth 100000
set_option maxHeartbeats 2000000
set_option linter.unusedSimpArgs false
open Go.RowKit Go.Shelf Go.Sort
attribute [local go_sem] Oper.semAt_some wide_fn wide_depth
set_option linter.unusedVariables false

theorem parts_any (av rv hv : Value) (P : Pat) (w : World) : Calls Tryz.prog 41 #[.agg (patL av rv hv P).toArray] w fun e w' =>
    e = .returned (.func (.func 66) #[] #[.pointer (some ⟨w.heap.size, 0, none⟩)]) ∧ w' = w.alloc (.cells (patL av rv hv P).toArray 25) := by
  unfold patL
  go_enter Tryz.func41, Tryz.ntmps41
  go_wp2
  go_ret
  exact ⟨rfl, rfl⟩
/-- The cells of parts, and whether each stands there. -/
def partC (l : List (Bool × List UInt8)) : List Value := l.flatMap fun x => [.bool x.1, .string (txt x.2)]
/-- What the parts are taken from. -/
structure PartsAt (x : Nat) (P : Pat) (W : World) : Prop where
  row : ∃ av rv hv, RowAt W x 25 (patL av rv hv P) ∧ Ats W av P.atoms ∧ Strs W rv P.ret ∧ Strs W hv P.hint
  pows : Pows W
/-- Small enough. -/
structure PartsOk (P : Pat) : Prop where
  atoms : ∀ a ∈ P.atoms, atomB a = true
  few : P.atoms.length ≤ 1000
  ret : ∀ s ∈ P.ret, (bts s).length ≤ 1000
  rets : P.ret.length ≤ 1000
  hint : ∀ s ∈ P.hint, (bts s).length ≤ 1000
  hints : P.hint.length ≤ 1000
  lim : -9223372036854775808 ≤ P.limit ∧ P.limit ≤ 9223372036854775807
  off : -9223372036854775808 ≤ P.offset ∧ P.offset ≤ 9223372036854775807
def prG9 : Nat → Gro
  | 1 => .read
  | 2 => .grow
  | 3 => .grow
  | 6 => .read
  | 10 => .read
  | 11 => .grow
  | 15 => .read
  | 18 => .read
  | 21 => .read
  | 23 => .read
  | 24 => .grow
  | 28 => .read
  | 31 => .read
  | 32 => .grow
  | 36 => .read
  | 40 => .read
  | 41 => .grow
  | 44 => .grow
  | _ => .pure
theorem join_small (l : List ByteArray) (sep : List UInt8) (m : Nat) (h : ∀ s ∈ l, (bts s).length ≤ m) (hn : l.length ≤ 1000) (hm : m ≤ 1000) (hs : sep.length ≤ 10) : (Lib.join (l.map bts) sep).length ≤ 140737488355328 := by
  have := join_size (l.map bts) sep m (fun x hx => by obtain ⟨s, hs, rfl⟩ := List.mem_map.1 hx; exact h s hs)
  rw [List.length_map] at this
  have h2 : l.length * (m + sep.length) ≤ 1000 * 1010 := Nat.mul_le_mul hn (by omega)
  omega
theorem enters_partT : ∀ args w, (callFunc 68 args).run Tryz.prog w = .ok (.enter 68 args) w := enters_of Tryz.func68 (by kernel_rfl) rfl
theorem picks_take (l : List (Bool × List UInt8)) (j : Nat) (h : j < l.length) : picks (l.take (j + 1)) = picks (l.take j) ++ (if l[j].1 = true then [l[j].2] else []) := by
  unfold picks
  rw [List.take_succ_eq_append_getElem h, List.filter_append, List.map_append]
  congr 1
  cases hb : l[j].1 <;> simp [List.filter, hb]
theorem picks_le (l : List (Bool × List UInt8)) (j : Nat) (h : j < l.length) (hb : l[j].1 = true) : ∃ hk : (picks (l.take j)).length < (picks l).length, (picks l)[(picks (l.take j)).length] = l[j].2 := by
  have e : picks l = picks (l.take j) ++ l[j].2 :: picks (l.drop (j + 1)) := by
    conv => lhs; rw [← List.take_append_drop j l]
    rw [List.drop_eq_getElem_cons h]
    unfold picks
    rw [List.filter_append, List.map_append]
    simp only [List.filter_cons, hb, if_true, List.map_cons]
  refine ⟨by rw [e]; simp, ?_⟩
  simp only [e]
  simp
theorem partC_at {W : World} {g : Nat} {t : TypeId} {l : List (Bool × List UInt8)} (h : RowAt W g t (partC l)) {j : Nat} (hj : j < l.length) : W.cell? ⟨g, j * 2, none⟩ = some (.bool l[j].1) ∧ W.cell? ⟨g, j * 2 + 1, none⟩ = some (.string (txt l[j].2)) := by
  have key : ∀ (l : List (Bool × List UInt8)) (j : Nat) (hj : j < l.length), (partC l)[j * 2]? = some (.bool l[j].1) ∧ (partC l)[j * 2 + 1]? = some (.string (txt l[j].2)) := by
    intro l
    induction l with
    | nil => intro j hj; simp at hj
    | cons x l ih =>
      intro j hj
      cases j with
      | zero => exact ⟨rfl, rfl⟩
      | succ j =>
        have := ih j (by simpa using hj)
        have e : partC (x :: l) = [Value.bool x.1, .string (txt x.2)] ++ partC l := rfl
        rw [e, List.getElem?_append_right (by simp; omega), List.getElem?_append_right (by simp; omega)]
        simp only [List.length_cons, List.length_nil, List.getElem_cons_succ]
        rw [show (j + 1) * 2 - (0 + 1 + 1) = j * 2 by omega, show (j + 1) * 2 + 1 - (0 + 1 + 1) = j * 2 + 1 by omega]
        exact this
  exact ⟨h.cell (key l j hj).1, h.cell (key l j hj).2⟩
set_option maxRecDepth 100000 in
set_option maxHeartbeats 4000000 in
theorem parts_iter (P : Pat) (hP : PartsOk P) (x X : Nat) (T : TypeId) (Kt : TypeId → Prop) (hKt : Kt 97) :
    IterP Tryz.prog 66 #[.pointer (some ⟨x, 0, none⟩)] (PartsAt x P) T Kt X (picks (partsL P)).length (fun k _ args => ∃ h : k < (picks (partsL P)).length, args = #[.string (txt (picks (partsL P))[k])]) := by
  intro L W J Js hXW hI hJ hJs hround h0
  have hmo : Tryz.prog.follows .mixedOrders = true := by kernel_rfl
  refine callsIn_of_wp Tryz.func66 rfl trivial ?_
  simp only [Tryz.ntmps66, List.size_toArray, List.length_cons, List.length_nil, Nat.reduceAdd, Nat.reduceSub, Array.replicate_succ, Array.replicate_zero, List.push_toArray, List.append_toArray, List.nil_append, List.cons_append]
  have HJ := Lib.hid hJ
  have HRound := Lib.hid hround
  have H0 := Lib.hid h0
  have HXW := Lib.hid hXW
  obtain ⟨⟨av, rv, hv, hrow, ha, hr, hh⟩, hpw⟩ := hI
  obtain ⟨ava, avc, rfl, hac, _⟩ := ha.shape
  obtain ⟨rva, rvc, rfl, hrc, _⟩ := Sl.shape hr
  obtain ⟨hva, hvc, rfl, hhc, _⟩ := Sl.shape hh
  obtain ⟨q1, q2, q3, q4, q5, q6, ⟨q7, q8⟩, q9, q10⟩ := hP
  obtain ⟨atoms, ret, cn, ds, lm, li, off, hint⟩ := P
  have hL : partsL ⟨atoms, ret, cn, ds, lm, li, off, hint⟩ = [(true, atomsX atoms), (decide (0 < ret.length), retW ret), (cn, bts wCount), (ds, bts wDistinct), (lm, limW li), (decide (0 < off), offW off), (decide (0 < hint.length), hintW hint)] := rfl
  unfold patL at hrow
  dsimp only at *
  have HM := Lib.hid (fun w' (hx : Ext W w') => madeAS_any (.slice ava atoms.length avc) atoms (fun a => txt (atomX a)) 68 #[] w' (ha.ext hx) (by omega) enters_partT (fun a hm w'' _ => partT_any a w'' (q1 a hm)))
  have hjm : (atoms.map (fun a => txt (atomX a))).map bts = atoms.map atomX := by rw [List.map_map]; exact List.map_congr_left (fun a _ => bts_txt _)
  have hjl : (Lib.join ((atoms.map (fun a => txt (atomX a))).map bts) (bts ⟨#[44, 32]⟩)).length ≤ 140737488355328 := join_small _ _ 1000 (fun s hs => by
    obtain ⟨a, ham, rfl⟩ := List.mem_map.1 hs
    have := atomX_size a
    obtain ⟨z1, z2, z3, z4⟩ := Atm.size_of (q1 a ham)
    rw [bts_txt]; omega) (by rw [List.length_map]; omega) (by omega) (by decide)
  have hJA : ∀ u w', Strs w' u (atoms.map (fun a => txt (atomX a))) → Calls Tryz.prog 42 #[u, .string ⟨#[44, 32]⟩] w' fun e w'' => e = .returned (.string (txt (atomsX atoms))) ∧ Ext w' w'' := fun u w' hu => by
    have := joinS_any u _ ⟨#[44, 32]⟩ w' hu hjl (by rw [List.length_map]; omega)
    rw [hjm] at this
    exact this
  have hJR : ∀ w', Ext W w' → Calls Tryz.prog 42 #[.slice rva ret.length rvc, .string ⟨#[44, 32]⟩] w' fun e w'' => e = .returned (.string (txt (Lib.join (ret.map bts) [44, 32]))) ∧ Ext w' w'' := fun w' hx => joinS_any _ ret ⟨#[44, 32]⟩ w' (Strs.ext hr hx) (join_small _ _ 1000 q3 (by omega) (by omega) (by decide)) (by omega)
  have hJH : ∀ w', Ext W w' → Calls Tryz.prog 42 #[.slice hva hint.length hvc, .string ⟨#[32]⟩] w' fun e w'' => e = .returned (.string (txt (Lib.join (hint.map bts) [32]))) ∧ Ext w' w'' := fun w' hx => joinS_any _ hint ⟨#[32]⟩ w' (Strs.ext hh hx) (join_small _ _ 1000 q5 (by omega) (by omega) (by decide)) (by omega)
  have hIL : ∀ w', Ext W w' → Calls Tryz.prog 31 #[.int .i64 li] w' fun e w'' => e = .returned (.string (txt (Lib.itoa li))) ∧ Ext w' w'' := fun w' hx => itoa_any li q7 q8 w' (hpw.ext hx)
  have hIO : ∀ w', Ext W w' → Calls Tryz.prog 31 #[.int .i64 off] w' fun e w'' => e = .returned (.string (txt (Lib.itoa off))) ∧ Ext w' w'' := fun w' hx => itoa_any off q9 q10 w' (hpw.ext hx)
  have eR : (⟨#[114, 101, 116, 117, 114, 110, 32]⟩ : ByteArray) ++ txt (Lib.join (ret.map bts) [44, 32]) = txt (retW ret) := bts_inj (by rw [bts_append, bts_txt, bts_txt]; rfl)
  have eH : (⟨#[104, 105, 110, 116, 32]⟩ : ByteArray) ++ txt (Lib.join (hint.map bts) [32]) = txt (hintW hint) := bts_inj (by rw [bts_append, bts_txt, bts_txt]; rfl)
  have eL : (⟨#[108, 105, 109, 105, 116, 32]⟩ : ByteArray) ++ txt (Lib.itoa li) = txt (limW li) := bts_inj (by rw [bts_append, bts_txt, bts_txt]; rfl)
  have eO : (⟨#[111, 102, 102, 115, 101, 116, 32]⟩ : ByteArray) ++ txt (Lib.itoa off) = txt (offW off) := bts_inj (by rw [bts_append, bts_txt, bts_txt]; rfl)
  have zR : ¬ (9223372036854775807 < 7 + (txt (Lib.join (ret.map bts) [44, 32])).size) := by rw [txt_size]; have := join_small ret [44, 32] 1000 q3 (by omega) (by omega) (by decide); omega
  have zH : ¬ (9223372036854775807 < 5 + (txt (Lib.join (hint.map bts) [32])).size) := by rw [txt_size]; have := join_small hint [32] 1000 q5 (by omega) (by omega) (by decide); omega
  have zL : ¬ (9223372036854775807 < 6 + (txt (Lib.itoa li)).size) := by rw [txt_size]; have := Lib.itoa_length_le li q7 q8; omega
  have zO : ¬ (9223372036854775807 < 7 + (txt (Lib.itoa off)).size) := by rw [txt_size]; have := Lib.itoa_length_le off q9 q10; omega
  obtain ⟨b1, hb1⟩ : ∃ b, decide (0 < ret.length) = b := ⟨_, rfl⟩
  obtain ⟨b2, hb2⟩ : ∃ b, decide ((0 : Int) < off) = b := ⟨_, rfl⟩
  obtain ⟨b3, hb3⟩ : ∃ b, decide (0 < hint.length) = b := ⟨_, rfl⟩
  have hL2 : partsL ⟨atoms, ret, cn, ds, lm, li, off, hint⟩ = [(true, atomsX atoms), (b1, retW ret), (cn, bts wCount), (ds, bts wDistinct), (lm, limW li), (b2, offW off), (b3, hintW hint)] := by
    rw [hL, ← hb1, ← hb2, ← hb3]
  obtain ⟨PL, hPL⟩ : ∃ l, partsL ⟨atoms, ret, cn, ds, lm, li, off, hint⟩ = l := ⟨_, rfl⟩
  rw [hPL] at HRound hL2 ⊢
  have HL := Lib.hid hL2
  have HJA := Lib.hid hJA
  have HJR := Lib.hid hJR
  have HJH := Lib.hid hJH
  have HIL := Lib.hid hIL
  have HIO := Lib.hid hIO
  clear ha hr hh hpw q1 q2 q3 q4 q5 q6 q7 q8 q9 q10 hL hJA hJR hJH hIL hIO hjm hjl hJ hround h0 hXW hPL hL2
  gi_wp2_with fail
  refine wpIn_wide.2 ?_
  refine wp_region_gro prG9 [0, 1, 5, 6, 7, 8, 9, 10, 14, 15, 16, 17, 18, 19, 20, 21, 22, 23, 27, 28, 29, 30, 31, 35, 36, 37, 38, 39, 40, 2, 3, 4, 11, 12, 13, 24, 25, 26, 32, 33, 34, 41, 42, 43, 44, 45] hmo (by kernel_rfl) rfl (by kernel_rfl) (fun _ _ _ _ _ h => h) ?_
  have HX0 := Lib.hid (Ext.drewN W 1)
  have hb := hrow.ext HX0.out
  change GroW _ _ _ _ _ _ W.drew
  replace hb : RowAt W.drew x 25 [.slice ava atoms.length avc, .slice rva ret.length rvc, .bool cn, .bool ds, .bool lm, .int .i64 li, .int .i64 off, .slice hva hint.length hvc] := hb
  replace HX0 : Hid (Ext W W.drew) := HX0
  clear hrow
  generalize W.drew = w0 at *
  obtain ⟨d0, d1, d2, d3, d4, d5, d6, d7⟩ := row8_facts hb
  clear hb
  repeat (first
    | (refine groL_pure rfl rfl ?_; intro K hK; go_simp; refine hK _ ?_; clear hK K)
    | (refine groL_read rfl rfl ?_; intro K S hS hK; go_simp; refine hK _ ?_; clear hK K hS S)
    | (refine groL_read rfl rfl ?_; intro K S hS hK; go_simp; refine ⟨hS _ ?_, hK _ ?_⟩; (clear hK K hS S; intro w' hx'; have hce := ext_some hx'; go_simp); clear hK K hS S)
    | (refine groL_write rfl rfl ?_; intro K hK; go_simp; refine hK _ _ ?_; clear hK K))
  clear d0 d1 d2 d3 d4 d5 d6 d7
  refine groL_grow rfl rfl ?_
  intro K hK
  go_simp
  (refine (HM.out _ HX0.out).mono ?_; rintro e w1 ⟨u, rfl, hu, hx1⟩)
  go_simp
  refine hK _ _ ⟨hx1, ?_⟩
  clear hK K
  have HU := Lib.hid (show Strs w1 u (atoms.map fun a => txt (atomX a)) from by have := Sl.of_own hu; unfold Strs; rwa [List.length_map])
  have HX1 := Lib.hid (HX0.out.trans hx1)
  clear hu hx1
  refine groL_grow rfl rfl ?_
  intro K hK
  go_simp
  (refine (HJA.out _ _ HU.out).mono ?_; rintro e w2 ⟨rfl, hx2⟩)
  go_simp
  refine hK _ _ ⟨hx2, ?_⟩
  clear hK K
  have HX2 := Lib.hid (HX1.out.trans hx2)
  clear hx2
  repeat (first
    | (refine groL_pure rfl rfl ?_; intro K hK; go_simp; refine hK _ ?_; clear hK K)
    | (refine groL_read rfl rfl ?_; intro K S hS hK; go_simp; refine hK _ ?_; clear hK K hS S)
    | (refine groL_read rfl rfl ?_; intro K S hS hK; go_simp; refine ⟨hS _ ?_, hK _ ?_⟩; (clear hK K hS S; intro w' hx'; have hce := ext_some hx'; go_simp); clear hK K hS S)
    | (refine groL_write rfl rfl ?_; intro K hK; go_simp; refine hK _ _ ?_; clear hK K))
  refine groL_grow rfl rfl ?_
  intro K hK
  go_simp
  (refine (HJR.out _ HX2.out).mono ?_; rintro e w3 ⟨rfl, hx3⟩)
  go_simp
  refine hK _ _ ⟨hx3, ?_⟩
  clear hK K
  have HX3 := Lib.hid (HX2.out.trans hx3)
  clear hx3
  repeat (first
    | (refine groL_pure rfl rfl ?_; intro K hK; go_simp; refine hK _ ?_; clear hK K)
    | (refine groL_read rfl rfl ?_; intro K S hS hK; go_simp; refine hK _ ?_; clear hK K hS S)
    | (refine groL_read rfl rfl ?_; intro K S hS hK; go_simp; refine ⟨hS _ ?_, hK _ ?_⟩; (clear hK K hS S; intro w' hx'; have hce := ext_some hx'; go_simp); clear hK K hS S)
    | (refine groL_write rfl rfl ?_; intro K hK; go_simp; refine hK _ _ ?_; clear hK K))
  refine groL_grow rfl rfl ?_
  intro K hK
  go_simp
  (refine (HIL.out _ HX3.out).mono ?_; rintro e w4 ⟨rfl, hx4⟩)
  go_simp
  refine hK _ _ ⟨hx4, ?_⟩
  clear hK K
  have HX4 := Lib.hid (HX3.out.trans hx4)
  clear hx4
  repeat (first
    | (refine groL_pure rfl rfl ?_; intro K hK; go_simp; refine hK _ ?_; clear hK K)
    | (refine groL_read rfl rfl ?_; intro K S hS hK; go_simp; refine hK _ ?_; clear hK K hS S)
    | (refine groL_read rfl rfl ?_; intro K S hS hK; go_simp; refine ⟨hS _ ?_, hK _ ?_⟩; (clear hK K hS S; intro w' hx'; have hce := ext_some hx'; go_simp); clear hK K hS S)
    | (refine groL_write rfl rfl ?_; intro K hK; go_simp; refine hK _ _ ?_; clear hK K))
  refine groL_grow rfl rfl ?_
  intro K hK
  go_simp
  (refine (HIO.out _ HX4.out).mono ?_; rintro e w5 ⟨rfl, hx5⟩)
  go_simp
  refine hK _ _ ⟨hx5, ?_⟩
  clear hK K
  have HX5 := Lib.hid (HX4.out.trans hx5)
  clear hx5
  repeat (first
    | (refine groL_pure rfl rfl ?_; intro K hK; go_simp; refine hK _ ?_; clear hK K)
    | (refine groL_read rfl rfl ?_; intro K S hS hK; go_simp; refine hK _ ?_; clear hK K hS S)
    | (refine groL_read rfl rfl ?_; intro K S hS hK; go_simp; refine ⟨hS _ ?_, hK _ ?_⟩; (clear hK K hS S; intro w' hx'; have hce := ext_some hx'; go_simp); clear hK K hS S)
    | (refine groL_write rfl rfl ?_; intro K hK; go_simp; refine hK _ _ ?_; clear hK K))
  refine groL_grow rfl rfl ?_
  intro K hK
  go_simp
  (refine (HJH.out _ HX5.out).mono ?_; rintro e w6 ⟨rfl, hx6⟩)
  go_simp
  refine hK _ _ ⟨hx6, ?_⟩
  clear hK K
  have HX6 := Lib.hid (HX5.out.trans hx6)
  clear hx6
  repeat (first
    | (refine groL_pure rfl rfl ?_; intro K hK; go_simp; refine hK _ ?_; clear hK K)
    | (refine groL_read rfl rfl ?_; intro K S hS hK; go_simp; refine hK _ ?_; clear hK K hS S)
    | (refine groL_read rfl rfl ?_; intro K S hS hK; go_simp; refine ⟨hS _ ?_, hK _ ?_⟩; (clear hK K hS S; intro w' hx'; have hce := ext_some hx'; go_simp); clear hK K hS S)
    | (refine groL_write rfl rfl ?_; intro K hK; go_simp; refine hK _ _ ?_; clear hK K))
  -- a row is laid in a region that draws its order
  refine groL_grow rfl rfl ?_
  intro K hK
  go_simp
  refine hK _ _ ⟨Ext.alloc _ _, ?_⟩
  clear hK K
  repeat (first
    | (refine groL_pure rfl rfl ?_; intro K hK; go_simp; refine hK _ ?_; clear hK K)
    | (refine groL_read rfl rfl ?_; intro K S hS hK; go_simp; refine hK _ ?_; clear hK K hS S)
    | (refine groL_read rfl rfl ?_; intro K S hS hK; go_simp; refine ⟨hS _ ?_, hK _ ?_⟩; (clear hK K hS S; intro w' hx'; have hce := ext_some hx'; go_simp); clear hK K hS S)
    | (refine groL_write rfl rfl ?_; intro K hK; go_simp; refine hK _ _ ?_; clear hK K))
  refine groL_nil ?_
  have hPC : (partC PL).toArray = #[.bool true, .string (txt (atomsX atoms)), .bool b1, .string (txt (retW ret)), .bool cn, .string ⟨#[99, 111, 117, 110, 116]⟩, .bool ds, .string ⟨#[100, 105, 115, 116, 105, 110, 99, 116]⟩, .bool lm, .string (txt (limW li)), .bool b2, .string (txt (offW off)), .bool b3, .string (txt (hintW hint))] := by rw [HL.out]; rfl
  have hlen : PL.length = 7 := by rw [HL.out]; rfl
  rw [← hPC]
  have HXA := Lib.hid (HX6.out.trans (Ext.alloc w6 (.cells (partC PL).toArray 97)))
  have HROW := Lib.hid (RowAt.new w6 97 (partC PL))
  have HJ0 := Lib.hid (HJ.out 0 _ _ (Turn.ext HXA.out) H0.out)
  have HXG := Lib.hid (show X ≤ w6.heap.size from Nat.le_trans HXW.out HX6.out.size)
  clear eR eH eL eO zR zH zL zO hb1 hb2 hb3 HX6 HX5 HX4 HX3 HX2 HX1 HX0 HJA HJR HJH HIL HIO HL HM HU hPC H0 HXW
  generalize w6.alloc (.cells (partC PL).toArray 97) = w7 at *
  obtain ⟨g, hg⟩ : ∃ g, w6.heap.size = g := ⟨_, rfl⟩
  rw [hg] at HROW HXG
  simp only [hg]
  clear hg
  clear hmo
  have HLEN := Lib.hid hlen
  gi_wp2_with fail
  gi_loopw [53] (fun i wr => ∃ j : Nat, j ≤ 7 ∧ i = .int .i64 j ∧ RowAt wr g 97 (partC PL) ∧ J (picks (PL.take j)).length wr) (fun i _ => 7 - (intOf i).toNat)
  case atStart => exact ⟨0, by omega, rfl, HROW.out, HJ0.out⟩
  case round =>
    obtain ⟨j, hj7, rfl, hrow, hj⟩ := hrel
    have hj0 : 0 ≤ j := Nat.zero_le _
    by_cases hlt : j < 7
    · have hjl : j < PL.length := by have := HLEN.out; omega
      obtain ⟨c0, c1⟩ := partC_at hrow hjl
      have hpt := picks_take PL j hjl
      have hpl := picks_le PL j hjl
      have hgl := cell_lt c0
      generalize PL[j] = y at *
      obtain ⟨b, s⟩ := y
      dsimp only at c0 c1 hpt hpl
      have HROW2 := Lib.hid (hrow.ext (Ext.alloc wr (.cells #[.bool b, .string (txt s)] 97)))
      have HB2 := Lib.hid (RowAt.new wr 97 [.bool b, .string (txt s)])
      have HJ2 := Lib.hid (HJ.out _ _ _ (Turn.ext (Ext.alloc wr (.cells #[.bool b, .string (txt s)] 97))) hj)
      cases b with
      | false =>
        have HPT := Lib.hid (show (picks (PL.take (j + 1))).length = (picks (PL.take j)).length by rw [hpt]; simp)
        clear hpt hpl
        gi_wp2_with fail
        exact ⟨⟨j + 1, by omega, by go_num, HROW2.out, by rw [HPT.out]; exact HJ2.out⟩, by simp [intOf]; omega⟩
      | true =>
        obtain ⟨hk, hks⟩ := hpl rfl
        have HPT := Lib.hid (show (picks (PL.take (j + 1))).length = (picks (PL.take j)).length + 1 by rw [hpt]; simp)
        obtain ⟨fn', tmps', assign', body', hy, hR⟩ := HRound.out _ _ _ hk HJ2.out ⟨hk, rfl⟩
        rw [hks] at hy
        clear hpt hpl hks
        have d0 := HB2.out.cell (i := 0) rfl
        have d1 := HB2.out.cell (i := 1) rfl
        gi_wp2_with fail
        refine hR.mono ?_
        rintro e w9 ⟨-, hkc, ⟨rfl, hj9⟩ | ⟨rfl, hj9⟩⟩
        · have HR9 := Lib.hid (hkc.row g _ _ HXG.out hKt HROW2.out)
          gi_wp2
          exact ⟨⟨j + 1, by omega, by go_num, HR9.out, by rw [HPT.out]; exact hj9⟩, by simp [intOf]; omega⟩
        · gi_wp2
          exact bodyPost_ret (results_none rfl _ _ _) rfl ⟨⟨_, rfl⟩, .inr hj9⟩
    · have he : j = 7 := by omega
      subst he
      have hfin : J (picks PL).length wr := by rwa [List.take_of_length_le (by have := HLEN.out; omega)] at hj
      gi_wp2_with fail
      go_end0
      exact ⟨⟨_, rfl⟩, .inl hfin⟩
end Go.Proofs.YthoneahamnmjlaaGreatDoor

/- Tokens side by side in a text: words apart, signs anywhere. Plain. -/
namespace Go.Proofs.YthoneahamnmjlaaGreatDoor
set_option maxRecDepth 100000
set_option maxHeartbeats 2000000
set_option linter.unusedSimpArgs false
set_option linter.unusedVariables false

theorem TokIs.begins3 {k : Int} {l : List UInt8} (h : TokIs k l) {r : List UInt8} (hr : k = 1 ∨ k = 2 → spanL letterC r = 0) : BegIs (standsL k l ++ r) k l (standsL k l).length := by
  cases h with
  | word h =>
    obtain ⟨h1, h2, h3⟩ := allB_iff.1 h
    have e := all_prefix (b := r) h1
    rw [hr (.inl rfl), Nat.add_zero] at e
    have := BegIs.word (l := l ++ r) (by omega) (by omega)
    rw [e, List.take_left] at this
    exact this
  | key h =>
    obtain ⟨h1, h2, h3⟩ := allB_iff.1 h
    have e := all_prefix (b := r) h1
    rw [hr (.inr rfl), Nat.add_zero] at e
    have := BegIs.key (r := l ++ r) (by omega) (by omega)
    rw [e, List.take_left] at this
    exact this
  | text h =>
    obtain ⟨h1, h2, h3⟩ := allB_iff.1 h
    have e := all_prefix (b := 34 :: r) h1
    rw [spanL_no (by decide), Nat.add_zero] at e
    have := BegIs.text (r := l ++ 34 :: r) (by omega) (by rw [e, List.getElem?_append_right (Nat.le_refl _), Nat.sub_self]; rfl)
    rw [e, List.take_left] at this
    have e2 : standsL 3 l ++ r = 34 :: (l ++ 34 :: r) := by
      show (34 :: (l ++ [34])) ++ r = _
      simp
    rw [e2]
    have e3 : (standsL 3 l).length = l.length + 2 := by
      show (34 :: (l ++ [34])).length = _
      simp
    rw [e3]; exact this
  | sign h => rw [standsL_sign h]; exact .sign h
/-- Tokens with blanks ahead of each, if any; behind a word or key stands no letter. -/
inductive Laid3 : List Tk → List UInt8 → Prop
  | nil : Laid3 [] []
  | cons {t : Tk} {l : List Tk} {sep r : List UInt8} (h : TokIs t.kind (bts t.text)) (hs : ∀ c ∈ sep, blankC c.toNat = true) (hr : t.kind = 1 ∨ t.kind = 2 → spanL letterC r = 0) (hl : Laid3 l r) : Laid3 (t :: l) (sep ++ (t.stands ++ r))
theorem Laid3.read {l : List Tk} {u : List UInt8} (h : Laid3 l u) : ∀ (s : List UInt8) (p : Nat), s.drop p = u → p ≤ s.length → kt (yieldsAt s (skipL s p)) = kt l ∧ ∀ t ∈ yieldsAt s (skipL s p), t.kind ≠ 0 := by
  induction h with
  | nil =>
    intro s p hd hp
    have : s.length ≤ p := by
      rcases Nat.lt_or_ge p s.length with h | h
      · have := congrArg List.length hd; rw [List.length_drop] at this; simp at this; omega
      · exact h
    have h2 := skipL_ge s p
    rw [yieldsAt_end (by omega)]
    exact ⟨rfl, fun t ht => by simp at ht⟩
  | @cons t l sep r ht hs hr hl ih =>
    intro s p hd hp
    obtain ⟨c, y, he, hc⟩ := ht.head
    have hst : t.stands = c :: y := he
    have hsk : skipL s p = p + sep.length := by
      unfold skipL
      rw [hd, spanL_append _ _ _ hs, hst, List.cons_append, spanL_no hc, Nat.add_zero]
    rw [hsk]
    have hd1 : s.drop (p + sep.length) = t.stands ++ r := by rw [← List.drop_drop, hd, List.drop_left]
    have hb := ht.begins3 hr
    have hbl : begL (s.drop (p + sep.length)) = (t.kind, bts t.text, t.stands.length) := by rw [hd1]; exact begL_of hb
    have hpos := hb.pos
    have hlen : p + sep.length + t.stands.length ≤ s.length := by
      have := congrArg List.length hd
      rw [List.length_drop, List.length_append, List.length_append] at this; omega
    have hpos' : 0 < t.stands.length := hpos
    have hlt : p + sep.length < s.length := by omega
    have hn0 : (begL (s.drop (p + sep.length))).2.2 ≠ 0 := by rw [hbl]; dsimp only; omega
    rw [yieldsAt_more hlt hn0]
    have hd2 : s.drop (p + sep.length + t.stands.length) = r := by rw [← List.drop_drop, hd1, List.drop_left]
    obtain ⟨h1, h2⟩ := ih s _ hd2 hlen
    have hnn : (begL (s.drop (p + sep.length))).2.2 = t.stands.length := by rw [hbl]
    rw [hnn]
    have htk : (tkAt s (p + sep.length)).kind = t.kind ∧ (tkAt s (p + sep.length)).text = t.text := by
      unfold tkAt
      rw [hbl]
      exact ⟨rfl, txt_bts _⟩
    refine ⟨?_, fun x hx => ?_⟩
    · unfold kt at h1 ⊢
      rw [List.map_cons, List.map_cons, h1, htk.1, htk.2]
    · rcases List.mem_cons.1 hx with rfl | hx
      · rw [htk.1]; have := hb.kind; omega
      · exact h2 x hx
theorem Laid3.reads {l : List Tk} {u : List UInt8} (h : Laid3 l u) (hu : u.length ≤ 500) : ∃ back, readF u = (back, (u.length : Int), 0) ∧ kt back = kt l := by
  obtain ⟨h1, h2⟩ := h.read u 0 (by rw [List.drop_zero]) (Nat.zero_le _)
  exact ⟨yields u, readF_good hu h2, h1⟩
/-- Tokens' text; c: whatever follows, else no letter may. -/
def Blk (c : Bool) (l : List Tk) (u : List UInt8) : Prop := ∀ m v, Laid3 m v → (c = false → spanL letterC v = 0) → Laid3 (l ++ m) (u ++ v)
/-- It begins with no letter. -/
def Hd (v : List UInt8) : Prop := ∀ x, spanL letterC (v ++ x) = 0
theorem Hd.cons {a : UInt8} (y : List UInt8) (h : letterC a.toNat = false) : Hd (a :: y) := fun x => spanL_no h
theorem Blk.nil : Blk false [] [] := fun m v h _ => h
theorem Blk.tok {t : Tk} (ht : t.check = true) {c : Bool} (hc : c = true → t.kind ≠ 1 ∧ t.kind ≠ 2) {sep : List UInt8} (hs : ∀ x ∈ sep, blankC x.toNat = true) : Blk c [t] (sep ++ t.stands) := fun m v h hv => by
  rw [List.append_assoc]
  refine .cons (check_tok ht) hs (fun hk => ?_) h
  cases c with
  | true => have := hc rfl; omega
  | false => exact hv rfl
theorem Blk.app {b c : Bool} {l m : List Tk} {u v : List UInt8} (h1 : Blk b l u) (h2 : Blk c m v) (hn : b = false → Hd v) : Blk c (l ++ m) (u ++ v) := fun n x h hx => by
  rw [List.append_assoc, List.append_assoc]
  exact h1 _ _ (h2 n x h hx) (fun hb => hn hb x)
theorem Blk.laid {c : Bool} {l : List Tk} {u : List UInt8} (h : Blk c l u) : Laid3 l u := by
  have := h [] [] .nil (fun _ => rfl)
  simpa using this
end Go.Proofs.YthoneahamnmjlaaGreatDoor

/- What a pattern's text is read as: its tokens come to the pattern. Plain. -/
namespace Go.Proofs.YthoneahamnmjlaaGreatDoor
set_option maxRecDepth 100000
set_option maxHeartbeats 2000000
set_option linter.unusedSimpArgs false
open Go.Lib
set_option linter.unusedVariables false

/-- Tokens. -/
def sg (k : Int) : Tk := ⟨k, nilB, 0⟩
def wd (s : ByteArray) : Tk := ⟨1, s, 0⟩
def tmK (k : Bool) (n : ByteArray) : Tk := ⟨if k = true then 2 else 1, n, 0⟩
def tailK (a : Atm) : List Tk :=
  if a.kind = 2 then [sg 7, wd a.name]
  else if a.kind = 3 then [sg 8, wd a.name, sg 9, ⟨3, a.value, 0⟩]
  else if a.kind = 4 then [sg 5, sg 10, wd a.name, sg 11, sg 4, tmK a.tk a.tn]
  else []
def atomK (a : Atm) : List Tk := sg 4 :: tmK a.fk a.fn :: (tailK a ++ [sg 5])
def sepK : List (List Tk) → List Tk
  | [] => []
  | [x] => x
  | x :: y :: r => x ++ sg 6 :: sepK (y :: r)
def retK (l : List ByteArray) : List Tk := wd wReturn :: sepK (l.map fun s => [wd s])
def hintK (l : List ByteArray) : List Tk := wd wHint :: l.map wd
def limK (n : Int) : List Tk := [wd wLimit, wd (txt (itoa n))]
def offK (n : Int) : List Tk := [wd wOffset, wd (txt (itoa n))]
def optK (b : Bool) (l : List Tk) : List Tk := if b = true then l else []
def toksK (P : Pat) : List Tk := sepK (P.atoms.map atomK) ++ (optK (decide (0 < P.ret.length)) (retK P.ret) ++ (optK P.count [wd wCount] ++ (optK P.distinct [wd wDistinct] ++ (optK P.limited (limK P.limit) ++ (optK (decide (0 < P.offset)) (offK P.offset) ++ optK (decide (0 < P.hint.length)) (hintK P.hint))))))

theorem sg_check {k : Int} {x : List UInt8} (h : (k, x) ∈ signs) : (sg k).check = true := checkB_iff.2 ⟨.sign h, Int.le_refl _⟩
theorem sg_stands {k : Int} {x : List UInt8} (h : (k, x) ∈ signs) : (sg k).stands = x := standsL_sign h _
theorem word_check {s : ByteArray} (h : wordB s = true) : (wd s).check = true := h
theorem word_all {s : ByteArray} (h : wordB s = true) : allB letterC 1 32 (bts s) = true := by rw [wordB_all]; exact h
theorem tm_check {k : Bool} {n : ByteArray} (h : wordB n = true) : (tmK k n).check = true := by
  cases k with
  | false => exact h
  | true => exact checkB_iff.2 ⟨.key (word_all h), Int.le_refl _⟩
theorem tm_stands (k : Bool) (n : ByteArray) : (tmK k n).stands = termX k n := by cases k <;> rfl
theorem blk_sg {k : Int} {x : List UInt8} (h : (k, x) ∈ signs) (hk : k ≠ 1 ∧ k ≠ 2) : Blk true [sg k] x := by
  have := Blk.tok (sg_check h) (c := true) (fun _ => hk) (sep := []) (by simp)
  rwa [sg_stands h] at this
theorem blk_wd {s : ByteArray} (h : wordB s = true) : Blk false [wd s] (bts s) := Blk.tok (word_check h) (c := false) (fun h => by cases h) (sep := []) (by simp)
theorem blk_bwd {s : ByteArray} (h : wordB s = true) : Blk false [wd s] (32 :: bts s) := Blk.tok (word_check h) (c := false) (fun h => by cases h) (sep := [32]) (by decide)
theorem blk_tm {k : Bool} {n : ByteArray} (h : wordB n = true) : Blk false [tmK k n] (termX k n) := by
  have := Blk.tok (tm_check (k := k) h) (c := false) (fun h => by cases h) (sep := []) (by simp)
  rwa [tm_stands] at this
theorem blk_wth {s : ByteArray} (h : worthB s = true) : Blk true [⟨3, s, 0⟩] (34 :: (bts s ++ [34])) := Blk.tok (t := ⟨3, s, 0⟩) h (c := true) (fun _ => ⟨show (3 : Int) ≠ 1 by decide, show (3 : Int) ≠ 2 by decide⟩) (sep := []) (by simp)
theorem s4 : ((4 : Int), ([40] : List UInt8)) ∈ signs := by decide
theorem s5 : ((5 : Int), ([41] : List UInt8)) ∈ signs := by decide
theorem s6 : ((6 : Int), ([44] : List UInt8)) ∈ signs := by decide
theorem s7 : ((7 : Int), ([58] : List UInt8)) ∈ signs := by decide
theorem s8 : ((8 : Int), ([46] : List UInt8)) ∈ signs := by decide
theorem s9 : ((9 : Int), ([61] : List UInt8)) ∈ signs := by decide
theorem s10 : ((10 : Int), ([45, 91] : List UInt8)) ∈ signs := by decide
theorem s11 : ((11 : Int), ([93, 45, 62] : List UInt8)) ∈ signs := by decide
theorem hd_paren : Hd [41] := Hd.cons _ (by decide)
theorem blk_tail {a : Atm} (h : atomB a = true) : Blk true (tailK a ++ [sg 5]) (tailX a ++ [41]) ∧ Hd (tailX a ++ [41]) := by
  obtain ⟨hf, ⟨hk, _⟩ | ⟨hk, hv, htk, htn, hn⟩ | ⟨hk, htk, htn, hn, hv⟩ | ⟨hk, hv, hn, htn⟩⟩ := atom_facts h
  · unfold tailK tailX
    rw [if_neg (by omega), if_neg (by omega), if_neg (by omega), if_neg (by omega), if_neg (by omega), if_neg (by omega)]
    exact ⟨blk_sg s5 (by decide), hd_paren⟩
  · unfold tailK tailX
    rw [if_pos hk, if_pos hk]
    exact ⟨((blk_sg s7 (by decide)).app (blk_wd hn) (fun h => by cases h)).app (blk_sg s5 (by decide)) (fun _ => hd_paren), Hd.cons _ (by decide)⟩
  · unfold tailK tailX
    rw [if_neg (by omega), if_pos hk, if_neg (by omega), if_pos hk]
    have := ((((blk_sg s8 (by decide)).app (blk_wd hn) (fun h => by cases h)).app (blk_sg s9 (by decide)) (fun _ => Hd.cons _ (by decide))).app (blk_wth hv) (fun h => by cases h)).app (blk_sg s5 (by decide)) (fun _ => hd_paren)
    exact ⟨by simpa using this, Hd.cons _ (by decide)⟩
  · unfold tailK tailX
    rw [if_neg (by omega), if_neg (by omega), if_pos hk, if_neg (by omega), if_neg (by omega), if_pos hk]
    have := ((((((blk_sg s5 (by decide)).app (blk_sg s10 (by decide)) (fun h => by cases h)).app (blk_wd hn) (fun h => by cases h)).app (blk_sg s11 (by decide)) (fun _ => Hd.cons _ (by decide))).app (blk_sg s4 (by decide)) (fun h => by cases h)).app (blk_tm (k := a.tk) htn) (fun h => by cases h)).app (blk_sg s5 (by decide)) (fun _ => hd_paren)
    exact ⟨by simpa using this, Hd.cons _ (by decide)⟩
theorem blk_atom {a : Atm} (h : atomB a = true) : Blk true (atomK a) (atomX a) := by
  obtain ⟨h1, h2⟩ := blk_tail h
  have := ((blk_sg s4 (by decide)).app (blk_tm (k := a.fk) (atom_facts h).1) (fun h => by cases h)).app h1 (fun _ => h2)
  simpa [atomK, atomX] using this
/-- Things side by side, a comma and a blank between them. -/
theorem blk_sep (c : Bool) (l : List (List Tk × List UInt8)) (hne : l ≠ []) (h : ∀ x ∈ l, Blk c x.1 x.2 ∧ Blk c x.1 (32 :: x.2)) : Blk c (sepK (l.map (·.1))) (join (l.map (·.2)) [44, 32]) ∧ Blk c (sepK (l.map (·.1))) (32 :: join (l.map (·.2)) [44, 32]) := by
  induction l with
  | nil => exact absurd rfl hne
  | cons x r ih =>
    cases r with
    | nil =>
      simp only [List.map_cons, List.map_nil, sepK, join_one]
      exact h x (by simp)
    | cons y r =>
      have ih := (ih (by simp) (fun z hz => h z (List.mem_cons_of_mem _ hz))).2
      have e : join ((x :: y :: r).map (·.2)) [44, 32] = x.2 ++ 44 :: 32 :: join ((y :: r).map (·.2)) [44, 32] := by
        simp only [List.map_cons, join_cons, joinTail, List.flatten_cons]
        simp
      rw [e]
      obtain ⟨h1, h2⟩ := h x (by simp)
      have hc := (blk_sg s6 (by decide)).app ih (fun h => by cases h)
      have hh : Hd ([44] ++ 32 :: join ((y :: r).map (·.2)) [44, 32]) := Hd.cons _ (by decide)
      constructor
      · have := h1.app hc (fun _ => hh)
        simpa [sepK] using this
      · have := h2.app hc (fun _ => hh)
        simpa [sepK] using this
theorem blk_blank {c : Bool} {t : Tk} {l : List Tk} {u : List UInt8} (h : Blk c l u) (hl : l ≠ []) : Blk c l (32 :: u) := fun m v hm hv => by
  have := h m v hm hv
  cases l with
  | nil => exact absurd rfl hl
  | cons x l =>
    generalize hz : u ++ v = z at this
    cases this with
    | cons ht hs hr hl2 =>
      have := Laid3.cons (sep := 32 :: _) ht (by
        intro c hc
        rcases List.mem_cons.1 hc with rfl | hc
        · decide
        · exact hs c hc) hr hl2
      have e : 32 :: u ++ v = 32 :: (u ++ v) := rfl
      rw [e, hz]
      exact this
theorem blk_atoms {l : List Atm} (hne : l ≠ []) (h : l.all atomB = true) : Blk true (sepK (l.map atomK)) (atomsX l) := by
  have hb : ∀ x ∈ l.map (fun a => (atomK a, atomX a)), Blk true x.1 x.2 ∧ Blk true x.1 (32 :: x.2) := by
    intro x hx
    obtain ⟨a, ha, rfl⟩ := List.mem_map.1 hx
    have h1 := blk_atom (List.all_eq_true.1 h a ha)
    exact ⟨h1, blk_blank (t := sg 4) h1 (by simp [atomK])⟩
  have := (blk_sep true _ (by simpa using hne) hb).1
  simpa [atomsX, List.map_map, Function.comp_def] using this
theorem wReturn_word : wordB wReturn = true := by decide
theorem wCount_word : wordB wCount = true := by decide
theorem wDistinct_word : wordB wDistinct = true := by decide
theorem wLimit_word : wordB wLimit = true := by decide
theorem wOffset_word : wordB wOffset = true := by decide
theorem wHint_word : wordB wHint = true := by decide
theorem hd_blank (u : List UInt8) : Hd (32 :: u) := Hd.cons _ (by decide)
theorem blk_ret {l : List ByteArray} (hne : l ≠ []) (h : ∀ s ∈ l, wordB s = true) : Blk false (retK l) (32 :: retW l) := by
  have hb : ∀ x ∈ l.map (fun s => ([wd s], bts s)), Blk false x.1 x.2 ∧ Blk false x.1 (32 :: x.2) := by
    intro x hx
    obtain ⟨s, hs, rfl⟩ := List.mem_map.1 hx
    exact ⟨blk_wd (h s hs), blk_bwd (h s hs)⟩
  have h2 := (blk_sep false _ (by simpa using hne) hb).2
  have := (blk_bwd wReturn_word).app h2 (fun _ => hd_blank _)
  simpa [retK, retW, List.map_map, Function.comp_def] using this
theorem blk_hints (l : List ByteArray) (h : ∀ s ∈ l, wordB s = true) : Blk false (l.map wd) (joinTail [32] (l.map bts)) := by
  induction l with
  | nil => exact Blk.nil
  | cons x r ih =>
    have ih := ih (fun s hs => h s (List.mem_cons_of_mem _ hs))
    cases r with
    | nil => simpa [joinTail] using blk_bwd (h x (by simp))
    | cons y r =>
      have := (blk_bwd (h x (by simp))).app ih (fun _ => by simp only [List.map_cons, joinTail, List.flatten_cons]; exact hd_blank _)
      simpa [joinTail] using this
theorem blk_hint {l : List ByteArray} (hne : l ≠ []) (h : ∀ s ∈ l, wordB s = true) : Blk false (hintK l) (32 :: hintW l) := by
  have e : 32 :: hintW l = joinTail [32] ((wHint :: l).map bts) := by
    cases l with
    | nil => exact absurd rfl hne
    | cons x r => simp [hintW, join_cons, joinTail]
  rw [e]
  exact blk_hints (wHint :: l) (by
    intro s hs
    rcases List.mem_cons.1 hs with rfl | hs
    · exact wHint_word
    · exact h s hs)
end Go.Proofs.YthoneahamnmjlaaGreatDoor
