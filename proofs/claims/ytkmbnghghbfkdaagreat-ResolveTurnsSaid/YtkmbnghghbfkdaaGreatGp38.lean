/- An argument that is a goal; what it weighs. -/
import Derived.Test.YtkmbnghghbfkdaaGreatGp30
import Derived.Test.YtkmbnghghbfkdaaGreatGp18
import Derived.Test.YtkmbnghghbfkdaaGreatGp37
import Derived.Test.YtkmbnghghbfkdaaGreatGp27
import Derived.Test.YtkmbnghghbfkdaaGreatGp32
import Derived.Test.YtkmbnghghbfkdaaGreatGp19
namespace Go.Proofs.YtkmbnghghbfkdaaGreat
set_option maxRecDepth 100000
set_option maxHeartbeats 2000000
set_option linter.unusedVariables false
set_option linter.unusedSimpArgs false
open Go.ChangeShapes Go.WideShapes Go.ChangeAt Go.RowKit Go.Deep

theorem six {α : Type} {cs : List α} (h : cs.length = 6) : ∃ c0 c1 c2 c3 c4 c5, cs = [c0, c1, c2, c3, c4, c5] := by
  match cs, h with
  | [c0, c1, c2, c3, c4, c5], _ => exact ⟨c0, c1, c2, c3, c4, c5, rfl⟩
theorem nine {α : Type} {cs : Array α} (h : cs.size = 9) : ∃ c0 c1 c2 c3 c4 c5 c6 c7 c8, cs = #[c0, c1, c2, c3, c4, c5, c6, c7, c8] := by
  obtain ⟨l⟩ := cs
  match l, h with
  | [c0, c1, c2, c3, c4, c5, c6, c7, c8], _ => exact ⟨c0, c1, c2, c3, c4, c5, c6, c7, c8, rfl⟩
theorem open_twoI {H : Type} {enc : TypeId × Value → H} {w : World} {base : Nat} {spare : Nat → Bool} {held : Bool} {n : Nat} {x y : Value} {y0 y1 : DataW H × List MemPlace}
    (h0 : DataW.trod enc Tryz.prog w base spare held n 3 [x] = some y0) (h1 : DataW.trod enc Tryz.prog w base spare held n 3 [y] = some y1) : ∃ a b : Int, x = .int .i64 a ∧ y = .int .i64 b := by
  obtain ⟨a, e0, _⟩ := DataW.trod_int Tryz.underlying3 h0
  obtain ⟨b, e1, _⟩ := DataW.trod_int Tryz.underlying3 h1
  simp at e0 e1
  exact ⟨a, b, e0, e1⟩
theorem open_rel {H : Type} {enc : TypeId × Value → H} {w : World} {base : Nat} {spare : Nat → Bool} {held : Bool} {m : Nat} {x y : Value} {z : DataW H × List MemPlace}
    (h : DataW.trod enc Tryz.prog w base spare held m 71 [x, y] = some z) : ∃ a b : Int, x = .int .i64 a ∧ y = .int .i64 b := by
  obtain ⟨y0, y1, n, hz, _, h0, h1⟩ := trod_struct2 Tryz.underlying71 h
  exact open_twoI (n := n) (y0 := y0) (y1 := y1) h0 h1
theorem open_arg {H : Type} {enc : TypeId × Value → H} {w : World} {base : Nat} {spare : Nat → Bool} {held : Bool} {m : Nat} {x y : Value} {z : DataW H × List MemPlace}
    (h : DataW.trod enc Tryz.prog w base spare held m 73 [x, y] = some z) : ∃ a b : Int, x = .int .i64 a ∧ y = .int .i64 b := by
  obtain ⟨y0, y1, n, hz, _, h0, h1⟩ := trod_struct2 Tryz.underlying73 h
  exact open_twoI (n := n) (y0 := y0) (y1 := y1) h0 h1
theorem open_bound {H : Type} {enc : TypeId × Value → H} {w : World} {base : Nat} {spare : Nat → Bool} {held : Bool} {m : Nat} {cs : List Value} {z : DataW H × List MemPlace}
    (h : DataW.trod enc Tryz.prog w base spare held m 75 cs = some z) : ∃ b : Bnd, cs = bndCells b := by
  obtain ⟨xs, n, _, hz, hlc, hlen, hf⟩ := DataW.trod_struct Tryz.underlying75 h
  rw [show Tryz.prog.cellsOf 75 = 6 from by kernel_rfl] at hlc
  obtain ⟨c0, c1, c2, c3, c4, c5, rfl⟩ := six hlc
  have hlen' : xs.length = 3 := hlen
  obtain ⟨x0, x1, x2, rfl⟩ : ∃ x0 x1 x2, xs = [x0, x1, x2] := by
    match xs, hlen' with
    | [x0, x1, x2], _ => exact ⟨x0, x1, x2, rfl⟩
  have hi : Tryz.prog.cellsOf 71 = 2 := by kernel_rfl
  have hs : Tryz.prog.cellsOf 73 = 2 := by kernel_rfl
  have h0 : DataW.trod enc Tryz.prog w base spare held n 71 [c0, c1] = some x0 := hf 0 _ rfl
  have h1 : DataW.trod enc Tryz.prog w base spare held n 73 [c2, c3] = some x1 := hf 1 _ rfl
  have h2 : DataW.trod enc Tryz.prog w base spare held n 73 [c4, c5] = some x2 := hf 2 _ rfl
  obtain ⟨a0, a1, rfl, rfl⟩ := open_rel h0
  obtain ⟨a2, a3, rfl, rfl⟩ := open_arg h1
  obtain ⟨a4, a5, rfl, rfl⟩ := open_arg h2
  exact ⟨⟨a0, a1, ⟨a2, a3⟩, ⟨a4, a5⟩⟩, rfl⟩
theorem open_bounds {H : Type} {enc : TypeId × Value → H} {w : World} {base : Nat} {spare : Nat → Bool} {held : Bool} {m : Nat} {v : Value} {z : DataW H × List MemPlace}
    (h : DataW.trod enc Tryz.prog w base spare held m 37 [v] = some z) : ∃ l, Bnds w v l := by
  have hC : Tryz.prog.cellsOf 75 = 6 := by kernel_rfl
  rcases open_slice Tryz.underlying37 h with ⟨hcs, _⟩ | ⟨x, len, cap, m, n, D, Pl, hcs, _, hlc, hm, hz, hx, hcell⟩
  · simp at hcs
    subst hcs
    exact ⟨[], Sl.nil w⟩
  · simp at hcs
    subst hcs
    have hlm : len ≤ m := by split at hz <;> omega
    rw [hC] at hcell
    obtain ⟨xs, hx1, hx2⟩ := choose_row len (fun i (t : Bnd) => ∀ j v, (bndCells t)[j]? = some v → w.cell? (x.add (i * 6 + j)) = some v) (fun i hi => by
      obtain ⟨cs', hc, ht⟩ := hcell i (by omega)
      obtain ⟨a, rfl⟩ := open_bound ht
      obtain ⟨_, hcl, hat⟩ := World.cells?_some hc
      refine ⟨a, fun j v hj => ?_⟩
      have hjl : j < 6 := (List.getElem?_eq_some_iff.1 hj).1
      have := hat j hjl
      rw [Go.Deep.add_add] at this
      rw [this, hj])
    refine ⟨xs, ?_⟩
    have := sl_of_rows (w := w) (x := x) bndCells (m := 6) (fun _ => rfl) (by omega) hlc hm xs hx1 (fun i hi j v hj => hx2 i hi j v hj)
    unfold Bnds; rw [hx1]; exact this
theorem flat_str (xs : List ByteArray) : xs.flatMap (fun s => [Value.string s]) = xs.map Value.string := by
  induction xs with
  | nil => rfl
  | cons x xs ih => rw [List.flatMap_cons, List.map_cons, ih]; rfl
theorem open_textsL {H : Type} {enc : TypeId × Value → H} {w : World} {base : Nat} {spare : Nat → Bool} {held : Bool} {m : Nat} {v : Value} {z : DataW H × List MemPlace}
    (h : DataW.trod enc Tryz.prog w base spare held m 22 [v] = some z) (hl : Light Tryz.prog 22 z.1) : ∃ l, Strs w v l ∧ ∀ s ∈ l, s.size ≤ reachBytes := by
  have hC : Tryz.prog.cellsOf 9 = 1 := by kernel_rfl
  rcases open_slice Tryz.underlying22 h with ⟨hcs, _⟩ | ⟨x, len, cap, m, n, D, Pl, hcs, _, hlc, hm, hz, hx, hcell⟩
  · simp at hcs
    subst hcs
    exact ⟨[], Sl.nil w, fun s hs => by simp at hs⟩
  · simp at hcs
    subst hcs
    have hlm : len ≤ m := by split at hz <;> omega
    rw [hx] at hl
    rw [hC] at hcell
    obtain ⟨xs, hx1, hx2⟩ := choose_row len (fun i (t : ByteArray) => (∀ j v, ([Value.string t])[j]? = some v → w.cell? (x.add (i * 1 + j)) = some v) ∧ t.size ≤ reachBytes) (fun i hi => by
      obtain ⟨cs', hc, ht⟩ := hcell i (by omega)
      obtain ⟨s, e, z1, _⟩ := DataW.trod_string Tryz.underlying9 ht
      have hle := light_elem Tryz.underlying22 hl (List.mem_map.2 ⟨i, by simpa using hi, rfl⟩)
      rw [show D i = _ from (Prod.mk.inj z1).1] at hle
      subst e
      obtain ⟨_, hcl, hat⟩ := World.cells?_some hc
      refine ⟨s, fun j v hj => ?_, light_str hle⟩
      have hjl : j < 1 := (List.getElem?_eq_some_iff.1 hj).1
      have := hat j hjl
      rw [Go.Deep.add_add] at this
      rw [this, hj])
    refine ⟨xs, ?_, fun t ht => ?_⟩
    · have := sl_of_rows (w := w) (x := x) (fun s : ByteArray => [Value.string s]) (m := 1) (fun _ => rfl) (by omega) hlc hm xs hx1 (fun i hi j v hj => (hx2 i hi).1 j v hj)
      unfold Strs; rw [hx1]
      rw [flat_str] at this; exact this
    · obtain ⟨i, hi, rfl⟩ := List.getElem_of_mem ht
      exact (hx2 i hi).2
theorem open_intsP {H : Type} {enc : TypeId × Value → H} {w : World} {base : Nat} {spare : Nat → Bool} {held : Bool} {m : Nat} {v : Value} {z : DataW H × List MemPlace}
    (h : DataW.trod enc Tryz.prog w base spare held m 23 [v] = some z) : ∃ l, Ints w .i64 v l := by
  obtain ⟨a, len, cap, rfl⟩ := slice_shape_of Tryz.underlying23 h
  obtain ⟨T, hT, _⟩ := open_Ints (d := z.1) (p := z.2) Tryz.underlying23 Tryz.underlying3 (by kernel_rfl) ⟨m, by simpa [Value.cells] using h⟩
  exact ⟨T, hT⟩
/-- What is known of a goal that an argument holds. -/
def Gol.Near (G : Gol) : Prop := ∀ s ∈ G.vars, s.size ≤ reachBytes
theorem open_goal {H : Type} {enc : TypeId × Value → H} {w : World} {M : Reach} {base base' : Nat} {spare : Nat → Bool} {held : Bool} {v : Value} {d : DataW H} {p : List MemPlace}
    (ho : Value.okWide Tryz.prog w M base' 39 v) (h : DataW.Trod enc Tryz.prog w base spare held 39 v d p) (hl : Light Tryz.prog 39 d) :
    ∃ G : Gol, GolAt w v G ∧ G.Near := by
  obtain ⟨cs, rfl, hsz⟩ := okWide_struct Tryz.underlying39 ho
  have hC : Tryz.prog.cellsOf 39 = 9 := by kernel_rfl
  obtain ⟨c0, c1, c2, c3, c4, c5, c6, c7, c8, rfl⟩ := nine (hsz.trans hC)
  obtain ⟨fuel, hf0⟩ := h
  obtain ⟨xs, n, _, hz, _, hlen, hf⟩ := DataW.trod_struct Tryz.underlying39 hf0
  obtain ⟨rfl, _⟩ := Prod.mk.inj hz
  have hlen' : xs.length = 9 := hlen
  obtain ⟨x0, x1, x2, x3, x4, x5, x6, x7, x8, rfl⟩ : ∃ x0 x1 x2 x3 x4 x5 x6 x7 x8, xs = [x0, x1, x2, x3, x4, x5, x6, x7, x8] := by
    match xs, hlen' with
    | [x0, x1, x2, x3, x4, x5, x6, x7, x8], _ => exact ⟨x0, x1, x2, x3, x4, x5, x6, x7, x8, rfl⟩
  have h0 : DataW.trod enc Tryz.prog w base spare held n 22 [c0] = some x0 := hf 0 _ rfl
  have h1 : DataW.trod enc Tryz.prog w base spare held n 37 [c1] = some x1 := hf 1 _ rfl
  have h2 : DataW.trod enc Tryz.prog w base spare held n 23 [c2] = some x2 := hf 2 _ rfl
  have h3 : DataW.trod enc Tryz.prog w base spare held n 4 [c3] = some x3 := hf 3 _ rfl
  have h4 : DataW.trod enc Tryz.prog w base spare held n 4 [c4] = some x4 := hf 4 _ rfl
  have h5 : DataW.trod enc Tryz.prog w base spare held n 4 [c5] = some x5 := hf 5 _ rfl
  have h6 : DataW.trod enc Tryz.prog w base spare held n 3 [c6] = some x6 := hf 6 _ rfl
  have h7 : DataW.trod enc Tryz.prog w base spare held n 3 [c7] = some x7 := hf 7 _ rfl
  have h8 : DataW.trod enc Tryz.prog w base spare held n 23 [c8] = some x8 := hf 8 _ rfl
  have l0 : Light Tryz.prog 22 x0.1 := light_part (i := 0) Tryz.underlying39 hl rfl rfl
  obtain ⟨V, hV, hVn⟩ := open_textsL h0 l0
  obtain ⟨A, hA⟩ := open_bounds h1
  obtain ⟨R, hR⟩ := open_intsP h2
  obtain ⟨K, hK⟩ := open_intsP h8
  obtain ⟨b3, e3, _⟩ := DataW.trod_bool Tryz.underlying4 h3
  obtain ⟨b4, e4, _⟩ := DataW.trod_bool Tryz.underlying4 h4
  obtain ⟨b5, e5, _⟩ := DataW.trod_bool Tryz.underlying4 h5
  obtain ⟨q6, e6, _, w6⟩ := DataW.trod_int Tryz.underlying3 h6
  obtain ⟨q7, e7, _, w7⟩ := DataW.trod_int Tryz.underlying3 h7
  simp at e3 e4 e5 e6 e7
  subst e3 e4 e5 e6 e7
  exact ⟨⟨V, A, R, b3, b4, b5, q6, q7, K⟩, ⟨_, _, _, _, rfl, hV, hA, hR, hK⟩, hVn⟩
end Go.Proofs.YtkmbnghghbfkdaaGreat

/- Rows of rows held against one another; what the laws' rows are copied by. -/
namespace Go.Proofs.YtkmbnghghbfkdaaGreat
set_option maxRecDepth 100000
set_option maxHeartbeats 2000000
set_option linter.unusedSimpArgs false
open Go.RowKit Go.Shelf Go.Sort
attribute [local go_sem] Oper.semAt_some wide_fn wide_depth
set_option linter.unusedVariables false

theorem elU64 : ElT Tryz.prog 59 61 (.int .u64 0) 1 8 := ⟨Tryz.underlying59, ⟨_, rfl, by kernel_rfl, by kernel_rfl, by kernel_rfl⟩, rfl, by decide⟩
theorem eqNil_cloneU18c (a : Option Addr) (n c n' c' : Nat) (w : World) : (binOp .eql 59 (.slice a n c) (.slice none n' c')).run Tryz.prog w = .ok (.bool a.isNone) w :=
  Lib.run_eql_slice_nil w _ _ a n c n' c' Tryz.underlying59
set_option maxHeartbeats 400000 in
theorem cloneU18c (v : Value) (n : Nat) (xs : List Value) (w : World) (hv : Sl w v n xs) (hl : xs.length = n) (h1 : ∀ x ∈ xs, x.oneCell' = true) (hn : n ≤ 1048576) :
    Calls Tryz.prog 25 #[v] w fun e w' => ∃ u, e = .returned u ∧ w'.ownsRow w.heap.size 61 1 u n xs ∧ Ext w w' := by
  have hv' := hv
  obtain ⟨a, cap, rfl, hcap, hmax, hc⟩ := hv'.open_
  have hq := eqNil_cloneU18c
  have H1 := Lib.hid h1
  have HL := Lib.hid hl
  cases a with
  | none =>
    have hl' : xs = [] := List.eq_nil_of_length_eq_zero (by rcases Nat.eq_zero_or_pos xs.length with h | h; exact h; obtain ⟨_, _, h, _⟩ := hc 0 h; cases h)
    clear hv' hc
    subst hl'
    obtain rfl : n = 0 := by simpa using hl.symm
    clear h1 hl
    go_enter Tryz.func25, Tryz.ntmps25
    go_wp2
    go_ret
    exact ⟨_, rfl, World.ownsRow_nil _ _ _ _, Ext.refl _⟩
  | some ad =>
    have HV := Lib.hid hv
    clear hv' hc h1 hl hv
    go_enter Tryz.func25, Tryz.ntmps25
    go_wp2_with (at_builtin; refine wpList_append_sl _ rfl _ _ _ rfl elU64 rfl (own_new w w.heap.size #[] 61 1 0 (Nat.le_refl _) rfl (Nat.zero_le _)) rfl (HV.out.ext (Ext.alloc _ _)) ?_ H1.out ?_ ?_ ?_ ?_)
    · rw [HL.out, Nat.mul_one]
    · omega
    · unfold maxLen; omega
    · simp
    intro v1 w1 hown hb _ _
    go_wp2
    go_ret
    exact ⟨_, rfl, by simpa using hown, Below.trans (Ext.alloc w _) hb⟩
theorem cloneU18 (v : Value) (S : List Int) (w : World) (hS : Ints w .u64 v S) (hn : S.length ≤ 1048576) :
    Calls Tryz.prog 25 #[v] w fun e w' => ∃ a c, e = .returned (.slice a S.length c) ∧ w'.ownsRow w.heap.size 61 1 (.slice a S.length c) S.length (S.map (Value.int .u64)) ∧ Ext w w' :=
  (cloneU18c v S.length _ w hS (by simp) (ints_one _ _) hn).mono fun e w' ⟨u, he, ho, hx⟩ => by obtain ⟨a, c, rfl⟩ := own_sl ho; exact ⟨a, c, he, ho, hx⟩
/-- Rows in memory. -/
def TV (w : World) (v : Value) (xs : List (Value × List ByteArray)) : Prop := Sl w v xs.length (xs.map Prod.fst) ∧ ∀ x ∈ xs, Strs w x.1 x.2
theorem TV.ext {w w' : World} {v : Value} {xs : List (Value × List ByteArray)} (h : TV w v xs) (hx : Ext w w') : TV w' v xs := ⟨Sl.ext h.1 hx, fun x hm => Strs.ext (h.2 x hm) hx⟩
theorem TV.at_ {w : World} {a : Option Addr} {n c : Nat} {xs : List (Value × List ByteArray)} (h : TV w (.slice a n c) xs) {k : Nat} (hk : k < xs.length) : (∃ b o, a = some ⟨b, o, none⟩ ∧ w.cell? ⟨b, o + k, none⟩ = some xs[k].1) ∧ Strs w xs[k].1 xs[k].2 := by
  obtain ⟨a', c', e, h1⟩ := id h.1
  simp only [Value.slice.injEq] at e
  obtain ⟨_, rfl, _⟩ := e
  obtain ⟨b, o, rfl, hc⟩ := Sl.at_ h.1 (by simpa using hk : k < (xs.map Prod.fst).length)
  exact ⟨⟨b, o, rfl, by simpa using hc⟩, h.2 _ (List.getElem_mem hk)⟩
theorem TV.of_own {B : Nat} {w : World} {v : Value} {xs : List (Value × List ByteArray)} (h : TRows B w v xs) : TV w v xs := ⟨Sl.of_own h.1, fun x hm => Sl.of_own (h.2 x hm)⟩
theorem eqTRows_any (v u : Value) (xs ys : List (Value × List ByteArray)) (w : World) (hv : TV w v xs) (hu : TV w u ys) (hl : xs.length ≤ 1000000) :
    Calls Tryz.prog 27 #[v, u, .func (.func 22) #[] #[]] w fun e w' => e = .returned (.bool (decide (xs.map Prod.snd = ys.map Prod.snd))) ∧ Ext w w' := by
  obtain ⟨a, c, rfl, hc1, hc2⟩ := Sl.shape hv.1
  obtain ⟨a', c', rfl, hc1', hc2'⟩ := Sl.shape hu.1
  have HV := Lib.hid hv
  have HU := Lib.hid hu
  clear hv hu
  by_cases hlen : xs.length = ys.length
  · have hne : ((xs.length : Int) != (ys.length : Int)) = false := by simp [hlen]
    have Hlen := Lib.hid hlen
    clear hlen
    go_enter Tryz.func27, Tryz.ntmps27
    go_wp2_with fail
    go_loopg [17] xs.length (fun g i wr => ∃ k : Nat, k ≤ xs.length ∧ g = xs.length - k ∧ i = .int .i64 k ∧ Hid (Ext w wr) ∧ Hid ((xs.map Prod.snd).take k = (ys.map Prod.snd).take k))
    case atStart => exact ⟨0, Nat.zero_le _, rfl, rfl, Lib.hid (Ext.refl _), Lib.hid rfl⟩
    case round =>
      obtain ⟨k, hk, hg, rfl, HX, heq⟩ := hrel
      have Hg := Lib.hid hg
      clear hg
      by_cases hlt : k < xs.length
      · have hltm : k < ys.length := by have := Hlen.out; omega
        obtain ⟨⟨b, o, rfl, c0⟩, hx0⟩ := (HV.out.ext HX.out).at_ hlt
        obtain ⟨⟨b', o', rfl, d0⟩, hy0⟩ := (HU.out.ext HX.out).at_ hltm
        have e1 : (xs.map Prod.snd).take (k + 1) = (xs.map Prod.snd).take k ++ [xs[k].2] := by rw [List.take_succ_eq_append_getElem (by simpa using hlt)]; simp
        have e2 : (ys.map Prod.snd).take (k + 1) = (ys.map Prod.snd).take k ++ [ys[k].2] := by rw [List.take_succ_eq_append_getElem (by simpa using hltm)]; simp
        generalize xs[k] = x at *
        generalize ys[k] = y at *
        obtain ⟨xv, xl⟩ := x
        obtain ⟨yv, yl⟩ := y
        dsimp only at c0 d0 hx0 hy0 e1 e2
        obtain ⟨xa, xc, rfl, _, _⟩ := Sl.shape hx0
        obtain ⟨ya, yc, rfl, _, _⟩ := Sl.shape hy0
        have E1 := Lib.hid e1
        have E2 := Lib.hid e2
        have hq := eqStrs_any _ _ xl yl wr hx0 hy0
        obtain ⟨B, hB⟩ : ∃ B, decide (xl = yl) = B := ⟨_, rfl⟩
        rw [hB] at hq
        have HB := Lib.hid hB
        have HQ := Lib.hid hq
        have hk6 : k ≤ 1000000 := by omega
        clear e1 e2 hB hq hx0 hy0
        cases B with
        | true =>
          go_wp2_with fail
          refine HQ.out.mono ?_
          rintro e w2 ⟨rfl, hx2⟩
          have HX2 := Lib.hid (HX.out.trans hx2)
          clear hx2 c0 d0
          go_wp2_with fail
          go_roundg (xs.length - (k + 1))
          case measure => have := Hg.out; omega
          case rel => exact ⟨k + 1, by omega, rfl, by first | rfl | go_num, HX2, Lib.hid (by rw [E1.out, E2.out, heq.out, of_decide_eq_true HB.out])⟩
        | false =>
          have HNE : Hid (xs.map Prod.snd ≠ ys.map Prod.snd) := Lib.hid (fun h => by
            have h1 := E1.out
            have h2 := E2.out
            rw [h, h2] at h1
            have := List.append_cancel_left h1
            simp only [List.cons.injEq, and_true] at this
            exact of_decide_eq_false HB.out this.symm)
          go_wp2_with fail
          refine HQ.out.mono ?_
          rintro e w2 ⟨rfl, hx2⟩
          have HX2 := Lib.hid (HX.out.trans hx2)
          clear hx2 c0 d0
          go_wp2_with fail
          go_ret
          exact ⟨ret_bool (decide_eq_false HNE.out).symm, HX2.out⟩
      · have he : k = xs.length := by omega
        have HEQ : Hid (xs.map Prod.snd = ys.map Prod.snd) := Lib.hid (by
          have h := heq.out
          rw [he, List.take_of_length_le (by simp), Hlen.out, List.take_of_length_le (by simp)] at h
          exact h)
        clear he
        go_wp2_with fail
        go_ret
        exact ⟨ret_bool (decide_eq_true HEQ.out).symm, HX.out⟩
  · have hne : ((xs.length : Int) != (ys.length : Int)) = true := by simp; omega
    have HNE : Hid (xs.map Prod.snd ≠ ys.map Prod.snd) := Lib.hid (fun h => hlen (by have := congrArg List.length h; simpa using this))
    clear hlen
    go_enter Tryz.func27, Tryz.ntmps27
    go_wp2_with fail
    go_ret
    exact ⟨ret_bool (decide_eq_false HNE.out).symm, Ext.refl _⟩
end Go.Proofs.YtkmbnghghbfkdaaGreat

/- The goal of a pattern, led back, and with more names: plain. -/
namespace Go.Proofs.YtkmbnghghbfkdaaGreat
set_option maxRecDepth 100000
set_option maxHeartbeats 2000000
set_option linter.unusedSimpArgs false
set_option linter.unusedVariables false

theorem findF_getD {T : List ByteArray} {s : ByteArray} (h : 0 ≤ findF T s) : T.getD (findF T s).toNat nilB = s := by
  obtain ⟨k, hk⟩ := Int.eq_ofNat_of_zero_le h
  obtain ⟨h1, h2, _⟩ := findF_yes.1 hk
  rw [hk]
  simp [List.getD, h1, h2]
theorem nameO_id {D : Dic} {k : Nat} {s : ByteArray} (hk : k < 5) (h : 0 ≤ idF D k s) : nameO D k (idF D k s) = some s := by
  have e : idF D k s = findF (D k).1 s := by unfold idF; rw [if_pos (by omega)]; rfl
  rw [e] at h ⊢
  have := findF_range (D k).1 s
  unfold nameO
  rw [if_pos ⟨h, by omega⟩, findF_getD h]
theorem termF_arg {D : Dic} {V : List ByteArray} {k : Bool} {s : ByteArray} {x : Arg} (h : argF D V k s = some x) (hin : k = false → s ∈ V) : termF D V x = some (k, s) := by
  unfold argF at h
  cases k with
  | true =>
    rw [if_pos rfl] at h
    split at h
    · rename_i h0
      cases h
      unfold termF
      dsimp only
      rw [if_pos rfl, show nameO D 0 (idF D 0 s) = some s from nameO_id (k := 0) (by omega) h0]
      rfl
    · cases h
  | false =>
    rw [if_neg (by simp)] at h
    cases h
    have h0 : findF V s ≠ -1 := fun e => findF_no.1 e (hin rfl)
    have h1 := findF_range V s
    have h2 : 0 ≤ findF V s := by omega
    unfold termF
    dsimp only
    rw [if_neg (by omega), if_pos ⟨h2, by omega, rfl⟩, findF_getD h2]
theorem atmF_bnd {D : Dic} {V : List ByteArray} {a : Atm} {b : Bnd} (hk : atomB a = true) (hin : a.In V) (h : bndF D V a = some b) : atmF D V b = some a := by
  obtain ⟨kind, fk, fn, name, value, tk, tn⟩ := a
  unfold atomB at hk
  unfold bndF at h
  unfold Atm.In at hin
  dsimp only at hk h hin
  split at h
  · rename_i k1
    rw [if_pos k1] at hk
    simp only [Bool.and_eq_true, decide_eq_true_eq, Bool.not_eq_true'] at hk
    obtain ⟨h1, h2, h3, h4, _⟩ := hk
    obtain ⟨x, hx, rfl⟩ := Option.map_eq_some_iff.1 h
    unfold atmF
    dsimp only
    rw [if_pos rfl, termF_arg hx hin.1]
    subst h1 h2 h3 h4 k1
    rfl
  · rename_i k1
    rw [if_neg k1] at hk
    split at h
    · rename_i k2
      rw [if_pos k2] at hk
      simp only [Bool.and_eq_true, decide_eq_true_eq, Bool.not_eq_true'] at hk
      obtain ⟨h1, h2, h3, _⟩ := hk
      obtain ⟨x, hx, h⟩ := Option.bind_eq_some_iff.1 h
      split at h
      · rename_i h0
        cases h
        unfold atmF
        dsimp only
        rw [if_neg (by decide), if_pos rfl, termF_arg hx hin.1, show nameO D 1 (idF D 1 name) = some name from nameO_id (k := 1) (by omega) h0]
        subst h1 h2 h3 k2
        rfl
      · cases h
    · rename_i k2
      rw [if_neg k2] at hk
      split at h
      · rename_i k3
        rw [if_pos k3] at hk
        simp only [Bool.and_eq_true, decide_eq_true_eq, Bool.not_eq_true'] at hk
        obtain ⟨h1, h2, _⟩ := hk
        obtain ⟨x, hx, h⟩ := Option.bind_eq_some_iff.1 h
        split at h
        · rename_i h0
          cases h
          unfold atmF
          dsimp only
          rw [if_neg (by decide), if_neg (by decide), if_pos rfl, termF_arg hx hin.1, show nameO D 3 (idF D 3 name) = some name from nameO_id (k := 3) (by omega) h0.1, show nameO D 4 (idF D 4 value) = some value from nameO_id (k := 4) (by omega) h0.2]
          subst h1 h2 k3
          rfl
        · cases h
      · rename_i k3
        rw [if_neg k3] at hk
        split at h
        · rename_i k4
          rw [if_pos k4] at hk
          simp only [Bool.and_eq_true, decide_eq_true_eq, Bool.not_eq_true'] at hk
          obtain ⟨h1, _⟩ := hk
          obtain ⟨x, hx, h⟩ := Option.bind_eq_some_iff.1 h
          obtain ⟨y, hy, h⟩ := Option.bind_eq_some_iff.1 h
          split at h
          · rename_i h0
            cases h
            unfold atmF
            dsimp only
            rw [if_neg (by decide), if_neg (by decide), if_neg (by decide), if_pos rfl, termF_arg hx hin.1, termF_arg hy (hin.2 k4), show nameO D 2 (idF D 2 name) = some name from nameO_id (k := 2) (by omega) h0]
            subst h1 k4
            rfl
          · cases h
        · cases h
theorem preF_back {α β : Type} {f : α → Option β} {g : β → Option α} {l : List α} (h : ∀ a ∈ l, ∀ b, f a = some b → g b = some a) (hl : (preF f l).2 = true) : preF g (preF f l).1 = (l, true) := by
  induction l with
  | nil => rfl
  | cons a l ih =>
    cases hf : f a with
    | none => simp only [preF, hf] at hl; cases hl
    | some b =>
      simp only [preF, hf] at hl ⊢
      have := ih (fun a ha => h a (List.mem_cons_of_mem _ ha)) hl
      simp only [h a (List.mem_cons_self ..) b hf, this]
theorem preF_sup {α β : Type} {f g : α → Option β} {l : List α} (h : ∀ a ∈ l, ∀ b, f a = some b → g a = some b) (hl : (preF f l).2 = true) : preF g l = preF f l := by
  induction l with
  | nil => rfl
  | cons a l ih =>
    cases hf : f a with
    | none => simp only [preF, hf] at hl; cases hl
    | some b =>
      simp only [preF, hf] at hl
      have := ih (fun a ha => h a (List.mem_cons_of_mem _ ha)) hl
      simp only [preF, hf, h a (List.mem_cons_self ..) b hf, this]
theorem preF_short {α β : Type} {f : α → Option β} {l : List α} (hl : (preF f l).2 = false) : (preF f l).1.length < l.length := by
  induction l with
  | nil => cases hl
  | cons a l ih =>
    cases hf : f a with
    | none => simp [preF, hf]
    | some b =>
      simp only [preF, hf] at hl ⊢
      have := ih hl
      simp only [List.length_cons]
      omega
theorem textsO_map {V l : List ByteArray} (h : ∀ s ∈ l, s ∈ V) : textsO V (l.map (findF V)) = some l := by
  have hp : preF (textO V) (l.map (findF V)) = (l, true) := by
    induction l with
    | nil => rfl
    | cons s l ih =>
      have h0 : findF V s ≠ -1 := fun e => findF_no.1 e (h s (List.mem_cons_self ..))
      have h1 := findF_range V s
      have h2 : 0 ≤ findF V s := by omega
      rw [List.map_cons, preF, show textO V (findF V s) = some s from by unfold textO; rw [if_pos ⟨h2, by omega⟩, findF_getD h2]]
      dsimp only
      rw [ih (fun s hs => h s (List.mem_cons_of_mem _ hs))]
  unfold textsO
  rw [hp]
  rfl
/-- What it is led back to. -/
def backP (P : Pat) : Pat := ⟨P.atoms, if P.ret = varsS P.atoms then [] else P.ret, P.count, P.distinct, P.limited, P.limit, P.offset, P.hint⟩
theorem backP_ok {P : Pat} (h : P.okB = true) : (backP P).okB = true := by
  unfold backP
  split
  · unfold Pat.okB namedP at h ⊢
    dsimp only
    simp only [Bool.and_eq_true] at h ⊢
    exact ⟨h.1, ⟨by rfl, h.2.1.2⟩, h.2.2⟩
  · exact h
theorem okB_in {P : Pat} (h : P.okB = true) : ∀ a ∈ P.atoms, atomB a = true ∧ a.In (varsS P.atoms) := by
  intro a ha
  obtain ⟨_, _, _, _, _, h6⟩ := okB_parts h
  obtain ⟨k1, k2, k3, k4⟩ := atomB_kind (h6 a ha)
  have hv := varsS_in (T := []) P.atoms ha
  exact ⟨h6 a ha, fun hk => hv.1 hk k2, fun h4 hk => hv.2 hk (k3 h4)⟩
theorem goalF_some {D : Dic} {P : Pat} {G : Gol} (h : goalF D P = some G) : (bndsF D (varsS P.atoms) P.atoms).2 = true ∧ G = golOf P (bndsF D (varsS P.atoms) P.atoms).1 := by
  unfold goalF at h
  split at h
  · rename_i hb; cases h; exact ⟨hb, rfl⟩
  · cases h
theorem golOf_backP (P : Pat) (l : List Bnd) : golOf (backP P) l = golOf P l := by
  unfold golOf backP
  dsimp only
  by_cases h : P.ret = varsS P.atoms
  · rw [if_pos h, if_pos rfl, h]
    split
    · rfl
    · rfl
  · rw [if_neg h]
theorem goalF_backP {D : Dic} {P : Pat} {G : Gol} (h : goalF D P = some G) : goalF D (backP P) = some G := by
  obtain ⟨h1, h2⟩ := goalF_some h
  unfold goalF
  rw [show (backP P).atoms = P.atoms from rfl, if_pos h1, golOf_backP, h2]
theorem back_goal {D : Dic} {P : Pat} {G : Gol} (hok : P.okB = true) (hg : goalF D P = some G) : backF D G = some (backP P) := by
  obtain ⟨hb, rfl⟩ := goalF_some hg
  have hin := okB_in hok
  obtain ⟨_, _, c1, c2, _, _⟩ := okB_parts hok
  have hA : atmsF D (varsS P.atoms) (bndsF D (varsS P.atoms) P.atoms).1 = (P.atoms, true) := preF_back (fun a ha b hb => atmF_bnd (hin a ha).1 (hin a ha).2 hb) hb
  have hR : textsO (varsS P.atoms) ((if P.ret = [] then varsS P.atoms else P.ret).map (findF (varsS P.atoms))) = some (if P.ret = [] then varsS P.atoms else P.ret) := textsO_map (fun s hs => by
    split at hs
    · exact hs
    · exact chosenG_sub c1 s hs)
  have hH : textsO (varsS P.atoms) (P.hint.map (findF (varsS P.atoms))) = some P.hint := textsO_map (fun s hs => chosenG_sub c2 s hs)
  have hP : patOf (golOf P (bndsF D (varsS P.atoms) P.atoms).1) P.atoms (if P.ret = [] then varsS P.atoms else P.ret) P.hint = backP P := by
    unfold patOf backP golOf
    dsimp only
    congr 1
    by_cases h : P.ret = []
    · rw [if_pos h, if_pos rfl, h]
      split <;> rfl
    · rw [if_neg h]
  have e1 : (golOf P (bndsF D (varsS P.atoms) P.atoms).1).vars = varsS P.atoms := rfl
  have e2 : (golOf P (bndsF D (varsS P.atoms) P.atoms).1).atoms = (bndsF D (varsS P.atoms) P.atoms).1 := rfl
  have e3 : (golOf P (bndsF D (varsS P.atoms) P.atoms).1).ret = (if P.ret = [] then varsS P.atoms else P.ret).map (findF (varsS P.atoms)) := rfl
  have e4 : (golOf P (bndsF D (varsS P.atoms) P.atoms).1).hint = P.hint.map (findF (varsS P.atoms)) := rfl
  unfold backF
  rw [e1, e2, e3, e4, hA, hR, hH]
  dsimp only
  rw [if_pos rfl, hP, if_pos ⟨backP_ok hok, goalF_backP hg⟩]
/-- A dictionary with more names. -/
def Sup (D D' : Dic) : Prop := ∀ k, k < 5 → ∃ l, (D' k).1 = (D k).1 ++ l
theorem Sup.refl (D : Dic) : Sup D D := fun k hk => ⟨[], by simp⟩
theorem Sup.trans {D D' D'' : Dic} (h : Sup D D') (h' : Sup D' D'') : Sup D D'' := fun k hk => by
  obtain ⟨l, e⟩ := h k hk
  obtain ⟨m, f⟩ := h' k hk
  exact ⟨l ++ m, by rw [f, e, List.append_assoc]⟩
theorem Put1.sup {D D' : Dic} {kind n : Int} {s : ByteArray} {k m : Nat} (h : Put1 D D' kind n s k m) : Sup D D' := fun i hi => by
  by_cases e : i = k
  · subst e; exact h.ext
  · rw [h.rest i e]; exact ⟨[], by simp⟩
theorem findF_more {T l : List ByteArray} {s : ByteArray} (h : 0 ≤ findF T s) : findF (T ++ l) s = findF T s := by
  obtain ⟨k, hk⟩ := Int.eq_ofNat_of_zero_le h
  obtain ⟨h1, h2, h3⟩ := findF_yes.1 hk
  rw [hk]
  refine findF_yes.2 ⟨by simp; omega, by rw [List.getElem_append_left h1]; exact h2, fun i hi => by rw [List.getElem_append_left (by omega)]; exact h3 i hi⟩
theorem idF_sup {D D' : Dic} (h : Sup D D') {k : Int} {s : ByteArray} (h0 : 0 ≤ idF D k s) : idF D' k s = idF D k s := by
  unfold idF at h0 ⊢
  split at h0
  · rename_i hk
    rw [if_pos hk, if_pos hk]
    obtain ⟨l, e⟩ := h k.toNat (by omega)
    rw [e, findF_more h0]
  · omega
theorem argF_sup {D D' : Dic} (h : Sup D D') {V : List ByteArray} {k : Bool} {s : ByteArray} {x : Arg} (hx : argF D V k s = some x) : argF D' V k s = some x := by
  unfold argF at hx ⊢
  cases k with
  | true =>
    rw [if_pos rfl] at hx ⊢
    split at hx
    · rename_i h0
      rw [idF_sup h h0, if_pos h0]
      exact hx
    · cases hx
  | false => exact hx
theorem bndF_sup {D D' : Dic} (h : Sup D D') {V : List ByteArray} {a : Atm} {b : Bnd} (hb : bndF D V a = some b) : bndF D' V a = some b := by
  unfold bndF at hb ⊢
  split at hb
  · rename_i k1
    rw [if_pos k1]
    obtain ⟨x, hx, rfl⟩ := Option.map_eq_some_iff.1 hb
    rw [argF_sup h hx]
    rfl
  · rename_i k1
    rw [if_neg k1]
    split at hb
    · rename_i k2
      rw [if_pos k2]
      obtain ⟨x, hx, hb⟩ := Option.bind_eq_some_iff.1 hb
      split at hb
      · rename_i h0
        rw [argF_sup h hx, Option.bind_some, idF_sup h h0, if_pos h0]
        exact hb
      · cases hb
    · rename_i k2
      rw [if_neg k2]
      split at hb
      · rename_i k3
        rw [if_pos k3]
        obtain ⟨x, hx, hb⟩ := Option.bind_eq_some_iff.1 hb
        split at hb
        · rename_i h0
          rw [argF_sup h hx, Option.bind_some, idF_sup h h0.1, idF_sup h h0.2, if_pos h0]
          exact hb
        · cases hb
      · rename_i k3
        rw [if_neg k3]
        split at hb
        · rename_i k4
          rw [if_pos k4]
          obtain ⟨x, hx, hb⟩ := Option.bind_eq_some_iff.1 hb
          obtain ⟨y, hy, hb⟩ := Option.bind_eq_some_iff.1 hb
          split at hb
          · rename_i h0
            rw [argF_sup h hx, Option.bind_some, argF_sup h hy, Option.bind_some, idF_sup h h0, if_pos h0]
            exact hb
          · cases hb
        · cases hb
theorem goalF_sup {D D' : Dic} (h : Sup D D') {P : Pat} {G : Gol} (hg : goalF D P = some G) : goalF D' P = some G := by
  obtain ⟨h1, h2⟩ := goalF_some hg
  have e : bndsF D' (varsS P.atoms) P.atoms = bndsF D (varsS P.atoms) P.atoms := preF_sup (fun a _ b hb => bndF_sup h hb) h1
  unfold goalF
  rw [e, if_pos h1, h2]
theorem OfR.zero {D : Dic} {P : Pat} {G : Gol} {n c : Int} (h : OfR D P G n c) (hc : c = 0) : DicOK D ∧ P.okB = true ∧ goalF D P = some G ∧ n = P.atoms.length := by
  cases h with
  | dict h => omega
  | pat h h' => omega
  | unk h h' hg => omega
  | ok h h' hg => exact ⟨h, h', by unfold goalF; rw [if_pos hg], rfl⟩
theorem OfR.of {D : Dic} {P : Pat} {G0 : Gol} (hok : DicOK D) (hp : P.okB = true) (hg0 : goalF D P = some G0) {G : Gol} {n c : Int} (h : OfR D P G n c) : G = G0 ∧ n = P.atoms.length ∧ c = 0 := by
  obtain ⟨b1, b2⟩ := goalF_some hg0
  cases h with
  | dict h => exact absurd hok h
  | pat h h' => rw [hp] at h'; cases h'
  | unk h h' hg => rw [b1] at hg; cases hg
  | ok h h' hg => exact ⟨b2.symm, rfl, rfl⟩
theorem BackR.of {D : Dic} {G : Gol} {P : Pat} (hok : DicOK D) (hb : backF D G = some P) {Q : Pat} {c : Int} (h : BackR D G Q c) : Q = P ∧ c = 0 := by
  cases h with
  | dict h => exact absurd hok h
  | goal h h' => rw [hb] at h'; cases h'
  | ok h h' => rw [hb] at h'; cases h'; exact ⟨rfl, rfl⟩
theorem OfR.bad {D : Dic} {P : Pat} {G : Gol} {n c : Int} (h : OfR D P G n c) (hc : c ≠ 0) : G.atoms.length = 0 ∧ ((c = 280) ↔ 0 < n) ∧ n ≤ P.atoms.length := by
  cases h with
  | dict h => exact ⟨rfl, by omega, by omega⟩
  | pat h h' => exact ⟨rfl, by omega, by omega⟩
  | unk h h' hg =>
    have := preF_short (f := bndF D (varsS P.atoms)) (l := P.atoms) hg
    exact ⟨rfl, ⟨fun _ => by omega, fun _ => rfl⟩, by unfold bndsF; omega⟩
  | ok h h' hg => exact absurd rfl hc
end Go.Proofs.YtkmbnghghbfkdaaGreat
