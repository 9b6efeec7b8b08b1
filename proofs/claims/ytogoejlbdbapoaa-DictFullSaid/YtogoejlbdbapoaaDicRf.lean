/- The names that stand at a place, by the reference. -/
import Derived.Test.YtogoejlbdbapoaaDicRd
import Derived.Test.YtogoejlbdbapoaaDicU
namespace Go.Proofs.Ytogoejlbdbapoaa
set_option maxRecDepth 100000
set_option maxHeartbeats 2000000
set_option linter.unusedSimpArgs false
open Go.RowKit Go.Shelf Go.Sort
attribute [local go_sem] Oper.semAt_some wide_fn wide_depth
set_option linter.unusedVariables false

abbrev OwnS (W : World) (B : Nat) (v : Value) (l : List ByteArray) : Prop := W.ownsRow B 9 1 v l.length (l.map Value.string)
/-- Between two kinds. -/
structure RrO (w : World) (ns : Nat → Value) (N : Nms) (k : Nat) (W : World) : Prop where
  ext : Ext w W
  out : RowAt W w.heap.size 37 (ncells noN)
  d : RowAt W (w.heap.size + 1) 37 (ncells ns)
  own : ∀ i, i < 5 → OwnS W (w.heap.size + 1 + 1) (ns i) (N i)
  new : ∀ i, k ≤ i → i < 5 → N i = [] ∧ ns i = .slice none 0 0
/-- Within a kind. -/
structure RrK (w : World) (B : Nat) (ns : Nat → Value) (N : Nms) (k : Nat) (W : World) : Prop where
  ext : Ext w W
  out : RowAt W w.heap.size 37 (ncells noN)
  d : RowAt W (w.heap.size + 1) 37 (ncells ns)
  own : ∀ i, i < 5 → i ≠ k → OwnS W (w.heap.size + 1 + 1) (ns i) (N i) ∧ ∀ g, (ns i).ownBlock = some g → g < B
  cur : OwnS W B (ns k) (N k)
  new : ∀ i, k < i → i < 5 → N i = [] ∧ ns i = .slice none 0 0
  lo : w.heap.size + 1 + 1 ≤ B
  hi : B ≤ W.heap.size
theorem RrO.enter {w : World} {ns : Nat → Value} {N : Nms} {k : Nat} {W : World} (h : RrO w ns N k W) (hk : k < 5) : RrK w W.heap.size ns N k W :=
  ⟨h.ext, h.out, h.d, fun i hi hne => ⟨h.own i hi, fun g hg => (own_lt (h.own i hi) hg).2⟩, by
    unfold OwnS
    rw [(h.new k (Nat.le_refl _) hk).1, (h.new k (Nat.le_refl _) hk).2]; exact World.ownsRow_nil _ _ _ _, fun i hi => h.new i (by omega), by have := h.d.lt; omega, Nat.le_refl _⟩
theorem RrK.leave {w : World} {B : Nat} {ns : Nat → Value} {N : Nms} {k : Nat} {W : World} (h : RrK w B ns N k W) : RrO w ns N (k + 1) W :=
  ⟨h.ext, h.out, h.d, fun i hi => by
    by_cases e : i = k
    · subst e; exact own_base h.cur h.lo
    · exact (h.own i hi e).1, fun i hi => h.new i (by omega)⟩
theorem RrK.grow {w : World} {B : Nat} {ns : Nat → Value} {N : Nms} {k : Nat} {W W' : World} (h : RrK w B ns N k W) (hx : Ext W W') : RrK w B ns N k W' :=
  ⟨h.ext.trans hx, h.out.ext hx, h.d.ext hx, fun i hi hne => ⟨own_ext (h.own i hi hne).1 hx, (h.own i hi hne).2⟩, own_ext h.cur hx, h.new, h.lo, Nat.le_trans h.hi hx.size⟩
theorem RrK.names {w : World} {B : Nat} {ns : Nat → Value} {N : Nms} {k : Nat} {W : World} (h : RrK w B ns N k W) : NamV W ns N := fun i hi => by
  by_cases e : i = k
  · subst e; exact Sl.of_own h.cur
  · exact Sl.of_own (h.own i hi e).1
theorem RrK.app {w : World} {B : Nat} {ns : Nat → Value} {N : Nms} {k : Nat} {W W' : World} (h : RrK w B ns N k W) (hk : k < 5) {v : Value} {s : ByteArray} (hown : W'.ownsRow B 9 1 v ((N k).length + 1) ((N k).map Value.string ++ [.string s]))
    (hb : Below B W W') (hg : W.grownBy W' (ns k).ownBlock) : RrK w B (upd ns k v) (upd N k (N k ++ [s])) k (W'.setCell ⟨w.heap.size + 1, k, none⟩ v) := by
  have hlo := h.lo
  have hd := h.d.below hb (by omega)
  refine ⟨(Below.trans h.ext (hb.mono (by omega))).setCell (p := ⟨w.heap.size + 1, k, none⟩) (Nat.le_succ _) _, RowAt.set_ne (h.out.below hb (by omega)) (by omega), ?_, fun i hi hne => ?_, ?_, fun i hi hi5 => ?_, h.lo, ?_⟩
  · rw [ncells_upd _ hk]; exact hd.set k _
  · rw [upd_ne _ _ hne, upd_ne _ _ hne]
    refine ⟨?_, (h.own i hi hne).2⟩
    have h1 : OwnS W' (w.heap.size + 1 + 1) (ns i) (N i) := own_kept_far (h.own i hi hne).1 hg (fun g e e' => by
      have h2 := (h.own i hi hne).2 g e'
      have h3 := (own_lt h.cur e).1
      omega)
    exact own_setL_row (by decide) [_] k hd h1
  · rw [upd_at, upd_at]
    have h1 : OwnS W' B v (N k ++ [s]) := by unfold OwnS; rw [List.length_append, List.map_append]; exact hown
    exact own_setL_row (by decide) [_] k hd h1
  · rw [upd_ne _ _ (by omega), upd_ne _ _ (by omega)]; exact h.new i hi hi5
  · rw [World.size_setCell]; exact Nat.le_trans h.hi hb.size
theorem RrK.shape {w : World} {B : Nat} {ns : Nat → Value} {N : Nms} {k : Nat} {W : World} (h : RrK w B ns N k W) : ∃ A : Nat → Option Addr × Nat, (∀ i, i < 5 → ns i = .slice (A i).1 (N i).length (A i).2) ∧ ncells ns = ncells (fun i => .slice (A i).1 (N i).length (A i).2) := nheads h.names
def RefReadPost (w : World) (r : Option (Nms × Nat)) (e : Ending) (w' : World) : Prop := Ext w w' ∧
  match r with
  | some (N, q) => ∃ us, e = .returned (.tuple #[nv us, .int .i64 q, .bool true]) ∧ NamV w' us N
  | none => e = .returned (.tuple #[nv noN, .int .i64 0, .bool false])
def nsA (A : Nat → Option Addr × Nat) (N : Nms) : Nat → Value := fun i => .slice (A i).1 (N i).length (A i).2
theorem RrK.named {w : World} {B : Nat} {ns : Nat → Value} {N : Nms} {k : Nat} {W : World} (h : RrK w B ns N k W) (hk : k < 5) : ∃ A, RrK w B (nsA A N) N k W ∧ ncells ns = ncells (nsA A N) := by
  obtain ⟨A, h1, h2⟩ := nheads h.names
  have e : ∀ i, i < 5 → ns i = nsA A N i := h1
  have e2 : ncells ns = ncells (nsA A N) := h2
  refine ⟨A, ⟨h.ext, h.out, by rw [← e2]; exact h.d, fun i hi hne => by rw [← e i hi]; exact h.own i hi hne, by rw [← e k hk]; exact h.cur, fun i hi hi5 => by rw [← e i hi5]; exact h.new i hi hi5, h.lo, h.hi⟩, e2⟩
theorem upd_eq {N0 N : Nms} {k : Nat} {out : List ByteArray} (h : N k = out) (h' : ∀ j, j ≠ k → N j = N0 j) : upd N0 k out = N := by
  funext j
  by_cases e : j = k
  · subst e; rw [upd_at, h]
  · rw [upd_ne _ _ e, h' j e]
set_option maxRecDepth 100000 in
set_option maxHeartbeats 4000000 in
theorem refRead_any (v : Value) (l : List Int) (p : Nat) (w : World) (hl : Byt l) (hv0 : Ints w .u8 v l) (hp : p ≤ l.length) (hlen : l.length ≤ 10000000) :
    Calls Try.prog 30 #[v, .int .i64 p] w (RefReadPost w (readTo l p 5)) := by
  obtain ⟨a, cap, rfl, hcap, hmax, _⟩ := hv0.open_
  have hI0 : RrO w noN (fun _ => []) 0 ((w.alloc (.cells (ncells noN).toArray 37)).alloc (.cells (ncells noN).toArray 37)) :=
    ⟨(Ext.alloc _ _).trans (Ext.alloc _ _), (RowAt.new w _ (ncells noN)).ext (Ext.alloc _ _), row_at (by simp), fun i hi => World.ownsRow_nil _ _ _ _, fun i _ _ => ⟨rfl, rfl⟩⟩
  have hdn : (ncells noN).toArray = #[.slice none 0 0, .slice none 0 0, .slice none 0 0, .slice none 0 0, .slice none 0 0] := rfl
  rw [hdn] at hI0
  have HI0 := Lib.hid hI0
  have Hv := Lib.hid hv0
  have Hl := Lib.hid hl
  obtain ⟨R, hR⟩ : ∃ R, readTo l p 5 = R := ⟨_, rfl⟩
  rw [hR]
  have HR := Lib.hid hR
  clear hI0 hdn hv0 hl hR
  go_enter Try.func30, Try.ntmps30
  go_upto_region 2 with fail
  replace HI0 := HI0.out
  generalize (w.alloc (.cells #[.slice none 0 0, .slice none 0 0, .slice none 0 0, .slice none 0 0, .slice none 0 0] 37)).alloc (.cells #[.slice none 0 0, .slice none 0 0, .slice none 0 0, .slice none 0 0, .slice none 0 0] 37) = w1 at *
  go_wp2_with fail
  go_loopg [1, 15] 5 (fun g s1 i wr => ∃ (k x : Nat) (N : Nms) (A : Nat → Option Addr × Nat), k ≤ 5 ∧ g = 5 - k ∧ i = .int .i64 k ∧ s1 = .int .i64 x ∧ x ≤ l.length ∧ readTo l p k = some (N, x) ∧ RrO w (nsA A N) N k wr)
  case atStart => exact ⟨0, p, _, fun _ => (none, 0), Nat.zero_le _, rfl, rfl, rfl, hp, rfl, HI0⟩
  case round =>
    obtain ⟨k, x, N, A, hk, hg, rfl, rfl, hx, hto, hI⟩ := hrel
    have HI := Lib.hid hI
    have Hg := Lib.hid hg
    have HTO := Lib.hid hto
    clear hI hg hto HI0
    by_cases hlt : k < 5
    · have hrn := refReadNumber_any (.slice a l.length cap) l x wr Hl.out (Hv.out.ext HI.out.ext) hx hlen
      have hki : (k : Int) < 5 := by omega
      have hnone : readK (k : Int) l x = none → R = none := fun h => by
        rw [← HR.out]
        refine readTo_none (k := k + 1) ?_ (by omega)
        unfold readTo; rw [HTO.out]; dsimp only; rw [h]
      have hsome : ∀ r, readK (k : Int) l x = some r → readTo l p (k + 1) = some (upd N k r.1, r.2) := fun r h => by
        unfold readTo; rw [HTO.out]; dsimp only; rw [h]
      obtain ⟨RK, hRK⟩ : ∃ RK, readK (k : Int) l x = RK := ⟨_, rfl⟩
      rw [hRK] at hnone hsome
      have HNONE := Lib.hid hnone
      have HSOME := Lib.hid hsome
      clear hnone hsome
      unfold readK at hRK
      have hEnd : Hid (RK = none → ∀ W, Ext w W → RowAt W w.heap.size 37 (ncells noN) → RefReadPost w R (.returned (.tuple #[nv noN, .int .i64 0, .bool false])) (setL W w.heap.size 0 (ncells noN))) := Lib.hid (fun h W hx hr => by
        have e := HNONE.out h
        subst e
        exact ⟨below_setL (Nat.le_refl _) _ 0 hx, rfl⟩)
      cases hnum : rdNum (l.drop x) with
      | no c =>
        rw [hnum] at hRK hrn
        have hc := rdNum_no0 hnum
        have HRN := Lib.hid hrn
        have HE := Lib.hid (hEnd.out hRK.symm wr HI.out.ext HI.out.out)
        clear hrn hnum hRK hEnd
        go_wp2_with fail
        refine HRN.out.mono ?_
        rintro e w3 ⟨rfl, rfl⟩
        obtain ⟨d0, d1, d2, d3, d4⟩ := RowAt.facts5 (ns := noN) HI.out.out
        obtain ⟨g0, g1, g2, g3, g4⟩ := HI.out.out.facts5f
        simp only [noN] at d0 d1 d2 d3 d4
        go_wp2_with fail
        rw [set5]
        clear d0 d1 d2 d3 d4 g0 g1 g2 g3 g4
        obtain ⟨q0, q1, q2, q3, q4⟩ := RowAt.facts5 (row_set5 (ns := noN) noN HI.out.out)
        unfold ncells noN at q0 q1 q2 q3 q4
        try dsimp only at q0 q1 q2 q3 q4
        exact bodyPost_ret (v := .tuple #[nv noN, .int .i64 0, .bool false]) (by rw [nv_noN]; simp [results, Try.results30, go_sem, q0, q1, q2, q3, q4]) rfl HE.out
      | ok many used =>
        rw [hnum] at hRK hrn
        obtain ⟨hb1, hb2, hb3, hb4⟩ := rdNum_ok (Hl.out.drop x) hnum
        have hdl : (l.drop x).length = l.length - x := List.length_drop
        obtain ⟨q, hq⟩ : ∃ q : Nat, x + used = q := ⟨_, rfl⟩
        have HQ : Hid ((x : Int) + (used : Int) = (q : Int)) := Lib.hid (by omega)
        have hql : q ≤ l.length := by omega
        dsimp only at hRK
        rw [hq] at hRK
        have HRN := Lib.hid hrn
        obtain ⟨M, rfl⟩ := Int.eq_ofNat_of_zero_le hb3
        clear hrn hnum hb1 hb2 hb3 hb4 hdl hq
        by_cases hM : (M : Int) ≤ 128
        · rw [if_pos hM] at hRK
          have hd : decide ((128 : Int) < (M : Int)) = false := decide_eq_false (by omega)
          have HRK : Hid (readTs (k : Int) l M q [] = RK) := Lib.hid hRK
          have HIK := Lib.hid (HI.out.enter hlt)
          have hNk := (HI.out.new k (Nat.le_refl _) hlt).1
          have HNk := Lib.hid hNk
          obtain ⟨B, hB⟩ : ∃ B, wr.heap.size = B := ⟨_, rfl⟩
          rw [hB] at HIK
          clear hRK hB hNk
          go_wp2_with fail
          refine HRN.out.mono ?_
          rintro e w3 ⟨rfl, rfl⟩
          rw [HQ.out]
          go_wp2_with fail
          go_loopg [1, 34] M (fun g s1 i wr => ∃ (m y : Nat) (N' : Nms) (A' : Nat → Option Addr × Nat), m ≤ M ∧ g = m ∧ i = .int .u64 ((M : Int) - (m : Int)) ∧ s1 = .int .i64 y ∧ y ≤ l.length ∧ readTs (k : Int) l m y (N' k) = RK ∧ RrK w B (nsA A' N') N' k wr ∧ (∀ j, j ≠ k → N' j = N j) ∧ (N' k).length + m ≤ 200)
          case atStart => exact ⟨M, q, N, A, Nat.le_refl _, rfl, by rw [show (M : Int) - (M : Int) = 0 by omega], rfl, hql, by rw [HNk.out]; exact HRK.out, HIK.out, fun _ _ => rfl, by rw [HNk.out]; simp; omega⟩
          case round =>
            obtain ⟨m, y, N', A', hm, hg2, rfl, rfl, hy, hall, hIK, hoth, hol⟩ := hrel
            have HJ := Lib.hid hIK
            have Hall := Lib.hid hall
            have Hg2 := Lib.hid hg2
            have Hoth := Lib.hid hoth
            clear hIK hall hg2 hoth HIK HI HRK HNk
            cases m with
            | zero =>
              have hz : decide ((M : Int) - ((0 : Nat) : Int) < (M : Int)) = false := decide_eq_false (by omega)
              have hf := Hall.out
              unfold readTs at hf
              have HT : Hid (readTo l p (k + 1) = some (N', y)) := Lib.hid (by rw [HSOME.out _ hf.symm, upd_eq rfl Hoth.out])
              have HL := Lib.hid HJ.out.leave
              clear hf
              go_wp2_with fail
              go_roundg (5 - (k + 1))
              case measure => have := Hg.out; omega
              case rel => exact ⟨k + 1, y, N', A', by omega, rfl, by go_num, rfl, hy, HT.out, HL.out⟩
            | succ m =>
              have hz : decide ((M : Int) - ((m + 1 : Nat) : Int) < (M : Int)) = true := decide_eq_true (by omega)
              obtain ⟨z, hze⟩ : ∃ z : Int, (M : Int) - ((m + 1 : Nat) : Int) = z := ⟨_, rfl⟩
              rw [hze] at hz
              have hz2 : z < (M : Int) := by omega
              have hz3 : 0 ≤ z := by omega
              have HZ : Hid (z + 1 = (M : Int) - (m : Int)) := Lib.hid (by omega)
              have hrt := refReadText_any (.slice a l.length cap) l y wr Hl.out (Hv.out.ext HJ.out.ext) hy hlen
              have hall := Hall.out
              unfold readTs at hall
              rw [hze]
              cases htx : rdText (l.drop y) with
              | no c =>
                rw [htx] at hall hrt
                have hc := rdText_no0 htx
                have HRT := Lib.hid hrt
                have HE := Lib.hid (hEnd.out hall.symm wr HJ.out.ext HJ.out.out)
                clear hrt hall htx hze hz hEnd
                go_wp2_with fail
                refine HRT.out.mono ?_
                rintro e w3 ⟨rfl, rfl⟩
                obtain ⟨d0, d1, d2, d3, d4⟩ := RowAt.facts5 (ns := noN) HJ.out.out
                obtain ⟨g0, g1, g2, g3, g4⟩ := (HJ.out.out).facts5f
                simp only [noN] at d0 d1 d2 d3 d4
                go_wp2_with fail
                rw [set5]
                clear d0 d1 d2 d3 d4 g0 g1 g2 g3 g4
                obtain ⟨q0, q1, q2, q3, q4⟩ := RowAt.facts5 (row_set5 (ns := noN) noN HJ.out.out)
                unfold ncells noN at q0 q1 q2 q3 q4
                try dsimp only at q0 q1 q2 q3 q4
                exact bodyPost_ret (v := .tuple #[nv noN, .int .i64 0, .bool false]) (by rw [nv_noN]; simp [results, Try.results30, go_sem, q0, q1, q2, q3, q4]) rfl HE.out
              | ok x3 used2 =>
                rw [htx] at hall hrt
                obtain ⟨hu1, hu2, hu3⟩ := textB_small (Hl.out.drop y) htx
                have hdl2 : (l.drop y).length = l.length - y := List.length_drop
                obtain ⟨y2, hy2e⟩ : ∃ y2 : Nat, y + used2 = y2 := ⟨_, rfl⟩
                have HY2 : Hid ((y : Int) + (used2 : Int) = (y2 : Int)) := Lib.hid (by omega)
                have hy2l : y2 ≤ l.length := by omega
                have HRT := Lib.hid hrt
                dsimp only at hall
                rw [hy2e] at hall
                have HALL := Lib.hid hall
                clear hrt hall htx hze hz hdl2 hy2e
                go_wp2_with fail
                refine HRT.out.mono ?_
                rintro e w3 ⟨rfl, s, hs, rfl⟩
                rw [HY2.out]
                have hss := strOf_sb hs hu3
                have hsz : s.size ≤ 4000 := by
                  have : (sb s).length = s.size := by simp [sb]
                  rw [hs] at this; omega
                have hall := HALL.out
                rw [hss] at hall
                have hmy := fun w' => refMay_any (k : Int) s w' (by omega)
                have hid := refId_any (nsA A' N') N' (k : Int) s
                rw [show idN N' (k : Int) s = findF (N' k) s from by unfold idN; rw [if_pos (by omega)]; rfl] at hid
                generalize mayB (k : Int) (bts s) = mb at *
                generalize hff : findF (N' k) s = f at *
                unfold nv ncells nsA at hid
                try dsimp only at hid
                have HMY := Lib.hid hmy
                have HID := Lib.hid hid
                clear hmy hid HALL hss hs HRT hu2 hu3 hff
                cases mb with
                | false =>
                  have HE := Lib.hid (hEnd.out (by rw [← hall]; simp) wr HJ.out.ext HJ.out.out)
                  clear hall hEnd
                  go_wp2_with fail
                  refine (HMY.out _).mono ?_
                  rintro e w4 ⟨rfl, rfl⟩
                  obtain ⟨d0, d1, d2, d3, d4⟩ := RowAt.facts5 (ns := noN) HJ.out.out
                  obtain ⟨g0, g1, g2, g3, g4⟩ := (HJ.out.out).facts5f
                  simp only [noN] at d0 d1 d2 d3 d4
                  go_wp2_with fail
                  rw [set5]
                  clear d0 d1 d2 d3 d4 g0 g1 g2 g3 g4
                  obtain ⟨q0, q1, q2, q3, q4⟩ := RowAt.facts5 (row_set5 (ns := noN) noN HJ.out.out)
                  unfold ncells noN at q0 q1 q2 q3 q4
                  try dsimp only at q0 q1 q2 q3 q4
                  exact bodyPost_ret (v := .tuple #[nv noN, .int .i64 0, .bool false]) (by rw [nv_noN]; simp [results, Try.results30, go_sem, q0, q1, q2, q3, q4]) rfl HE.out
                | true =>
                  have HALL := Lib.hid hall
                  clear hall
                  go_wp2_with fail
                  refine (HMY.out _).mono ?_
                  rintro e w4 ⟨rfl, rfl⟩
                  have hnm : NamV wr (nsA A' N') N' := HJ.out.names
                  have hidw := HID.out wr hnm
                  have HIDW := Lib.hid hidw
                  obtain ⟨c0, c1, c2, c3, c4⟩ := HJ.out.d.facts5
                  simp only [nsA] at c0 c1 c2 c3 c4
                  clear hidw hnm
                  by_cases hf : 0 ≤ f
                  · have hRn : RK = none := by rw [← HALL.out, if_neg (by omega)]
                    have hdf : decide (0 ≤ f) = true := decide_eq_true hf
                    have HENDW := Lib.hid (hEnd.out hRn)
                    clear hRn hEnd
                    go_wp2_with fail
                    refine HIDW.out.mono ?_
                    rintro e w5 ⟨rfl, hx5⟩
                    clear c0 c1 c2 c3 c4
                    have hJ5 := HJ.out.grow hx5
                    have HE := Lib.hid (HENDW.out w5 hJ5.ext hJ5.out)
                    have HO := Lib.hid hJ5.out
                    clear hJ5
                    obtain ⟨d0, d1, d2, d3, d4⟩ := RowAt.facts5 (ns := noN) HO.out
                    obtain ⟨g0, g1, g2, g3, g4⟩ := (HO.out).facts5f
                    simp only [noN] at d0 d1 d2 d3 d4
                    go_wp2_with fail
                    rw [set5]
                    clear d0 d1 d2 d3 d4 g0 g1 g2 g3 g4
                    obtain ⟨q0, q1, q2, q3, q4⟩ := RowAt.facts5 (row_set5 (ns := noN) noN HO.out)
                    unfold ncells noN at q0 q1 q2 q3 q4
                    try dsimp only at q0 q1 q2 q3 q4
                    exact bodyPost_ret (v := .tuple #[nv noN, .int .i64 0, .bool false]) (by rw [nv_noN]; simp [results, Try.results30, go_sem, q0, q1, q2, q3, q4]) rfl HE.out
                  · have hdf : decide (0 ≤ f) = false := decide_eq_false hf
                    have HP : Hid (readTs (k : Int) l m y2 (N' k ++ [s]) = RK) := Lib.hid (by rw [← HALL.out, if_pos ⟨trivial, by omega⟩])
                    go_wp2_with fail
                    refine HIDW.out.mono ?_
                    rintro e w5 ⟨rfl, hx5⟩
                    clear c0 c1 c2 c3 c4
                    have hJ5 := HJ.out.grow hx5
                    have r0 := hJ5.d.cell (i := k) (ncells_at _ hlt)
                    have rf := hJ5.d.frozen k
                    simp only [nsA] at r0
                    have hcur := hJ5.cur
                    have hhi := hJ5.hi
                    have HJ5 := Lib.hid (hJ5.grow (Ext.alloc w5 (.cells #[.string s] 9)))
                    clear hJ5 hdf
                    unfold OwnS nsA at hcur
                    try dsimp only at hcur
                    go_wp2_with (at_builtin; refine wpList_append_sl _ rfl _ _ 22 rfl elS rfl (own_ext hcur (Ext.alloc _ _)) rfl (Sl.new _ #[.string s] 9 1 1 (Nat.le_refl _) ?_) rfl ?_ ?_ ?_ ?_ ?_)
                    · unfold maxLen; omega
                    · rfl
                    · omega
                    · unfold maxLen; omega
                    · simp; omega
                    intro v6 w6 hown6 hb6 hg6 _
                    have hJ6 := HJ5.out.app hlt hown6 hb6 hg6
                    have hd6 := HJ5.out.d.below hb6 (by have := HJ5.out.lo; omega)
                    obtain ⟨a6, c6, rfl⟩ := own_sl hown6
                    have rc := hd6.cell (i := k) (ncells_at _ hlt)
                    have rf6 := hd6.frozen k
                    obtain ⟨A6, hJ7, e7⟩ := hJ6.named hlt
                    have HJ7 := Lib.hid hJ7
                    clear hJ6 hJ7 e7 hown6 hb6 hg6 hcur r0 rf hd6
                    go_wp2_with fail
                    go_roundg m
                    case measure => have := Hg2.out; omega
                    case rel => exact ⟨m, y2, _, A6, by omega, rfl, by rw [HZ.out], rfl, hy2l, by rw [upd_at]; exact HP.out, HJ7.out, fun j hj => by rw [upd_ne _ _ hj]; exact Hoth.out j hj, by rw [upd_at]; simp; omega⟩
        · rw [if_neg hM] at hRK
          have hd : decide ((128 : Int) < (M : Int)) = true := decide_eq_true (by omega)
          have HE := Lib.hid (hEnd.out hRK.symm wr HI.out.ext HI.out.out)
          clear hRK hEnd
          go_wp2_with fail
          refine HRN.out.mono ?_
          rintro e w3 ⟨rfl, rfl⟩
          rw [HQ.out]
          obtain ⟨d0, d1, d2, d3, d4⟩ := RowAt.facts5 (ns := noN) HI.out.out
          obtain ⟨g0, g1, g2, g3, g4⟩ := HI.out.out.facts5f
          simp only [noN] at d0 d1 d2 d3 d4
          go_wp2_with fail
          rw [set5]
          clear d0 d1 d2 d3 d4 g0 g1 g2 g3 g4
          obtain ⟨q0, q1, q2, q3, q4⟩ := RowAt.facts5 (row_set5 (ns := noN) noN HI.out.out)
          unfold ncells noN at q0 q1 q2 q3 q4
          try dsimp only at q0 q1 q2 q3 q4
          exact bodyPost_ret (v := .tuple #[nv noN, .int .i64 0, .bool false]) (by rw [nv_noN]; simp [results, Try.results30, go_sem, q0, q1, q2, q3, q4]) rfl HE.out
    · obtain rfl : k = 5 := by omega
      have hRR : R = some (N, x) := by rw [← HR.out]; exact HTO.out
      have HRR := Lib.hid hRR
      obtain ⟨c0, c1, c2, c3, c4⟩ := HI.out.d.facts5
      obtain ⟨d0, d1, d2, d3, d4⟩ := RowAt.facts5 (ns := noN) HI.out.out
      obtain ⟨g0, g1, g2, g3, g4⟩ := HI.out.out.facts5f
      simp only [noN] at d0 d1 d2 d3 d4
      simp only [nsA] at c0 c1 c2 c3 c4
      clear hRR
      go_wp2_with fail
      rw [set5]
      clear d0 d1 d2 d3 d4 c0 c1 c2 c3 c4 g0 g1 g2 g3 g4
      have hro := row_set5 (nsA A N) HI.out.out
      have hfin : NamV (setL wr w.heap.size 0 (ncells (nsA A N))) (nsA A N) N := fun i hi => Sl.of_own (own_setL_row (by decide) _ 0 HI.out.out (HI.out.own i hi))
      have hbf := below_setL (Nat.le_refl w.heap.size) (ncells (nsA A N)) 0 HI.out.ext
      obtain ⟨q0, q1, q2, q3, q4⟩ := RowAt.facts5 hro
      refine bodyPost_ret (v := .tuple #[nv (nsA A N), .int .i64 x, .bool true]) ?_ rfl ⟨hbf, ?_⟩
      · unfold nv ncells nsA at *
        simp [results, Try.results30, go_sem, q0, q1, q2, q3, q4]
      · have h := HRR.out
        subst h
        exact ⟨_, rfl, hfin⟩
end Go.Proofs.Ytogoejlbdbapoaa
