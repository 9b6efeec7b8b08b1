/- DictPuts: the walk. -/
import Derived.Test.YtogoejlbdbapoaaDicPx
namespace Go.Proofs.Ytogoejlbdbapoaa
set_option maxRecDepth 100000
set_option maxHeartbeats 2000000
set_option linter.unusedSimpArgs false
open Go.RowKit Go.Shelf Go.Sort
attribute [local go_sem] Oper.semAt_some wide_fn wide_depth
set_option linter.unusedVariables false

def groP13 : Nat → Gro
  | 0 => .read
  | 1 => .grow
  | 3 => .read
  | 5 => .read
  | 6 => .grow
  | 11 => .write
  | _ => .pure
def groP14 : Nat → Gro
  | 12 => .read
  | 13 => .grow
  | 21 => .read
  | 22 => .grow
  | 25 => .read
  | 26 => .grow
  | 27 => .read
  | 28 => .grow
  | _ => .pure
set_option maxRecDepth 100000 in
set_option maxHeartbeats 4000000 in
theorem dputs_walk (v0 : Value) (D : Dic) (v1 : Value) (L : List (Int × ByteArray)) (w : World)
    (h0 : ∃ vs, v0 = dv vs ∧ DicV w vs D ∧ ∀ i, i < 5 → ∀ s ∈ (D i).1, s.size ≤ 9223372036854775807) (h1 : Wds w v1 L ∧ ∀ t ∈ L, t.2.size ≤ 9223372036854775807 ∧ -9223372036854775808 ≤ t.1 ∧ t.1 ≤ 9223372036854775807) :
    Calls Try.prog 4 #[v0, v1] w fun e w' => e = .returned (.bool true) ∧ Ext w w' := by
  have hmo : Try.prog.follows .mixedOrders = true := by kernel_rfl
  obtain ⟨hL, hLs⟩ := h1
  obtain ⟨aL, cL, rfl, hcL, hmL⟩ := Sl.shape hL
  have H1 := Lib.hid hL
  have HLS := Lib.hid hLs
  clear hL hLs
  obtain ⟨vs, rfl, hV0, hs0⟩ := h0
  obtain ⟨A, hA1, hA2⟩ := heads hV0.shape
  rw [show dv vs = dv (hv A) from by unfold dv; rw [hA2]]
  have hV : DicV w (hv A) D := fun i hi => by rw [← hA1 i hi]; exact hV0 i hi
  clear hA1 hA2 hV0
  have hbx : RowAt (w.alloc (.cells #[Value.slice (A 0).1 (A 0).2.1 (A 0).2.2.1, .slice (A 0).2.2.2.1 (A 0).2.2.2.2.1 (A 0).2.2.2.2.2, Value.slice (A 1).1 (A 1).2.1 (A 1).2.2.1, .slice (A 1).2.2.2.1 (A 1).2.2.2.2.1 (A 1).2.2.2.2.2, Value.slice (A 2).1 (A 2).2.1 (A 2).2.2.1, .slice (A 2).2.2.2.1 (A 2).2.2.2.2.1 (A 2).2.2.2.2.2, Value.slice (A 3).1 (A 3).2.1 (A 3).2.2.1, .slice (A 3).2.2.2.1 (A 3).2.2.2.2.1 (A 3).2.2.2.2.2, Value.slice (A 4).1 (A 4).2.1 (A 4).2.2.1, .slice (A 4).2.2.2.1 (A 4).2.2.2.2.1 (A 4).2.2.2.2.2] 28)) w.heap.size 28 (dcells (hv A)) := RowAt.new _ _ _
  have hx0 := Ext.alloc w (.cells #[Value.slice (A 0).1 (A 0).2.1 (A 0).2.2.1, .slice (A 0).2.2.2.1 (A 0).2.2.2.2.1 (A 0).2.2.2.2.2, Value.slice (A 1).1 (A 1).2.1 (A 1).2.2.1, .slice (A 1).2.2.2.1 (A 1).2.2.2.2.1 (A 1).2.2.2.2.2, Value.slice (A 2).1 (A 2).2.1 (A 2).2.2.1, .slice (A 2).2.2.2.1 (A 2).2.2.2.2.1 (A 2).2.2.2.2.2, Value.slice (A 3).1 (A 3).2.1 (A 3).2.2.1, .slice (A 3).2.2.2.1 (A 3).2.2.2.2.1 (A 3).2.2.2.2.2, Value.slice (A 4).1 (A 4).2.1 (A 4).2.2.1, .slice (A 4).2.2.2.1 (A 4).2.2.2.2.1 (A 4).2.2.2.2.2] 28)
  have HV := Lib.hid hV
  have HB := Lib.hid hbx
  have HX := Lib.hid hx0
  have HSZ := Lib.hid (cutD_s hs0)
  clear hV hbx hx0 hs0
  unfold dv dcells hv
  dsimp only
  go_enter Try.func4, Try.ntmps4
  go_upto_region 1 with fail
  generalize w.alloc (.cells #[Value.slice (A 0).1 (A 0).2.1 (A 0).2.2.1, .slice (A 0).2.2.2.1 (A 0).2.2.2.2.1 (A 0).2.2.2.2.2, Value.slice (A 1).1 (A 1).2.1 (A 1).2.2.1, .slice (A 1).2.2.2.1 (A 1).2.2.2.2.1 (A 1).2.2.2.2.2, Value.slice (A 2).1 (A 2).2.1 (A 2).2.2.1, .slice (A 2).2.2.2.1 (A 2).2.2.2.2.1 (A 2).2.2.2.2.2, Value.slice (A 3).1 (A 3).2.1 (A 3).2.2.1, .slice (A 3).2.2.2.1 (A 3).2.2.2.2.1 (A 3).2.2.2.2.2, Value.slice (A 4).1 (A 4).2.1 (A 4).2.2.1, .slice (A 4).2.2.2.1 (A 4).2.2.2.2.1 (A 4).2.2.2.2.2] 28) = wa at *
  go_wp2_with fail
  refine (dwakes_any _).mono ?_
  rintro e w1 ⟨rfl, hx1⟩
  replace HB := Lib.hid (HB.out.ext hx1)
  replace HX := Lib.hid (HX.out.trans hx1)
  clear hx1
  obtain ⟨c0, c1, c2, c3, c4, c5, c6, c7, c8, c9⟩ := RowAt.facts10 (vs := hv A) (HB.out)
  unfold hv at c0 c1 c2 c3 c4 c5 c6 c7 c8 c9
  dsimp only at c0 c1 c2 c3 c4 c5 c6 c7 c8 c9
  have hcon := lawOwn_hv A D w1 (HV.out.ext HX.out)
  try unfold dv at hcon
  try unfold nv at hcon
  try unfold dcells at hcon
  try unfold ncells at hcon
  try unfold nsA at hcon
  try unfold ofV at hcon
  try unfold noV at hcon
  try unfold noN at hcon
  try unfold hv at hcon
  try dsimp only at hcon
  have HOW := Lib.hid hcon
  clear hcon
  go_wp2_with fail
  refine HOW.out.mono ?_
  rintro e w2 ⟨B, rfl, hown2, hx2⟩
  clear c0 c1 c2 c3 c4 c5 c6 c7 c8 c9
  have hx3 := hx2.trans (Ext.alloc w2 (.cells #[Value.slice (B 0).1 (B 0).2.1 (B 0).2.2.1, .slice (B 0).2.2.2.1 (B 0).2.2.2.2.1 (B 0).2.2.2.2.2, Value.slice (B 1).1 (B 1).2.1 (B 1).2.2.1, .slice (B 1).2.2.2.1 (B 1).2.2.2.2.1 (B 1).2.2.2.2.2, Value.slice (B 2).1 (B 2).2.1 (B 2).2.2.1, .slice (B 2).2.2.2.1 (B 2).2.2.2.2.1 (B 2).2.2.2.2.2, Value.slice (B 3).1 (B 3).2.1 (B 3).2.2.1, .slice (B 3).2.2.2.1 (B 3).2.2.2.2.1 (B 3).2.2.2.2.2, Value.slice (B 4).1 (B 4).2.1 (B 4).2.2.1, .slice (B 4).2.2.2.1 (B 4).2.2.2.2.1 (B 4).2.2.2.2.2] 28))
  have hbb : RowAt (w2.alloc (.cells #[Value.slice (B 0).1 (B 0).2.1 (B 0).2.2.1, .slice (B 0).2.2.2.1 (B 0).2.2.2.2.1 (B 0).2.2.2.2.2, Value.slice (B 1).1 (B 1).2.1 (B 1).2.2.1, .slice (B 1).2.2.2.1 (B 1).2.2.2.2.1 (B 1).2.2.2.2.2, Value.slice (B 2).1 (B 2).2.1 (B 2).2.2.1, .slice (B 2).2.2.2.1 (B 2).2.2.2.2.1 (B 2).2.2.2.2.2, Value.slice (B 3).1 (B 3).2.1 (B 3).2.2.1, .slice (B 3).2.2.2.1 (B 3).2.2.2.2.1 (B 3).2.2.2.2.2, Value.slice (B 4).1 (B 4).2.1 (B 4).2.2.1, .slice (B 4).2.2.2.1 (B 4).2.2.2.2.1 (B 4).2.2.2.2.2] 28)) w2.heap.size 28 (dcells (hv B)) := RowAt.new _ _ _
  have hwy : w.heap.size ≤ w2.heap.size := by have h1 := HX.out.size; have h2 := hx2.size; omega
  have HPI : Hid (PtI w w2.heap.size B (cutD D) (w2.alloc (.cells #[Value.slice (B 0).1 (B 0).2.1 (B 0).2.2.1, .slice (B 0).2.2.2.1 (B 0).2.2.2.2.1 (B 0).2.2.2.2.2, Value.slice (B 1).1 (B 1).2.1 (B 1).2.2.1, .slice (B 1).2.2.2.1 (B 1).2.2.2.2.1 (B 1).2.2.2.2.2, Value.slice (B 2).1 (B 2).2.1 (B 2).2.2.1, .slice (B 2).2.2.2.1 (B 2).2.2.2.2.1 (B 2).2.2.2.2.2, Value.slice (B 3).1 (B 3).2.1 (B 3).2.2.1, .slice (B 3).2.2.2.1 (B 3).2.2.2.2.1 (B 3).2.2.2.2.2, Value.slice (B 4).1 (B 4).2.1 (B 4).2.2.1, .slice (B 4).2.2.2.1 (B 4).2.2.2.2.1 (B 4).2.2.2.2.2] 28))) := Lib.hid ⟨HX.out.trans hx3, hbb, hown2.view.ext (Ext.alloc _ _), HSZ.out, cutD_cut D⟩
  obtain ⟨y, hy⟩ : ∃ y, w2.heap.size = y := ⟨_, rfl⟩
  clear hx3 hx2 hown2 HOW hbb HB HX HV HSZ
  go_upto_region 4 with fail
  generalize w2.alloc (.cells #[Value.slice (B 0).1 (B 0).2.1 (B 0).2.2.1, .slice (B 0).2.2.2.1 (B 0).2.2.2.2.1 (B 0).2.2.2.2.2, Value.slice (B 1).1 (B 1).2.1 (B 1).2.2.1, .slice (B 1).2.2.2.1 (B 1).2.2.2.2.1 (B 1).2.2.2.2.2, Value.slice (B 2).1 (B 2).2.1 (B 2).2.2.1, .slice (B 2).2.2.2.1 (B 2).2.2.2.2.1 (B 2).2.2.2.2.2, Value.slice (B 3).1 (B 3).2.1 (B 3).2.2.1, .slice (B 3).2.2.2.1 (B 3).2.2.2.2.1 (B 3).2.2.2.2.2, Value.slice (B 4).1 (B 4).2.1 (B 4).2.2.1, .slice (B 4).2.2.2.1 (B 4).2.2.2.2.1 (B 4).2.2.2.2.2] 28) = w3 at *
  rw [hy] at HPI hwy
  try simp only [hy]
  clear hy
  have HWY := Lib.hid hwy
  clear hwy
  go_wp2_with fail
  go_loopg [6, 7, 22] L.length (fun g s6 s7 i wi => ∃ j : Nat, j ≤ L.length ∧ g = L.length - j ∧ i = .int .i64 j ∧ Hid (∃ C E, PtI w y C E wi))
  case atStart => exact ⟨0, Nat.zero_le _, rfl, rfl, Lib.hid ⟨_, _, HPI.out⟩⟩
  case round =>
    obtain ⟨j, hj, hg, rfl, hk⟩ := hrel
    obtain ⟨C, E, hk⟩ := hk.out
    have Hg := Lib.hid hg
    have HK := Lib.hid hk
    clear hg hk HPI
    by_cases hl : j < L.length
    · obtain ⟨b3, o3, rfl, hc3, hc4⟩ := (H1.out.ext HK.out.ext).at_ hl
      have hs3 := HLS.out _ (List.getElem_mem hl)
      generalize L[j] = q at *
      obtain ⟨kind, s⟩ := q
      dsimp only at hc3 hc4 hs3
      obtain ⟨hss, hk1, hk2⟩ := hs3
      have hb7 : RowAt (wr.alloc (.cells #[.int .i64 kind, .string s] 44)) wr.heap.size 44 [.int .i64 kind, .string s] := RowAt.new _ _ _
      have HB7 := Lib.hid hb7
      have HKA := Lib.hid (HK.out.grow (Ext.alloc wr (.cells #[.int .i64 kind, .string s] 44)))
      obtain ⟨x7, hx7⟩ : ∃ x, wr.heap.size = x := ⟨_, rfl⟩
      clear hb7
      go_upto_region 7 with fail
      generalize wr.alloc (.cells #[.int .i64 kind, .string s] 44) = wa at *
      rw [hx7] at HB7
      try simp only [hx7]
      clear hx7 hc3 hc4
      by_cases h8 : j = 8
      · subst h8
        go_wp2_with fail
        go_ret
        exact ⟨rfl, HKA.out.ext⟩
      · have hne : ((j : Int) == 8) = false := by simp; omega
        clear h8
        obtain ⟨c0, c1, c2, c3, c4, c5, c6, c7, c8, c9⟩ := RowAt.facts10 (vs := hv C) (HKA.out.cur)
        unfold hv at c0 c1 c2 c3 c4 c5 c6 c7 c8 c9
        dsimp only at c0 c1 c2 c3 c4 c5 c6 c7 c8 c9
        have hcon := lawOwn_hv C E wa HKA.out.view
        try unfold dv at hcon
        try unfold nv at hcon
        try unfold dcells at hcon
        try unfold ncells at hcon
        try unfold nsA at hcon
        try unfold ofV at hcon
        try unfold noV at hcon
        try unfold noN at hcon
        try unfold hv at hcon
        try dsimp only at hcon
        have HOW := Lib.hid hcon
        clear hcon
        go_wp2_with fail
        refine HOW.out.mono ?_
        rintro e wb0 ⟨W, rfl, hownW, hxb0⟩
        clear c0 c1 c2 c3 c4 c5 c6 c7 c8 c9
        have hxb := hxb0.trans (Ext.alloc wb0 (.cells #[Value.slice (W 0).1 (W 0).2.1 (W 0).2.2.1, .slice (W 0).2.2.2.1 (W 0).2.2.2.2.1 (W 0).2.2.2.2.2, Value.slice (W 1).1 (W 1).2.1 (W 1).2.2.1, .slice (W 1).2.2.2.1 (W 1).2.2.2.2.1 (W 1).2.2.2.2.2, Value.slice (W 2).1 (W 2).2.1 (W 2).2.2.1, .slice (W 2).2.2.2.1 (W 2).2.2.2.2.1 (W 2).2.2.2.2.2, Value.slice (W 3).1 (W 3).2.1 (W 3).2.2.1, .slice (W 3).2.2.2.1 (W 3).2.2.2.2.1 (W 3).2.2.2.2.2, Value.slice (W 4).1 (W 4).2.1 (W 4).2.2.1, .slice (W 4).2.2.2.1 (W 4).2.2.2.2.1 (W 4).2.2.2.2.2] 28))
        have hbw : RowAt (wb0.alloc (.cells #[Value.slice (W 0).1 (W 0).2.1 (W 0).2.2.1, .slice (W 0).2.2.2.1 (W 0).2.2.2.2.1 (W 0).2.2.2.2.2, Value.slice (W 1).1 (W 1).2.1 (W 1).2.2.1, .slice (W 1).2.2.2.1 (W 1).2.2.2.2.1 (W 1).2.2.2.2.2, Value.slice (W 2).1 (W 2).2.1 (W 2).2.2.1, .slice (W 2).2.2.2.1 (W 2).2.2.2.2.1 (W 2).2.2.2.2.2, Value.slice (W 3).1 (W 3).2.1 (W 3).2.2.1, .slice (W 3).2.2.2.1 (W 3).2.2.2.2.1 (W 3).2.2.2.2.2, Value.slice (W 4).1 (W 4).2.1 (W 4).2.2.1, .slice (W 4).2.2.2.1 (W 4).2.2.2.2.1 (W 4).2.2.2.2.2] 28)) wb0.heap.size 28 (dcells (hv W)) := RowAt.new _ _ _
        have HBW := Lib.hid hbw
        have HWV := Lib.hid (hownW.view.ext (Ext.alloc wb0 (.cells #[Value.slice (W 0).1 (W 0).2.1 (W 0).2.2.1, .slice (W 0).2.2.2.1 (W 0).2.2.2.2.1 (W 0).2.2.2.2.2, Value.slice (W 1).1 (W 1).2.1 (W 1).2.2.1, .slice (W 1).2.2.2.1 (W 1).2.2.2.2.1 (W 1).2.2.2.2.2, Value.slice (W 2).1 (W 2).2.1 (W 2).2.2.1, .slice (W 2).2.2.2.1 (W 2).2.2.2.2.1 (W 2).2.2.2.2.2, Value.slice (W 3).1 (W 3).2.1 (W 3).2.2.1, .slice (W 3).2.2.2.1 (W 3).2.2.2.2.1 (W 3).2.2.2.2.2, Value.slice (W 4).1 (W 4).2.1 (W 4).2.2.1, .slice (W 4).2.2.2.1 (W 4).2.2.2.2.1 (W 4).2.2.2.2.2] 28)))
        have HKB := Lib.hid (HKA.out.grow hxb)
        have HB7B := Lib.hid (HB7.out.ext hxb)
        obtain ⟨x8, hx8⟩ : ∃ x, wb0.heap.size = x := ⟨_, rfl⟩
        clear hxb0 hxb hbw hownW HOW HKA HB7 HK
        go_upto_region 9 with fail
        generalize wb0.alloc (.cells #[Value.slice (W 0).1 (W 0).2.1 (W 0).2.2.1, .slice (W 0).2.2.2.1 (W 0).2.2.2.2.1 (W 0).2.2.2.2.2, Value.slice (W 1).1 (W 1).2.1 (W 1).2.2.1, .slice (W 1).2.2.2.1 (W 1).2.2.2.2.1 (W 1).2.2.2.2.2, Value.slice (W 2).1 (W 2).2.1 (W 2).2.2.1, .slice (W 2).2.2.2.1 (W 2).2.2.2.2.1 (W 2).2.2.2.2.2, Value.slice (W 3).1 (W 3).2.1 (W 3).2.2.1, .slice (W 3).2.2.2.1 (W 3).2.2.2.2.1 (W 3).2.2.2.2.2, Value.slice (W 4).1 (W 4).2.1 (W 4).2.2.1, .slice (W 4).2.2.2.1 (W 4).2.2.2.2.1 (W 4).2.2.2.2.2] 28) = wb at *
        rw [hx8] at HBW
        try simp only [hx8]
        clear hx8
        have HWE : Hid (DicV wb (hv W) E) := Lib.hid (DicV.same HWV.out (cut_same HKB.out.cut))
        obtain ⟨c0, c1, c2, c3, c4, c5, c6, c7, c8, c9⟩ := RowAt.facts10 (vs := hv C) (HKB.out.cur)
        unfold hv at c0 c1 c2 c3 c4 c5 c6 c7 c8 c9
        dsimp only at c0 c1 c2 c3 c4 c5 c6 c7 c8 c9
        obtain ⟨p1, p2, _, _⟩ := HB7B.out.facts2
        by_cases hok : DicOK E
        · have HRK := Lib.hid hok
          clear hok
          cases hpt : putD E kind s with
          | error c =>
            have hpr := putD_ref HRK.out kind s
            rw [hpt] at hpr
            have HPR := Lib.hid hpr
            have hcon := putU_err hpt (hv C) wb HKB.out.view HKB.out.s hss HRK.out
            try unfold dv at hcon
            try unfold nv at hcon
            try unfold dcells at hcon
            try unfold ncells at hcon
            try unfold nsA at hcon
            try unfold ofV at hcon
            try unfold noV at hcon
            try unfold noN at hcon
            try unfold hv at hcon
            try dsimp only at hcon
            have HPT := Lib.hid hcon
            clear hcon
            rcases putD_err hpt with rfl | rfl
            all_goals
              clear hpt hpr
              go_wp2_with fail
              refine HPT.out.mono ?_
              rintro e w6 ⟨F, rfl, hoF, hFN, hx6⟩
              clear c0 c1 c2 c3 c4 c5 c6 c7 c8 c9
              have HFN := Lib.hid hFN
              clear p1 p2
              have hx6' := Ext.alloc w6 (.cells #[Value.slice (F 0).1 (F 0).2.1 (F 0).2.2.1, .slice (F 0).2.2.2.1 (F 0).2.2.2.2.1 (F 0).2.2.2.2.2, Value.slice (F 1).1 (F 1).2.1 (F 1).2.2.1, .slice (F 1).2.2.2.1 (F 1).2.2.2.2.1 (F 1).2.2.2.2.2, Value.slice (F 2).1 (F 2).2.1 (F 2).2.2.1, .slice (F 2).2.2.2.1 (F 2).2.2.2.2.1 (F 2).2.2.2.2.2, Value.slice (F 3).1 (F 3).2.1 (F 3).2.2.1, .slice (F 3).2.2.2.1 (F 3).2.2.2.2.1 (F 3).2.2.2.2.2, Value.slice (F 4).1 (F 4).2.1 (F 4).2.2.1, .slice (F 4).2.2.2.1 (F 4).2.2.2.2.1 (F 4).2.2.2.2.2] 28)
              have hb9 : RowAt (w6.alloc (.cells #[Value.slice (F 0).1 (F 0).2.1 (F 0).2.2.1, .slice (F 0).2.2.2.1 (F 0).2.2.2.2.1 (F 0).2.2.2.2.2, Value.slice (F 1).1 (F 1).2.1 (F 1).2.2.1, .slice (F 1).2.2.2.1 (F 1).2.2.2.2.1 (F 1).2.2.2.2.2, Value.slice (F 2).1 (F 2).2.1 (F 2).2.2.1, .slice (F 2).2.2.2.1 (F 2).2.2.2.2.1 (F 2).2.2.2.2.2, Value.slice (F 3).1 (F 3).2.1 (F 3).2.2.1, .slice (F 3).2.2.2.1 (F 3).2.2.2.2.1 (F 3).2.2.2.2.2, Value.slice (F 4).1 (F 4).2.1 (F 4).2.2.1, .slice (F 4).2.2.2.1 (F 4).2.2.2.2.1 (F 4).2.2.2.2.2] 28)) w6.heap.size 28 (dcells (hv F)) := RowAt.new _ _ _
              have hx66 : Ext w6 ((w6.alloc (.cells #[Value.slice (F 0).1 (F 0).2.1 (F 0).2.2.1, .slice (F 0).2.2.2.1 (F 0).2.2.2.2.1 (F 0).2.2.2.2.2, Value.slice (F 1).1 (F 1).2.1 (F 1).2.2.1, .slice (F 1).2.2.2.1 (F 1).2.2.2.2.1 (F 1).2.2.2.2.2, Value.slice (F 2).1 (F 2).2.1 (F 2).2.2.1, .slice (F 2).2.2.2.1 (F 2).2.2.2.2.1 (F 2).2.2.2.2.2, Value.slice (F 3).1 (F 3).2.1 (F 3).2.2.1, .slice (F 3).2.2.2.1 (F 3).2.2.2.2.1 (F 3).2.2.2.2.2, Value.slice (F 4).1 (F 4).2.1 (F 4).2.2.1, .slice (F 4).2.2.2.1 (F 4).2.2.2.2.1 (F 4).2.2.2.2.2] 28)).alloc (.cells #[.slice none 0 0, .slice none 0 0, .slice none 0 0, .slice none 0 0, .slice none 0 0] 37)) := hx6'.trans (Ext.alloc _ _)
              have hb12 : RowAt ((w6.alloc (.cells #[Value.slice (F 0).1 (F 0).2.1 (F 0).2.2.1, .slice (F 0).2.2.2.1 (F 0).2.2.2.2.1 (F 0).2.2.2.2.2, Value.slice (F 1).1 (F 1).2.1 (F 1).2.2.1, .slice (F 1).2.2.2.1 (F 1).2.2.2.2.1 (F 1).2.2.2.2.2, Value.slice (F 2).1 (F 2).2.1 (F 2).2.2.1, .slice (F 2).2.2.2.1 (F 2).2.2.2.2.1 (F 2).2.2.2.2.2, Value.slice (F 3).1 (F 3).2.1 (F 3).2.2.1, .slice (F 3).2.2.2.1 (F 3).2.2.2.2.1 (F 3).2.2.2.2.2, Value.slice (F 4).1 (F 4).2.1 (F 4).2.2.1, .slice (F 4).2.2.2.1 (F 4).2.2.2.2.1 (F 4).2.2.2.2.2] 28)).alloc (.cells #[.slice none 0 0, .slice none 0 0, .slice none 0 0, .slice none 0 0, .slice none 0 0] 37)) (w6.heap.size + 1) 37 (ncells noN) := row_at (xs := ncells noN) (by simp)
              have HB9 : Hid (RowAt ((w6.alloc (.cells #[Value.slice (F 0).1 (F 0).2.1 (F 0).2.2.1, .slice (F 0).2.2.2.1 (F 0).2.2.2.2.1 (F 0).2.2.2.2.2, Value.slice (F 1).1 (F 1).2.1 (F 1).2.2.1, .slice (F 1).2.2.2.1 (F 1).2.2.2.2.1 (F 1).2.2.2.2.2, Value.slice (F 2).1 (F 2).2.1 (F 2).2.2.1, .slice (F 2).2.2.2.1 (F 2).2.2.2.2.1 (F 2).2.2.2.2.2, Value.slice (F 3).1 (F 3).2.1 (F 3).2.2.1, .slice (F 3).2.2.2.1 (F 3).2.2.2.2.1 (F 3).2.2.2.2.2, Value.slice (F 4).1 (F 4).2.1 (F 4).2.2.1, .slice (F 4).2.2.2.1 (F 4).2.2.2.2.1 (F 4).2.2.2.2.2] 28)).alloc (.cells #[.slice none 0 0, .slice none 0 0, .slice none 0 0, .slice none 0 0, .slice none 0 0] 37)) w6.heap.size 28 (dcells (hv F))) := Lib.hid (hb9.ext (Ext.alloc _ _))
              have HB12 := Lib.hid hb12
              have HOF := Lib.hid hoF
              have HX6 := Lib.hid hx66
              have HXB6 := Lib.hid hx6
              obtain ⟨x9, hx9⟩ : ∃ x, w6.heap.size = x := ⟨_, rfl⟩
              clear hx6 hx6' hb9 hx66 hb12 hoF HPT
              go_upto_region 11 with fail
              generalize (w6.alloc (.cells #[Value.slice (F 0).1 (F 0).2.1 (F 0).2.2.1, .slice (F 0).2.2.2.1 (F 0).2.2.2.2.1 (F 0).2.2.2.2.2, Value.slice (F 1).1 (F 1).2.1 (F 1).2.2.1, .slice (F 1).2.2.2.1 (F 1).2.2.2.2.1 (F 1).2.2.2.2.2, Value.slice (F 2).1 (F 2).2.1 (F 2).2.2.1, .slice (F 2).2.2.2.1 (F 2).2.2.2.2.1 (F 2).2.2.2.2.2, Value.slice (F 3).1 (F 3).2.1 (F 3).2.2.1, .slice (F 3).2.2.2.1 (F 3).2.2.2.2.1 (F 3).2.2.2.2.2, Value.slice (F 4).1 (F 4).2.1 (F 4).2.2.1, .slice (F 4).2.2.2.1 (F 4).2.2.2.2.1 (F 4).2.2.2.2.2] 28)).alloc (.cells #[.slice none 0 0, .slice none 0 0, .slice none 0 0, .slice none 0 0, .slice none 0 0] 37) = w7 at *
              rw [hx9] at HB9 HB12
              try simp only [hx9]
              have HX9 := Lib.hid hx9
              clear hx9
              obtain ⟨c0, c1, c2, c3, c4, c5, c6, c7, c8, c9⟩ := RowAt.facts10 (vs := hv C) (((HKB.out.cur.ext HXB6.out).ext HX6.out))
              unfold hv at c0 c1 c2 c3 c4 c5 c6 c7 c8 c9
              dsimp only at c0 c1 c2 c3 c4 c5 c6 c7 c8 c9
              have HES : Hid (DicS noD) := Lib.hid noD_s
              have hcon := dright_yes (hv C) E w7 ((HKB.out.view.ext HXB6.out).ext HX6.out) HKB.out.s HRK.out
              try unfold dv at hcon
              try unfold nv at hcon
              try unfold dcells at hcon
              try unfold ncells at hcon
              try unfold nsA at hcon
              try unfold ofV at hcon
              try unfold noV at hcon
              try unfold noN at hcon
              try unfold hv at hcon
              try dsimp only at hcon
              have HRI := Lib.hid hcon
              clear hcon
              go_wp2_with fail
              refine HRI.out.mono ?_
              rintro e w8 ⟨rfl, hx8⟩
              clear c0 c1 c2 c3 c4 c5 c6 c7 c8 c9
              replace HX6 := Lib.hid (HX6.out.trans hx8)
              replace HB9 := Lib.hid (HB9.out.ext hx8)
              replace HB12 := Lib.hid (HB12.out.ext hx8)
              clear hx8 HRI
              go_upto_region 13 with fail
              refine wp_region_gro groP13 [0, 2, 3, 4, 5, 1, 6, 7, 8, 9, 10, 11, 12, 13] hmo (by kernel_rfl) rfl (by kernel_rfl) (fun _ _ _ _ _ h => h) ?_
              have hdr : Ext w8 w8.drew := Ext.drewN w8 1
              replace HX6 := Lib.hid (HX6.out.trans hdr)
              replace HB9 := Lib.hid (HB9.out.ext hdr)
              replace HB12 := Lib.hid (HB12.out.ext hdr)
              clear hdr
              generalize w8.drew = w9 at *
              obtain ⟨c0, c1, c2, c3, c4, c5, c6, c7, c8, c9⟩ := RowAt.facts10 (vs := hv W) ((HBW.out.ext (HXB6.out.trans HX6.out)))
              unfold hv at c0 c1 c2 c3 c4 c5 c6 c7 c8 c9
              dsimp only at c0 c1 c2 c3 c4 c5 c6 c7 c8 c9
              obtain ⟨p1, p2, _, _⟩ := (HB7B.out.ext (HXB6.out.trans HX6.out)).facts2
              have hcon := of_hv W w9
              try unfold dv at hcon
              try unfold nv at hcon
              try unfold dcells at hcon
              try unfold ncells at hcon
              try unfold nsA at hcon
              try unfold ofV at hcon
              try unfold noV at hcon
              try unfold noN at hcon
              try unfold hv at hcon
              try dsimp only at hcon
              have HOFW := Lib.hid hcon
              clear hcon
              repeat (first
                | (refine groL_pure rfl rfl ?_; intro K hK; go_simp; refine hK _ ?_; clear hK K)
                | (refine groL_read rfl rfl ?_; intro K S hS hK; go_simp; refine hK _ ?_; clear hK K hS S)
                | (refine groL_read rfl rfl ?_; intro K S hS hK; go_simp; refine ⟨hS _ ?_, hK _ ?_⟩; (clear hK K hS S; intro w' hx'; have hce := ext_some hx'; go_simp); clear hK K hS S)
                | (refine groL_write rfl rfl ?_; intro K hK; go_simp; refine hK _ _ ?_; clear hK K))
              refine groL_grow rfl rfl ?_
              intro K hK
              go_simp
              (refine HOFW.out.mono ?_; rintro e wv ⟨rfl, hxv⟩)
              go_simp
              refine hK _ _ ⟨hxv, ?_⟩
              clear hK K
              clear c0 c1 c2 c3 c4 c5 c6 c7 c8 c9
              have HXv := Lib.hid (HXB6.out.trans (HX6.out.trans hxv))
              obtain ⟨p1, p2, _, _⟩ := (HB7B.out.ext HXv.out).facts2
              have hcon := refPut_err HPR.out (ofV (hv W)) wv (DicV.names (HWE.out.ext HXv.out)) (fun i hi => by have := (HRK.out i hi).2.1; show (E i).1.length ≤ 1000; omega) hss
              try unfold dv at hcon
              try unfold nv at hcon
              try unfold dcells at hcon
              try unfold ncells at hcon
              try unfold nsA at hcon
              try unfold ofV at hcon
              try unfold noV at hcon
              try unfold noN at hcon
              try unfold hv at hcon
              try dsimp only at hcon
              have HRP := Lib.hid hcon
              clear hcon
              repeat (first
                | (refine groL_pure rfl rfl ?_; intro K hK; go_simp; refine hK _ ?_; clear hK K)
                | (refine groL_read rfl rfl ?_; intro K S hS hK; go_simp; refine hK _ ?_; clear hK K hS S)
                | (refine groL_read rfl rfl ?_; intro K S hS hK; go_simp; refine ⟨hS _ ?_, hK _ ?_⟩; (clear hK K hS S; intro w' hx'; have hce := ext_some hx'; go_simp); clear hK K hS S)
                | (refine groL_write rfl rfl ?_; intro K hK; go_simp; refine hK _ _ ?_; clear hK K))
              refine groL_grow rfl rfl ?_
              intro K hK
              go_simp
              (refine HRP.out.mono ?_; rintro e wu ⟨rfl, hxu⟩)
              go_simp
              refine hK _ _ ⟨hxu, ?_⟩
              clear hK K
              replace HX6 := Lib.hid (HX6.out.trans (hxv.trans hxu))
              replace HB9 := Lib.hid (HB9.out.ext (hxv.trans hxu))
              replace HB12 := Lib.hid (HB12.out.ext (hxv.trans hxu))
              clear hxv hxu HOFW HRP HXv p1 p2
              obtain ⟨d0, d1, d2, d3, d4⟩ := RowAt.facts5 (ns := noN) HB12.out
              obtain ⟨g0, g1, g2, g3, g4⟩ := HB12.out.facts5f
              simp only [noN] at d0 d1 d2 d3 d4
              have hnb := row_set5 (noN) HB12.out
              try have HNA2 := Lib.hid (namV_apart HB12.out HNA.out (ncells (noN)) 0)
              have hxz : Ext w6 (setL wu (x9 + 1) 0 (ncells (noN))) := below_setL (B := w6.heap.size) (g := x9 + 1) (by have := HX9.out; omega) (ncells (noN)) 0 HX6.out
              have hb9z : RowAt (setL wu (x9 + 1) 0 (ncells (noN))) x9 28 (dcells (hv F)) := row_setL_ne (by omega) _ _ HB9.out
              repeat (first
                | (refine groL_pure rfl rfl ?_; intro K hK; go_simp; refine hK _ ?_; clear hK K)
                | (refine groL_read rfl rfl ?_; intro K S hS hK; go_simp; refine hK _ ?_; clear hK K hS S)
                | (refine groL_read rfl rfl ?_; intro K S hS hK; go_simp; refine ⟨hS _ ?_, hK _ ?_⟩; (clear hK K hS S; intro w' hx'; have hce := ext_some hx'; go_simp); clear hK K hS S)
                | (refine groL_write rfl rfl ?_; intro K hK; go_simp; refine hK _ _ ?_; clear hK K))
              refine groL_nil ?_
              try rw [set5]
              have hWE : setL wu (x9 + 1) 0 (ncells (noN)) = setL wu (x9 + 1) 0 [.slice none 0 0, .slice none 0 0, .slice none 0 0, .slice none 0 0, .slice none 0 0] := rfl
              rw [hWE] at hnb hxz hb9z
              try rw [hWE] at HNA2
              replace HB9 := Lib.hid hb9z
              replace HX6 := Lib.hid hxz
              replace HB12 := Lib.hid hnb
              clear hnb hxz hb9z d0 d1 d2 d3 d4 g0 g1 g2 g3 g4 hWE
              generalize setL wu (x9 + 1) 0 [.slice none 0 0, .slice none 0 0, .slice none 0 0, .slice none 0 0, .slice none 0 0] = wz at *
              go_upto_region 14 with fail
              refine wp_region_gro groP14 [0, 1, 2, 3, 4, 5, 6, 7, 8, 9, 10, 11, 12, 13, 14, 15, 16, 17, 18, 19, 20, 21, 22, 23, 24, 25, 27, 26, 28, 29, 30, 31, 32] hmo (by kernel_rfl) rfl (by kernel_rfl) (fun _ _ _ _ _ h => h) ?_
              have hdr : Ext wz wz.drew := Ext.drewN wz 1
              try replace HNA2 := Lib.hid (NamV.ext HNA2.out hdr)
              replace HX6 := Lib.hid (HX6.out.trans hdr)
              replace HB9 := Lib.hid (HB9.out.ext hdr)
              replace HB12 := Lib.hid (HB12.out.ext hdr)
              clear hdr
              generalize wz.drew = wt at *
              repeat (first
                | (refine groL_pure rfl rfl ?_; intro K hK; go_simp; refine hK _ ?_; clear hK K)
                | (refine groL_read rfl rfl ?_; intro K S hS hK; go_simp; refine hK _ ?_; clear hK K hS S)
                | (refine groL_read rfl rfl ?_; intro K S hS hK; go_simp; refine ⟨hS _ ?_, hK _ ?_⟩; (clear hK K hS S; intro w' hx'; have hce := ext_some hx'; go_simp); clear hK K hS S)
                | (refine groL_write rfl rfl ?_; intro K hK; go_simp; refine hK _ _ ?_; clear hK K))
              have hcon := noneU HFN.out wt
              try unfold dv at hcon
              try unfold nv at hcon
              try unfold dcells at hcon
              try unfold ncells at hcon
              try unfold nsA at hcon
              try unfold ofV at hcon
              try unfold noV at hcon
              try unfold noN at hcon
              try unfold hv at hcon
              try dsimp only at hcon
              have HNO := Lib.hid hcon
              clear hcon
              obtain ⟨c0, c1, c2, c3, c4, c5, c6, c7, c8, c9⟩ := RowAt.facts10 (vs := hv F) (HB9.out)
              unfold hv at c0 c1 c2 c3 c4 c5 c6 c7 c8 c9
              dsimp only at c0 c1 c2 c3 c4 c5 c6 c7 c8 c9
              repeat (first
                | (refine groL_pure rfl rfl ?_; intro K hK; go_simp; refine hK _ ?_; clear hK K)
                | (refine groL_read rfl rfl ?_; intro K S hS hK; go_simp; refine hK _ ?_; clear hK K hS S)
                | (refine groL_read rfl rfl ?_; intro K S hS hK; go_simp; refine ⟨hS _ ?_, hK _ ?_⟩; (clear hK K hS S; intro w' hx'; have hce := ext_some hx'; go_simp); clear hK K hS S)
                | (refine groL_write rfl rfl ?_; intro K hK; go_simp; refine hK _ _ ?_; clear hK K))
              refine groL_grow rfl rfl ?_
              intro K hK
              go_simp
              (refine HNO.out.mono ?_; rintro e ws ⟨rfl, hxs⟩)
              go_simp
              refine hK _ _ ⟨hxs, ?_⟩
              clear hK K
              clear c0 c1 c2 c3 c4 c5 c6 c7 c8 c9
              repeat (first
                | (refine groL_pure rfl rfl ?_; intro K hK; go_simp; refine hK _ ?_; clear hK K)
                | (refine groL_read rfl rfl ?_; intro K S hS hK; go_simp; refine hK _ ?_; clear hK K hS S)
                | (refine groL_read rfl rfl ?_; intro K S hS hK; go_simp; refine ⟨hS _ ?_, hK _ ?_⟩; (clear hK K hS S; intro w' hx'; have hce := ext_some hx'; go_simp); clear hK K hS S)
                | (refine groL_grow rfl rfl ?_; intro K hK; go_simp; refine hK _ _ ⟨Ext.refl _, ?_⟩; clear hK K))
              refine groL_nil ?_
              replace HX6 := Lib.hid (HX6.out.trans hxs)
              replace HB9 := Lib.hid (HB9.out.ext hxs)
              clear hxs HB12
              obtain ⟨c0, c1, c2, c3, c4, c5, c6, c7, c8, c9⟩ := RowAt.facts10 (vs := hv F) (HB9.out)
              unfold hv at c0 c1 c2 c3 c4 c5 c6 c7 c8 c9
              dsimp only at c0 c1 c2 c3 c4 c5 c6 c7 c8 c9
              have hcon := lawOwn_hv F _ ws (HOF.out.ext HX6.out).view
              try unfold dv at hcon
              try unfold nv at hcon
              try unfold dcells at hcon
              try unfold ncells at hcon
              try unfold nsA at hcon
              try unfold ofV at hcon
              try unfold noV at hcon
              try unfold noN at hcon
              try unfold hv at hcon
              try dsimp only at hcon
              have HOG := Lib.hid hcon
              clear hcon
              go_wp2_with fail
              refine HOG.out.mono ?_
              rintro e we ⟨G, rfl, hoG, hxe⟩
              clear c0 c1 c2 c3 c4 c5 c6 c7 c8 c9
              have hxf := hxe.trans (Ext.alloc we (.cells #[Value.slice (G 0).1 (G 0).2.1 (G 0).2.2.1, .slice (G 0).2.2.2.1 (G 0).2.2.2.2.1 (G 0).2.2.2.2.2, Value.slice (G 1).1 (G 1).2.1 (G 1).2.2.1, .slice (G 1).2.2.2.1 (G 1).2.2.2.2.1 (G 1).2.2.2.2.2, Value.slice (G 2).1 (G 2).2.1 (G 2).2.2.1, .slice (G 2).2.2.2.1 (G 2).2.2.2.2.1 (G 2).2.2.2.2.2, Value.slice (G 3).1 (G 3).2.1 (G 3).2.2.1, .slice (G 3).2.2.2.1 (G 3).2.2.2.2.1 (G 3).2.2.2.2.2, Value.slice (G 4).1 (G 4).2.1 (G 4).2.2.1, .slice (G 4).2.2.2.1 (G 4).2.2.2.2.1 (G 4).2.2.2.2.2] 28))
              have hb15 : RowAt (we.alloc (.cells #[Value.slice (G 0).1 (G 0).2.1 (G 0).2.2.1, .slice (G 0).2.2.2.1 (G 0).2.2.2.2.1 (G 0).2.2.2.2.2, Value.slice (G 1).1 (G 1).2.1 (G 1).2.2.1, .slice (G 1).2.2.2.1 (G 1).2.2.2.2.1 (G 1).2.2.2.2.2, Value.slice (G 2).1 (G 2).2.1 (G 2).2.2.1, .slice (G 2).2.2.2.1 (G 2).2.2.2.2.1 (G 2).2.2.2.2.2, Value.slice (G 3).1 (G 3).2.1 (G 3).2.2.1, .slice (G 3).2.2.2.1 (G 3).2.2.2.2.1 (G 3).2.2.2.2.2, Value.slice (G 4).1 (G 4).2.1 (G 4).2.2.1, .slice (G 4).2.2.2.1 (G 4).2.2.2.2.1 (G 4).2.2.2.2.2] 28)) we.heap.size 28 (dcells (hv G)) := RowAt.new _ _ _
              have HB15 := Lib.hid hb15
              have HOG2 := Lib.hid (DicOwn.ext hoG (Ext.alloc we (.cells #[Value.slice (G 0).1 (G 0).2.1 (G 0).2.2.1, .slice (G 0).2.2.2.1 (G 0).2.2.2.2.1 (G 0).2.2.2.2.2, Value.slice (G 1).1 (G 1).2.1 (G 1).2.2.1, .slice (G 1).2.2.2.1 (G 1).2.2.2.2.1 (G 1).2.2.2.2.2, Value.slice (G 2).1 (G 2).2.1 (G 2).2.2.1, .slice (G 2).2.2.2.1 (G 2).2.2.2.2.1 (G 2).2.2.2.2.2, Value.slice (G 3).1 (G 3).2.1 (G 3).2.2.1, .slice (G 3).2.2.2.1 (G 3).2.2.2.2.1 (G 3).2.2.2.2.2, Value.slice (G 4).1 (G 4).2.1 (G 4).2.2.1, .slice (G 4).2.2.2.1 (G 4).2.2.2.2.1 (G 4).2.2.2.2.2] 28)))
              have HX6F := Lib.hid (HX6.out.trans hxf)
              have HB9F := Lib.hid (HB9.out.ext hxf)
              have hwe : w6.heap.size ≤ we.heap.size := by have h1 := HX6.out.size; have h2 := hxe.size; omega
              have hws : w6.heap.size ≤ ws.heap.size := HX6.out.size
              obtain ⟨x15, hx15⟩ : ∃ x, we.heap.size = x := ⟨_, rfl⟩
              clear hxf hxe hb15 hoG HOG
              go_upto_region 17 with fail
              generalize we.alloc (.cells #[Value.slice (G 0).1 (G 0).2.1 (G 0).2.2.1, .slice (G 0).2.2.2.1 (G 0).2.2.2.2.1 (G 0).2.2.2.2.2, Value.slice (G 1).1 (G 1).2.1 (G 1).2.2.1, .slice (G 1).2.2.2.1 (G 1).2.2.2.2.1 (G 1).2.2.2.2.2, Value.slice (G 2).1 (G 2).2.1 (G 2).2.2.1, .slice (G 2).2.2.2.1 (G 2).2.2.2.2.1 (G 2).2.2.2.2.2, Value.slice (G 3).1 (G 3).2.1 (G 3).2.2.1, .slice (G 3).2.2.2.1 (G 3).2.2.2.2.1 (G 3).2.2.2.2.2, Value.slice (G 4).1 (G 4).2.1 (G 4).2.2.1, .slice (G 4).2.2.2.1 (G 4).2.2.2.2.1 (G 4).2.2.2.2.2] 28) = wf at *
              rw [hx15] at HB15 hwe
              try simp only [hx15]
              clear hx15
              obtain ⟨c0, c1, c2, c3, c4, c5, c6, c7, c8, c9⟩ := RowAt.facts10 (vs := hv F) (HB9F.out)
              unfold hv at c0 c1 c2 c3 c4 c5 c6 c7 c8 c9
              dsimp only at c0 c1 c2 c3 c4 c5 c6 c7 c8 c9
              have hcon := spoil_mid wb.heap.size (hv F) _ w6 wf HOF.out HX6F.out
              try unfold dv at hcon
              try unfold nv at hcon
              try unfold dcells at hcon
              try unfold ncells at hcon
              try unfold nsA at hcon
              try unfold ofV at hcon
              try unfold noV at hcon
              try unfold noN at hcon
              try unfold hv at hcon
              try dsimp only at hcon
              have HSP := Lib.hid hcon
              clear hcon
              go_wp2_with fail
              refine HSP.out.mono ?_
              rintro e wg ⟨rfl, hmid⟩
              clear c0 c1 c2 c3 c4 c5 c6 c7 c8 c9
              have hxg : Ext wb wg := Mid.ext (HXB6.out.trans HX6F.out) hmid (Nat.le_refl _)
              have HKG := Lib.hid (HKB.out.grow hxg)
              have HWG := Lib.hid (HWV.out.ext hxg)
              have HBG := Lib.hid (HBW.out.ext hxg)
              have HGG := Lib.hid (DicOwn.mid HOG2.out hmid hws)
              have HB15G := Lib.hid (RowAt.mid HB15.out hmid (.inr hwe))
              clear hxg hmid HSP HX6F HB9F
              have hcon := lawSame_yes (hv C) (hv W) E (cutD E) wg HKG.out.view HWG.out (cut_same HKG.out.cut)
              try unfold dv at hcon
              try unfold nv at hcon
              try unfold dcells at hcon
              try unfold ncells at hcon
              try unfold nsA at hcon
              try unfold ofV at hcon
              try unfold noV at hcon
              try unfold noN at hcon
              try unfold hv at hcon
              try dsimp only at hcon
              have HSM := Lib.hid hcon
              clear hcon
              obtain ⟨c0, c1, c2, c3, c4, c5, c6, c7, c8, c9⟩ := RowAt.facts10 (vs := hv C) (HKG.out.cur)
              unfold hv at c0 c1 c2 c3 c4 c5 c6 c7 c8 c9
              dsimp only at c0 c1 c2 c3 c4 c5 c6 c7 c8 c9
              obtain ⟨e0, e1, e2, e3, e4, e5, e6, e7, e8, e9⟩ := RowAt.facts10 (vs := hv W) (HBG.out)
              unfold hv at e0 e1 e2 e3 e4 e5 e6 e7 e8 e9
              dsimp only at e0 e1 e2 e3 e4 e5 e6 e7 e8 e9
              go_wp2_with fail
              refine HSM.out.mono ?_
              rintro e wh ⟨rfl, hxh⟩
              clear c0 c1 c2 c3 c4 c5 c6 c7 c8 c9
              clear e0 e1 e2 e3 e4 e5 e6 e7 e8 e9
              have HKZ := Lib.hid (HKG.out.grow hxh)
              have HGZ := Lib.hid (DicOwn.ext HGG.out hxh)
              have HB15Z := Lib.hid (HB15G.out.ext hxh)
              clear hxh HSM HKG HGG HB15G
              go_wp2_with fail
              go_roundg (L.length - (j + 1))
              case measure => have := Hg.out; omega
              case rel => exact ⟨j + 1, by omega, rfl, by go_num, Lib.hid ⟨_, _, HKZ.out⟩⟩
          | ok q =>
            obtain ⟨E', n⟩ := q
            obtain ⟨k, m, hp1⟩ := putD_is HRK.out (fun i hi => by have := (HKB.out.cut i hi).2; omega) hpt
            have hpr := putD_ref HRK.out kind s
            rw [hpt] at hpr
            obtain ⟨N', hpr, hpn⟩ := hpr
            have HPN := Lib.hid hpn
            have HPR := Lib.hid hpr
            have HP := Lib.hid hp1
            have hn0 : 0 ≤ n := by have := hp1.id; omega
            have HES : Hid (DicS E') := Lib.hid (hp1.ok.sizes hp1.sz)
            have hcon := dPut_ok hpt (hv C) wb HKB.out.view HKB.out.s hss HRK.out
            try unfold dv at hcon
            try unfold nv at hcon
            try unfold dcells at hcon
            try unfold ncells at hcon
            try unfold nsA at hcon
            try unfold ofV at hcon
            try unfold noV at hcon
            try unfold noN at hcon
            try unfold hv at hcon
            try dsimp only at hcon
            have HPT := Lib.hid hcon
            clear hcon
            clear hpt hpr hp1 hpn
            go_wp2_with fail
            refine HPT.out.mono ?_
            rintro e w6 ⟨F, rfl, hoF, hx6⟩
            clear c0 c1 c2 c3 c4 c5 c6 c7 c8 c9
            clear p1 p2
            have hx6' := Ext.alloc w6 (.cells #[Value.slice (F 0).1 (F 0).2.1 (F 0).2.2.1, .slice (F 0).2.2.2.1 (F 0).2.2.2.2.1 (F 0).2.2.2.2.2, Value.slice (F 1).1 (F 1).2.1 (F 1).2.2.1, .slice (F 1).2.2.2.1 (F 1).2.2.2.2.1 (F 1).2.2.2.2.2, Value.slice (F 2).1 (F 2).2.1 (F 2).2.2.1, .slice (F 2).2.2.2.1 (F 2).2.2.2.2.1 (F 2).2.2.2.2.2, Value.slice (F 3).1 (F 3).2.1 (F 3).2.2.1, .slice (F 3).2.2.2.1 (F 3).2.2.2.2.1 (F 3).2.2.2.2.2, Value.slice (F 4).1 (F 4).2.1 (F 4).2.2.1, .slice (F 4).2.2.2.1 (F 4).2.2.2.2.1 (F 4).2.2.2.2.2] 28)
            have hb9 : RowAt (w6.alloc (.cells #[Value.slice (F 0).1 (F 0).2.1 (F 0).2.2.1, .slice (F 0).2.2.2.1 (F 0).2.2.2.2.1 (F 0).2.2.2.2.2, Value.slice (F 1).1 (F 1).2.1 (F 1).2.2.1, .slice (F 1).2.2.2.1 (F 1).2.2.2.2.1 (F 1).2.2.2.2.2, Value.slice (F 2).1 (F 2).2.1 (F 2).2.2.1, .slice (F 2).2.2.2.1 (F 2).2.2.2.2.1 (F 2).2.2.2.2.2, Value.slice (F 3).1 (F 3).2.1 (F 3).2.2.1, .slice (F 3).2.2.2.1 (F 3).2.2.2.2.1 (F 3).2.2.2.2.2, Value.slice (F 4).1 (F 4).2.1 (F 4).2.2.1, .slice (F 4).2.2.2.1 (F 4).2.2.2.2.1 (F 4).2.2.2.2.2] 28)) w6.heap.size 28 (dcells (hv F)) := RowAt.new _ _ _
            have hx66 : Ext w6 ((w6.alloc (.cells #[Value.slice (F 0).1 (F 0).2.1 (F 0).2.2.1, .slice (F 0).2.2.2.1 (F 0).2.2.2.2.1 (F 0).2.2.2.2.2, Value.slice (F 1).1 (F 1).2.1 (F 1).2.2.1, .slice (F 1).2.2.2.1 (F 1).2.2.2.2.1 (F 1).2.2.2.2.2, Value.slice (F 2).1 (F 2).2.1 (F 2).2.2.1, .slice (F 2).2.2.2.1 (F 2).2.2.2.2.1 (F 2).2.2.2.2.2, Value.slice (F 3).1 (F 3).2.1 (F 3).2.2.1, .slice (F 3).2.2.2.1 (F 3).2.2.2.2.1 (F 3).2.2.2.2.2, Value.slice (F 4).1 (F 4).2.1 (F 4).2.2.1, .slice (F 4).2.2.2.1 (F 4).2.2.2.2.1 (F 4).2.2.2.2.2] 28)).alloc (.cells #[.slice none 0 0, .slice none 0 0, .slice none 0 0, .slice none 0 0, .slice none 0 0] 37)) := hx6'.trans (Ext.alloc _ _)
            have hb12 : RowAt ((w6.alloc (.cells #[Value.slice (F 0).1 (F 0).2.1 (F 0).2.2.1, .slice (F 0).2.2.2.1 (F 0).2.2.2.2.1 (F 0).2.2.2.2.2, Value.slice (F 1).1 (F 1).2.1 (F 1).2.2.1, .slice (F 1).2.2.2.1 (F 1).2.2.2.2.1 (F 1).2.2.2.2.2, Value.slice (F 2).1 (F 2).2.1 (F 2).2.2.1, .slice (F 2).2.2.2.1 (F 2).2.2.2.2.1 (F 2).2.2.2.2.2, Value.slice (F 3).1 (F 3).2.1 (F 3).2.2.1, .slice (F 3).2.2.2.1 (F 3).2.2.2.2.1 (F 3).2.2.2.2.2, Value.slice (F 4).1 (F 4).2.1 (F 4).2.2.1, .slice (F 4).2.2.2.1 (F 4).2.2.2.2.1 (F 4).2.2.2.2.2] 28)).alloc (.cells #[.slice none 0 0, .slice none 0 0, .slice none 0 0, .slice none 0 0, .slice none 0 0] 37)) (w6.heap.size + 1) 37 (ncells noN) := row_at (xs := ncells noN) (by simp)
            have HB9 : Hid (RowAt ((w6.alloc (.cells #[Value.slice (F 0).1 (F 0).2.1 (F 0).2.2.1, .slice (F 0).2.2.2.1 (F 0).2.2.2.2.1 (F 0).2.2.2.2.2, Value.slice (F 1).1 (F 1).2.1 (F 1).2.2.1, .slice (F 1).2.2.2.1 (F 1).2.2.2.2.1 (F 1).2.2.2.2.2, Value.slice (F 2).1 (F 2).2.1 (F 2).2.2.1, .slice (F 2).2.2.2.1 (F 2).2.2.2.2.1 (F 2).2.2.2.2.2, Value.slice (F 3).1 (F 3).2.1 (F 3).2.2.1, .slice (F 3).2.2.2.1 (F 3).2.2.2.2.1 (F 3).2.2.2.2.2, Value.slice (F 4).1 (F 4).2.1 (F 4).2.2.1, .slice (F 4).2.2.2.1 (F 4).2.2.2.2.1 (F 4).2.2.2.2.2] 28)).alloc (.cells #[.slice none 0 0, .slice none 0 0, .slice none 0 0, .slice none 0 0, .slice none 0 0] 37)) w6.heap.size 28 (dcells (hv F))) := Lib.hid (hb9.ext (Ext.alloc _ _))
            have HB12 := Lib.hid hb12
            have HOF := Lib.hid hoF
            have HX6 := Lib.hid hx66
            have HXB6 := Lib.hid hx6
            obtain ⟨x9, hx9⟩ : ∃ x, w6.heap.size = x := ⟨_, rfl⟩
            clear hx6 hx6' hb9 hx66 hb12 hoF HPT
            go_upto_region 11 with fail
            generalize (w6.alloc (.cells #[Value.slice (F 0).1 (F 0).2.1 (F 0).2.2.1, .slice (F 0).2.2.2.1 (F 0).2.2.2.2.1 (F 0).2.2.2.2.2, Value.slice (F 1).1 (F 1).2.1 (F 1).2.2.1, .slice (F 1).2.2.2.1 (F 1).2.2.2.2.1 (F 1).2.2.2.2.2, Value.slice (F 2).1 (F 2).2.1 (F 2).2.2.1, .slice (F 2).2.2.2.1 (F 2).2.2.2.2.1 (F 2).2.2.2.2.2, Value.slice (F 3).1 (F 3).2.1 (F 3).2.2.1, .slice (F 3).2.2.2.1 (F 3).2.2.2.2.1 (F 3).2.2.2.2.2, Value.slice (F 4).1 (F 4).2.1 (F 4).2.2.1, .slice (F 4).2.2.2.1 (F 4).2.2.2.2.1 (F 4).2.2.2.2.2] 28)).alloc (.cells #[.slice none 0 0, .slice none 0 0, .slice none 0 0, .slice none 0 0, .slice none 0 0] 37) = w7 at *
            rw [hx9] at HB9 HB12
            try simp only [hx9]
            have HX9 := Lib.hid hx9
            clear hx9
            obtain ⟨c0, c1, c2, c3, c4, c5, c6, c7, c8, c9⟩ := RowAt.facts10 (vs := hv C) (((HKB.out.cur.ext HXB6.out).ext HX6.out))
            unfold hv at c0 c1 c2 c3 c4 c5 c6 c7 c8 c9
            dsimp only at c0 c1 c2 c3 c4 c5 c6 c7 c8 c9
            have hcon := dright_yes (hv C) E w7 ((HKB.out.view.ext HXB6.out).ext HX6.out) HKB.out.s HRK.out
            try unfold dv at hcon
            try unfold nv at hcon
            try unfold dcells at hcon
            try unfold ncells at hcon
            try unfold nsA at hcon
            try unfold ofV at hcon
            try unfold noV at hcon
            try unfold noN at hcon
            try unfold hv at hcon
            try dsimp only at hcon
            have HRI := Lib.hid hcon
            clear hcon
            go_wp2_with fail
            refine HRI.out.mono ?_
            rintro e w8 ⟨rfl, hx8⟩
            clear c0 c1 c2 c3 c4 c5 c6 c7 c8 c9
            replace HX6 := Lib.hid (HX6.out.trans hx8)
            replace HB9 := Lib.hid (HB9.out.ext hx8)
            replace HB12 := Lib.hid (HB12.out.ext hx8)
            clear hx8 HRI
            go_upto_region 13 with fail
            refine wp_region_gro groP13 [0, 2, 3, 4, 5, 1, 6, 7, 8, 9, 10, 11, 12, 13] hmo (by kernel_rfl) rfl (by kernel_rfl) (fun _ _ _ _ _ h => h) ?_
            have hdr : Ext w8 w8.drew := Ext.drewN w8 1
            replace HX6 := Lib.hid (HX6.out.trans hdr)
            replace HB9 := Lib.hid (HB9.out.ext hdr)
            replace HB12 := Lib.hid (HB12.out.ext hdr)
            clear hdr
            generalize w8.drew = w9 at *
            obtain ⟨c0, c1, c2, c3, c4, c5, c6, c7, c8, c9⟩ := RowAt.facts10 (vs := hv W) ((HBW.out.ext (HXB6.out.trans HX6.out)))
            unfold hv at c0 c1 c2 c3 c4 c5 c6 c7 c8 c9
            dsimp only at c0 c1 c2 c3 c4 c5 c6 c7 c8 c9
            obtain ⟨p1, p2, _, _⟩ := (HB7B.out.ext (HXB6.out.trans HX6.out)).facts2
            have hcon := of_hv W w9
            try unfold dv at hcon
            try unfold nv at hcon
            try unfold dcells at hcon
            try unfold ncells at hcon
            try unfold nsA at hcon
            try unfold ofV at hcon
            try unfold noV at hcon
            try unfold noN at hcon
            try unfold hv at hcon
            try dsimp only at hcon
            have HOFW := Lib.hid hcon
            clear hcon
            repeat (first
              | (refine groL_pure rfl rfl ?_; intro K hK; go_simp; refine hK _ ?_; clear hK K)
              | (refine groL_read rfl rfl ?_; intro K S hS hK; go_simp; refine hK _ ?_; clear hK K hS S)
              | (refine groL_read rfl rfl ?_; intro K S hS hK; go_simp; refine ⟨hS _ ?_, hK _ ?_⟩; (clear hK K hS S; intro w' hx'; have hce := ext_some hx'; go_simp); clear hK K hS S)
              | (refine groL_write rfl rfl ?_; intro K hK; go_simp; refine hK _ _ ?_; clear hK K))
            refine groL_grow rfl rfl ?_
            intro K hK
            go_simp
            (refine HOFW.out.mono ?_; rintro e wv ⟨rfl, hxv⟩)
            go_simp
            refine hK _ _ ⟨hxv, ?_⟩
            clear hK K
            clear c0 c1 c2 c3 c4 c5 c6 c7 c8 c9
            have HXv := Lib.hid (HXB6.out.trans (HX6.out.trans hxv))
            obtain ⟨p1, p2, _, _⟩ := (HB7B.out.ext HXv.out).facts2
            have hcon := refPut_ok HPR.out (ofV (hv W)) wv (DicV.names (HWE.out.ext HXv.out)) (fun i hi => by have := (HRK.out i hi).2.1; show (E i).1.length ≤ 1000; omega) hss
            try unfold dv at hcon
            try unfold nv at hcon
            try unfold dcells at hcon
            try unfold ncells at hcon
            try unfold nsA at hcon
            try unfold ofV at hcon
            try unfold noV at hcon
            try unfold noN at hcon
            try unfold hv at hcon
            try dsimp only at hcon
            have HRP := Lib.hid hcon
            clear hcon
            repeat (first
              | (refine groL_pure rfl rfl ?_; intro K hK; go_simp; refine hK _ ?_; clear hK K)
              | (refine groL_read rfl rfl ?_; intro K S hS hK; go_simp; refine hK _ ?_; clear hK K hS S)
              | (refine groL_read rfl rfl ?_; intro K S hS hK; go_simp; refine ⟨hS _ ?_, hK _ ?_⟩; (clear hK K hS S; intro w' hx'; have hce := ext_some hx'; go_simp); clear hK K hS S)
              | (refine groL_write rfl rfl ?_; intro K hK; go_simp; refine hK _ _ ?_; clear hK K))
            refine groL_grow rfl rfl ?_
            intro K hK
            go_simp
            (refine HRP.out.mono ?_; rintro e wu ⟨A2, rfl, hnA, hxu⟩)
            go_simp
            refine hK _ _ ⟨hxu, ?_⟩
            clear hK K
            have HNA := Lib.hid hnA
            clear hnA
            replace HX6 := Lib.hid (HX6.out.trans (hxv.trans hxu))
            replace HB9 := Lib.hid (HB9.out.ext (hxv.trans hxu))
            replace HB12 := Lib.hid (HB12.out.ext (hxv.trans hxu))
            clear hxv hxu HOFW HRP HXv p1 p2
            obtain ⟨d0, d1, d2, d3, d4⟩ := RowAt.facts5 (ns := noN) HB12.out
            obtain ⟨g0, g1, g2, g3, g4⟩ := HB12.out.facts5f
            simp only [noN] at d0 d1 d2 d3 d4
            have hnb := row_set5 (nsA A2 N') HB12.out
            try have HNA2 := Lib.hid (namV_apart HB12.out HNA.out (ncells (nsA A2 N')) 0)
            have hxz : Ext w6 (setL wu (x9 + 1) 0 (ncells (nsA A2 N'))) := below_setL (B := w6.heap.size) (g := x9 + 1) (by have := HX9.out; omega) (ncells (nsA A2 N')) 0 HX6.out
            have hb9z : RowAt (setL wu (x9 + 1) 0 (ncells (nsA A2 N'))) x9 28 (dcells (hv F)) := row_setL_ne (by omega) _ _ HB9.out
            repeat (first
              | (refine groL_pure rfl rfl ?_; intro K hK; go_simp; refine hK _ ?_; clear hK K)
              | (refine groL_read rfl rfl ?_; intro K S hS hK; go_simp; refine hK _ ?_; clear hK K hS S)
              | (refine groL_read rfl rfl ?_; intro K S hS hK; go_simp; refine ⟨hS _ ?_, hK _ ?_⟩; (clear hK K hS S; intro w' hx'; have hce := ext_some hx'; go_simp); clear hK K hS S)
              | (refine groL_write rfl rfl ?_; intro K hK; go_simp; refine hK _ _ ?_; clear hK K))
            refine groL_nil ?_
            try rw [set5]
            have hWE : setL wu (x9 + 1) 0 (ncells (nsA A2 N')) = setL wu (x9 + 1) 0 [.slice (A2 0).1 (N' 0).length (A2 0).2, .slice (A2 1).1 (N' 1).length (A2 1).2, .slice (A2 2).1 (N' 2).length (A2 2).2, .slice (A2 3).1 (N' 3).length (A2 3).2, .slice (A2 4).1 (N' 4).length (A2 4).2] := rfl
            rw [hWE] at hnb hxz hb9z
            try rw [hWE] at HNA2
            replace HB9 := Lib.hid hb9z
            replace HX6 := Lib.hid hxz
            replace HB12 := Lib.hid hnb
            clear hnb hxz hb9z d0 d1 d2 d3 d4 g0 g1 g2 g3 g4 hWE
            generalize setL wu (x9 + 1) 0 [.slice (A2 0).1 (N' 0).length (A2 0).2, .slice (A2 1).1 (N' 1).length (A2 1).2, .slice (A2 2).1 (N' 2).length (A2 2).2, .slice (A2 3).1 (N' 3).length (A2 3).2, .slice (A2 4).1 (N' 4).length (A2 4).2] = wz at *
            go_upto_region 14 with fail
            refine wp_region_gro groP14 [0, 1, 2, 3, 4, 5, 6, 7, 8, 9, 10, 11, 12, 13, 14, 15, 16, 17, 18, 19, 20, 21, 22, 23, 24, 25, 27, 26, 28, 29, 30, 31, 32] hmo (by kernel_rfl) rfl (by kernel_rfl) (fun _ _ _ _ _ h => h) ?_
            have hdr : Ext wz wz.drew := Ext.drewN wz 1
            try replace HNA2 := Lib.hid (NamV.ext HNA2.out hdr)
            replace HX6 := Lib.hid (HX6.out.trans hdr)
            replace HB9 := Lib.hid (HB9.out.ext hdr)
            replace HB12 := Lib.hid (HB12.out.ext hdr)
            clear hdr
            generalize wz.drew = wt at *
            obtain ⟨c0, c1, c2, c3, c4, c5, c6, c7, c8, c9⟩ := RowAt.facts10 (vs := hv F) (HB9.out)
            unfold hv at c0 c1 c2 c3 c4 c5 c6 c7 c8 c9
            dsimp only at c0 c1 c2 c3 c4 c5 c6 c7 c8 c9
            obtain ⟨n0, n1, n2, n3, n4⟩ := RowAt.facts5 (ns := nsA A2 N') HB12.out
            simp only [nsA] at n0 n1 n2 n3 n4
            have hcon := dright_yes (hv F) E' wt (HOF.out.ext HX6.out).view HES.out HP.out.ok
            try unfold dv at hcon
            try unfold nv at hcon
            try unfold dcells at hcon
            try unfold ncells at hcon
            try unfold nsA at hcon
            try unfold ofV at hcon
            try unfold noV at hcon
            try unfold noN at hcon
            try unfold hv at hcon
            try dsimp only at hcon
            have HNO := Lib.hid hcon
            clear hcon
            repeat (first
              | (refine groL_pure rfl rfl ?_; intro K hK; go_simp; refine hK _ ?_; clear hK K)
              | (refine groL_read rfl rfl ?_; intro K S hS hK; go_simp; refine hK _ ?_; clear hK K hS S)
              | (refine groL_read rfl rfl ?_; intro K S hS hK; go_simp; refine ⟨hS _ ?_, hK _ ?_⟩; (clear hK K hS S; intro w' hx'; have hce := ext_some hx'; go_simp); clear hK K hS S)
              | (refine groL_write rfl rfl ?_; intro K hK; go_simp; refine hK _ _ ?_; clear hK K))
            refine groL_grow rfl rfl ?_
            intro K hK
            go_simp
            refine hK _ _ ⟨Ext.refl _, ?_⟩
            clear hK K
            repeat (first
              | (refine groL_pure rfl rfl ?_; intro K hK; go_simp; refine hK _ ?_; clear hK K)
              | (refine groL_read rfl rfl ?_; intro K S hS hK; go_simp; refine hK _ ?_; clear hK K hS S)
              | (refine groL_read rfl rfl ?_; intro K S hS hK; go_simp; refine ⟨hS _ ?_, hK _ ?_⟩; (clear hK K hS S; intro w' hx'; have hce := ext_some hx'; go_simp); clear hK K hS S)
              | (refine groL_write rfl rfl ?_; intro K hK; go_simp; refine hK _ _ ?_; clear hK K))
            refine groL_grow rfl rfl ?_
            intro K hK
            go_simp
            (refine HNO.out.mono ?_; rintro e wm1 ⟨rfl, hxm1⟩)
            go_simp
            refine hK _ _ ⟨hxm1, ?_⟩
            clear hK K
            clear c0 c1 c2 c3 c4 c5 c6 c7 c8 c9
            clear n0 n1 n2 n3 n4
            obtain ⟨c0, c1, c2, c3, c4, c5, c6, c7, c8, c9⟩ := RowAt.facts10 (vs := hv F) ((HB9.out.ext hxm1))
            unfold hv at c0 c1 c2 c3 c4 c5 c6 c7 c8 c9
            dsimp only at c0 c1 c2 c3 c4 c5 c6 c7 c8 c9
            obtain ⟨n0, n1, n2, n3, n4⟩ := RowAt.facts5 (ns := nsA A2 N') (HB12.out.ext hxm1)
            simp only [nsA] at n0 n1 n2 n3 n4
            have hcon := of_hv F wm1
            try unfold dv at hcon
            try unfold nv at hcon
            try unfold dcells at hcon
            try unfold ncells at hcon
            try unfold nsA at hcon
            try unfold ofV at hcon
            try unfold noV at hcon
            try unfold noN at hcon
            try unfold hv at hcon
            try dsimp only at hcon
            have HOF2 := Lib.hid hcon
            clear hcon
            repeat (first
              | (refine groL_pure rfl rfl ?_; intro K hK; go_simp; refine hK _ ?_; clear hK K)
              | (refine groL_read rfl rfl ?_; intro K S hS hK; go_simp; refine hK _ ?_; clear hK K hS S)
              | (refine groL_read rfl rfl ?_; intro K S hS hK; go_simp; refine ⟨hS _ ?_, hK _ ?_⟩; (clear hK K hS S; intro w' hx'; have hce := ext_some hx'; go_simp); clear hK K hS S)
              | (refine groL_write rfl rfl ?_; intro K hK; go_simp; refine hK _ _ ?_; clear hK K))
            refine groL_grow rfl rfl ?_
            intro K hK
            go_simp
            (refine HOF2.out.mono ?_; rintro e wm2 ⟨rfl, hxm2⟩)
            go_simp
            refine hK _ _ ⟨hxm2, ?_⟩
            clear hK K
            have hnvt : NamV wm2 (nsA A2 N') N' := NamV.ext HNA2.out (hxm1.trans hxm2)
            have hcon := refSame_yes (ofV (hv F)) (nsA A2 N') (ofD E') N' wm2 (DicV.names ((HOF.out.ext HX6.out).view.ext (hxm1.trans hxm2))) hnvt HPN.out
            try unfold dv at hcon
            try unfold nv at hcon
            try unfold dcells at hcon
            try unfold ncells at hcon
            try unfold nsA at hcon
            try unfold ofV at hcon
            try unfold noV at hcon
            try unfold noN at hcon
            try unfold hv at hcon
            try dsimp only at hcon
            have HSM2 := Lib.hid hcon
            clear hcon
            clear hnvt
            clear c0 c1 c2 c3 c4 c5 c6 c7 c8 c9
            clear n0 n1 n2 n3 n4
            repeat (first
              | (refine groL_pure rfl rfl ?_; intro K hK; go_simp; refine hK _ ?_; clear hK K)
              | (refine groL_read rfl rfl ?_; intro K S hS hK; go_simp; refine hK _ ?_; clear hK K hS S)
              | (refine groL_read rfl rfl ?_; intro K S hS hK; go_simp; refine ⟨hS _ ?_, hK _ ?_⟩; (clear hK K hS S; intro w' hx'; have hce := ext_some hx'; go_simp); clear hK K hS S)
              | (refine groL_write rfl rfl ?_; intro K hK; go_simp; refine hK _ _ ?_; clear hK K))
            refine groL_grow rfl rfl ?_
            intro K hK
            go_simp
            (refine HSM2.out.mono ?_; rintro e ws ⟨rfl, hxm3⟩)
            go_simp
            refine hK _ _ ⟨hxm3, ?_⟩
            clear hK K
            repeat (first
              | (refine groL_pure rfl rfl ?_; intro K hK; go_simp; refine hK _ ?_; clear hK K)
              | (refine groL_read rfl rfl ?_; intro K S hS hK; go_simp; refine hK _ ?_; clear hK K hS S)
              | (refine groL_read rfl rfl ?_; intro K S hS hK; go_simp; refine ⟨hS _ ?_, hK _ ?_⟩; (clear hK K hS S; intro w' hx'; have hce := ext_some hx'; go_simp); clear hK K hS S)
              | (refine groL_write rfl rfl ?_; intro K hK; go_simp; refine hK _ _ ?_; clear hK K))
            have hxs := (hxm1.trans hxm2).trans hxm3
            clear hxm1 hxm2 hxm3
            refine groL_nil ?_
            replace HX6 := Lib.hid (HX6.out.trans hxs)
            replace HB9 := Lib.hid (HB9.out.ext hxs)
            clear hxs HB12
            obtain ⟨c0, c1, c2, c3, c4, c5, c6, c7, c8, c9⟩ := RowAt.facts10 (vs := hv F) (HB9.out)
            unfold hv at c0 c1 c2 c3 c4 c5 c6 c7 c8 c9
            dsimp only at c0 c1 c2 c3 c4 c5 c6 c7 c8 c9
            have hcon := lawOwn_hv F _ ws (HOF.out.ext HX6.out).view
            try unfold dv at hcon
            try unfold nv at hcon
            try unfold dcells at hcon
            try unfold ncells at hcon
            try unfold nsA at hcon
            try unfold ofV at hcon
            try unfold noV at hcon
            try unfold noN at hcon
            try unfold hv at hcon
            try dsimp only at hcon
            have HOG := Lib.hid hcon
            clear hcon
            go_wp2_with fail
            refine HOG.out.mono ?_
            rintro e we ⟨G, rfl, hoG, hxe⟩
            clear c0 c1 c2 c3 c4 c5 c6 c7 c8 c9
            have hxf := hxe.trans (Ext.alloc we (.cells #[Value.slice (G 0).1 (G 0).2.1 (G 0).2.2.1, .slice (G 0).2.2.2.1 (G 0).2.2.2.2.1 (G 0).2.2.2.2.2, Value.slice (G 1).1 (G 1).2.1 (G 1).2.2.1, .slice (G 1).2.2.2.1 (G 1).2.2.2.2.1 (G 1).2.2.2.2.2, Value.slice (G 2).1 (G 2).2.1 (G 2).2.2.1, .slice (G 2).2.2.2.1 (G 2).2.2.2.2.1 (G 2).2.2.2.2.2, Value.slice (G 3).1 (G 3).2.1 (G 3).2.2.1, .slice (G 3).2.2.2.1 (G 3).2.2.2.2.1 (G 3).2.2.2.2.2, Value.slice (G 4).1 (G 4).2.1 (G 4).2.2.1, .slice (G 4).2.2.2.1 (G 4).2.2.2.2.1 (G 4).2.2.2.2.2] 28))
            have hb15 : RowAt (we.alloc (.cells #[Value.slice (G 0).1 (G 0).2.1 (G 0).2.2.1, .slice (G 0).2.2.2.1 (G 0).2.2.2.2.1 (G 0).2.2.2.2.2, Value.slice (G 1).1 (G 1).2.1 (G 1).2.2.1, .slice (G 1).2.2.2.1 (G 1).2.2.2.2.1 (G 1).2.2.2.2.2, Value.slice (G 2).1 (G 2).2.1 (G 2).2.2.1, .slice (G 2).2.2.2.1 (G 2).2.2.2.2.1 (G 2).2.2.2.2.2, Value.slice (G 3).1 (G 3).2.1 (G 3).2.2.1, .slice (G 3).2.2.2.1 (G 3).2.2.2.2.1 (G 3).2.2.2.2.2, Value.slice (G 4).1 (G 4).2.1 (G 4).2.2.1, .slice (G 4).2.2.2.1 (G 4).2.2.2.2.1 (G 4).2.2.2.2.2] 28)) we.heap.size 28 (dcells (hv G)) := RowAt.new _ _ _
            have HB15 := Lib.hid hb15
            have HOG2 := Lib.hid (DicOwn.ext hoG (Ext.alloc we (.cells #[Value.slice (G 0).1 (G 0).2.1 (G 0).2.2.1, .slice (G 0).2.2.2.1 (G 0).2.2.2.2.1 (G 0).2.2.2.2.2, Value.slice (G 1).1 (G 1).2.1 (G 1).2.2.1, .slice (G 1).2.2.2.1 (G 1).2.2.2.2.1 (G 1).2.2.2.2.2, Value.slice (G 2).1 (G 2).2.1 (G 2).2.2.1, .slice (G 2).2.2.2.1 (G 2).2.2.2.2.1 (G 2).2.2.2.2.2, Value.slice (G 3).1 (G 3).2.1 (G 3).2.2.1, .slice (G 3).2.2.2.1 (G 3).2.2.2.2.1 (G 3).2.2.2.2.2, Value.slice (G 4).1 (G 4).2.1 (G 4).2.2.1, .slice (G 4).2.2.2.1 (G 4).2.2.2.2.1 (G 4).2.2.2.2.2] 28)))
            have HX6F := Lib.hid (HX6.out.trans hxf)
            have HB9F := Lib.hid (HB9.out.ext hxf)
            have hwe : w6.heap.size ≤ we.heap.size := by have h1 := HX6.out.size; have h2 := hxe.size; omega
            have hws : w6.heap.size ≤ ws.heap.size := HX6.out.size
            obtain ⟨x15, hx15⟩ : ∃ x, we.heap.size = x := ⟨_, rfl⟩
            clear hxf hxe hb15 hoG HOG
            go_upto_region 17 with fail
            generalize we.alloc (.cells #[Value.slice (G 0).1 (G 0).2.1 (G 0).2.2.1, .slice (G 0).2.2.2.1 (G 0).2.2.2.2.1 (G 0).2.2.2.2.2, Value.slice (G 1).1 (G 1).2.1 (G 1).2.2.1, .slice (G 1).2.2.2.1 (G 1).2.2.2.2.1 (G 1).2.2.2.2.2, Value.slice (G 2).1 (G 2).2.1 (G 2).2.2.1, .slice (G 2).2.2.2.1 (G 2).2.2.2.2.1 (G 2).2.2.2.2.2, Value.slice (G 3).1 (G 3).2.1 (G 3).2.2.1, .slice (G 3).2.2.2.1 (G 3).2.2.2.2.1 (G 3).2.2.2.2.2, Value.slice (G 4).1 (G 4).2.1 (G 4).2.2.1, .slice (G 4).2.2.2.1 (G 4).2.2.2.2.1 (G 4).2.2.2.2.2] 28) = wf at *
            rw [hx15] at HB15 hwe
            try simp only [hx15]
            clear hx15
            obtain ⟨c0, c1, c2, c3, c4, c5, c6, c7, c8, c9⟩ := RowAt.facts10 (vs := hv F) (HB9F.out)
            unfold hv at c0 c1 c2 c3 c4 c5 c6 c7 c8 c9
            dsimp only at c0 c1 c2 c3 c4 c5 c6 c7 c8 c9
            have hcon := spoil_mid wb.heap.size (hv F) _ w6 wf HOF.out HX6F.out
            try unfold dv at hcon
            try unfold nv at hcon
            try unfold dcells at hcon
            try unfold ncells at hcon
            try unfold nsA at hcon
            try unfold ofV at hcon
            try unfold noV at hcon
            try unfold noN at hcon
            try unfold hv at hcon
            try dsimp only at hcon
            have HSP := Lib.hid hcon
            clear hcon
            go_wp2_with fail
            refine HSP.out.mono ?_
            rintro e wg ⟨rfl, hmid⟩
            clear c0 c1 c2 c3 c4 c5 c6 c7 c8 c9
            have hxg : Ext wb wg := Mid.ext (HXB6.out.trans HX6F.out) hmid (Nat.le_refl _)
            have HKG := Lib.hid (HKB.out.grow hxg)
            have HWG := Lib.hid (HWV.out.ext hxg)
            have HBG := Lib.hid (HBW.out.ext hxg)
            have HGG := Lib.hid (DicOwn.mid HOG2.out hmid hws)
            have HB15G := Lib.hid (RowAt.mid HB15.out hmid (.inr hwe))
            clear hxg hmid HSP HX6F HB9F
            have hcon := lawSame_yes (hv C) (hv W) E (cutD E) wg HKG.out.view HWG.out (cut_same HKG.out.cut)
            try unfold dv at hcon
            try unfold nv at hcon
            try unfold dcells at hcon
            try unfold ncells at hcon
            try unfold nsA at hcon
            try unfold ofV at hcon
            try unfold noV at hcon
            try unfold noN at hcon
            try unfold hv at hcon
            try dsimp only at hcon
            have HSM := Lib.hid hcon
            clear hcon
            obtain ⟨c0, c1, c2, c3, c4, c5, c6, c7, c8, c9⟩ := RowAt.facts10 (vs := hv C) (HKG.out.cur)
            unfold hv at c0 c1 c2 c3 c4 c5 c6 c7 c8 c9
            dsimp only at c0 c1 c2 c3 c4 c5 c6 c7 c8 c9
            obtain ⟨e0, e1, e2, e3, e4, e5, e6, e7, e8, e9⟩ := RowAt.facts10 (vs := hv W) (HBG.out)
            unfold hv at e0 e1 e2 e3 e4 e5 e6 e7 e8 e9
            dsimp only at e0 e1 e2 e3 e4 e5 e6 e7 e8 e9
            go_wp2_with fail
            refine HSM.out.mono ?_
            rintro e wh ⟨rfl, hxh⟩
            clear c0 c1 c2 c3 c4 c5 c6 c7 c8 c9
            clear e0 e1 e2 e3 e4 e5 e6 e7 e8 e9
            have HKZ := Lib.hid (HKG.out.grow hxh)
            have HGZ := Lib.hid (DicOwn.ext HGG.out hxh)
            have HB15Z := Lib.hid (HB15G.out.ext hxh)
            clear hxh HSM HKG HGG HB15G
            obtain ⟨c0, c1, c2, c3, c4, c5, c6, c7, c8, c9⟩ := RowAt.facts10 (vs := hv G) (HB15Z.out)
            unfold hv at c0 c1 c2 c3 c4 c5 c6 c7 c8 c9
            dsimp only at c0 c1 c2 c3 c4 c5 c6 c7 c8 c9
            obtain ⟨e0, e1, e2, e3, e4, e5, e6, e7, e8, e9⟩ := RowAt.facts10 (vs := hv C) (HKZ.out.cur)
            unfold hv at e0 e1 e2 e3 e4 e5 e6 e7 e8 e9
            dsimp only at e0 e1 e2 e3 e4 e5 e6 e7 e8 e9
            obtain ⟨g0, g1, g2, g3, g4, g5, g6, g7, g8, g9⟩ := HKZ.out.cur.facts10f
            go_wp2_with fail
            rw [set10]
            clear c0 c1 c2 c3 c4 c5 c6 c7 c8 c9
            clear e0 e1 e2 e3 e4 e5 e6 e7 e8 e9
            clear g0 g1 g2 g3 g4 g5 g6 g7 g8 g9
            have HKN := Lib.hid (HKZ.out.next HWY.out (b := ws.heap.size) (by have h1 := HKB.out.cur.lt; have h2 := HXB6.out.size; have h3 := HX6.out.size; omega) HGZ.out HES.out)
            go_roundg (L.length - (j + 1))
            case measure => have := Hg.out; omega
            case rel => exact ⟨j + 1, by omega, rfl, by go_num, Lib.hid ⟨_, _, HKN.out⟩⟩
        · have hcon := putU_no (hv C) kind s wb HKB.out.view HKB.out.s hss hok
          try unfold dv at hcon
          try unfold nv at hcon
          try unfold dcells at hcon
          try unfold ncells at hcon
          try unfold nsA at hcon
          try unfold ofV at hcon
          try unfold noV at hcon
          try unfold noN at hcon
          try unfold hv at hcon
          try dsimp only at hcon
          have HPT := Lib.hid hcon
          clear hcon
          go_wp2_with fail
          refine HPT.out.mono ?_
          rintro e w6 ⟨F, rfl, hoF, hFN, hx6⟩
          clear c0 c1 c2 c3 c4 c5 c6 c7 c8 c9
          have HFN := Lib.hid hFN
          clear p1 p2
          have hx6' := Ext.alloc w6 (.cells #[Value.slice (F 0).1 (F 0).2.1 (F 0).2.2.1, .slice (F 0).2.2.2.1 (F 0).2.2.2.2.1 (F 0).2.2.2.2.2, Value.slice (F 1).1 (F 1).2.1 (F 1).2.2.1, .slice (F 1).2.2.2.1 (F 1).2.2.2.2.1 (F 1).2.2.2.2.2, Value.slice (F 2).1 (F 2).2.1 (F 2).2.2.1, .slice (F 2).2.2.2.1 (F 2).2.2.2.2.1 (F 2).2.2.2.2.2, Value.slice (F 3).1 (F 3).2.1 (F 3).2.2.1, .slice (F 3).2.2.2.1 (F 3).2.2.2.2.1 (F 3).2.2.2.2.2, Value.slice (F 4).1 (F 4).2.1 (F 4).2.2.1, .slice (F 4).2.2.2.1 (F 4).2.2.2.2.1 (F 4).2.2.2.2.2] 28)
          have hb9 : RowAt (w6.alloc (.cells #[Value.slice (F 0).1 (F 0).2.1 (F 0).2.2.1, .slice (F 0).2.2.2.1 (F 0).2.2.2.2.1 (F 0).2.2.2.2.2, Value.slice (F 1).1 (F 1).2.1 (F 1).2.2.1, .slice (F 1).2.2.2.1 (F 1).2.2.2.2.1 (F 1).2.2.2.2.2, Value.slice (F 2).1 (F 2).2.1 (F 2).2.2.1, .slice (F 2).2.2.2.1 (F 2).2.2.2.2.1 (F 2).2.2.2.2.2, Value.slice (F 3).1 (F 3).2.1 (F 3).2.2.1, .slice (F 3).2.2.2.1 (F 3).2.2.2.2.1 (F 3).2.2.2.2.2, Value.slice (F 4).1 (F 4).2.1 (F 4).2.2.1, .slice (F 4).2.2.2.1 (F 4).2.2.2.2.1 (F 4).2.2.2.2.2] 28)) w6.heap.size 28 (dcells (hv F)) := RowAt.new _ _ _
          have hx66 : Ext w6 ((w6.alloc (.cells #[Value.slice (F 0).1 (F 0).2.1 (F 0).2.2.1, .slice (F 0).2.2.2.1 (F 0).2.2.2.2.1 (F 0).2.2.2.2.2, Value.slice (F 1).1 (F 1).2.1 (F 1).2.2.1, .slice (F 1).2.2.2.1 (F 1).2.2.2.2.1 (F 1).2.2.2.2.2, Value.slice (F 2).1 (F 2).2.1 (F 2).2.2.1, .slice (F 2).2.2.2.1 (F 2).2.2.2.2.1 (F 2).2.2.2.2.2, Value.slice (F 3).1 (F 3).2.1 (F 3).2.2.1, .slice (F 3).2.2.2.1 (F 3).2.2.2.2.1 (F 3).2.2.2.2.2, Value.slice (F 4).1 (F 4).2.1 (F 4).2.2.1, .slice (F 4).2.2.2.1 (F 4).2.2.2.2.1 (F 4).2.2.2.2.2] 28)).alloc (.cells #[.slice none 0 0, .slice none 0 0, .slice none 0 0, .slice none 0 0, .slice none 0 0] 37)) := hx6'.trans (Ext.alloc _ _)
          have hb12 : RowAt ((w6.alloc (.cells #[Value.slice (F 0).1 (F 0).2.1 (F 0).2.2.1, .slice (F 0).2.2.2.1 (F 0).2.2.2.2.1 (F 0).2.2.2.2.2, Value.slice (F 1).1 (F 1).2.1 (F 1).2.2.1, .slice (F 1).2.2.2.1 (F 1).2.2.2.2.1 (F 1).2.2.2.2.2, Value.slice (F 2).1 (F 2).2.1 (F 2).2.2.1, .slice (F 2).2.2.2.1 (F 2).2.2.2.2.1 (F 2).2.2.2.2.2, Value.slice (F 3).1 (F 3).2.1 (F 3).2.2.1, .slice (F 3).2.2.2.1 (F 3).2.2.2.2.1 (F 3).2.2.2.2.2, Value.slice (F 4).1 (F 4).2.1 (F 4).2.2.1, .slice (F 4).2.2.2.1 (F 4).2.2.2.2.1 (F 4).2.2.2.2.2] 28)).alloc (.cells #[.slice none 0 0, .slice none 0 0, .slice none 0 0, .slice none 0 0, .slice none 0 0] 37)) (w6.heap.size + 1) 37 (ncells noN) := row_at (xs := ncells noN) (by simp)
          have HB9 : Hid (RowAt ((w6.alloc (.cells #[Value.slice (F 0).1 (F 0).2.1 (F 0).2.2.1, .slice (F 0).2.2.2.1 (F 0).2.2.2.2.1 (F 0).2.2.2.2.2, Value.slice (F 1).1 (F 1).2.1 (F 1).2.2.1, .slice (F 1).2.2.2.1 (F 1).2.2.2.2.1 (F 1).2.2.2.2.2, Value.slice (F 2).1 (F 2).2.1 (F 2).2.2.1, .slice (F 2).2.2.2.1 (F 2).2.2.2.2.1 (F 2).2.2.2.2.2, Value.slice (F 3).1 (F 3).2.1 (F 3).2.2.1, .slice (F 3).2.2.2.1 (F 3).2.2.2.2.1 (F 3).2.2.2.2.2, Value.slice (F 4).1 (F 4).2.1 (F 4).2.2.1, .slice (F 4).2.2.2.1 (F 4).2.2.2.2.1 (F 4).2.2.2.2.2] 28)).alloc (.cells #[.slice none 0 0, .slice none 0 0, .slice none 0 0, .slice none 0 0, .slice none 0 0] 37)) w6.heap.size 28 (dcells (hv F))) := Lib.hid (hb9.ext (Ext.alloc _ _))
          have HB12 := Lib.hid hb12
          have HOF := Lib.hid hoF
          have HX6 := Lib.hid hx66
          have HXB6 := Lib.hid hx6
          obtain ⟨x9, hx9⟩ : ∃ x, w6.heap.size = x := ⟨_, rfl⟩
          clear hx6 hx6' hb9 hx66 hb12 hoF HPT
          go_upto_region 11 with fail
          generalize (w6.alloc (.cells #[Value.slice (F 0).1 (F 0).2.1 (F 0).2.2.1, .slice (F 0).2.2.2.1 (F 0).2.2.2.2.1 (F 0).2.2.2.2.2, Value.slice (F 1).1 (F 1).2.1 (F 1).2.2.1, .slice (F 1).2.2.2.1 (F 1).2.2.2.2.1 (F 1).2.2.2.2.2, Value.slice (F 2).1 (F 2).2.1 (F 2).2.2.1, .slice (F 2).2.2.2.1 (F 2).2.2.2.2.1 (F 2).2.2.2.2.2, Value.slice (F 3).1 (F 3).2.1 (F 3).2.2.1, .slice (F 3).2.2.2.1 (F 3).2.2.2.2.1 (F 3).2.2.2.2.2, Value.slice (F 4).1 (F 4).2.1 (F 4).2.2.1, .slice (F 4).2.2.2.1 (F 4).2.2.2.2.1 (F 4).2.2.2.2.2] 28)).alloc (.cells #[.slice none 0 0, .slice none 0 0, .slice none 0 0, .slice none 0 0, .slice none 0 0] 37) = w7 at *
          rw [hx9] at HB9 HB12
          try simp only [hx9]
          have HX9 := Lib.hid hx9
          clear hx9
          obtain ⟨c0, c1, c2, c3, c4, c5, c6, c7, c8, c9⟩ := RowAt.facts10 (vs := hv C) (((HKB.out.cur.ext HXB6.out).ext HX6.out))
          unfold hv at c0 c1 c2 c3 c4 c5 c6 c7 c8 c9
          dsimp only at c0 c1 c2 c3 c4 c5 c6 c7 c8 c9
          have HES : Hid (DicS noD) := Lib.hid noD_s
          have hcon := dright_no (hv C) E w7 ((HKB.out.view.ext HXB6.out).ext HX6.out) HKB.out.s hok
          try unfold dv at hcon
          try unfold nv at hcon
          try unfold dcells at hcon
          try unfold ncells at hcon
          try unfold nsA at hcon
          try unfold ofV at hcon
          try unfold noV at hcon
          try unfold noN at hcon
          try unfold hv at hcon
          try dsimp only at hcon
          have HRI := Lib.hid hcon
          clear hcon
          go_wp2_with fail
          refine HRI.out.mono ?_
          rintro e wz ⟨rfl, hx8⟩
          clear c0 c1 c2 c3 c4 c5 c6 c7 c8 c9
          replace HX6 := Lib.hid (HX6.out.trans hx8)
          replace HB9 := Lib.hid (HB9.out.ext hx8)
          replace HB12 := Lib.hid (HB12.out.ext hx8)
          clear hx8 HRI
          go_upto_region 14 with fail
          refine wp_region_gro groP14 [0, 1, 2, 3, 4, 5, 6, 7, 8, 9, 10, 11, 12, 13, 14, 15, 16, 17, 18, 19, 20, 21, 22, 23, 24, 25, 27, 26, 28, 29, 30, 31, 32] hmo (by kernel_rfl) rfl (by kernel_rfl) (fun _ _ _ _ _ h => h) ?_
          have hdr : Ext wz wz.drew := Ext.drewN wz 1
          try replace HNA2 := Lib.hid (NamV.ext HNA2.out hdr)
          replace HX6 := Lib.hid (HX6.out.trans hdr)
          replace HB9 := Lib.hid (HB9.out.ext hdr)
          replace HB12 := Lib.hid (HB12.out.ext hdr)
          clear hdr
          generalize wz.drew = wt at *
          repeat (first
            | (refine groL_pure rfl rfl ?_; intro K hK; go_simp; refine hK _ ?_; clear hK K)
            | (refine groL_read rfl rfl ?_; intro K S hS hK; go_simp; refine hK _ ?_; clear hK K hS S)
            | (refine groL_read rfl rfl ?_; intro K S hS hK; go_simp; refine ⟨hS _ ?_, hK _ ?_⟩; (clear hK K hS S; intro w' hx'; have hce := ext_some hx'; go_simp); clear hK K hS S)
            | (refine groL_write rfl rfl ?_; intro K hK; go_simp; refine hK _ _ ?_; clear hK K))
          have hcon := noneU HFN.out wt
          try unfold dv at hcon
          try unfold nv at hcon
          try unfold dcells at hcon
          try unfold ncells at hcon
          try unfold nsA at hcon
          try unfold ofV at hcon
          try unfold noV at hcon
          try unfold noN at hcon
          try unfold hv at hcon
          try dsimp only at hcon
          have HNO := Lib.hid hcon
          clear hcon
          obtain ⟨c0, c1, c2, c3, c4, c5, c6, c7, c8, c9⟩ := RowAt.facts10 (vs := hv F) (HB9.out)
          unfold hv at c0 c1 c2 c3 c4 c5 c6 c7 c8 c9
          dsimp only at c0 c1 c2 c3 c4 c5 c6 c7 c8 c9
          repeat (first
            | (refine groL_pure rfl rfl ?_; intro K hK; go_simp; refine hK _ ?_; clear hK K)
            | (refine groL_read rfl rfl ?_; intro K S hS hK; go_simp; refine hK _ ?_; clear hK K hS S)
            | (refine groL_read rfl rfl ?_; intro K S hS hK; go_simp; refine ⟨hS _ ?_, hK _ ?_⟩; (clear hK K hS S; intro w' hx'; have hce := ext_some hx'; go_simp); clear hK K hS S)
            | (refine groL_write rfl rfl ?_; intro K hK; go_simp; refine hK _ _ ?_; clear hK K))
          refine groL_grow rfl rfl ?_
          intro K hK
          go_simp
          (refine HNO.out.mono ?_; rintro e ws ⟨rfl, hxs⟩)
          go_simp
          refine hK _ _ ⟨hxs, ?_⟩
          clear hK K
          clear c0 c1 c2 c3 c4 c5 c6 c7 c8 c9
          repeat (first
            | (refine groL_pure rfl rfl ?_; intro K hK; go_simp; refine hK _ ?_; clear hK K)
            | (refine groL_read rfl rfl ?_; intro K S hS hK; go_simp; refine hK _ ?_; clear hK K hS S)
            | (refine groL_read rfl rfl ?_; intro K S hS hK; go_simp; refine ⟨hS _ ?_, hK _ ?_⟩; (clear hK K hS S; intro w' hx'; have hce := ext_some hx'; go_simp); clear hK K hS S)
            | (refine groL_grow rfl rfl ?_; intro K hK; go_simp; refine hK _ _ ⟨Ext.refl _, ?_⟩; clear hK K))
          refine groL_nil ?_
          replace HX6 := Lib.hid (HX6.out.trans hxs)
          replace HB9 := Lib.hid (HB9.out.ext hxs)
          clear hxs HB12
          obtain ⟨c0, c1, c2, c3, c4, c5, c6, c7, c8, c9⟩ := RowAt.facts10 (vs := hv F) (HB9.out)
          unfold hv at c0 c1 c2 c3 c4 c5 c6 c7 c8 c9
          dsimp only at c0 c1 c2 c3 c4 c5 c6 c7 c8 c9
          have hcon := lawOwn_hv F _ ws (HOF.out.ext HX6.out).view
          try unfold dv at hcon
          try unfold nv at hcon
          try unfold dcells at hcon
          try unfold ncells at hcon
          try unfold nsA at hcon
          try unfold ofV at hcon
          try unfold noV at hcon
          try unfold noN at hcon
          try unfold hv at hcon
          try dsimp only at hcon
          have HOG := Lib.hid hcon
          clear hcon
          go_wp2_with fail
          refine HOG.out.mono ?_
          rintro e we ⟨G, rfl, hoG, hxe⟩
          clear c0 c1 c2 c3 c4 c5 c6 c7 c8 c9
          have hxf := hxe.trans (Ext.alloc we (.cells #[Value.slice (G 0).1 (G 0).2.1 (G 0).2.2.1, .slice (G 0).2.2.2.1 (G 0).2.2.2.2.1 (G 0).2.2.2.2.2, Value.slice (G 1).1 (G 1).2.1 (G 1).2.2.1, .slice (G 1).2.2.2.1 (G 1).2.2.2.2.1 (G 1).2.2.2.2.2, Value.slice (G 2).1 (G 2).2.1 (G 2).2.2.1, .slice (G 2).2.2.2.1 (G 2).2.2.2.2.1 (G 2).2.2.2.2.2, Value.slice (G 3).1 (G 3).2.1 (G 3).2.2.1, .slice (G 3).2.2.2.1 (G 3).2.2.2.2.1 (G 3).2.2.2.2.2, Value.slice (G 4).1 (G 4).2.1 (G 4).2.2.1, .slice (G 4).2.2.2.1 (G 4).2.2.2.2.1 (G 4).2.2.2.2.2] 28))
          have hb15 : RowAt (we.alloc (.cells #[Value.slice (G 0).1 (G 0).2.1 (G 0).2.2.1, .slice (G 0).2.2.2.1 (G 0).2.2.2.2.1 (G 0).2.2.2.2.2, Value.slice (G 1).1 (G 1).2.1 (G 1).2.2.1, .slice (G 1).2.2.2.1 (G 1).2.2.2.2.1 (G 1).2.2.2.2.2, Value.slice (G 2).1 (G 2).2.1 (G 2).2.2.1, .slice (G 2).2.2.2.1 (G 2).2.2.2.2.1 (G 2).2.2.2.2.2, Value.slice (G 3).1 (G 3).2.1 (G 3).2.2.1, .slice (G 3).2.2.2.1 (G 3).2.2.2.2.1 (G 3).2.2.2.2.2, Value.slice (G 4).1 (G 4).2.1 (G 4).2.2.1, .slice (G 4).2.2.2.1 (G 4).2.2.2.2.1 (G 4).2.2.2.2.2] 28)) we.heap.size 28 (dcells (hv G)) := RowAt.new _ _ _
          have HB15 := Lib.hid hb15
          have HOG2 := Lib.hid (DicOwn.ext hoG (Ext.alloc we (.cells #[Value.slice (G 0).1 (G 0).2.1 (G 0).2.2.1, .slice (G 0).2.2.2.1 (G 0).2.2.2.2.1 (G 0).2.2.2.2.2, Value.slice (G 1).1 (G 1).2.1 (G 1).2.2.1, .slice (G 1).2.2.2.1 (G 1).2.2.2.2.1 (G 1).2.2.2.2.2, Value.slice (G 2).1 (G 2).2.1 (G 2).2.2.1, .slice (G 2).2.2.2.1 (G 2).2.2.2.2.1 (G 2).2.2.2.2.2, Value.slice (G 3).1 (G 3).2.1 (G 3).2.2.1, .slice (G 3).2.2.2.1 (G 3).2.2.2.2.1 (G 3).2.2.2.2.2, Value.slice (G 4).1 (G 4).2.1 (G 4).2.2.1, .slice (G 4).2.2.2.1 (G 4).2.2.2.2.1 (G 4).2.2.2.2.2] 28)))
          have HX6F := Lib.hid (HX6.out.trans hxf)
          have HB9F := Lib.hid (HB9.out.ext hxf)
          have hwe : w6.heap.size ≤ we.heap.size := by have h1 := HX6.out.size; have h2 := hxe.size; omega
          have hws : w6.heap.size ≤ ws.heap.size := HX6.out.size
          obtain ⟨x15, hx15⟩ : ∃ x, we.heap.size = x := ⟨_, rfl⟩
          clear hxf hxe hb15 hoG HOG
          go_upto_region 17 with fail
          generalize we.alloc (.cells #[Value.slice (G 0).1 (G 0).2.1 (G 0).2.2.1, .slice (G 0).2.2.2.1 (G 0).2.2.2.2.1 (G 0).2.2.2.2.2, Value.slice (G 1).1 (G 1).2.1 (G 1).2.2.1, .slice (G 1).2.2.2.1 (G 1).2.2.2.2.1 (G 1).2.2.2.2.2, Value.slice (G 2).1 (G 2).2.1 (G 2).2.2.1, .slice (G 2).2.2.2.1 (G 2).2.2.2.2.1 (G 2).2.2.2.2.2, Value.slice (G 3).1 (G 3).2.1 (G 3).2.2.1, .slice (G 3).2.2.2.1 (G 3).2.2.2.2.1 (G 3).2.2.2.2.2, Value.slice (G 4).1 (G 4).2.1 (G 4).2.2.1, .slice (G 4).2.2.2.1 (G 4).2.2.2.2.1 (G 4).2.2.2.2.2] 28) = wf at *
          rw [hx15] at HB15 hwe
          try simp only [hx15]
          clear hx15
          obtain ⟨c0, c1, c2, c3, c4, c5, c6, c7, c8, c9⟩ := RowAt.facts10 (vs := hv F) (HB9F.out)
          unfold hv at c0 c1 c2 c3 c4 c5 c6 c7 c8 c9
          dsimp only at c0 c1 c2 c3 c4 c5 c6 c7 c8 c9
          have hcon := spoil_mid wb.heap.size (hv F) _ w6 wf HOF.out HX6F.out
          try unfold dv at hcon
          try unfold nv at hcon
          try unfold dcells at hcon
          try unfold ncells at hcon
          try unfold nsA at hcon
          try unfold ofV at hcon
          try unfold noV at hcon
          try unfold noN at hcon
          try unfold hv at hcon
          try dsimp only at hcon
          have HSP := Lib.hid hcon
          clear hcon
          go_wp2_with fail
          refine HSP.out.mono ?_
          rintro e wg ⟨rfl, hmid⟩
          clear c0 c1 c2 c3 c4 c5 c6 c7 c8 c9
          have hxg : Ext wb wg := Mid.ext (HXB6.out.trans HX6F.out) hmid (Nat.le_refl _)
          have HKG := Lib.hid (HKB.out.grow hxg)
          have HWG := Lib.hid (HWV.out.ext hxg)
          have HBG := Lib.hid (HBW.out.ext hxg)
          have HGG := Lib.hid (DicOwn.mid HOG2.out hmid hws)
          have HB15G := Lib.hid (RowAt.mid HB15.out hmid (.inr hwe))
          clear hxg hmid HSP HX6F HB9F
          have hcon := lawSame_yes (hv C) (hv W) E (cutD E) wg HKG.out.view HWG.out (cut_same HKG.out.cut)
          try unfold dv at hcon
          try unfold nv at hcon
          try unfold dcells at hcon
          try unfold ncells at hcon
          try unfold nsA at hcon
          try unfold ofV at hcon
          try unfold noV at hcon
          try unfold noN at hcon
          try unfold hv at hcon
          try dsimp only at hcon
          have HSM := Lib.hid hcon
          clear hcon
          obtain ⟨c0, c1, c2, c3, c4, c5, c6, c7, c8, c9⟩ := RowAt.facts10 (vs := hv C) (HKG.out.cur)
          unfold hv at c0 c1 c2 c3 c4 c5 c6 c7 c8 c9
          dsimp only at c0 c1 c2 c3 c4 c5 c6 c7 c8 c9
          obtain ⟨e0, e1, e2, e3, e4, e5, e6, e7, e8, e9⟩ := RowAt.facts10 (vs := hv W) (HBG.out)
          unfold hv at e0 e1 e2 e3 e4 e5 e6 e7 e8 e9
          dsimp only at e0 e1 e2 e3 e4 e5 e6 e7 e8 e9
          go_wp2_with fail
          refine HSM.out.mono ?_
          rintro e wh ⟨rfl, hxh⟩
          clear c0 c1 c2 c3 c4 c5 c6 c7 c8 c9
          clear e0 e1 e2 e3 e4 e5 e6 e7 e8 e9
          have HKZ := Lib.hid (HKG.out.grow hxh)
          have HGZ := Lib.hid (DicOwn.ext HGG.out hxh)
          have HB15Z := Lib.hid (HB15G.out.ext hxh)
          clear hxh HSM HKG HGG HB15G
          go_wp2_with fail
          go_roundg (L.length - (j + 1))
          case measure => have := Hg.out; omega
          case rel => exact ⟨j + 1, by omega, rfl, by go_num, Lib.hid ⟨_, _, HKZ.out⟩⟩
    · go_wp2_with fail
      go_ret
      exact ⟨rfl, HK.out.ext⟩
end Go.Proofs.Ytogoejlbdbapoaa
