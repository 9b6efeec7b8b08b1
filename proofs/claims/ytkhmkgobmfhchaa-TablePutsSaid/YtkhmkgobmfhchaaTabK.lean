/- All, New. -/
import Derived.Test.YtkhmkgobmfhchaaTabJ
import Derived.Deep.RegionLaw
namespace Go.Proofs.Ytkhmkgobmfhchaa
open Go.RowKit Go.Shelf Go.Sort
set_option linter.unusedVariables false

theorem new_any (w : World) : Calls Try.prog 27 #[] w fun e w' => ∃ v, e = .returned v ∧ TabOwn w.heap.size w' v [] (List.replicate 8 0) ∧ Ext w w' := by
  have hmI : ∀ w, (Instr.makeSlice 23 (.int .i64 8) (.int .i64 8)).run Try.prog w = .ok (.slice (some ⟨w.heap.size, 0, none⟩) 8 8) (w.alloc (.cells (List.replicate 8 (.int .i64 0)).toArray 3)) := fun w => make_I 8 (by omega) w
  go_enter Try.func27, Try.ntmps27
  go_wp2
  have hrow : RowAt ((w.alloc (.cells #[.slice none 0 0, .slice (some ⟨w.heap.size + 1, 0, none⟩) 8 8] 25)).alloc (.cells #[.int .i64 0, .int .i64 0, .int .i64 0, .int .i64 0, .int .i64 0, .int .i64 0, .int .i64 0, .int .i64 0] 3)) (w.heap.size + 1) 3 ((List.replicate 8 0).map (Value.int .i64)) := row_at (by simp)
  exact bodyPost_ret (v := .agg #[.slice none 0 0, .slice (some ⟨w.heap.size + 1, 0, none⟩) 8 8]) (by simp [results, Try.results27, go_sem]) rfl ⟨_, rfl, ⟨_, _, _, _, _, _, rfl, World.ownsRow_nil _ _ _ _, hrow.own (Nat.le_succ _) (by unfold maxLen; decide)⟩, (Ext.alloc _ _).trans (Ext.alloc _ _)⟩

theorem putF_ok {T : List ByteArray} {S : List Int} {s : ByteArray} {T' : List ByteArray} {S' : List Int} {n : Int} (h : TabOK T S) (hp : putF T S s = some (T', S', n)) : TabOK T' S' ∧ (∀ x ∈ T', x ∈ T ∨ x = s) ∧ S'.length ≤ max S.length 4096 ∧ 0 ≤ n ∧ n < T'.length := by
  unfold putF at hp
  split at hp
  · cases hp
    have := findF_range T s
    exact ⟨h, fun x hx => .inl hx, by omega, by omega, by omega⟩
  · rename_i hf
    split at hp
    · cases hp
    · rename_i hn
      cases hp
      have hmost := h.most
      have hs : s ∉ T := findF_no.1 (by have := findF_range T s; omega)
      refine ⟨h.more hs (by omega), fun x hx => ?_, ?_, by omega, by simp; omega⟩
      · rcases List.mem_append.1 hx with h | h
        · exact .inl h
        · exact .inr (by simpa using h)
      · rw [laidN_len]
        unfold moreN
        split <;> omega
/-- One text after another. -/
def allF : List ByteArray → List ByteArray → List Int → List Int → Option (List ByteArray × List Int × List Int)
  | [], T, S, ns => some (T, S, ns)
  | s :: l, T, S, ns => match putF T S s with
    | none => none
    | some (T', S', n) => allF l T' S' (ns ++ [n])
theorem Strs.below {B : Nat} {w w' : World} {v : Value} {ss : List ByteArray} (h : Strs w v ss) (hb : Below B w w') (hB : w.heap.size ≤ B) : Strs w' v ss := Sl.below h hb hB
theorem step_append_sl {P : Program} {w : World} {ops : Array Oper} {o : Oper} {a : Act} {K : Act → World → Prop} {Q : Exit → Act → World → Prop} {E : Prop} (hgd : o.guard = none) (s x : Operand) (t : TypeId)
    (ho : o.op = .call { callee := .builtin .append, args := #[s, x], argTypes := #[t, t] })
    {base : Nat} {e : TypeId} {z : Value} {size bytes : Nat} (T : ElT P t e z size bytes) {v : Value} {n : Nat} {xs : List Value} (hs : a.eval s = v) (hown : w.ownsRow base e size v n xs)
    {u : Value} {m : Nat} {news : List Value} (hx : a.eval x = u) (hu : Sl w u m news) (hl : news.length = m * size)
    (h1 : ∀ x ∈ news, x.oneCell' = true) (hb : (n + m) * bytes ≤ 140737488355328) (h63 : n + m ≤ maxLen) (hbase : base ≤ w.heap.size)
    (h : ∀ v' w', w'.ownsRow base e size v' (n + m) (xs ++ news) → Below base w w' → w.grownBy w' v.ownBlock → AppAt v v' w → K (a.put o.dst v') w') :
    if Region.wanted o (yielded ops a.tmps) = true then Oper.wp P o a w K Q else E := by
  rw [if_pos (by simp [Region.wanted, hgd])]
  exact wp_append_sl w s x t ho T hs hown hx hu hl h1 hb h63 hbase h
theorem row_not_own {w : World} {g base size n : Nat} {t e : TypeId} {xs ys : List Value} {v : Value} (h : RowAt w g t xs) (hne : t ≠ e) (ho : w.ownsRow base e size v n ys) : v.ownBlock ≠ some g := by
  intro hv
  rcases ho.2 with ⟨rfl, _⟩ | ⟨k, cap, cur, rfl, _, hk, _⟩
  · cases hv
  · cases hv
    rw [show w.heap[k]? = _ from h] at hk
    simp only [Option.some.injEq, Obj.cells.injEq] at hk
    exact hne hk.2.1
theorem own_kept {w w' : World} {B size n : Nat} {e : TypeId} {v : Value} {xs : List Value} {row : Option Nat} (h : w.ownsRow B e size v n xs) (hg : w.grownBy w' row) (hne : ∀ g, row = some g → g < B) : w'.ownsRow B e size v n xs := by
  refine ⟨h.1, ?_⟩
  rcases h.2 with hn | ⟨k, cap, cur, rfl, hbg, hgg, rest⟩
  · exact .inl hn
  · exact .inr ⟨k, cap, cur, rfl, hbg, (hg.block k (Array.getElem?_eq_some_iff.1 hgg).1 (fun e => by have := hne k e.symm; omega)).trans hgg, rest⟩
theorem own_set_ne {w : World} {B size n : Nat} {e : TypeId} {v : Value} {xs : List Value} (h : w.ownsRow B e size v n xs) {g : Nat} (hg : v.ownBlock ≠ some g) (i : Nat) (u : Value) : (w.setCell ⟨g, i, none⟩ u).ownsRow B e size v n xs := by
  refine ⟨h.1, ?_⟩
  rcases h.2 with hn | ⟨k, cap, cur, rfl, hbg, hgg, rest⟩
  · exact .inl hn
  · exact .inr ⟨k, cap, cur, rfl, hbg, ((grown_set w g i u).block k (Array.getElem?_eq_some_iff.1 hgg).1 (fun e => hg (by cases e; rfl))).trans hgg, rest⟩
theorem TabOwn.set2 {B : Nat} {w : World} {v : Value} {T : List ByteArray} {S : List Int} (h : TabOwn B w v T S) {g : Nat} {t : TypeId} {xs : List Value} (hr : RowAt w g t xs) (h1 : t ≠ 9) (h2 : t ≠ 3) (x y : Value) :
    TabOwn B ((w.setCell ⟨g, 0, none⟩ x).setCell ⟨g, 1, none⟩ y) v T S := by
  obtain ⟨a, n, c, b, m, d, rfl, h3, h4⟩ := h
  have n3 := row_not_own hr h1 h3
  have n4 := row_not_own hr h2 h4
  exact ⟨a, n, c, b, m, d, rfl, own_set_ne (own_set_ne h3 n3 0 x) n3 1 y, own_set_ne (own_set_ne h4 n4 0 x) n4 1 y⟩
def AllPost (w0 : World) (r : Option (List ByteArray × List Int × List Int)) (e : Ending) (w' : World) : Prop := Ext w0 w' ∧
  match r with
  | some (T, S, ns) => ∃ v u, e = .returned (.tuple #[v, u, .int .i64 0]) ∧ TabOwn w0.heap.size w' v T S ∧ w'.ownsRow w0.heap.size 3 1 u ns.length (ns.map (Value.int .i64))
  | none => e = .returned (.tuple #[nilTab, .slice none 0 0, .int .i64 6])

set_option maxRecDepth 100000 in
set_option maxHeartbeats 1000000 in
theorem all_no (T : List ByteArray) (S : List Int) (l : List ByteArray) (a : Option Addr) (n c : Nat) (b : Option Addr) (m d : Nat) (a3 : Option Addr) (n3 c3 : Nat) (w : World) (hT : Strs w (.slice a n c) T) (hS : Ints w .i64 (.slice b m d) S)
    (hm : m ≤ 1048576) (hTs : ∀ s ∈ T, s.size ≤ 9223372036854775807) (hno : ¬ TabOK T S) : Calls Try.prog 23 #[.agg #[.slice a n c, .slice b m d], .slice a3 n3 c3] w fun e w' => e = .returned (.tuple #[nilTab, .slice none 0 0, .int .i64 150]) ∧ Ext w w' := by
  have Hno := Lib.hid hno
  have HTs := Lib.hid hTs
  clear hno hTs
  go_enter Try.func23, Try.ntmps23
  go_upto_region 1 with fail
  have hx1 : Ext w ((w.alloc (.cells #[.slice a n c, .slice b m d] 25)).alloc (.cells #[.slice none 0 0, .slice none 0 0] 25)) := (Ext.alloc _ _).trans (Ext.alloc _ _)
  have b0 : ((w.alloc (.cells #[.slice a n c, .slice b m d] 25)).alloc (.cells #[.slice none 0 0, .slice none 0 0] 25)).cell? ⟨w.heap.size, 0, none⟩ = some (.slice a n c) := by simp [go_sem]
  have b1 : ((w.alloc (.cells #[.slice a n c, .slice b m d] 25)).alloc (.cells #[.slice none 0 0, .slice none 0 0] 25)).cell? ⟨w.heap.size, 1, none⟩ = some (.slice b m d) := by simp [go_sem]
  have hr : RowAt ((w.alloc (.cells #[.slice a n c, .slice b m d] 25)).alloc (.cells #[.slice none 0 0, .slice none 0 0] 25)) (w.heap.size + 1) 25 [.slice none 0 0, .slice none 0 0] := row_at (by simp)
  generalize ((w.alloc (.cells #[.slice a n c, .slice b m d] 25)).alloc (.cells #[.slice none 0 0, .slice none 0 0] 25)) = w1 at *
  have HS := Lib.hid (hS.ext hx1)
  have HT := Lib.hid (hT.ext hx1)
  go_wp2_with fail
  refine (check_no HT.out HS.out hm HTs.out Hno.out).mono ?_
  rintro e w2 ⟨rfl, hx2⟩
  have hr2 := hr.ext hx2
  have r0 := hr2.cell (i := 0) rfl
  have r1 := hr2.cell (i := 1) rfl
  have f0 := hr2.frozen 0
  have f1 := hr2.frozen 1
  have hB2 : Below w.heap.size w w2 := hx1.trans hx2
  clear hr hr2
  go_wp2
  exact bodyPost_ret (v := .tuple #[nilTab, .slice none 0 0, .int .i64 150]) (by simp [results, Try.results23, go_sem, r0, r1, nilTab]) rfl ⟨rfl, below_set2 hB2 (by omega) _ _⟩

set_option maxRecDepth 100000 in
set_option maxHeartbeats 1000000 in
theorem all_yes (T : List ByteArray) (S : List Int) (l : List ByteArray) (a : Option Addr) (n c : Nat) (b : Option Addr) (m d : Nat) (v3 : Value) (w : World) (hT : Strs w (.slice a n c) T) (hS : Ints w .i64 (.slice b m d) S)
    (hL : Strs w v3 l) (hl : l.length ≤ 1048576) (hls : ∀ s ∈ l, s.size ≤ 9223372036854775807)
    (hm : m ≤ 500000) (hTs : ∀ s ∈ T, s.size ≤ 9223372036854775807) (hok : TabOK T S) : Calls Try.prog 23 #[.agg #[.slice a n c, .slice b m d], v3] w (AllPost w (allF l T S [])) := by
  obtain ⟨a3, c3, rfl, hc31, hc32⟩ := Sl.shape hL
  have Hok := Lib.hid hok
  have HTs := Lib.hid hTs
  have Hls := Lib.hid hls
  have hlen := Lib.hid hS.len
  have hT2 : T.length ≤ 1048576 := by have := hok.most; omega
  have hS2 : S.length ≤ 1048576 := by have := hlen.out; omega
  generalize hpf : allF l T S [] = pf
  have Hpf := Lib.hid hpf
  clear hok hTs hpf hls
  go_enter Try.func23, Try.ntmps23
  go_upto_region 1 with fail
  have hbox : RowAt ((w.alloc (.cells #[.slice a n c, .slice b m d] 25)).alloc (.cells #[.slice none 0 0, .slice none 0 0] 25)) w.heap.size 25 [.slice a n c, .slice b m d] := (RowAt.new w 25 [.slice a n c, .slice b m d]).ext (Ext.alloc _ _)
  have hx1 : Ext w ((w.alloc (.cells #[.slice a n c, .slice b m d] 25)).alloc (.cells #[.slice none 0 0, .slice none 0 0] 25)) := (Ext.alloc _ _).trans (Ext.alloc _ _)
  have b0 : ((w.alloc (.cells #[.slice a n c, .slice b m d] 25)).alloc (.cells #[.slice none 0 0, .slice none 0 0] 25)).cell? ⟨w.heap.size, 0, none⟩ = some (.slice a n c) := by simp [go_sem]
  have b1 : ((w.alloc (.cells #[.slice a n c, .slice b m d] 25)).alloc (.cells #[.slice none 0 0, .slice none 0 0] 25)).cell? ⟨w.heap.size, 1, none⟩ = some (.slice b m d) := by simp [go_sem]
  have hr : RowAt ((w.alloc (.cells #[.slice a n c, .slice b m d] 25)).alloc (.cells #[.slice none 0 0, .slice none 0 0] 25)) (w.heap.size + 1) 25 [.slice none 0 0, .slice none 0 0] := row_at (by simp)
  generalize ((w.alloc (.cells #[.slice a n c, .slice b m d] 25)).alloc (.cells #[.slice none 0 0, .slice none 0 0] 25)) = w1 at *
  have HS := Lib.hid (hS.ext hx1)
  have HT := Lib.hid (hT.ext hx1)
  go_wp2_with fail
  refine (check_yes HT.out HS.out (by omega) HTs.out Hok.out).mono ?_
  rintro e w2 ⟨rfl, hx2⟩
  have b0 := (hx2.cell (p := ⟨w.heap.size, 0, none⟩) (cell_lt b0)).trans b0
  have b1 := (hx2.cell (p := ⟨w.heap.size, 1, none⟩) (cell_lt b1)).trans b1
  have hr := hr.ext hx2
  have hbox := hbox.ext hx2
  have fb0 := hbox.frozen 0
  have fb1 := hbox.frozen 1
  have hx1 := hx1.trans hx2
  have hB1 : Below w.heap.size w w2 := hx1
  go_upto_region 4 with fail
  go_cut [] (fun wx => ∃ ua ca ub cb, RowAt wx w.heap.size 25 [.slice ua T.length ca, .slice ub S.length cb] ∧ TabOwn w.heap.size wx (.agg #[.slice ua T.length ca, .slice ub S.length cb]) T S ∧ Below w.heap.size w wx ∧ RowAt wx (w.heap.size + 1) 25 [.slice none 0 0, .slice none 0 0])
  case first =>
    go_region_with (first | (go_at_call 28; refine (cloneS _ T _ (Sl.below hT (below_drewN hB1 1) (Nat.le_refl _)) hT2).mono ?_; rintro e wa ⟨ua, ca, rfl, hoa, hxa⟩; have hrA := (hbox.ext (Ext.drewN _ 1)).ext hxa; have hbA := below_step (below_drewN hB1 1) hxa; have c0A := ext_cell hxa (show (w2.drewN 1).cell? _ = _ from b0); have c1A := ext_cell hxa (show (w2.drewN 1).cell? _ = _ from b1)) | (go_at_call 29; refine (cloneI _ S _ (Sl.below hS hbA (Nat.le_refl _)) hS2).mono ?_; rintro e wb ⟨ub, cb, rfl, hob, hxb⟩; have hrB := hrA.ext hxb; have hbB := below_step hbA hxb; have r0 := hrB.cell (i := 0) rfl; have r1 := hrB.cell (i := 1) rfl; have f0 := hrB.frozen 0; have f1 := hrB.frozen 1))
    all_goals
      go_wp2_with fail
      go_meet
      have hx1' := hx1.size
      have hlb := hbox.lt
      refine ⟨ua, ca, ub, cb, (hrB.set 0 _).set 1 _, tabOwn_end hoa hxb hob hx1' hlb hxa.size (Nat.le_refl _) _ _, below_set2 hbB (Nat.le_refl _) _ _, ?_⟩
      exact ((((hr.ext (Ext.drewN _ 1)).ext hxa).ext hxb).kept (grown_set _ _ _ _) (by intro e; injection e; omega)).kept (grown_set _ _ _ _) (by intro e; injection e; omega)
  case rest =>
    obtain ⟨ua, ca, ub, cb, hbx, hto, hBc, hrc⟩ := hcut
    have HL := Lib.hid hL
    have Hlen := Lib.hid hlen.out
    have Hbx := Lib.hid hbx
    have Hto := Lib.hid hto
    have Hrc := Lib.hid hrc
    clear hbx hto hrc hbox hr b0 b1 fb0 fb1 HS HT hT hS hL hlen hB1 hx1 hx2
    go_wp2_with fail
    go_loopg [8, 29] l.length (fun g s8 i wr => ∃ (k : Nat) (T' : List ByteArray) (S' ns : List Int) (a1 : Option Addr) (n1 c1 : Nat) (b1 : Option Addr) (m1 d1 : Nat), k ≤ l.length ∧ g = l.length - k ∧ i = .int .i64 k ∧ ns.length = k ∧
      allF (l.drop k) T' S' ns = pf ∧ TabOK T' S' ∧ (∀ s ∈ T', s.size ≤ 9223372036854775807) ∧ S'.length ≤ 500000 ∧ Below w.heap.size w wr ∧ wr.ownsRow w.heap.size 3 1 s8 k (ns.map (Value.int .i64)) ∧
      RowAt wr w.heap.size 25 [.slice a1 n1 c1, .slice b1 m1 d1] ∧ TabOwn w.heap.size wr (.agg #[.slice a1 n1 c1, .slice b1 m1 d1]) T' S' ∧ RowAt wr (w.heap.size + 1) 25 [.slice none 0 0, .slice none 0 0])
    case atStart => exact ⟨0, T, S, [], _, _, _, _, _, _, Nat.zero_le _, rfl, rfl, rfl, Hpf.out, Hok.out, HTs.out, by have := Hlen.out; omega, hBc, World.ownsRow_nil _ _ _ _, Hbx.out, Hto.out, Hrc.out⟩
    case round =>
      obtain ⟨k, T', S', ns, a1, n1, c1, p1, m1, d1, hk, hg, rfl, hns, hall, hok', hTs', hS', hBr, hown, hbx, hto, hrr⟩ := hrel
      obtain ⟨g1, c8, rfl⟩ := own_sl hown
      obtain ⟨_, _, _, _, _, _, e1, hT', hI', rfl, rfl, _, _⟩ := hto.views
      simp only [Value.agg.injEq, Array.mk.injEq, List.cons.injEq, Value.slice.injEq, and_true] at e1
      obtain ⟨⟨rfl, rfl, rfl⟩, rfl, rfl, rfl⟩ := e1
      have Hg := Lib.hid hg
      have Hns := Lib.hid hns
      have Hown := Lib.hid hown
      have Hbx := Lib.hid hbx
      have Hrr := Lib.hid hrr
      have HT' := Lib.hid hT'
      have HI' := Lib.hid hI'
      have Hok' := Lib.hid hok'
      have HTs' := Lib.hid hTs'
      clear hg hown hT' hI' hok' hTs' hns
      by_cases hlt : k < l.length
      · have hL := Strs.below HL.out hBr (Nat.le_refl _)
        obtain ⟨lb, lo, rfl, hlk⟩ := hL.atD hlt
        rw [getD_at hlt] at hlk
        have hss := Hls.out _ (List.getElem_mem hlt)
        rw [List.drop_eq_getElem_cons hlt, allF] at hall
        generalize l[k] = s at hlk hss hall
        have b0 := hbx.cell (i := 0) rfl
        have b1 := hbx.cell (i := 1) rfl
        have hput := put_yes T' S' s _ _ _ _ _ _ wr HT'.out HI'.out hS' HTs'.out hss Hok'.out
        have Hput := Lib.hid hput
        have Hall := Lib.hid hall
        clear hbx hrr hput hall hL hto
        go_wp2_with fail
        refine Hput.out.mono ?_
        rintro e w3 ⟨hx3, hm⟩
        cases hpt : putF T' S' s with
        | none =>
          rw [hpt] at hm
          obtain rfl := hm
          have hpfn : pf = none := by rw [← Hall.out, hpt]
          have Hpfn := Lib.hid hpfn
          have hx4 := hx3.trans (Ext.alloc w3 (.cells #[.slice none 0 0, .slice none 0 0] 25))
          have hr3 := Hrr.out.ext hx4
          have r0 := hr3.cell (i := 0) rfl
          have r1 := hr3.cell (i := 1) rfl
          have f0 := hr3.frozen 0
          have f1 := hr3.frozen 1
          have hB3 := below_step hBr hx4
          clear hpt hpfn hr3 hx4 hx3
          unfold nilTab
          go_upto_region 10 with fail
          generalize (w3.alloc (.cells #[.slice none 0 0, .slice none 0 0] 25)) = w4 at *
          go_wp2_with fail
          exact bodyPost_ret (v := .tuple #[nilTab, .slice none 0 0, .int .i64 6]) (by simp [results, Try.results23, go_sem, r0, r1, nilTab]) rfl ⟨below_set2 hB3 (by omega) _ _, by rw [Hpfn.out]⟩
        | some r =>
          obtain ⟨T2, S2, n2⟩ := r
          rw [hpt] at hm
          obtain ⟨v2, rfl, hto2⟩ := hm
          obtain ⟨a2, n2', c2, b2, m2', d2, rfl, ho2a, ho2b⟩ := hto2
          have hpo := putF_ok Hok'.out hpt
          have hnext : allF (l.drop (k + 1)) T2 S2 (ns ++ [n2]) = pf := by have := Hall.out; rw [hpt] at this; exact this
          have hx4 := hx3.trans (Ext.alloc w3 (.cells #[.slice a2 n2' c2, .slice b2 m2' d2] 25))
          have hbx4 := Hbx.out.ext hx4
          have hrr4 := Hrr.out.ext hx4
          have hB4 := below_step hBr hx4
          have hown4 := own_ext Hown.out hx4
          have ho4a := own_ext ho2a (Ext.alloc w3 (.cells #[.slice a2 n2' c2, .slice b2 m2' d2] 25))
          have ho4b := own_ext ho2b (Ext.alloc w3 (.cells #[.slice a2 n2' c2, .slice b2 m2' d2] 25))
          have hnx := RowAt.new w3 25 [.slice a2 n2' c2, .slice b2 m2' d2]
          have hg4 : w3.heap.size < (w3.alloc (.cells #[.slice a2 n2' c2, .slice b2 m2' d2] 25)).heap.size := by simp
          have hx3s := hx3.size
          have Hpo := Lib.hid hpo
          have Hnext := Lib.hid hnext
          have Hss := Lib.hid hss
          clear hpt hpo hnext hx3 hx4 b0 b1 hlk Hput Hall ho2a ho2b hss
          go_upto_region 10 with fail
          generalize (w3.alloc (.cells #[.slice a2 n2' c2, .slice b2 m2' d2] 25)) = w4 at *
          have x0 := hnx.cell (i := 0) rfl
          have x1 := hnx.cell (i := 1) rfl
          go_wp2_with fail
          have hlt3 : k ≤ 1048576 := by omega
          have hlw := hB4.size
          have hwr := hBr.size
          have hxqa : Ext w4 ((w4.alloc (.cells #[.int .i64 n2] 3)).drewN 1) := (Ext.alloc w4 _).trans (Ext.drewN _ 1)
          have hownx := own_ext hown4 hxqa
          have hslx : Sl ((w4.alloc (.cells #[.int .i64 n2] 3)).drewN 1) _ 1 [.int .i64 n2] := (Sl.new w4 #[.int .i64 n2] 3 1 1 (Nat.le_refl _) (by unfold maxLen; omega)).drewN 1
          have hone : ∀ x ∈ [Value.int .i64 n2], x.oneCell' = true := by intro u hu; simp at hu; subst hu; rfl
          have hbase4 : w.heap.size ≤ ((w4.alloc (.cells #[.int .i64 n2] 3)).drewN 1).heap.size := by have := hxqa.size; omega
          have hmx : k + 1 ≤ maxLen := by unfold maxLen; omega
          have hbx4' := hbx4.ext hxqa
          have hx0' := ext_cell hxqa x0
          have hx1' := ext_cell hxqa x1
          have hnl : w3.heap.size ≠ w.heap.size := by have := Hbx.out.lt; omega
          have hg1 : ∀ g, (Value.slice g1 k c8).ownBlock = some g → g < wr.heap.size := fun g hg => (own_lt Hown.out hg).2
          go_region_law (refine step_append_sl (by rfl) _ _ 23 (by rfl) elI (by rfl) hownx (by rfl) hslx (by rfl) hone (by omega) hmx hbase4 ?_; intro v5 w5 hown5 hb5 hg5 _; have hbx5 := hbx4'.kept hg5 (row_not_own hbx4' (by decide) hownx); have y0 := hbx5.cell (i := 0) rfl; have y1 := hbx5.cell (i := 1) rfl; have z0 := hbx5.frozen 0; have z1 := hbx5.frozen 1; have xx0 : w5.cell? ⟨w3.heap.size, 0, none⟩ = some (.slice a2 n2' c2) := ((hnx.ext hxqa).kept hg5 (row_not_own (hnx.ext hxqa) (by decide) hownx)).cell (i := 0) rfl; have xx1 : w5.cell? ⟨w3.heap.size, 1, none⟩ = some (.slice b2 m2' d2) := ((hnx.ext hxqa).kept hg5 (row_not_own (hnx.ext hxqa) (by decide) hownx)).cell (i := 1) rfl)
          all_goals
            have hobl : ∀ g, (Value.slice g1 k c8).ownBlock = some g → g < wr.heap.size := fun g hg => (own_lt Hown.out hg).2
            have hrr5 := (hrr4.ext hxqa).kept hg5 (row_not_own (hrr4.ext hxqa) (by decide) hownx)
            have ho5a := own_kept (own_ext ho4a hxqa) hg5 hobl
            have ho5b := own_kept (own_ext ho4b hxqa) hg5 hobl
            have hB5 := (below_step hB4 hxqa).trans hb5
            have hno5 := row_not_own hbx5 (by decide) hown5
            have hfin : (((w5.setCell ⟨w.heap.size, 0, none⟩ (.slice a2 n2' c2)).setCell ⟨w.heap.size, 1, none⟩ (.slice b2 m2' d2)).ownsRow w.heap.size 3 1 v5 (k + 1) ((ns ++ [n2]).map (Value.int .i64))) ∧
                RowAt ((w5.setCell ⟨w.heap.size, 0, none⟩ (.slice a2 n2' c2)).setCell ⟨w.heap.size, 1, none⟩ (.slice b2 m2' d2)) w.heap.size 25 [.slice a2 n2' c2, .slice b2 m2' d2] ∧
                TabOwn w.heap.size ((w5.setCell ⟨w.heap.size, 0, none⟩ (.slice a2 n2' c2)).setCell ⟨w.heap.size, 1, none⟩ (.slice b2 m2' d2)) (.agg #[.slice a2 n2' c2, .slice b2 m2' d2]) T2 S2 ∧
                RowAt ((w5.setCell ⟨w.heap.size, 0, none⟩ (.slice a2 n2' c2)).setCell ⟨w.heap.size, 1, none⟩ (.slice b2 m2' d2)) (w.heap.size + 1) 25 [.slice none 0 0, .slice none 0 0] := by
              have hlr : w.heap.size < wr.heap.size := Hbx.out.lt
              refine ⟨?_, (hbx5.set 0 _).set 1 _, ⟨_, _, _, _, _, _, rfl, own_base (own_set_other (own_set_other ho5a hlr 0 _) hlr 1 _) hwr, own_base (own_set_other (own_set_other ho5b hlr 0 _) hlr 1 _) hwr⟩, (hrr5.kept (grown_set _ _ _ _) (by intro e; injection e; omega)).kept (grown_set _ _ _ _) (by intro e; injection e; omega)⟩
              rw [List.map_append]
              exact own_set_ne (own_set_ne hown5 hno5 0 _) hno5 1 _
            have hB6 := below_set2 hB5 (Nat.le_refl _) (.slice a2 n2' c2) (.slice b2 m2' d2)
            have Hfin := Lib.hid hfin
            have HB6 := Lib.hid hB6
            clear hfin hB6 hbx5 hrr5 ho5a ho5b hB5 hno5 hown5 hb5 hg5
            go_wp2_with fail
            go_roundg (l.length - (k + 1))
            case measure => have := Hg.out; omega
            case rel => exact ⟨k + 1, T2, S2, ns ++ [n2], _, _, _, _, _, _, by omega, rfl, by go_num, by have := Hns.out; simp; omega, Hnext.out, Hpo.out.1, fun x hx => by rcases Hpo.out.2.1 x hx with h | h; exact HTs'.out x h; rw [h]; exact Hss.out, by have := Hpo.out.2.2.1; omega, HB6.out, Hfin.out.1, Hfin.out.2.1, Hfin.out.2.2.1, Hfin.out.2.2.2⟩
      · obtain rfl : k = l.length := by omega
        rw [List.drop_length, allF] at hall
        have Hall := Lib.hid hall
        have b0 := hbx.cell (i := 0) rfl
        have b1 := hbx.cell (i := 1) rfl
        have r0 := hrr.cell (i := 0) rfl
        have r1 := hrr.cell (i := 1) rfl
        have f0 := hrr.frozen 0
        have f1 := hrr.frozen 1
        clear hall hrr hlt
        go_wp2_with fail
        refine bodyPost_ret (v := .tuple #[.agg #[.slice a1 T'.length c1, .slice p1 S'.length d1], .slice g1 l.length c8, .int .i64 0]) (by simp [results, Try.results23, go_sem, r0, r1]) rfl ⟨below_set2 hBr (by omega) _ _, ?_⟩
        rw [← Hall.out]
        have hno := row_not_own Hrr.out (by decide) Hown.out
        refine ⟨_, _, rfl, hto.set2 Hrr.out (by decide) (by decide) _ _, ?_⟩
        rw [Hns.out]
        exact own_set_ne (own_set_ne Hown.out hno 0 (.slice a1 T'.length c1)) hno 1 (.slice p1 S'.length d1)
end Go.Proofs.Ytkhmkgobmfhchaa
