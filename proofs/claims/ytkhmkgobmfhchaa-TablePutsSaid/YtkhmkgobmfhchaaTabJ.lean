/- Put. -/
import Derived.Test.YtkhmkgobmfhchaaTabI
import Derived.Test.YtkhmkgobmfhchaaTabG
import Derived.IntWalk
namespace Go.Proofs.Ytkhmkgobmfhchaa
open Go.RowKit Go.Shelf Go.Sort
set_option linter.unusedVariables false

/-- What becomes of a table that may be. -/
def putF (T : List ByteArray) (S : List Int) (s : ByteArray) : Option (List ByteArray × List Int × Int) :=
  if 0 ≤ findF T s then some (T, S, findF T s) else if T.length = 1024 then none else some (T ++ [s], laidN (T ++ [s]) (moreN T S.length) (T.length + 1), T.length)
def nilTab : Value := .agg #[.slice none 0 0, .slice none 0 0]
/-- What Put comes to. -/
def PutPost (w0 : World) (r : Option (List ByteArray × List Int × Int)) (e : Ending) (w' : World) : Prop := Ext w0 w' ∧
  match r with
  | some (T, S, n) => ∃ v, e = .returned (.tuple #[v, .int .i64 n, .int .i64 0]) ∧ TabOwn w0.heap.size w' v T S
  | none => e = .returned (.tuple #[nilTab, .int .i64 0, .int .i64 6])

set_option maxRecDepth 100000 in
set_option maxHeartbeats 1000000 in
theorem put_no (T : List ByteArray) (S : List Int) (s : ByteArray) (a : Option Addr) (n c : Nat) (b : Option Addr) (m d : Nat) (w : World) (hT : Strs w (.slice a n c) T) (hS : Ints w .i64 (.slice b m d) S)
    (hm : m ≤ 1048576) (hTs : ∀ s ∈ T, s.size ≤ 9223372036854775807) (hno : ¬ TabOK T S) : Calls Try.prog 20 #[.agg #[.slice a n c, .slice b m d], .string s] w fun e w' => e = .returned (.tuple #[nilTab, .int .i64 0, .int .i64 150]) ∧ Ext w w' := by
  have Hno := Lib.hid hno
  have HTs := Lib.hid hTs
  clear hno hTs
  go_enter Try.func20, Try.ntmps20
  go_upto_region 1 with fail
  have hx1 : Ext w ((w.alloc (.cells #[.slice a n c, .slice b m d] 25)).alloc (.cells #[.slice none 0 0, .slice none 0 0] 25)) := (Ext.alloc _ _).trans (Ext.alloc _ _)
  have b0 : ((w.alloc (.cells #[.slice a n c, .slice b m d] 25)).alloc (.cells #[.slice none 0 0, .slice none 0 0] 25)).cell? ⟨w.heap.size, 0, none⟩ = some (.slice a n c) := by simp [go_sem]
  have b1 : ((w.alloc (.cells #[.slice a n c, .slice b m d] 25)).alloc (.cells #[.slice none 0 0, .slice none 0 0] 25)).cell? ⟨w.heap.size, 1, none⟩ = some (.slice b m d) := by simp [go_sem]
  have hr : RowAt ((w.alloc (.cells #[.slice a n c, .slice b m d] 25)).alloc (.cells #[.slice none 0 0, .slice none 0 0] 25)) (w.heap.size + 1) 25 [.slice none 0 0, .slice none 0 0] := row_at (by simp)
  generalize ((w.alloc (.cells #[.slice a n c, .slice b m d] 25)).alloc (.cells #[.slice none 0 0, .slice none 0 0] 25)) = w1 at *
  have HS := Lib.hid (hS.ext hx1)
  have HT := Lib.hid (hT.ext hx1)
  go_wp2_with fail
  refine (check_no HT.out HS.out hm HTs.out Hno.out).mono ?_
  rintro e w2 ⟨rfl, hx2⟩
  have hr2 := hr.ext hx2
  have r0 := hr2.cell (i := 0) rfl
  have r1 := hr2.cell (i := 1) rfl
  have f0 := hr2.frozen 0
  have f1 := hr2.frozen 1
  have hB2 : Below w.heap.size w w2 := hx1.trans hx2
  clear hr hr2
  go_wp2
  exact bodyPost_ret (v := .tuple #[nilTab, .int .i64 0, .int .i64 150]) (by simp [results, Try.results20, go_sem, r0, r1, nilTab]) rfl ⟨rfl, below_set2 hB2 (by omega) _ _⟩

set_option maxRecDepth 100000 in
set_option maxHeartbeats 1000000 in
theorem put_yes (T : List ByteArray) (S : List Int) (s : ByteArray) (a : Option Addr) (n c : Nat) (b : Option Addr) (m d : Nat) (w : World) (hT : Strs w (.slice a n c) T) (hS : Ints w .i64 (.slice b m d) S)
    (hm : m ≤ 500000) (hTs : ∀ s ∈ T, s.size ≤ 9223372036854775807) (hs : s.size ≤ 9223372036854775807) (hok : TabOK T S) : Calls Try.prog 20 #[.agg #[.slice a n c, .slice b m d], .string s] w (PutPost w (putF T S s)) := by
  have Hok := Lib.hid hok
  have HTs := Lib.hid hTs
  have hlen := Lib.hid hS.len
  have hlenT := Lib.hid hT.len
  have hfr := findF_range T s
  have hT2 : T.length ≤ 1048576 := by have := hok.most; omega
  have hS2 : S.length ≤ 1048576 := by have := hlen.out; omega
  have hrg : ∀ x ∈ S, 0 ≤ x ∧ x ≤ T.length := hok.laid.range
  have Hrg := Lib.hid hrg
  obtain ⟨p, hp, hpl, hpx⟩ := hok.findx s
  rw [hlen.out] at hpl
  have Hp := Lib.hid hp
  have Hpx := Lib.hid hpx
  generalize hpf : putF T S s = pf
  have Hpf := Lib.hid hpf
  clear hok hTs hrg hp hpx hpf
  go_enter Try.func20, Try.ntmps20
  go_upto_region 1 with fail
  have hx1 : Ext w ((w.alloc (.cells #[.slice a n c, .slice b m d] 25)).alloc (.cells #[.slice none 0 0, .slice none 0 0] 25)) := (Ext.alloc _ _).trans (Ext.alloc _ _)
  have b0 : ((w.alloc (.cells #[.slice a n c, .slice b m d] 25)).alloc (.cells #[.slice none 0 0, .slice none 0 0] 25)).cell? ⟨w.heap.size, 0, none⟩ = some (.slice a n c) := by simp [go_sem]
  have b1 : ((w.alloc (.cells #[.slice a n c, .slice b m d] 25)).alloc (.cells #[.slice none 0 0, .slice none 0 0] 25)).cell? ⟨w.heap.size, 1, none⟩ = some (.slice b m d) := by simp [go_sem]
  have hr : RowAt ((w.alloc (.cells #[.slice a n c, .slice b m d] 25)).alloc (.cells #[.slice none 0 0, .slice none 0 0] 25)) (w.heap.size + 1) 25 [.slice none 0 0, .slice none 0 0] := row_at (by simp)
  generalize ((w.alloc (.cells #[.slice a n c, .slice b m d] 25)).alloc (.cells #[.slice none 0 0, .slice none 0 0] 25)) = w1 at *
  have HS := Lib.hid (hS.ext hx1)
  have HT := Lib.hid (hT.ext hx1)
  go_wp2_with fail
  refine (check_yes HT.out HS.out (by omega) HTs.out Hok.out).mono ?_
  rintro e w2 ⟨rfl, hx2⟩
  have hr2 := hr.ext hx2
  have HS2 := Lib.hid (HS.out.ext hx2)
  have HT2 := Lib.hid (HT.out.ext hx2)
  have b0 := (hx2.cell (p := ⟨w.heap.size, 0, none⟩) (cell_lt b0)).trans b0
  have b1 := (hx2.cell (p := ⟨w.heap.size, 1, none⟩) (cell_lt b1)).trans b1
  obtain ⟨sb, so, rfl, hck⟩ := HS2.out.atD (k := p) (by rw [hlen.out]; exact hpl)
  rw [Hpx.out] at hck
  generalize hfe : findF T s = f at hck hfr
  have Hfe := Lib.hid hfe
  have hx12 := hx1.trans hx2
  clear hfe hx1 hx2 HS HT hr
  have cP := calls_quiet (w := w2) (v := .int .i64 p) fun w' hx => (place_any T S s a n c _ m d w' (HT2.out.ext hx) (HS2.out.ext hx) Hrg.out (by omega) hs).mono fun e w'' ⟨he, hx'⟩ => ⟨by rw [he, Hp.out], hx'⟩
  have k0 := cell_regrown b0
  have k1 := cell_regrown b1
  have k2 := cell_regrown hck
  go_wp2_with fail
  refine wp_region_quiet_below (by kernel_rfl) (by kernel_rfl) ?_
  repeat (any_goals (first | go_big_quiet_step (exact cP _ _) | quiet_step (exact cP _ _)))
  refine wpQuiet_nil ?_
  intro wq hw'
  have hxq := ext_regrown hw'
  clear hw'
  clear cP k0 k1 k2 hck
  have b0 := (hxq.cell (p := ⟨w.heap.size, 0, none⟩) (cell_lt b0)).trans b0
  have b1 := (hxq.cell (p := ⟨w.heap.size, 1, none⟩) (cell_lt b1)).trans b1
  have hr := hr2.ext hxq
  have hx1 := hx12.trans hxq
  have hB1 : Below w.heap.size w wq := hx1
  have HS3 := Lib.hid (HS2.out.ext hxq)
  have HT3 := Lib.hid (HT2.out.ext hxq)
  clear hxq hx12 hr2
  by_cases h0 : 0 ≤ f
  · have hd : decide (0 < f + 1) = true := by simp; omega
    have hpf : pf = some (T, S, f) := by rw [← Hpf.out]; unfold putF; rw [Hfe.out, if_pos h0]
    have Hpf2 := Lib.hid hpf
    have hwf : IntKind.i64.wrap f = f := IntWalk.i64_in _ (by omega)
    clear hpf
    go_wp2_with fail
    go_region_with (first | (go_at_call 28; refine (cloneS _ T _ (Sl.below hT (below_drewN hB1 1) (Nat.le_refl _)) hT2).mono ?_; rintro e wa ⟨ua, ca, rfl, hoa, hxa⟩; have hrA := (hr.ext (Ext.drewN _ 1)).ext hxa; have hbA := below_step (below_drewN hB1 1) hxa; have c0A := ext_cell hxa (show (wq.drewN 1).cell? _ = _ from b0); have c1A := ext_cell hxa (show (wq.drewN 1).cell? _ = _ from b1)) | (go_at_call 29; refine (cloneI _ S _ (Sl.below hS hbA (Nat.le_refl _)) hS2).mono ?_; rintro e wb ⟨ub, cb, rfl, hob, hxb⟩; have hrB := hrA.ext hxb; have hbB := below_step hbA hxb; have r0 := hrB.cell (i := 0) rfl; have r1 := hrB.cell (i := 1) rfl; have f0 := hrB.frozen 0; have f1 := hrB.frozen 1))
    all_goals
      go_wp2_with fail
      exact bodyPost_ret (v := .tuple #[.agg #[.slice ua T.length ca, .slice ub S.length cb], .int .i64 f, .int .i64 0]) (by simp [results, Try.results20, go_sem, r0, r1, hwf]) rfl
        ⟨below_set2 hbB (by omega) _ _, by rw [Hpf2.out]; exact ⟨_, rfl, tabOwn_end hoa hxb hob hx1.size hr.lt hxa.size (by omega) _ _⟩⟩
  · obtain rfl : f = -1 := by omega
    have hs0 : s ∉ T := findF_no.1 Hfe.out
    have Hs0 := Lib.hid hs0
    have hTn : T.length = n := hlenT.out
    have hmost := Hok.out.most
    clear hs0
    by_cases hn : n = 1024
    · have hd : ((n : Int) == 1024) = true := by simp; omega
      have hpf : pf = none := by rw [← Hpf.out]; unfold putF; rw [Hfe.out, if_neg (by omega), if_pos (by omega)]
      have Hpf2 := Lib.hid hpf
      have r0 := hr.cell (i := 0) rfl
      have r1 := hr.cell (i := 1) rfl
      have f0 := hr.frozen 0
      have f1 := hr.frozen 1
      clear hn hpf hTn
      go_wp2_with fail
      exact bodyPost_ret (v := .tuple #[nilTab, .int .i64 0, .int .i64 6]) (by simp [results, Try.results20, go_sem, r0, r1, nilTab]) rfl ⟨below_set2 hB1 (by omega) _ _, by rw [Hpf2.out]⟩
    · have hd : ((n : Int) == 1024) = false := by simp; omega
      have hpf : pf = some (T ++ [s], laidN (T ++ [s]) (moreN T m) (T.length + 1), (T.length : Int)) := by rw [← Hpf.out]; unfold putF; rw [Hfe.out, if_neg (by omega), if_neg (by omega), hlen.out]
      have Hpf2 := Lib.hid hpf
      have HTn := Lib.hid hTn
      have Hn := Lib.hid (show n < 1024 by omega)
      have hn3 : T.length ≤ 1023 := by omega
      clear hn hpf hTn hmost
      go_wp2_with fail
      refine (cloneS _ T _ HT3.out hT2).mono ?_
      rintro e wa ⟨ua, ca, rfl, hoa, hxa⟩
      have b0 := (hxa.cell (p := ⟨w.heap.size, 0, none⟩) (cell_lt b0)).trans b0
      have b1 := (hxa.cell (p := ⟨w.heap.size, 1, none⟩) (cell_lt b1)).trans b1
      have hrA := hr.ext hxa
      have hbA := below_step hB1 hxa
      go_wp2_with (at_builtin; refine wpList_append_sl _ rfl _ _ 22 rfl elS rfl (hoa.alloc _) rfl (Sl.new _ #[.string s] 9 1 1 (Nat.le_refl _) ?_) rfl ?_ ?_ ?_ ?_ ?_)
      · unfold maxLen; omega
      · rfl
      · omega
      · unfold maxLen; omega
      · have := hbA.size; have := hxa.size; simp; omega
      intro v1 w4 hown hb4 _ _
      obtain ⟨g4, c4, rfl⟩ := ownsRow_succ hown
      have hlw := hr.lt
      have hB4 : Below w.heap.size w w4 := (below_step hbA (Ext.alloc _ _)).trans (hb4.mono (by omega))
      have b1 := (hb4.cell (p := ⟨w.heap.size, 1, none⟩) (by show w.heap.size < wq.heap.size; omega)).trans (ext_cell (Ext.alloc _ _) b1)
      have hr4 := (hrA.ext (Ext.alloc _ (.cells #[.string s] 9))).below hb4 hlw
      have hT4 : Strs w4 (.slice (some ⟨g4, 0, none⟩) (T.length + 1) c4) (T ++ [s]) := by
        have := Sl.of_own hown
        unfold Strs
        simpa using this
      have HT4 := Lib.hid hT4
      have hml : m < 2 * (T.length + 1) ∧ moreN T m = 2 * m ∨ ¬ m < 2 * (T.length + 1) ∧ moreN T m = m := by unfold moreN; by_cases h : m < 2 * (T.length + 1) <;> simp [h]
      have hhalf := Hok.out.half
      rw [hlen.out] at hhalf
      have hlt4 := Hok.out.lt
      rw [hlen.out] at hlt4
      generalize hmo : moreN T m = mo at hml
      have Hmo := Lib.hid hmo
      have Hml := Lib.hid hml
      have Hhalf := Lib.hid hhalf
      have hlt4 := Lib.hid hlt4
      clear hT4 hmo hml hhalf hown hb4 hoa hxa hrA hbA b0 hr
      go_wp2_with fail
      go_loopg [10] 1 (fun g s10 wr => ∃ q : Nat, s10 = .int .i64 q ∧ q ≤ 1000000 ∧ ((q = m ∧ g = 1) ∨ (q = mo ∧ g = 0 ∧ ¬ mo < 2 * (T.length + 1))) ∧ wr = w4)
      case atStart => exact ⟨m, rfl, by omega, .inl ⟨rfl, rfl⟩, rfl⟩
      case round =>
        obtain ⟨q, rfl, hq, hcase, rfl⟩ := hrel
        by_cases hlq : q < 2 * (T.length + 1)
        · have hcase : q = m ∧ gk = 1 := by omega
          obtain ⟨rfl, hg⟩ := hcase
          have Hg := Lib.hid hg
          clear hg
          go_wp2_with fail
          go_roundg 0
          case measure => have := Hg.out; omega
          case rel => exact ⟨2 * q, by go_num, by omega, .inr ⟨by have := Hml.out; omega, rfl, by have := Hml.out; have := Hhalf.out; have := hlt4.out; omega⟩, rfl⟩
        · have hqm : q = mo := by have := Hml.out; omega
          subst hqm
          have hd := Hok.out.distinct.snoc Hs0.out
          have hla := laid_any (T ++ [s]) (some ⟨g4, 0, none⟩) (T.length + 1) c4 q wr HT4.out (by omega) (by have := Hml.out; have := hlt4.out; omega) (by omega) (fun x hx => by rcases List.mem_append.1 hx with h | h; exact HTs.out x h; simp at h; subst h; exact hs) hd
          have Hla := Lib.hid hla
          clear hcase hd hla
          go_wp2_with fail
          refine Hla.out.mono ?_
          rintro e w5 ⟨v5, rfl, ho5, hx5⟩
          obtain ⟨a5, n5, c5, b5, m5, d5, rfl, ho5a, ho5b⟩ := ho5
          have hr5 := hr4.ext hx5
          have r0 := hr5.cell (i := 0) rfl
          have r1 := hr5.cell (i := 1) rfl
          have f0 := hr5.frozen 0
          have f1 := hr5.frozen 1
          have hB5 := below_step hB4 hx5
          have hl4 := hr4.lt
          clear hr4 hr5
          go_wp2_with fail
          refine bodyPost_ret (v := .tuple #[.agg #[.slice a5 n5 c5, .slice b5 m5 d5], .int .i64 T.length, .int .i64 0]) (by simp [results, Try.results20, go_sem, r0, r1]) rfl ⟨below_set2 hB5 (by omega) _ _, ?_⟩
          rw [Hpf2.out]
          refine ⟨_, rfl, _, _, _, _, _, _, rfl, ?_, ?_⟩
          · exact own_base (own_set_other (own_set_other ho5a hl4 0 _) hl4 1 _) (by have := hB4.size; omega)
          · have h6 := own_base (own_set_other (own_set_other ho5b hl4 0 (.slice a5 n5 c5)) hl4 1 (.slice b5 m5 d5)) (show w.heap.size ≤ wr.heap.size by have := hB4.size; omega)
            rw [Hmo.out]
            exact h6
end Go.Proofs.Ytkhmkgobmfhchaa
