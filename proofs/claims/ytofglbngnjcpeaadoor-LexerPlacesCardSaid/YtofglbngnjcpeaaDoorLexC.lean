/- Signs, and the fourth that is asked. -/
import Derived.Test.YtofglbngnjcpeaaDoorLexB
import Derived.Test.YtofglbngnjcpeaaDoorMap
namespace Go.Proofs.YtofglbngnjcpeaaDoor
set_option maxRecDepth 100000
set_option maxHeartbeats 2000000
set_option linter.unusedVariables false
set_option linter.unusedSimpArgs false
open Go.RowKit

def signKV : List (Value × Value) := signs.map fun x => (.int .i64 x.1, .agg #[.string (txt x.2)])
theorem signs_any (w : World) : Calls Tryd.prog 25 #[] w fun e w' => e = .returned (.map (some w.heap.size)) ∧ MapAt (.int .i64) w' w.heap.size signKV ∧ Ext w w' ∧ w'.heap.size = w.heap.size + 1 := by
  have hmm := @run_makeMap Tryd.prog
  have hM0 := MapAt.new (.int .i64) w
  have hB : Below w.heap.size w (w.alloc (.map #[] 0)) := Ext.alloc w _
  have hS : (w.alloc (.map #[] 0)).heap.size = w.heap.size + 1 := by simp
  have HM := Lib.hid hM0
  have HB := Lib.hid hB
  have HS := Lib.hid hS
  clear hM0 hB hS
  go_enter Tryd.func25, Tryd.ntmps25
  go_wp2_with (refine wpList_insert_new _ rfl _ _ _ _ rfl Tryd.underlying55 Tryd.underlying3 rfl rfl rfl HM.out rfl (notIn rfl) ?_; intro w1 hM1 hg hs; have HB2 := Lib.hid (below_grown HB.out hg (by have := HS.out; omega) (fun k hk => by cases hk; exact Nat.le_refl _)); have HS2 := Lib.hid (hs.trans HS.out); have HM2 := Lib.hid hM1; clear hM1 hg hs HB HS HM; have HB := HB2; have HS := HS2; have HM := HM2; clear HB2 HS2 HM2)
  go_ret
  exact ⟨rfl, HM.out, HB.out, HS.out⟩

theorem born_inj {es : Array MapEntry} {c : Nat} (h : MapKept.Stamped es c) {x y : MapEntry} (hx : x ∈ es.toList) (hy : y ∈ es.toList) (e : x.born = y.born) : x = y := by
  obtain ⟨i, hi, rfl⟩ := List.getElem_of_mem hx
  obtain ⟨j, hj, rfl⟩ := List.getElem_of_mem hy
  have hp := List.pairwise_iff_getElem.1 (List.pairwise_map.1 h.2.1)
  rcases Nat.lt_trichotomy i j with h | h | h
  · exact absurd e (hp i j hi hj h)
  · subst h; rfl
  · exact absurd e.symm (hp j i hj hi h)
theorem ask4_any (s : ByteArray) (b : Nat) (w : World) (hs : s.size ≤ 9223372036854775807) (hb : w.cell? ⟨b, 0, none⟩ = some (.string s)) :
    Calls Tryd.prog 36 #[.pointer (some ⟨b, 0, none⟩)] w fun e w' => e = .returned (begV (ask4 (bts s))) ∧ Ext w w' := by
  have hr := RowAt.new w 28 [.int .i64 0, .string ⟨#[]⟩, .int .i64 0]
  have hb1 := ext_cell (Ext.alloc w (.cells #[.int .i64 0, .string ⟨#[]⟩, .int .i64 0] 28)) hb
  go_enter Tryd.func36, Tryd.ntmps36
  go_upto_region 1 with fail
  have hx0 := Ext.alloc w (.cells #[.int .i64 0, .string ⟨#[]⟩, .int .i64 0] 28)
  generalize w.alloc (.cells #[.int .i64 0, .string ⟨#[]⟩, .int .i64 0] 28) = w1 at *
  go_wp2_with fail
  refine (signs_any _).mono ?_
  rintro e w2 ⟨rfl, hm, hx, hsz⟩
  have hrg := fun es c (h : w2.heap[w1.heap.size]? = some (.map es c)) => run_range_map (P := Tryd.prog) w2 55 _ _ _ es c Tryd.underlying55 h
  obtain ⟨es, c, h1, h2, h3, h4⟩ := id hm
  have hrg := hrg es c h1
  have H4 := Lib.hid h4
  clear h4
  go_wp2_with fail
  have H1 := Lib.hid h1
  have HB := Lib.hid ((hb1 |> ext_cell hx))
  have HR := Lib.hid (hr.ext hx)
  have hI := World.alloc_heap_new w2 (.mapIter (some w1.heap.size) c #[] c)
  have hbe : w2.heap.size = w1.heap.size + 1 := hsz
  rw [hbe] at hI
  have HI := Lib.hid hI
  have Hsz := Lib.hid hsz
  clear hrg h1 hI hbe hsz hr hb hb1 hm
  go_loopg [3] ((leftOf es #[]).size) (fun g _ wr => ∃ seen, g = (leftOf es seen).size ∧ Ext w2 wr ∧ wr.heap[w1.heap.size + 1]? = some (.mapIter (some w1.heap.size) c seen c) ∧ ∀ e ∈ es.toList, e.born ∈ seen → ∀ x ∈ signs, e.key = .int .i64 x.1 → x.2.isPrefixOf (bts s) = false)
  case atStart => exact ⟨#[], rfl, Ext.alloc _ _, HI.out, fun e _ h => by simp at h⟩
  case round =>
    obtain ⟨seen, hg, hxr, hit, hno⟩ := hrel
    have Hg := Lib.hid hg
    have Hno := Lib.hid hno
    clear hg hno
    rcases next_step (P := Tryd.prog) hxr (by rw [Hsz.out]; exact Nat.le_refl _) H1.out h2 hit with ⟨hz, hrun⟩ | ⟨e, W, he, hrun, hxW, hIW, hen⟩
    · have hall : ∀ x ∈ signs, x.2.isPrefixOf (bts s) = false := fun x hx => by
        have hk : (Value.int .i64 x.1, Value.agg #[.string (txt x.2)]) ∈ signKV := List.mem_map.2 ⟨x, hx, rfl⟩
        rw [← H4.out] at hk
        obtain ⟨e, he, hee⟩ := List.mem_map.1 hk
        simp only [Prod.mk.injEq] at hee
        refine Hno.out e he (Classical.byContradiction fun hs => ?_) x hx hee.1
        have := leftOf_mem.2 ⟨he, hs⟩
        rw [Array.eq_empty_of_size_eq_zero hz] at this
        simp at this
      have Hfin := Lib.hid (ask4_no hall)
      obtain ⟨c0, c1, c2, f0, f1, f2⟩ := (HR.out.ext hxr).facts3
      clear hall hz hit
      go_wp2_with fail
      exact bodyPost_ret (v := begV begNo) (by simp [results, Tryd.results36, go_sem, c0, c1, c2, begV, tokV, begNo, txt]) rfl ⟨by rw [Hfin.out], (by repeat (first | exact Ext.refl _ | with_reducible assumption | with_reducible refine Ext.alloc_of ?_ _ | with_reducible refine Ext.drewN_of ?_ _ | with_reducible refine Ext.drew_of ?_ | (with_reducible refine Ext.set_of ?_ ?hsz _; case hsz => ((first | exact Nat.le_refl _ | omega | (simp; omega)))) | with_reducible refine Ext.via (by assumption) ?_))⟩
    · obtain ⟨x, hx, hek, hev⟩ : ∃ x ∈ signs, e.key = .int .i64 x.1 ∧ e.val = .agg #[.string (txt x.2)] := by
        have hk : (e.key, e.val) ∈ signKV := by rw [← H4.out]; exact List.mem_map.2 ⟨e, (leftOf_mem.1 he).1, rfl⟩
        obtain ⟨x, hx, hee⟩ := List.mem_map.1 hk
        simp only [Prod.mk.injEq] at hee
        exact ⟨x, hx, hee.1.symm, hee.2.symm⟩
      rw [hek, hev] at hrun hen
      have hbW := ext_cell hxW HB.out
      have Hek := Lib.hid hek
      have Hx := Lib.hid hx
      have hlt := cell_lt hbW
      have hx32 : x.2.length ≤ 3 := by
        have : ∀ x ∈ signs, x.2.length ≤ 3 := by decide
        exact this x hx
      clear hek hev hx hit
      obtain ⟨xk, xt⟩ := x
      cases hp : xt.isPrefixOf (bts s) with
      | true =>
        have Hp := Lib.hid hp
        have Hfin := Lib.hid (ask4_yes Hx.out hp)
        clear hp
        go_wp2_with fail
        refine (starts_eq _ _ _ (r := true) (by rw [bts_txt]; exact Hp.out)).mono ?_
        rintro e w' ⟨rfl, rfl⟩
        obtain ⟨c0, c1, c2, f0, f1, f2⟩ := ((HR.out.ext hxW).ext (Ext.alloc W (.cells #[.string (txt xt)] 54))).facts3
        have d0 := (RowAt.new W 54 [.string (txt xt)]).facts1.1
        have hxV := hxW.trans (Ext.alloc W (.cells #[.string (txt xt)] 54))
        go_upto_region 5 with fail
        generalize hv : W.alloc (.cells #[.string (txt xt)] 54) = V at *
        clear hv hen hrun
        have hne : ¬ W.heap.size = w.heap.size := by have := HR.out.lt; have := hxW.size; omega
        have hne' : ¬ w.heap.size = W.heap.size := fun h => hne h.symm
        go_region
        all_goals go_wp2
        exact bodyPost_ret (v := begV (xk, [], xt.length)) (by simp [results, Tryd.results36, go_sem, c0, c1, c2, begV, tokV, txt, ByteArray.size]) rfl ⟨by rw [Hfin.out], (by repeat (first | exact Ext.refl _ | with_reducible assumption | with_reducible refine Ext.alloc_of ?_ _ | with_reducible refine Ext.drewN_of ?_ _ | with_reducible refine Ext.drew_of ?_ | (with_reducible refine Ext.set_of ?_ ?hsz _; case hsz => ((first | exact Nat.le_refl _ | omega | (simp; omega)))) | with_reducible refine Ext.via (by assumption) ?_))⟩
      | false =>
        have Hp := Lib.hid hp
        clear hp
        go_wp2_with fail
        refine (starts_eq _ _ _ (r := false) (by rw [bts_txt]; exact Hp.out)).mono ?_
        rintro e w' ⟨rfl, rfl⟩
        go_wp2_with fail
        go_roundg ((leftOf es (seen.push e.born)).size)
        case measure => have := Hg.out; have := leftOf_push he; omega
        case rel =>
          refine ⟨_, rfl, hxW.trans (Ext.alloc _ _), (Go.heap_alloc_old _ _ (Array.getElem?_eq_some_iff.1 hIW).1).trans hIW, fun e' he' hin y hy hk => ?_⟩
          have he'' := leftOf_mem.1 he
          rcases Array.mem_push.1 hin with hin | hin
          · exact Hno.out e' he' hin y hy hk
          · have : e' = e := born_inj h2 he' he''.1 hin
            subst this
            rw [Hek.out] at hk
            have hy1 : y.1 = xk := by simpa using hk.symm
            have hyx : y = (xk, xt) := by
              have hf : ∀ y ∈ signs, ∀ x ∈ signs, y.1 = x.1 → y = x := by decide
              exact hf y hy _ Hx.out hy1
            rw [hyx]; exact Hp.out

end Go.Proofs.YtofglbngnjcpeaaDoor
