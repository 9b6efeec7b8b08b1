/- The iterator of lines without their line feeds: one iterator within another. -/
import Derived.Test.YtilbofkpjgcchaaDoorBatG
namespace Go.Proofs.YtilbofkpjgcchaaDoor
set_option maxRecDepth 100000
set_option maxHeartbeats 2000000
set_option linter.unusedVariables false
set_option linter.unusedSimpArgs false
open Go.RowKit Go.Shelf Go.Sort
attribute [local go_sem] Oper.semAt_some wide_fn wide_depth

/-- What yield is told of a line. -/
def LineArg (l : List UInt8) (W : World) (args : Array Value) : Prop :=
  if Lib.hasSuffix l [10] then ∃ b, args = #[.pointer (some ⟨b, 0, none⟩)] ∧ W.cell? ⟨b, 0, none⟩ = some (.string (txt (Lib.trimSuffix l [10]))) else args = #[.pointer none]
def KtB (t : TypeId) : Prop := t = 9 ∨ t = 78
theorem blines_any (s : ByteArray) (w : World) : Calls Tryd.prog 31 #[.string s] w fun e w' =>
    e = .returned (.func (.func 39) #[] #[.pointer (some ⟨w.heap.size, 0, none⟩)]) ∧ w' = w.alloc (.cells #[.string s] 9) := by
  go_enter Tryd.func31, Tryd.ntmps31
  go_wp2
  go_ret
  exact ⟨rfl, rfl⟩
theorem blines_iter (s : ByteArray) (y X : Nat) (hs : s.size ≤ 1000000) :
    IterP Tryd.prog 39 #[.pointer (some ⟨y, 0, none⟩)] (fun W => RowAt W y 9 [.string s]) 9 KtB X (linesL (bts s)).length (fun k W args => ∃ h : k < (linesL (bts s)).length, LineArg (linesL (bts s))[k] W args) := by
  intro L W J Js hX hI hJ hJs hround h0
  refine callsIn_of_wp_marks Tryd.func39 rfl trivial (wpIn_wide.2 ?_)
  simp only [Tryd.ntmps39, List.size_toArray, List.length_cons, List.length_nil, Nat.reduceAdd, Nat.reduceSub, Array.replicate_succ, Array.replicate_zero, List.push_toArray, List.append_toArray, List.nil_append, List.cons_append]
  have HJ := Lib.hid hJ
  have HJS := Lib.hid hJs
  have HRound := Lib.hid hround
  have hc := RowAt.new W 78 [.func (.yield L) #[] #[]]
  have hxa := Ext.alloc W (.cells #[.func (.yield L) #[] #[]] 78)
  obtain ⟨d0, g0⟩ := (hI.ext hxa).facts1
  clear hJ hJs hround
  go_upto_region 1 with fail
  generalize hwa : W.alloc (.cells #[.func (.yield L) #[] #[]] 78) = wa at *
  have hsa : wa.heap.size = W.heap.size + 1 := by rw [← hwa]; simp
  clear hwa
  go_wp2_with (go_at_call 40; refine (lines_any _ _).mono ?_; rintro e w' ⟨rfl, rfl⟩)
  have hx := RowAt.new wa 9 [.string s]
  have hxb := Ext.alloc wa (.cells #[.string s] 9)
  generalize hwb : wa.alloc (.cells #[.string s] 9) = wb at *
  have hsb : wb.heap.size = W.heap.size + 2 := by rw [← hwb]; simp [hsa]
  clear hwb
  have hc := hc.ext hxb
  have hj := HJ.out 0 _ _ (Turn.ext (hxa.trans hxb)) h0
  have HSB := Lib.hid hsb
  refine wp_overP rfl (enters_of Tryd.func52 (by kernel_rfl) rfl) (lines_iterP s (W.heap.size + 1) (fun t => t = 9) rfl hs) (by omega)
    (by rintro k W args ⟨_, rfl⟩; rfl) (fun k args => Stab.pure _ _)
    (fun k W' => J k W' ∧ RowAt W' W.heap.size 78 [.func (.yield L) #[] #[]]) (fun q W' => q = .ret ∧ Js W')
    (fun k => (PStab.mono (HJ.out k) (by omega) (by omega)).and (PStab.row _ _ _ (.inl (by decide)))) (fun q => (PStab.pure _).and (PStab.mono HJS.out (by omega) (by omega)))
    (PStab.stab (PStab.row (T := 3) (X := 0) _ _ _ (.inl (by decide)))) (hsa ▸ hx) ⟨hj, hc⟩ ?_ ?_ ?_
  · rintro k args W1 L' hk hL ⟨hj1, hc1⟩ ⟨_, rfl⟩
    gi_wp2
    refine ⟨keeps_ext _ (Ext.refl _), KeepsC.refl _ _ _, ⟨hj1, hc1⟩, (by first | exact ⟨hk, rfl⟩ | exact ⟨hk, trivial⟩), ?_⟩
    rintro W2 - ⟨hj2, hc2⟩ -
    have hll := linesL_mem _ (bts s) (Nat.le_refl _) _ (List.getElem_mem hk)
    rw [bts_len] at hll
    have hE : ∀ W' args, LineArg (linesL (bts s))[k] W' args → ∃ h : k < (linesL (bts s)).length, LineArg (linesL (bts s))[k] W' args := fun _ _ h => ⟨hk, h⟩
    have HE := Lib.hid hE
    have hro := HRound.out k
    have HRO := Lib.hid hro
    clear hE hro
    generalize (linesL (bts s))[k] = l at *
    have hcs := fun w => Tryd.strings_CutSuffix (txt l) ⟨#[10]⟩ w (by rw [txt_size]; omega)
    rw [show (txt l).data.toList = l from bts_txt l, show (⟨#[10]⟩ : ByteArray).data.toList = [10] from rfl] at hcs
    have HCS := Lib.hid hcs
    clear hcs
    gi_wp2_with fail
    have hcall : ∀ {f : Nat} {args : Array Value} {w : World} {R : Ending → World → Prop}, Calls Tryd.prog f args w R → CallsIn (Fence.wide.inRound L') 0 Tryd.prog f args w R := fun h => (callsIn_wide (n := 0)).2 h
    refine (hcall (HCS.out _)).mono ?_
    rintro e w' ⟨rfl, rfl⟩
    have hla : ∀ W'' args, LineArg l W'' args ↔ (if Lib.hasSuffix l [10] then ∃ b, args = #[.pointer (some ⟨b, 0, none⟩)] ∧ W''.cell? ⟨b, 0, none⟩ = some (.string (txt (Lib.trimSuffix l [10]))) else args = #[.pointer none]) := fun _ _ => Iff.rfl
    have HLA := Lib.hid hla
    clear hla HCS
    generalize Lib.trimSuffix l [10] = q at *
    have hcb := RowAt.new w' 9 [.string ⟨q.toArray⟩]
    have hxc := Ext.alloc w' (.cells #[.string ⟨q.toArray⟩] 9)
    obtain ⟨c2, f2⟩ := (hc2.ext hxc).facts1
    have hj3 := HJ.out k _ _ (Turn.ext hxc) hj2
    have hbs := HSB.out
    have hsz2 := hxc.size
    cases hsf : Lib.hasSuffix l [10] with
    | true =>
      obtain ⟨fn', tmps', assign', body', hy, hR⟩ := HRO.out _ _ hk hj3 (HE.out _ _ ((HLA.out _ _).2 (by rw [if_pos hsf]; exact ⟨_, rfl, hcb.facts1.1⟩)))
      clear HRO HE HLA hj3 hcb
      gi_wp2_with fail
      refine hR.mono ?_
      rintro e w6 ⟨hkf, hkc, ⟨rfl, hj6⟩ | ⟨rfl, hj6⟩⟩
      · have hrow6 := hkc.row _ _ _ hX (.inr rfl) (hc2.ext hxc)
        gi_wp2
        exact ⟨(keeps_ext _ hxc).trans (keepsFrom_mono hkf (by omega)), (KeepsC.ext hxc).trans (hkc.mono (by omega) (fun t ht => .inl ht)), hj6, hrow6⟩
      · gi_wp2
        exact ⟨(keeps_ext _ hxc).trans (keepsFrom_mono hkf (by omega)), (KeepsC.ext hxc).trans (hkc.mono (by omega) (fun t ht => .inl ht)), rfl, hj6⟩
    | false =>
      obtain ⟨fn', tmps', assign', body', hy, hR⟩ := HRO.out _ _ hk hj3 (HE.out _ _ ((HLA.out _ _).2 (by rw [if_neg (by rw [hsf]; decide)])))
      clear HRO HE HLA hj3 hcb
      gi_wp2_with fail
      refine hR.mono ?_
      rintro e w6 ⟨hkf, hkc, ⟨rfl, hj6⟩ | ⟨rfl, hj6⟩⟩
      · have hrow6 := hkc.row _ _ _ hX (.inr rfl) (hc2.ext hxc)
        gi_wp2
        exact ⟨(keeps_ext _ hxc).trans (keepsFrom_mono hkf (by omega)), (KeepsC.ext hxc).trans (hkc.mono (by omega) (fun t ht => .inl ht)), hj6, hrow6⟩
      · gi_wp2
        exact ⟨(keeps_ext _ hxc).trans (keepsFrom_mono hkf (by omega)), (KeepsC.ext hxc).trans (hkc.mono (by omega) (fun t ht => .inl ht)), rfl, hj6⟩
  · rintro D W' hD ⟨hj, _⟩ hdf
    have hbs := HSB.out
    go_wp2
    refine leave_marked hdf (fun _ => results_none rfl _ _ _) ⟨⟨_, rfl⟩, .inl (HJ.out _ _ _ (Turn.put hdf rfl (by omega) _) hj)⟩
  · rintro D q W' hD ⟨rfl, hj⟩ hdf
    have hbs := HSB.out
    go_wp2
    refine leave_marked hdf (fun _ => results_none rfl _ _ _) ⟨⟨_, rfl⟩, .inr (HJS.out _ _ (Turn.put hdf rfl (by omega) _) hj)⟩
end Go.Proofs.YtilbofkpjgcchaaDoor
