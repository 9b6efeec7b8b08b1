/- Which batches may be. -/
import Derived.Test.YtilbofkpjgcchaaDoorBatK
namespace Go.Proofs.YtilbofkpjgcchaaDoor
set_option maxRecDepth 100000
set_option maxHeartbeats 2000000
set_option linter.unusedVariables false
set_option linter.unusedSimpArgs false
open Go.RowKit

/-- Which change may not be, or how many there are. -/
def batchF (l : List Ch) : Int × Int := if 64 < l.length then (0, 3) else match l.findIdx? (fun c => !(okC c)) with
  | some i => ((i : Int) + 1, 190)
  | none => ((l.length : Int), 0)
def AllOk (l : List Ch) (k : Nat) : Prop := ∀ j (hj : j < l.length), j < k → okC l[j] = true
theorem batchF_bad {l : List Ch} {k : Nat} (h64 : l.length ≤ 64) (hk : k < l.length) (hg : AllOk l k) (hb : okC l[k] = false) : batchF l = ((k : Int) + 1, 190) := by
  have : l.findIdx? (fun c => !(okC c)) = some k := by
    rw [List.findIdx?_eq_some_iff_getElem]
    exact ⟨hk, by rw [hb]; rfl, fun j hj => by rw [hg j (by omega) hj]; decide⟩
  unfold batchF
  rw [if_neg (by omega), this]
theorem batchF_good {l : List Ch} (h64 : l.length ≤ 64) (hg : AllOk l l.length) : batchF l = ((l.length : Int), 0) := by
  have : l.findIdx? (fun c => !(okC c)) = none := by
    rw [List.findIdx?_eq_none_iff]
    intro x hx
    obtain ⟨j, hj, rfl⟩ := List.getElem_of_mem hx
    rw [hg j hj hj]; rfl
  unfold batchF
  rw [if_neg (by omega), this]
theorem batch_any (v : Value) (l : List Ch) (w : World) (hv : Chs w v l) (hf : ∀ c ∈ l, c.Fits) (hW : Ways w) :
    Calls Tryd.prog 22 #[v] w fun e w' => e = .returned (.tuple #[.int .i64 (batchF l).1, .int .i64 (batchF l).2]) ∧ Ext w w' := by
  obtain ⟨a, c, rfl, hc1, hc2⟩ := hv.shape
  by_cases h64 : 64 < l.length
  · have HF : Hid (batchF l = (0, 3)) := Lib.hid (by unfold batchF; rw [if_pos h64])
    go_enter Tryd.func22, Tryd.ntmps22
    go_wp2_with fail
    go_ret2
    exact ⟨by rw [HF.out]; rfl, Ext.refl _⟩
  · have hbad := fun k hk hg hb => batchF_bad (l := l) (k := k) (by omega) hk hg hb
    have hgood := fun hg => batchF_good (l := l) (by omega) hg
    have HBad := Lib.hid hbad
    have HGood := Lib.hid hgood
    have HV := Lib.hid hv
    have HFits := Lib.hid hf
    clear hbad hgood hv hf
    go_enter Tryd.func22, Tryd.ntmps22
    go_wp2_with fail
    go_loopg [12] l.length (fun g i wr => ∃ k : Nat, k ≤ l.length ∧ g = l.length - k ∧ i = .int .i64 k ∧ Ext w wr ∧ AllOk l k)
    case atStart => exact ⟨0, Nat.zero_le _, rfl, rfl, Ext.refl _, fun j _ h => by omega⟩
    case round =>
      obtain ⟨k, hk, hg, rfl, hx, hok⟩ := hrel
      have Hg := Lib.hid hg
      have Hok := Lib.hid hok
      clear hg hok
      by_cases hlt : k < l.length
      · obtain ⟨b, o, rfl, c0, c1, c2, c3, c4⟩ := (HV.out.ext hx).at_ hlt
        have hch := fun w' (h : Ext w w') => check_any l[k] w' (HFits.out _ (List.getElem_mem hlt)) (hW.ext h)
        have hb := HBad.out k hlt Hok.out
        have hnx : okC l[k] = true → AllOk l (k + 1) := fun h j hj hjk => by
          by_cases e : j = k
          · subst e; exact h
          · exact Hok.out j hj (by omega)
        unfold errC at hch
        generalize l[k] = x at *
        obtain ⟨kd, key, name, val, to_⟩ := x
        unfold Ch.v at hch
        dsimp only at hch c0 c1 c2 c3 c4
        have HCH := Lib.hid hch
        have HB := Lib.hid hb
        have HN := Lib.hid hnx
        have hbx := RowAt.new wr 27 [.int .i64 kd, .string key, .string name, .string val, .string to_]
        clear hch hb hnx
        go_upto_region 6 with fail
        have hx1 := Ext.alloc wr (.cells #[.int .i64 kd, .string key, .string name, .string val, .string to_] 27)
        generalize wr.alloc (.cells #[.int .i64 kd, .string key, .string name, .string val, .string to_] 27) = w1 at *
        clear c0 c1 c2 c3 c4
        obtain ⟨c0, c1, c2, c3, c4, f0, f1, f2, f3, f4⟩ := hbx.facts5
        go_wp2_with fail
        refine (HCH.out _ (hx.trans hx1)).mono ?_
        rintro e w2 ⟨rfl, hx2⟩
        cases hok : okC ⟨kd, key, name, val, to_⟩ with
        | true =>
          simp only [if_true]
          have HN' := Lib.hid (HN.out hok)
          clear hok
          go_wp2_with fail
          go_roundg (l.length - (k + 1))
          case measure => have := Hg.out; omega
          case rel => exact ⟨k + 1, by omega, rfl, by go_num, (by repeat (first | exact Ext.refl _ | with_reducible assumption | with_reducible refine Ext.alloc_of ?_ _ | with_reducible refine Ext.drewN_of ?_ _ | with_reducible refine Ext.drew_of ?_ | (with_reducible refine Ext.set_of ?_ ?hsz _; case hsz => ((first | exact Nat.le_refl _ | omega | (simp; omega)))) | with_reducible refine Ext.via (by assumption) ?_)), HN'.out⟩
        | false =>
          simp only [Bool.false_eq_true, if_false]
          have HB' := Lib.hid (HB.out hok)
          clear hok
          go_wp2_with fail
          go_ret2
          exact ⟨by rw [HB'.out]; rfl, (by repeat (first | exact Ext.refl _ | with_reducible assumption | with_reducible refine Ext.alloc_of ?_ _ | with_reducible refine Ext.drewN_of ?_ _ | with_reducible refine Ext.drew_of ?_ | (with_reducible refine Ext.set_of ?_ ?hsz _; case hsz => ((first | exact Nat.le_refl _ | omega | (simp; omega)))) | with_reducible refine Ext.via (by assumption) ?_))⟩
      · have hF : Hid (batchF l = ((l.length : Int), 0)) := Lib.hid (HGood.out (fun j hj _ => Hok.out j hj (by omega)))
        go_wp2_with fail
        go_ret2
        exact ⟨by rw [hF.out]; rfl, hx⟩
end Go.Proofs.YtilbofkpjgcchaaDoor
