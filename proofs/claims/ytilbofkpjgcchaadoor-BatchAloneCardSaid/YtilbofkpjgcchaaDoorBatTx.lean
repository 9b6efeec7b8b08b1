/- A batch's text. -/
import Derived.Test.YtilbofkpjgcchaaDoorBatBu
import Derived.Test.YtilbofkpjgcchaaDoorBatY
namespace Go.Proofs.YtilbofkpjgcchaaDoor
set_option maxRecDepth 100000
set_option maxHeartbeats 2000000
set_option linter.unusedVariables false
set_option linter.unusedSimpArgs false
open Go.RowKit

theorem textF_snoc (l : List Ch) (k : Nat) (hk : k < l.length) : textF (l.take (k + 1)) = textF (l.take k) ++ (lineL l[k] ++ [10]) := by
  unfold textF
  rw [take_snoc l k hk, List.map_append, List.flatten_append]; simp
theorem lineL_len {c : Ch} (h : okC c = true) : (lineL c).length ≤ 250 := by
  obtain ⟨_, _, q0, q1, q2, q3⟩ := okC_iff.1 h
  replace q0 := okF_size q0
  replace q1 := okF_size q1
  replace q2 := okF_size q2
  replace q3 := okF_size q3
  have hw := word_len c.kind.toNat
  have hp : ∀ i q (s : ByteArray), s.size ≤ 40 → (partL i q s).length ≤ 43 := fun i q s hs => by
    unfold partL
    split
    · split
      · simp [bts_len]; omega
      · simp [bts_len]; omega
    · simp
  have p0 := hp 0 (hasOf c.kind.toNat 0) c.key q0
  have p1 := hp 1 (hasOf c.kind.toNat 1) c.name q1
  have p2 := hp 2 (hasOf c.kind.toNat 2) c.val q2
  have p3 := hp 3 (hasOf c.kind.toNat 3) c.to_ q3
  unfold lineL
  simp only [List.length_append]
  omega
theorem textF_len {l : List Ch} (h : ∀ c ∈ l, okC c = true) : (textF l).length ≤ 251 * l.length := by
  induction l with
  | nil => simp [textF]
  | cons c l ih =>
    have h1 := ih (fun x hx => h x (by simp [hx]))
    have h2 := lineL_len (h c (by simp))
    unfold textF at h1 ⊢
    rw [List.map_cons, List.flatten_cons, List.length_append, List.length_append, List.length_cons]
    simp only [List.length_cons, List.length_nil]
    omega
theorem bu_lt {B b : Nat} {l : List UInt8} {w : World} (h : Bu B b l w) : b < w.heap.size := h.elim (fun h => h.lt) (fun h => h.lt)
theorem at_ext {T e : TypeId} {B b : Nat} {p : Value} {bs : List Value} {w w' : World} (h : Lib.BuilderAt T e B b p bs w) (hx : Ext w w') : Lib.BuilderAt T e B b p bs w' := by
  have hlt := h.lt
  obtain ⟨h1, v, h2, h3, h4⟩ := h
  exact ⟨h1, v, (hx.block b hlt).trans h2, own_ext h3 hx, h4⟩
theorem bu_ext {B b : Nat} {l : List UInt8} {w w' : World} (h : Bu B b l w) (hx : Ext w w') : Bu B b l w' := h.elim (fun h => .inl (at_ext h hx)) (fun h => .inr (at_ext h hx))
theorem text_any (v : Value) (l : List Ch) (w : World) (hv : Chs w v l) (hf : ∀ c ∈ l, c.Fits) (hW : Ways w) :
    Calls Tryd.prog 23 #[v] w fun e w' => e = .returned (.tuple #[.string (textE l).1, .int .i64 (textE l).2]) ∧ Ext w w' := by
  obtain ⟨a, c, rfl, hc1, hc2⟩ := hv.shape
  have hba := fun w' (h : Ext w w') => batch_any (.slice a l.length c) l w' (hv.ext h) hf (hW.ext h)
  have HBA := Lib.hid hba
  have HV := Lib.hid hv
  have HFits := Lib.hid hf
  clear hv hf hba
  rcases batchF_cases l with ⟨h64, hok, hb⟩ | hb
  · have hE : textE l = (txt (textF l), 0) := by unfold textE; rw [hb]; rfl
    rw [hb] at HBA
    have HE := Lib.hid hE
    have HOK := Lib.hid hok
    clear hb hE hok
    go_enter Tryd.func23, Tryd.ntmps23
    go_wp2_with fail
    refine (HBA.out _ (Ext.refl _)).mono ?_
    rintro e w1 ⟨rfl, hx1⟩
    dsimp only
    have hb0 := bu_new w1 w.heap.size hx1.size
    go_upto_region 5 with fail
    have hx2 : Ext w1 (w1.alloc (.cells #[.pointer none, .slice none 0 0] 69)) := Ext.alloc _ _
    generalize w1.alloc (.cells #[.pointer none, .slice none 0 0] 69) = w2 at *
    have hX := hx1.trans hx2
    have hblt : w1.heap.size < w2.heap.size := bu_lt hb0
    clear hx1 hx2
    go_wp2_with fail
    go_loopg [21] l.length (fun g i wr => ∃ k : Nat, k ≤ l.length ∧ g = l.length - k ∧ i = .int .i64 k ∧ Bu w.heap.size w1.heap.size (textF (l.take k)) wr ∧ Ext w wr)
    case atStart => exact ⟨0, Nat.zero_le _, rfl, rfl, hb0, hX⟩
    case round =>
      obtain ⟨k, hk, hg, rfl, hbu, hx⟩ := hrel
      have Hg := Lib.hid hg
      have Hbu := Lib.hid hbu
      clear hg hbu hb0 hX
      by_cases hlt : k < l.length
      · obtain ⟨b, o, rfl, c0, c1, c2, c3, c4⟩ := (HV.out.ext hx).at_ hlt
        have hokk := HOK.out _ (List.getElem_mem hlt)
        have hli := fun w' (h : Ext w w') => line_any l[k] w' (HFits.out _ (List.getElem_mem hlt)) (hW.ext h)
        have hlen := lineL_len hokk
        have htl := textF_len (l := l.take k) (fun c hc => HOK.out c (List.mem_of_mem_take hc))
        rw [List.length_take] at htl
        have Hsn := Lib.hid (textF_snoc l k hlt)
        unfold lineE at hli
        rw [hokk] at hli
        simp only [if_true] at hli
        have hts := txt_size (lineL l[k])
        have htb := bts_txt (lineL l[k])
        rw [← htb] at Hsn
        generalize txt (lineL l[k]) = t at *
        clear htb hokk
        generalize l[k] = x at *
        generalize lineL x = ll at *
        obtain ⟨kd, key, name, val, to_⟩ := x
        unfold Ch.v at hli
        dsimp only at hli c0 c1 c2 c3 c4
        have HLI := Lib.hid hli
        have HBX := RowAt.new wr 27 [.int .i64 kd, .string key, .string name, .string val, .string to_]
        clear hli
        go_upto_region 8 with fail
        have hxa := Ext.alloc wr (.cells #[.int .i64 kd, .string key, .string name, .string val, .string to_] 27)
        generalize wr.alloc (.cells #[.int .i64 kd, .string key, .string name, .string val, .string to_] 27) = wa at *
        clear c0 c1 c2 c3 c4
        obtain ⟨c0, c1, c2, c3, c4, f0, f1, f2, f3, f4⟩ := HBX.facts5
        go_wp2_with fail
        refine (HLI.out _ (hx.trans hxa)).mono ?_
        rintro e wb ⟨rfl, hxb⟩
        have hsz : (t ++ (⟨#[10]⟩ : ByteArray)).size ≤ 251 := by rw [ByteArray.size_append]; have : (⟨#[10]⟩ : ByteArray).size = 1 := rfl; omega
        have hxw : Ext w wb := (by repeat (first | exact Ext.refl _ | with_reducible assumption | with_reducible refine Ext.alloc_of ?_ _ | with_reducible refine Ext.drewN_of ?_ _ | with_reducible refine Ext.drew_of ?_ | (with_reducible refine Ext.set_of ?_ ?hsz _; case hsz => ((first | exact Nat.le_refl _ | omega | (simp; omega)))) | with_reducible refine Ext.via (by assumption) ?_))
        have hwr := bu_write w.heap.size w1.heap.size (textF (l.take k)) (t ++ ⟨#[10]⟩) wb (bu_ext Hbu.out (hxa.trans hxb)) (by omega) hxw.size
        have HWR := Lib.hid hwr
        have HXW := Lib.hid hxw
        clear hwr hxw hsz
        go_wp2_with fail
        refine HWR.out.mono ?_
        rintro e wc ⟨rfl, hbu, hxc⟩
        have HBU : Hid (Bu w.heap.size w1.heap.size (textF (l.take (k + 1))) wc) := Lib.hid (by rw [Hsn.out]; rw [bts_append] at hbu; exact hbu)
        have HXC : Hid (Ext w wc) := Lib.hid (Below.trans HXW.out hxc)
        clear hbu hxc
        go_wp2_with fail
        go_roundg (l.length - (k + 1))
        case measure => have := Hg.out; omega
        case rel => exact ⟨k + 1, by omega, rfl, by go_num, HBU.out, HXC.out⟩
      · have hbu := Hbu.out
        rw [List.take_of_length_le (by omega)] at hbu
        have hst := bu_string w.heap.size w1.heap.size (textF l) wr hbu hx.size
        have HST := Lib.hid hst
        clear hst hbu
        go_wp2_with fail
        refine HST.out.mono ?_
        rintro e wz ⟨rfl, hxz⟩
        go_wp2_with fail
        go_ret2
        exact ⟨by rw [HE.out]; rfl, Below.trans hx hxz⟩
  · have hE : textE l = (⟨#[]⟩, (batchF l).2) := by unfold textE; rw [if_neg hb]
    have HE := Lib.hid hE
    generalize (batchF l).1 = p at *
    generalize (batchF l).2 = q at *
    have hq : (q != 0) = true := by simp [hb]
    clear hE
    go_enter Tryd.func23, Tryd.ntmps23
    go_wp2_with fail
    refine (HBA.out _ (Ext.refl _)).mono ?_
    rintro e w1 ⟨rfl, hx1⟩
    go_wp2_with fail
    go_ret2
    exact ⟨by rw [HE.out]; rfl, hx1⟩
end Go.Proofs.YtilbofkpjgcchaaDoor
