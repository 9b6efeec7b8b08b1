/- A token is taken, or found wrong. -/
import Derived.Test.YtngnplghjaojhaaGp09
import Derived.Test.YtngnplghjaojhaaGp00
import Derived.Test.YtngnplghjaojhaaGp03
namespace Go.Proofs.Ytngnplghjaojhaa
set_option maxRecDepth 100000
set_option maxHeartbeats 2000000
set_option linter.unusedSimpArgs false
open Go.RowKit Go.Shelf Go.Sort
attribute [local go_sem] Oper.semAt_some wide_fn wide_depth
set_option linter.unusedVariables false

/-- What a step of the reader comes to. -/
def OutT (w0 : World) (ts : List Tk) (tv : Value) (g : Nat) (c : Rc) (w : World) {α : Type} (V : α → Value) (r : Except Nat (α × Nat)) (e : Ending) (w' : World) : Prop := match r with
  | .ok (a, q) => e = .returned (V a) ∧ RdT w0 ts tv g c q w' ∧ w.grownBy w' (some g)
  | .error q => e = wrongE ∧ RdT w0 ts tv g c q w' ∧ w.grownBy w' (some g)
theorem grown_of_ext {w w' : World} (h : Ext w w') (g : Nat) : w.grownBy w' (some g) := (grown_ext h).but _
theorem bad_any {w0 : World} {ts : List Tk} {tv : Value} {g : Nat} {c : Rc} {p : Nat} {w : World} (h : RdT w0 ts tv g c p w) (k : Nat) (hk : k ≤ p) (hl : ts.length ≤ 9223372036854775807) :
    Calls Try.prog 53 #[.pointer (some ⟨g, 0, none⟩), .int .i64 k] w fun e w' => e = wrongE ∧ RdT w0 ts tv g c (p - k) w' ∧ w.grownBy w' (some g) := by
  have H := Lib.hid h
  have hle := h.le
  clear h
  obtain ⟨f8, f9, f10⟩ := H.out.facts
  obtain ⟨q, rfl⟩ : ∃ q, p = q + k := ⟨p - k, by omega⟩
  have hq : ((q + k : Nat) : Int) - (k : Int) = (q : Int) := by omega
  have HQ := Lib.hid hq
  have hqk : q + k - k = q := by omega
  rw [hqk]
  have hs := H.out.set (q := q) (by omega)
  have hg := grown_set w g 9 (.int .i64 q)
  have HS := Lib.hid hs
  have HG := Lib.hid hg
  clear hs hg hqk
  go_enter Try.func53, Try.ntmps53
  go_wp2
  exact ⟨rfl, rfl, HS.out, HG.out⟩
theorem textAt_at {ts : List Tk} {p : Nat} (h : p < ts.length) : textAt ts p = ts[p].text := by
  unfold textAt
  simp [List.getD, h]
def groK4 : Nat → Gro
  | 3 => .read
  | 7 => .read
  | 11 => .read
  | _ => .pure
set_option maxHeartbeats 1000000 in
theorem take_any {w0 : World} {ts : List Tk} {tv : Value} {g : Nat} {c : Rc} {p : Nat} {w : World} (h : RdT w0 ts tv g c p w) (k : Int) (hk0 : k ≠ 0) (hl : ts.length ≤ 1000000) :
    Calls Try.prog 101 #[.pointer (some ⟨g, 0, none⟩), .int .i64 k] w (OutT w0 ts tv g c w Value.string (takeP ts k p)) := by
  have hmo : Try.prog.follows .mixedOrders = true := by kernel_rfl
  have hkd := kind_any h
  obtain ⟨a, cap, rfl, hcap, hmax⟩ := h.toks.shape
  have H := Lib.hid h
  have HKD := Lib.hid hkd
  have hle := h.le
  clear h hkd
  by_cases hk : kindAt ts p = k
  · have hlt : p < ts.length := kindAt_lt (by rw [hk]; exact hk0)
    have hres : takeP ts k p = .ok (ts[p].text, p + 1) := by unfold takeP; rw [if_pos hk, textAt_at hlt]
    rw [hres]
    have HLT := Lib.hid hlt
    rw [hk] at HKD
    clear hres hk
    go_enter Try.func101, Try.ntmps101
    go_wp2_with fail
    refine HKD.out.mono ?_
    rintro e w1 ⟨rfl, hx1⟩
    have HR1 := Lib.hid (H.out.grow hx1)
    have HX1 := Lib.hid hx1
    clear hx1 HKD
    obtain ⟨f8, f9, f10⟩ := HR1.out.facts
    have hs := HR1.out.set (q := p + 1) (by omega)
    have HS := Lib.hid hs
    have HG := Lib.hid ((grown_of_ext HX1.out g).trans (grown_set w1 g 9 (.int .i64 (p + 1 : Nat))))
    have hcast : ((p + 1 : Nat) : Int) = (p : Int) + 1 := by omega
    rw [hcast] at HS HG
    clear hs
    go_upto_region 4 with fail
    clear f8 f9 f10 hcast
    refine wp_region_gro groK4 [0, 1, 2, 3, 4, 5, 6, 7, 8, 9, 10, 11, 12] hmo (by kernel_rfl) rfl (by kernel_rfl) (fun _ _ _ _ _ h => h) ?_
    have HSD := Lib.hid (HS.out.grow (Ext.drewN (w1.setCell ⟨g, 9, none⟩ (.int .i64 ((p : Int) + 1))) 1))
    have HGD := Lib.hid (HG.out.trans (grown_of_ext (Ext.drewN (w1.setCell ⟨g, 9, none⟩ (.int .i64 ((p : Int) + 1))) 1) g))
    clear HS HG
    replace HSD : Hid (RdT w0 ts (.slice a ts.length cap) g c (p + 1) (w1.setCell ⟨g, 9, none⟩ (.int .i64 ((p : Int) + 1))).drew) := HSD
    replace HGD : Hid (w.grownBy (w1.setCell ⟨g, 9, none⟩ (.int .i64 ((p : Int) + 1))).drew (some g)) := HGD
    generalize (w1.setCell ⟨g, 9, none⟩ (.int .i64 ((p : Int) + 1))).drew = w2 at *
    obtain ⟨f8, f9, f10⟩ := HSD.out.facts
    obtain ⟨b, o, rfl, t0, t1, t2⟩ := (Toks.ext HSD.out.toks HSD.out.ext).at_ HLT.out
    have hcast : ((p + 1 : Nat) : Int) = (p : Int) + 1 := by omega
    rw [hcast] at f9
    have hsub : IntKind.i64.wrap (p : Int) = (p : Int) := IntWalk.i64_in _ (by omega)
    have hlt := HLT.out
    have HTX : Hid (∃ tx, ts[p].text = tx) := Lib.hid ⟨_, rfl⟩
    obtain ⟨tx, htx⟩ := HTX.out
    rw [htx] at t1
    have HT := Lib.hid htx
    clear hcast t0 t2 f10 htx HTX
    repeat (first
      | (refine groL_pure rfl rfl ?_; intro K hK; go_simp; refine hK _ ?_; clear hK K)
      | (refine groL_read rfl rfl ?_; intro K S hS hK; go_simp; refine hK _ ?_; clear hK K hS S)
      | (refine groL_read rfl rfl ?_; intro K S hS hK; go_simp; refine ⟨hS _ ?_, hK _ ?_⟩; (clear hK K hS S; intro w' hx'; have hce := ext_some hx'; go_simp); clear hK K hS S)
      | (refine groL_write rfl rfl ?_; intro K hK; go_simp; refine hK _ _ ?_; clear hK K))
    refine groL_nil ?_
    clear f8 f9 t1 hsub
    go_wp2_with fail
    go_ret
    exact ⟨by rw [HT.out]; rfl, HSD.out, HGD.out⟩
  · have hres : takeP ts k p = .error p := by unfold takeP; rw [if_neg hk]
    rw [hres]
    have hkb : (kindAt ts p != k) = true := by simp [hk]
    generalize kindAt ts p = kk at *
    clear hres hk
    go_enter Try.func101, Try.ntmps101
    go_wp2_with fail
    refine HKD.out.mono ?_
    rintro e w1 ⟨rfl, hx1⟩
    have hb := bad_any (H.out.grow hx1) 0 (by omega) (by omega)
    have HB := Lib.hid hb
    have HX1 := Lib.hid hx1
    clear hx1 HKD hb
    go_wp2_with fail
    refine HB.out.mono ?_
    rintro e w2 ⟨rfl, hr2, hg2⟩
    have HR2 := Lib.hid hr2
    have HG2 := Lib.hid ((grown_of_ext HX1.out g).trans hg2)
    clear hr2 hg2
    unfold wrongE
    go_wp2_with fail
    exact ⟨rfl, rfl, HR2.out, HG2.out⟩
/-- What a question of the reader comes to. -/
def SayT (w0 : World) (ts : List Tk) (tv : Value) (g : Nat) (c : Rc) (w : World) (b : Bool) (p : Nat) (e : Ending) (w' : World) : Prop :=
  e = .returned (.bool b) ∧ RdT w0 ts tv g c (if b = true then p + 1 else p) w' ∧ w.grownBy w' (some g)
set_option maxHeartbeats 1000000 in
theorem may_any' {w0 : World} {ts : List Tk} {tv : Value} {g : Nat} {c : Rc} {p : Nat} {w : World} (h : RdT w0 ts tv g c p w) (k : Int) (hk0 : k ≠ 0) (hl : ts.length ≤ 1000000) :
    Calls Try.prog 78 #[.pointer (some ⟨g, 0, none⟩), .int .i64 k] w (SayT w0 ts tv g c w (decide (kindAt ts p = k)) p) := by
  have hkd := kind_any h
  have H := Lib.hid h
  have HKD := Lib.hid hkd
  have hle := h.le
  clear h hkd
  by_cases hk : kindAt ts p = k
  · have hlt : p < ts.length := kindAt_lt (by rw [hk]; exact hk0)
    have HLT := Lib.hid hlt
    rw [decide_eq_true hk]
    rw [hk] at HKD
    clear hk
    go_enter Try.func78, Try.ntmps78
    go_wp2_with fail
    refine HKD.out.mono ?_
    rintro e w1 ⟨rfl, hx1⟩
    have HR1 := Lib.hid (H.out.grow hx1)
    have HX1 := Lib.hid hx1
    clear hx1 HKD
    obtain ⟨f8, f9, f10⟩ := HR1.out.facts
    have hs := HR1.out.set (q := p + 1) (by omega)
    have HS := Lib.hid hs
    have HG := Lib.hid ((grown_of_ext HX1.out g).trans (grown_set w1 g 9 (.int .i64 (p + 1 : Nat))))
    have hcast : ((p + 1 : Nat) : Int) = (p : Int) + 1 := by omega
    rw [hcast] at HS HG
    clear hs hcast
    go_wp2_with fail
    go_ret
    exact ⟨rfl, HS.out, HG.out⟩
  · rw [decide_eq_false hk]
    have hkb : (kindAt ts p == k) = false := by simp [hk]
    generalize kindAt ts p = kk at *
    clear hk
    go_enter Try.func78, Try.ntmps78
    go_wp2_with fail
    refine HKD.out.mono ?_
    rintro e w1 ⟨rfl, hx1⟩
    have HR1 := Lib.hid (H.out.grow hx1)
    have HX1 := Lib.hid hx1
    clear hx1 HKD
    go_wp2_with fail
    go_ret
    exact ⟨rfl, HR1.out, grown_of_ext HX1.out g⟩
end Go.Proofs.Ytngnplghjaojhaa

/- A word, a number, tokens one behind the other. -/
namespace Go.Proofs.Ytngnplghjaojhaa
set_option maxRecDepth 100000
set_option maxHeartbeats 2000000
set_option linter.unusedSimpArgs false
open Go.RowKit Go.Shelf Go.Sort
attribute [local go_sem] Oper.semAt_some wide_fn wide_depth
set_option linter.unusedVariables false

def groW1 : Nat → Gro
  | 1 => .grow
  | 7 => .read
  | 11 => .read
  | 14 => .read
  | _ => .pure
set_option maxHeartbeats 1000000 in
theorem word_any' {w0 : World} {ts : List Tk} {tv : Value} {g : Nat} {c : Rc} {p : Nat} {w : World} (h : RdT w0 ts tv g c p w) (s : ByteArray) (hl : ts.length ≤ 1000000) :
    Calls Try.prog 79 #[.pointer (some ⟨g, 0, none⟩), .string s] w (SayT w0 ts tv g c w (saysP ts s p) p) := by
  have hmo : Try.prog.follows .mixedOrders = true := by kernel_rfl
  obtain ⟨a, cap, rfl, hcap, hmax⟩ := h.toks.shape
  have hdr : Ext w w.drew := Ext.drewN w 1
  have hd := h.grow hdr
  have HKD := Lib.hid (kind_any hd)
  have HD := Lib.hid hd
  have HX := Lib.hid hdr
  have hle := h.le
  clear h hd hdr
  by_cases hk : kindAt ts p = 1
  · have hlt : p < ts.length := kindAt_lt (by rw [hk]; decide)
    have HLT := Lib.hid hlt
    obtain ⟨tx, htx⟩ : ∃ tx, textAt ts p = tx := ⟨_, rfl⟩
    have hsy : saysP ts s p = decide (tx = s) := by unfold saysP; rw [hk, htx]; rfl
    rw [hsy]
    have HTX := Lib.hid htx
    rw [hk] at HKD
    clear hk hsy htx
    go_enter Try.func79, Try.ntmps79
    go_upto_region 1 with fail
    refine wp_region_gro groW1 [0, 1, 2, 3, 4, 5, 6, 7, 8, 9, 10, 11, 12, 13, 14, 15, 16, 17, 18] hmo (by kernel_rfl) rfl (by kernel_rfl) (fun _ _ _ _ _ h => h) ?_
    replace HX : Hid (Ext w w.drew) := HX
    generalize w.drew = w1 at *
    repeat (first
      | (refine groL_pure rfl rfl ?_; intro K hK; go_simp; refine hK _ ?_; clear hK K)
      | (refine groL_read rfl rfl ?_; intro K S hS hK; go_simp; refine hK _ ?_; clear hK K hS S)
      | (refine groL_read rfl rfl ?_; intro K S hS hK; go_simp; refine ⟨hS _ ?_, hK _ ?_⟩; (clear hK K hS S; intro w' hx'; have hce := ext_some hx'; go_simp); clear hK K hS S)
      | (refine groL_write rfl rfl ?_; intro K hK; go_simp; refine hK _ _ ?_; clear hK K))
    refine groL_grow rfl rfl ?_
    intro K hK
    go_simp
    (refine HKD.out.mono ?_; rintro e w2 ⟨rfl, hx2⟩)
    go_simp
    refine hK _ _ ⟨hx2, ?_⟩
    clear hK K
    have HR2 := Lib.hid (HD.out.grow hx2)
    have HX2 := Lib.hid (HX.out.trans hx2)
    obtain ⟨f8, f9, f10⟩ := HR2.out.facts
    obtain ⟨b, o, rfl, t0, t1, t2⟩ := (Toks.ext HR2.out.toks HR2.out.ext).at_ HLT.out
    rw [← textAt_at HLT.out, HTX.out] at t1
    clear hx2 HKD t0 t2 f10 HTX
    by_cases he : tx = s
    · subst he
      have hs := HR2.out.set (q := p + 1) (by omega)
      have HS := Lib.hid hs
      have HG := Lib.hid ((grown_of_ext HX2.out g).trans (grown_set w2 g 9 (.int .i64 (p + 1 : Nat))))
      have hcast : ((p + 1 : Nat) : Int) = (p : Int) + 1 := by omega
      rw [hcast] at HS HG
      have f11 := HR2.out.facts.2.2
      clear hs hcast
      repeat (first
        | (refine groL_pure rfl rfl ?_; intro K hK; go_simp; refine hK _ ?_; clear hK K)
        | (refine groL_read rfl rfl ?_; intro K S hS hK; go_simp; refine hK _ ?_; clear hK K hS S)
        | (refine groL_read rfl rfl ?_; intro K S hS hK; go_simp; refine ⟨hS _ ?_, hK _ ?_⟩; (clear hK K hS S; intro w' hx'; have hce := ext_some hx'; go_simp); clear hK K hS S)
        | (refine groL_write rfl rfl ?_; intro K hK; go_simp; refine hK _ _ ?_; clear hK K))
      refine groL_nil ?_
      go_wp2_with fail
      go_ret
      exact ⟨by simp, HS.out, HG.out⟩
    · have he1 : (tx.toList == s.toList) = false := str_no he
      have he2 : decide (tx = s) = false := decide_eq_false he
      have HSY := Lib.hid he2
      clear he
      repeat (first
        | (refine groL_pure rfl rfl ?_; intro K hK; go_simp; refine hK _ ?_; clear hK K)
        | (refine groL_read rfl rfl ?_; intro K S hS hK; go_simp; refine hK _ ?_; clear hK K hS S)
        | (refine groL_read rfl rfl ?_; intro K S hS hK; go_simp; refine ⟨hS _ ?_, hK _ ?_⟩; (clear hK K hS S; intro w' hx'; have hce := ext_some hx'; go_simp); clear hK K hS S)
        | (refine groL_write rfl rfl ?_; intro K hK; go_simp; refine hK _ _ ?_; clear hK K))
      refine groL_nil ?_
      clear f8 f9 t1
      go_wp2_with fail
      go_ret
      exact ⟨by rw [HSY.out]; rfl, by rw [HSY.out]; exact HR2.out, grown_of_ext HX2.out g⟩
  · have hsy : saysP ts s p = false := by unfold saysP; rw [decide_eq_false hk]; rfl
    rw [hsy]
    have hkb : (kindAt ts p == 1) = false := by simp [hk]
    generalize kindAt ts p = kk at *
    clear hk hsy
    go_enter Try.func79, Try.ntmps79
    go_upto_region 1 with fail
    refine wp_region_gro groW1 [0, 1, 2, 3, 4, 5, 6, 7, 8, 9, 10, 11, 12, 13, 14, 15, 16, 17, 18] hmo (by kernel_rfl) rfl (by kernel_rfl) (fun _ _ _ _ _ h => h) ?_
    replace HX : Hid (Ext w w.drew) := HX
    generalize w.drew = w1 at *
    repeat (first
      | (refine groL_pure rfl rfl ?_; intro K hK; go_simp; refine hK _ ?_; clear hK K)
      | (refine groL_read rfl rfl ?_; intro K S hS hK; go_simp; refine hK _ ?_; clear hK K hS S)
      | (refine groL_read rfl rfl ?_; intro K S hS hK; go_simp; refine ⟨hS _ ?_, hK _ ?_⟩; (clear hK K hS S; intro w' hx'; have hce := ext_some hx'; go_simp); clear hK K hS S)
      | (refine groL_write rfl rfl ?_; intro K hK; go_simp; refine hK _ _ ?_; clear hK K))
    refine groL_grow rfl rfl ?_
    intro K hK
    go_simp
    (refine HKD.out.mono ?_; rintro e w2 ⟨rfl, hx2⟩)
    go_simp
    refine hK _ _ ⟨hx2, ?_⟩
    clear hK K
    have HR2 := Lib.hid (HD.out.grow hx2)
    have HX2 := Lib.hid (HX.out.trans hx2)
    clear hx2 HKD
    repeat (first
      | (refine groL_pure rfl rfl ?_; intro K hK; go_simp; refine hK _ ?_; clear hK K)
      | (refine groL_read rfl rfl ?_; intro K S hS hK; go_simp; refine hK _ ?_; clear hK K hS S)
      | (refine groL_read rfl rfl ?_; intro K S hS hK; go_simp; refine ⟨hS _ ?_, hK _ ?_⟩; (clear hK K hS S; intro w' hx'; have hce := ext_some hx'; go_simp); clear hK K hS S)
      | (refine groL_write rfl rfl ?_; intro K hK; go_simp; refine hK _ _ ?_; clear hK K))
    refine groL_nil ?_
    go_wp2_with fail
    go_ret
    exact ⟨rfl, HR2.out, grown_of_ext HX2.out g⟩
def groN2 : Nat → Gro
  | 3 => .read
  | 7 => .read
  | 10 => .read
  | 11 => .grow
  | _ => .pure
theorem takeP_lt {ts : List Tk} {k : Int} (hk0 : k ≠ 0) {p : Nat} (hk : kindAt ts p = k) : p < ts.length := kindAt_lt (by rw [hk]; exact hk0)
set_option maxHeartbeats 1000000 in
theorem number_any' {w0 : World} {ts : List Tk} {tv : Value} {g : Nat} {c : Rc} {p : Nat} {w : World} (h : RdT w0 ts tv g c p w) (hl : ts.length ≤ 1000000) :
    Calls Try.prog 83 #[.pointer (some ⟨g, 0, none⟩)] w (OutT w0 ts tv g c w (fun n => .int .i64 n) (numP ts p)) := by
  have hmo : Try.prog.follows .mixedOrders = true := by kernel_rfl
  have htk := take_any h 1 (by decide) hl
  obtain ⟨a, cap, rfl, hcap, hmax⟩ := h.toks.shape
  have HTK := Lib.hid htk
  have hle := h.le
  have hsz := h.szs
  have HSZ := Lib.hid hsz
  clear h htk hsz
  by_cases hk : kindAt ts p = 1
  · have hlt : p < ts.length := takeP_lt (by decide) hk
    have htp : takeP ts 1 p = .ok (textAt ts p, p + 1) := by unfold takeP; rw [if_pos hk]
    have hget : ts[p] = ts.getD p tkNil := by simp [List.getD, hlt]
    have hnp : numP ts p = match (ts.getD p tkNil).number with | none => .error p | some n => .ok (n, p + 1) := by
      unfold numP
      rw [htp]
      simp only [Except.bind]
      try (cases (ts.getD p tkNil).number <;> rfl)
    rw [htp] at HTK
    rw [hnp]
    have hgs : (ts.getD p tkNil).text.size ≤ 9223372036854775800 := by rw [← hget]; exact HSZ.out _ (List.getElem_mem hlt)
    have HGET := Lib.hid hget
    generalize ts.getD p tkNil = t at *
    obtain ⟨nn, hnn⟩ : ∃ nn, t.number = nn := ⟨_, rfl⟩
    rw [hnn]
    have HNN := Lib.hid hnn
    clear htp hnp hk hget hnn
    go_enter Try.func83, Try.ntmps83
    go_wp2_with fail
    refine HTK.out.mono ?_
    rintro e w1 ⟨rfl, hr1, hg1⟩
    have hdr : Ext w1 w1.drew := Ext.drewN w1 1
    have HR1 := Lib.hid (hr1.grow hdr)
    have HG1 := Lib.hid (hg1.trans (grown_of_ext hdr g))
    clear HTK hr1 hg1
    go_upto_region 2 with fail
    refine wp_region_gro groN2 [0, 1, 2, 3, 4, 5, 6, 7, 8, 9, 10, 11, 12, 13, 14, 15, 16] hmo (by kernel_rfl) rfl (by kernel_rfl) (fun _ _ _ _ _ h => h) ?_
    replace HR1 : Hid (RdT w0 ts (.slice a ts.length cap) g c (p + 1) w1.drew) := HR1
    replace HG1 : Hid (w.grownBy w1.drew (some g)) := HG1
    clear hdr
    generalize w1.drew = w2 at *
    obtain ⟨f8, f9, f10⟩ := HR1.out.facts
    obtain ⟨b, o, rfl, t0, t1, t2⟩ := (Toks.ext HR1.out.toks HR1.out.ext).at_ hlt
    have hcast : ((p + 1 : Nat) : Int) = (p : Int) + 1 := by omega
    rw [hcast] at f9
    have hsub : IntKind.i64.wrap (p : Int) = (p : Int) := IntWalk.i64_in _ (by omega)
    have hnm := number_any t w2 (by omega)
    rw [HNN.out] at hnm
    rw [HGET.out] at t0 t1 t2
    obtain ⟨tk, tt, ta⟩ := t
    unfold tkV at hnm
    dsimp only at t0 t1 t2 hnm
    have HNM := Lib.hid hnm
    clear hnm hcast f10 hgs
    cases nn with
    | none =>
      unfold numE at HNM
      dsimp only at HNM
      repeat (first
        | (refine groL_pure rfl rfl ?_; intro K hK; go_simp; refine hK _ ?_; clear hK K)
        | (refine groL_read rfl rfl ?_; intro K S hS hK; go_simp; refine hK _ ?_; clear hK K hS S)
        | (refine groL_read rfl rfl ?_; intro K S hS hK; go_simp; refine ⟨hS _ ?_, hK _ ?_⟩; (clear hK K hS S; intro w' hx'; have hce := ext_some hx'; go_simp); clear hK K hS S)
        | (refine groL_write rfl rfl ?_; intro K hK; go_simp; refine hK _ _ ?_; clear hK K))
      refine groL_grow rfl rfl ?_
      intro K hK
      go_simp
      (refine HNM.out.mono ?_; rintro e w3 ⟨rfl, hx3⟩)
      go_simp
      refine hK _ _ ⟨hx3, ?_⟩
      clear hK K
      repeat (first
        | (refine groL_pure rfl rfl ?_; intro K hK; go_simp; refine hK _ ?_; clear hK K)
        | (refine groL_read rfl rfl ?_; intro K S hS hK; go_simp; refine hK _ ?_; clear hK K hS S)
        | (refine groL_read rfl rfl ?_; intro K S hS hK; go_simp; refine ⟨hS _ ?_, hK _ ?_⟩; (clear hK K hS S; intro w' hx'; have hce := ext_some hx'; go_simp); clear hK K hS S)
        | (refine groL_write rfl rfl ?_; intro K hK; go_simp; refine hK _ _ ?_; clear hK K))
      refine groL_nil ?_
      have hb := bad_any (HR1.out.grow hx3) 1 (by omega) (by omega)
      have HB := Lib.hid hb
      have HG3 := Lib.hid (HG1.out.trans (grown_of_ext hx3 g))
      clear hb hx3 HNM f8 f9 t0 t1 t2 hsub
      go_wp2_with fail
      refine HB.out.mono ?_
      rintro e w4 ⟨rfl, hr4, hg4⟩
      have HR4 := Lib.hid hr4
      have HG4 := Lib.hid (HG3.out.trans hg4)
      clear hr4 hg4 HB
      unfold wrongE
      go_wp2_with fail
      exact ⟨rfl, rfl, HR4.out, HG4.out⟩
    | some n =>
      unfold numE at HNM
      dsimp only at HNM
      repeat (first
        | (refine groL_pure rfl rfl ?_; intro K hK; go_simp; refine hK _ ?_; clear hK K)
        | (refine groL_read rfl rfl ?_; intro K S hS hK; go_simp; refine hK _ ?_; clear hK K hS S)
        | (refine groL_read rfl rfl ?_; intro K S hS hK; go_simp; refine ⟨hS _ ?_, hK _ ?_⟩; (clear hK K hS S; intro w' hx'; have hce := ext_some hx'; go_simp); clear hK K hS S)
        | (refine groL_write rfl rfl ?_; intro K hK; go_simp; refine hK _ _ ?_; clear hK K))
      refine groL_grow rfl rfl ?_
      intro K hK
      go_simp
      (refine HNM.out.mono ?_; rintro e w3 ⟨rfl, hx3⟩)
      go_simp
      refine hK _ _ ⟨hx3, ?_⟩
      clear hK K
      repeat (first
        | (refine groL_pure rfl rfl ?_; intro K hK; go_simp; refine hK _ ?_; clear hK K)
        | (refine groL_read rfl rfl ?_; intro K S hS hK; go_simp; refine hK _ ?_; clear hK K hS S)
        | (refine groL_read rfl rfl ?_; intro K S hS hK; go_simp; refine ⟨hS _ ?_, hK _ ?_⟩; (clear hK K hS S; intro w' hx'; have hce := ext_some hx'; go_simp); clear hK K hS S)
        | (refine groL_write rfl rfl ?_; intro K hK; go_simp; refine hK _ _ ?_; clear hK K))
      refine groL_nil ?_
      have HR3 := Lib.hid (HR1.out.grow hx3)
      have HG3 := Lib.hid (HG1.out.trans (grown_of_ext hx3 g))
      clear hx3 HNM f8 f9 t0 t1 t2 hsub
      go_wp2_with fail
      go_ret
      exact ⟨rfl, HR3.out, HG3.out⟩
  · have htp : takeP ts 1 p = .error p := by unfold takeP; rw [if_neg hk]
    have hnp : numP ts p = .error p := by unfold numP; rw [htp]; rfl
    rw [htp] at HTK
    rw [hnp]
    clear htp hnp hk
    go_enter Try.func83, Try.ntmps83
    go_wp2_with fail
    refine HTK.out.mono ?_
    rintro e w1 ⟨rfl, hr1, hg1⟩
    have HR1 := Lib.hid hr1
    have HG1 := Lib.hid hg1
    clear HTK hr1 hg1
    unfold wrongE
    go_wp2_with fail
    exact ⟨rfl, rfl, HR1.out, HG1.out⟩
end Go.Proofs.Ytngnplghjaojhaa

/- The reader among its atoms: what is its own, and what it leaves as it was. -/
namespace Go.Proofs.Ytngnplghjaojhaa
set_option maxRecDepth 100000
set_option maxHeartbeats 2000000
set_option linter.unusedSimpArgs false
open Go.RowKit Go.Shelf Go.Sort
set_option linter.unusedVariables false

def atCells (a : Atm) : List Value := [.int .i64 a.kind, .bool a.fk, .string a.fn, .string a.name, .string a.value, .bool a.tk, .string a.tn]
/-- Only own blocks have changed; what is own now was so, or is new. -/
structure Chg (own : List Nat) (w : World) (own' : List Nat) (w' : World) : Prop where
  os : w'.os = w.os
  tape : w'.tape = w.tape
  output : w'.output = w.output
  size : w.heap.size ≤ w'.heap.size
  block : ∀ b, b < w.heap.size → b ∉ own → w'.heap[b]? = w.heap[b]?
  new : ∀ b ∈ own', b ∈ own ∨ w.heap.size ≤ b
theorem Chg.refl (own : List Nat) (w : World) : Chg own w own w := ⟨rfl, rfl, rfl, Nat.le_refl _, fun _ _ _ => rfl, fun _ h => .inl h⟩
theorem Chg.trans {o o' o'' : List Nat} {w w' w'' : World} (h : Chg o w o' w') (k : Chg o' w' o'' w'') : Chg o w o'' w'' :=
  ⟨k.os.trans h.os, k.tape.trans h.tape, k.output.trans h.output, Nat.le_trans h.size k.size, fun b hb hn => (k.block b (Nat.lt_of_lt_of_le hb h.size) (fun hm => (h.new b hm).elim hn (by omega))).trans (h.block b hb hn),
   fun b hb => (k.new b hb).elim (h.new b) (fun hge => .inr (Nat.le_trans h.size hge))⟩
theorem Chg.ext {own : List Nat} {w w' : World} (hx : Ext w w') : Chg own w own w' := ⟨hx.os, hx.tape, hx.output, hx.size, fun b hb _ => hx.block b hb, fun _ h => .inl h⟩
theorem Chg.grown {own : List Nat} {w w' : World} {g : Nat} (h : w.grownBy w' (some g)) (hg : g ∈ own) : Chg own w own w' :=
  ⟨h.os, h.tape, h.output, h.size, fun b hb hn => h.block b hb (fun e => hn (by cases e; exact hg)), fun _ h => .inl h⟩
theorem RowAt.chg {own own' : List Nat} {w w' : World} {x : Nat} {t : TypeId} {xs : List Value} (h : RowAt w x t xs) (hc : Chg own w own' w') (hn : x ∉ own) : RowAt w' x t xs ∧ x ∉ own' :=
  ⟨(hc.block x h.lt hn).trans h, fun hm => (hc.new x hm).elim hn (fun hge => by have := h.lt; omega)⟩
/-- The cells of the reader while it reads items. -/
def rcI (av vv : Value) (m d e : Nat) : Rc := ⟨av, .slice none 0 0, .bool false, .bool false, .bool false, .int .i64 0, .int .i64 0, .slice none 0 0, .int .i64 d, .int .i64 e, vv, .map (some m)⟩
def metKv (vars : List ByteArray) : List (Value × Value) := vars.map fun s => (.string s, .int .i64 1)
structure RdJ (w0 : World) (ts : List Tk) (tv : Value) (g : Nat) (own : List Nat) (st : PS) (d e : Nat) (av vv : Value) (m : Nat) (W : World) : Prop where
  rd : RdT w0 ts tv g (rcI av vv m d e) st.p W
  gin : g ∈ own
  min_ : m ∈ own
  gm : g ≠ m
  lo : ∀ b ∈ own, w0.heap.size ≤ b ∧ b < W.heap.size
  atoms : W.ownsRow w0.heap.size 64 7 av st.atoms.length (st.atoms.flatMap atCells)
  ain : ∀ b, av.ownBlock = some b → b ∈ own
  vars : W.ownsRow w0.heap.size 9 1 vv st.vars.length (st.vars.map Value.string)
  vin : ∀ b, vv.ownBlock = some b → b ∈ own
  met : MapAt .string W m (metKv st.vars)
def RdP (w0 : World) (ts : List Tk) (tv : Value) (g : Nat) (own : List Nat) (st : PS) (d e : Nat) (W : World) : Prop := ∃ av vv m, RdJ w0 ts tv g own st d e av vv m W
/-- The reader has stopped at a wrong token. -/
def BadI (w0 : World) (ts : List Tk) (tv : Value) (g : Nat) (own : List Nat) (w : World) (q : Nat) (e : Ending) (w' : World) : Prop := e = wrongE ∧ (∃ c, RdT w0 ts tv g c q w') ∧ ∃ own', Chg own w own' w'
theorem heap_set_ne {w w' : World} {g b : Nat} (h : w.grownBy w' (some g)) (hb : b < w.heap.size) (hne : b ≠ g) : w'.heap[b]? = w.heap[b]? := h.block b hb (fun e => hne (Option.some.inj e))
/-- An owned row of another type than the block that turns. -/
theorem own_turn {W W' : World} {B size n g : Nat} {e t : TypeId} {v : Value} {xs ys : List Value} (h : W.ownsRow B e size v n xs) (hr : RowAt W g t ys) (hne : e ≠ t) (hg : W.grownBy W' (some g)) : W'.ownsRow B e size v n xs := by
  refine ⟨h.1, ?_⟩
  rcases h.2 with hn | ⟨g', cap, cur, rfl, hbg, hgg, rest⟩
  · exact .inl hn
  · refine .inr ⟨g', cap, cur, rfl, hbg, ?_, rest⟩
    have hg' : g' ≠ g := by
      rintro rfl
      have h1 := hgg.symm.trans hr
      simp only [Option.some.injEq, Obj.cells.injEq] at h1
      exact hne h1.2.1
    exact (heap_set_ne hg (Array.getElem?_eq_some_iff.1 hgg).1 hg').trans hgg
section
variable {w0 : World} {ts : List Tk} {tv : Value} {g : Nat} {own : List Nat} {st : PS} {d e : Nat} {av vv : Value} {m : Nat} {W W' : World}
theorem RdJ.grow (h : RdJ w0 ts tv g own st d e av vv m W) (hx : Ext W W') : RdJ w0 ts tv g own st d e av vv m W' :=
  ⟨h.rd.grow hx, h.gin, h.min_, h.gm, fun b hb => ⟨(h.lo b hb).1, Nat.lt_of_lt_of_le (h.lo b hb).2 hx.size⟩, own_ext h.atoms hx, h.ain, own_ext h.vars hx, h.vin, h.met.ext hx⟩
/-- The reader's own cells have turned. -/
theorem RdJ.turn (h : RdJ w0 ts tv g own st d e av vv m W) {q d' e' : Nat} (hr : RdT w0 ts tv g (rcI av vv m d' e') q W') (hg : W.grownBy W' (some g)) : RdJ w0 ts tv g own ⟨q, st.atoms, st.vars⟩ d' e' av vv m W' :=
  ⟨hr, h.gin, h.min_, h.gm, fun b hb => ⟨(h.lo b hb).1, Nat.lt_of_lt_of_le (h.lo b hb).2 hg.size⟩, own_turn h.atoms h.rd.row (by decide) hg, h.ain, own_turn h.vars h.rd.row (by decide) hg, h.vin, h.met.kept hg (fun e => h.gm (Option.some.inj e))⟩
theorem own_away {w w' : World} {B size n x : Nat} {ty : TypeId} {v : Value} {xs : List Value} (h : w.ownsRow B ty size v n xs) (hg : w.grownBy w' (some x)) (hv : ∀ b, v.ownBlock = some b → b ≠ x) : w'.ownsRow B ty size v n xs := by
  refine ⟨h.1, ?_⟩
  rcases h.2 with hn | ⟨g', cap, cur, rfl, hbg, hgg, rest⟩
  · exact .inl hn
  · exact .inr ⟨g', cap, cur, rfl, hbg, (heap_set_ne hg (Array.getElem?_eq_some_iff.1 hgg).1 (hv g' rfl)).trans hgg, rest⟩
/-- Another block than its own has turned. -/
theorem RdJ.side (h : RdJ w0 ts tv g own st d e av vv m W) {x : Nat} (hg : W.grownBy W' (some x)) (hx : x ∉ own) (h0 : w0.heap.size ≤ x) : RdJ w0 ts tv g own st d e av vv m W' :=
  ⟨⟨below_grown h.rd.ext hg h.rd.ext.size (fun k hk => by cases hk; exact h0), h.rd.toks, h.rd.lo, h.rd.row.kept hg (fun e => hx (by cases e; exact h.gin)), h.rd.le, h.rd.szs⟩, h.gin, h.min_, h.gm, fun b hb => ⟨(h.lo b hb).1, Nat.lt_of_lt_of_le (h.lo b hb).2 hg.size⟩,
   own_away h.atoms hg (fun b hb e => hx (e ▸ h.ain b hb)), h.ain, own_away h.vars hg (fun b hb e => hx (e ▸ h.vin b hb)), h.vin, h.met.kept hg (fun e => hx (by cases e; exact h.min_))⟩
theorem Chg.side {own own' : List Nat} {w w' w'' : World} (h : Chg own w own' w') {x : Nat} (hg : w'.grownBy w'' (some x)) (hx : w.heap.size ≤ x) : Chg own w own' w'' :=
  ⟨hg.os.trans h.os, hg.tape.trans h.tape, hg.output.trans h.output, Nat.le_trans h.size hg.size, fun b hb hn => (hg.block b (Nat.lt_of_lt_of_le hb h.size) (fun e => by have := Option.some.inj e; omega)).trans (h.block b hb hn), h.new⟩
theorem own_ne_map {w : World} {B size n b : Nat} {ty : TypeId} {v : Value} {xs : List Value} {dd : TypeDesc} {kv : List (Value × Value)} (h : w.ownsRow B ty size v n xs) (hm : MapAt dd w b kv) : ∀ b', v.ownBlock = some b' → b' ≠ b := by
  rintro b' hb rfl
  rcases h.2 with ⟨rfl, _⟩ | ⟨g', cap, cur, rfl, hbg, hgg, rest⟩
  · simp [Value.ownBlock] at hb
  · simp [Value.ownBlock] at hb
    subst hb
    obtain ⟨_, _, h1, _⟩ := hm
    have := hgg.symm.trans h1
    simp at this
theorem row_ne_map {w : World} {b g : Nat} {t : TypeId} {xs : List Value} {dd : TypeDesc} {kv : List (Value × Value)} (h : RowAt w g t xs) (hm : MapAt dd w b kv) : g ≠ b := by
  rintro rfl
  obtain ⟨_, _, h1, _⟩ := hm
  have := (show w.heap[g]? = _ from h).symm.trans h1
  simp at this
theorem own_ne_row {w : World} {B size n g : Nat} {ty t : TypeId} {v : Value} {xs ys : List Value} (h : w.ownsRow B ty size v n xs) (hr : RowAt w g t ys) (hne : ty ≠ t) : ∀ b', v.ownBlock = some b' → b' ≠ g := by
  rintro b' hb rfl
  rcases h.2 with ⟨rfl, _⟩ | ⟨g', cap, cur, rfl, hbg, hgg, rest⟩
  · simp [Value.ownBlock] at hb
  · simp [Value.ownBlock] at hb
    subst hb
    have h1 := hgg.symm.trans hr
    simp only [Option.some.injEq, Obj.cells.injEq] at h1
    exact hne h1.2.1
theorem own_ne_own {w : World} {B B' size size' n n' : Nat} {ty t : TypeId} {v u : Value} {xs ys : List Value} (h : w.ownsRow B ty size v n xs) (hr : w.ownsRow B' t size' u n' ys) (hne : ty ≠ t) : ∀ b', v.ownBlock = some b' → u.ownBlock ≠ some b' := by
  rintro b' hb hu
  rcases h.2 with ⟨rfl, _⟩ | ⟨g', cap, cur, rfl, hbg, hgg, rest⟩
  · simp [Value.ownBlock] at hb
  · rcases hr.2 with ⟨rfl, _⟩ | ⟨g2, cap2, cur2, rfl, hbg2, hgg2, rest2⟩
    · simp [Value.ownBlock] at hu
    · simp [Value.ownBlock] at hb hu
      subst hb hu
      have h1 := hgg.symm.trans hgg2
      simp only [Option.some.injEq, Obj.cells.injEq] at h1
      exact hne h1.2.1
/-- A row that is owned stays where another block turns, or none. -/
theorem own_apart {w w' : World} {B size n : Nat} {ty : TypeId} {v : Value} {xs : List Value} {row : Option Nat} (h : w.ownsRow B ty size v n xs) (hg : w.grownBy w' row) (hv : ∀ b, v.ownBlock = some b → row ≠ some b) : w'.ownsRow B ty size v n xs := by
  refine ⟨h.1, ?_⟩
  rcases h.2 with hn | ⟨g', cap, cur, rfl, hbg, hgg, rest⟩
  · exact .inl hn
  · exact .inr ⟨g', cap, cur, rfl, hbg, (hg.block g' (Array.getElem?_eq_some_iff.1 hgg).1 (fun e => hv g' rfl e.symm)).trans hgg, rest⟩
theorem Chg.row {own : List Nat} {w w' : World} {row : Option Nat} (h : w.grownBy w' row) (hr : ∀ b, row = some b → b ∈ own) : Chg own w own w' :=
  ⟨h.os, h.tape, h.output, h.size, fun b hb hn => h.block b hb (fun e => hn (hr b e.symm)), fun _ h => .inl h⟩
/-- A variable that is new. -/
theorem RdJ.newVar (h : RdJ w0 ts tv g own st d e av vv m W) {s : ByteArray} {W1 W2 W3 : World} {v' : Value} (hm : MapAt .string W1 m (metKv st.vars ++ [(.string s, .int .i64 1)])) (hg1 : W.grownBy W1 (some m)) (hx : Ext W1 W2)
    (how : W3.ownsRow w0.heap.size 9 1 v' (st.vars.length + 1) (st.vars.map Value.string ++ [.string s])) (hg2 : W2.grownBy W3 vv.ownBlock) (happ : v'.ownBlock = vv.ownBlock ∨ v'.ownBlock = some W2.heap.size) :
    ∃ own', RdJ w0 ts tv g own' ⟨st.p, st.atoms, st.vars ++ [s]⟩ d e av v' m (W3.setCell ⟨g, 12, none⟩ v') ∧ Chg own W own' (W3.setCell ⟨g, 12, none⟩ v') := by
  have hg3 := grown_set W3 g 12 v'
  have a1 := own_apart h.atoms hg1 (fun b hb e => own_ne_map h.atoms h.met b hb (Option.some.inj e).symm)
  have v1 := own_apart h.vars hg1 (fun b hb e => own_ne_map h.vars h.met b hb (Option.some.inj e).symm)
  have r1 : RowAt W1 g 68 (rdRowP (rcI av vv m d e) tv st.p) := h.rd.row.kept hg1 (fun e => h.gm (Option.some.inj e).symm)
  have a2 := own_ext a1 hx
  have v2 := own_ext v1 hx
  have r2 := r1.ext hx
  have m2 := hm.ext hx
  have a3 := own_apart a2 hg2 (fun b hb e => own_ne_own a2 v2 (by decide) b hb e)
  have r3 : RowAt W3 g 68 (rdRowP (rcI av vv m d e) tv st.p) := r2.kept hg2 (fun e => own_ne_row v2 r2 (by decide) g e rfl)
  have m3 := m2.kept hg2 (fun e => own_ne_map v2 m2 m e rfl)
  have a4 := own_turn a3 r3 (by decide) hg3
  have v4 := own_turn how r3 (by decide) hg3
  have m4 := m3.kept hg3 (fun e => h.gm (Option.some.inj e))
  have r4 : RowAt (W3.setCell ⟨g, 12, none⟩ v') g 68 (rdRowP (rcI av v' m d e) tv st.p) := r3.set 12 v'
  have c1 : Chg own W own W1 := Chg.grown hg1 h.min_
  have c2 := c1.trans (Chg.ext (own := own) hx)
  have c3 := c2.trans (Chg.row hg2 h.vin)
  have c4 := c3.trans (Chg.grown hg3 h.gin)
  have e4 : Ext w0 (W3.setCell ⟨g, 12, none⟩ v') := ⟨c4.os.trans h.rd.ext.os, c4.tape.trans h.rd.ext.tape, c4.output.trans h.rd.ext.output, Nat.le_trans h.rd.ext.size c4.size, fun b hb => (c4.block b (Nat.lt_of_lt_of_le hb h.rd.ext.size) (fun hm => by have := (h.lo b hm).1; omega)).trans (h.rd.ext.block b hb)⟩
  have rd4 : RdT w0 ts tv g (rcI av v' m d e) st.p (W3.setCell ⟨g, 12, none⟩ v') := ⟨e4, h.rd.toks, h.rd.lo, r4, h.rd.le, h.rd.szs⟩
  have vl : ∀ b, v'.ownBlock = some b → w0.heap.size ≤ b ∧ b < (W3.setCell ⟨g, 12, none⟩ v').heap.size := fun b hb => v4.lt b hb
  refine ⟨v'.ownBlock.toList ++ own, ⟨rd4, List.mem_append_right _ h.gin, List.mem_append_right _ h.min_, h.gm, fun b hb => ?_, a4, fun b hb => List.mem_append_right _ (h.ain b hb), ?_, fun b hb => List.mem_append_left _ (by rw [hb]; simp), ?_⟩, ⟨c4.os, c4.tape, c4.output, c4.size, c4.block, fun b hb => ?_⟩⟩
  · rcases List.mem_append.1 hb with h1 | h1
    · exact vl b (by simpa using h1)
    · exact ⟨(h.lo b h1).1, Nat.lt_of_lt_of_le (h.lo b h1).2 c4.size⟩
  · rw [List.length_append, List.map_append]
    exact v4
  · rw [show metKv (st.vars ++ [s]) = metKv st.vars ++ [(.string s, .int .i64 1)] from by unfold metKv; rw [List.map_append]; rfl]
    exact m4
  · rcases List.mem_append.1 hb with h1 | h1
    · rcases happ with h2 | h2
      · exact .inl (h.vin b (by rw [← h2]; simpa using h1))
      · rw [h2] at h1
        simp at h1
        exact .inr (by have := hx.size; have := hg1.size; omega)
    · exact .inl h1
theorem RdJ.newRow (h : RdJ w0 ts tv g own st d e av vv m W) {kv : List (Value × Value)} {W1 W2 W3 : World} (hm : MapAt .string W1 m kv) (hg1 : W.grownBy W1 (some m)) (hx : Ext W1 W2) (hg2 : W2.grownBy W3 vv.ownBlock) :
    RowAt W3 g 68 (rdRowP (rcI av vv m d e) tv st.p) := by
  have v1 := own_apart h.vars hg1 (fun b hb e => own_ne_map h.vars h.met b hb (Option.some.inj e).symm)
  have r1 : RowAt W1 g 68 (rdRowP (rcI av vv m d e) tv st.p) := h.rd.row.kept hg1 (fun e => h.gm (Option.some.inj e).symm)
  exact (r1.ext hx).kept hg2 (fun e => own_ne_row (own_ext v1 hx) (r1.ext hx) (by decide) g e rfl)
theorem RdJ.newOwn (h : RdJ w0 ts tv g own st d e av vv m W) {W1 : World} (hg1 : W.grownBy W1 (some m)) : W1.ownsRow w0.heap.size 9 1 vv st.vars.length (st.vars.map Value.string) ∧ RowAt W1 g 68 (rdRowP (rcI av vv m d e) tv st.p) :=
  ⟨own_apart h.vars hg1 (fun b hb e => own_ne_map h.vars h.met b hb (Option.some.inj e).symm), h.rd.row.kept hg1 (fun e => h.gm (Option.some.inj e).symm)⟩
theorem elSt : ElT Try.prog 22 9 (.string ⟨#[]⟩) 1 16 := ⟨Try.underlying22, ⟨_, rfl, by kernel_rfl, by kernel_rfl, by kernel_rfl⟩, rfl, by decide⟩
end
end Go.Proofs.Ytngnplghjaojhaa
