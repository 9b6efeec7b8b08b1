/- The names of a dictionary, and variables: the name of an id; how they are made. -/
import Derived.Test.YtkmbnghghbfkdaaGreatGp24
set_option linter.unusedSimpArgs false
set_option linter.unusedVariables false
set_option maxHeartbeats 2000000
set_option maxRecDepth 100000

namespace Go.Proofs.YtkmbnghghbfkdaaGreat
open Go.RowKit Go.Shelf Go.Sort
attribute [local go_sem] Oper.semAt_some wide_fn wide_depth
def strV (s : ByteArray) : Value := .string s
theorem nameF_yes {D : Dic} {k : Nat} {q : Int} (hk : k < 5) {s : ByteArray} (h : nameO D k q = some s) : nameF D k q = .tuple #[.string s, .int .i64 0] := by
 unfold nameO at h
 split at h
 ·rename_i hq
  cases h
  unfold nameF textF
  rw [if_pos ⟨by omega, by omega⟩, if_pos (by simpa using hq)]
  simp [nilB]
 ·cases h
theorem nameF_no {D : Dic} {k : Nat} {q : Int} (hk : k < 5) (h : nameO D k q = none) : nameF D k q = .tuple #[.string ⟨#[]⟩, .int .i64 4] := by
 unfold nameO at h
 split at h
 ·cases h
 ·rename_i hq
  unfold nameF textF
  rw [if_pos ⟨by omega, by omega⟩, if_neg (by simpa using hq)]
set_option maxRecDepth 100000 in
theorem nname_any (vs : Nat → Value × Value) (m : Nat) (av : Value) (D : Dic) (w : World) (hV : DicV w vs D) (hS : DicS D) (h : DicOK D) (k : Nat) (hk : k < 5) (q : Int) :
 Calls Tryz.prog 122 #[nmV vs m av, .int .i64 k, .int .i64 q] w fun e w' => e = outE (nameO D k q) strV ∧ Ext w w' := by
 have hx0 := Ext.alloc w (.cells (nmL vs m av).toArray 98)
 have hb0 := RowAt.new w 98 (nmL vs m av)
 have HI := Lib.hid (fun w' (hx : Ext w w') => name_yes vs D w' (hV.ext hx) hS h k q)
 have HX := Lib.hid hx0
 have HB := Lib.hid hb0
 clear hx0 hb0
 unfold nmV
 obtain ⟨r, hr⟩ : ∃ r, nameO D k q = r := ⟨_, rfl⟩
 rw [hr]
 cases r with
 | some s =>
  rw [nameF_yes hk hr] at HI
  clear hr
  go_enter Tryz.func122, Tryz.ntmps122
  go_upto_region 1 with fail
  generalize w.alloc (.cells (nmL vs m av).toArray 98) = w1 at *
  generalize w.heap.size = y at *
  apply wp_region_lit
  refine wpList_plain rfl fun K1 hK1 => ?_
  go_simp
  refine hK1 _ _ ?_
  clear hK1 K1
  refine wpList_load_mid rfl _ _ rfl y 0 rfl _ _ (nm_dict HB.out) Tryz.underlying28 rfl (by kernel_rfl) ?_
  go_simp
  refine wpList_plain rfl fun K1 hK1 => ?_
  go_simp
  refine hK1 _ _ ?_
  clear hK1 K1
  refine wpList_plain rfl fun K1 hK1 => ?_
  go_simp
  refine hK1 _ _ ?_
  clear hK1 K1
  refine wpList_plain rfl fun K1 hK1 => ?_
  go_simp
  refine (HI.out w1 HX.out).mono ?_; rintro e w2 ⟨rfl, hx2⟩
  go_simp
  refine hK1 _ _ ?_
  clear hK1 K1
  refine wpList_plain rfl fun K1 hK1 => ?_
  go_simp
  refine hK1 _ _ ?_
  clear hK1 K1
  refine wpList_plain rfl fun K1 hK1 => ?_
  go_simp
  refine hK1 _ _ ?_
  clear hK1 K1
  refine wpList_plain rfl fun K1 hK1 => ?_
  go_simp
  refine hK1 _ _ ?_
  clear hK1 K1
  refine wpList_plain rfl fun K1 hK1 => ?_
  go_simp
  refine hK1 _ _ ?_
  clear hK1 K1
  refine wpList_plain rfl fun K1 hK1 => ?_
  go_simp
  refine hK1 _ _ ?_
  clear hK1 K1
  apply wpList_nil
  have HX2 := Lib.hid (HX.out.trans hx2)
  clear hx2 HX HI HB
  go_wp2_with fail
  refine (need_yes _).mono ?_
  rintro e w3 ⟨rfl, rfl⟩
  go_wp2_with fail
  go_ret
  exact ⟨rfl, HX2.out⟩
 | none =>
  rw [nameF_no hk hr] at HI
  clear hr
  go_enter Tryz.func122, Tryz.ntmps122
  go_upto_region 1 with fail
  generalize w.alloc (.cells (nmL vs m av).toArray 98) = w1 at *
  generalize w.heap.size = y at *
  apply wp_region_lit
  refine wpList_plain rfl fun K1 hK1 => ?_
  go_simp
  refine hK1 _ _ ?_
  clear hK1 K1
  refine wpList_load_mid rfl _ _ rfl y 0 rfl _ _ (nm_dict HB.out) Tryz.underlying28 rfl (by kernel_rfl) ?_
  go_simp
  refine wpList_plain rfl fun K1 hK1 => ?_
  go_simp
  refine hK1 _ _ ?_
  clear hK1 K1
  refine wpList_plain rfl fun K1 hK1 => ?_
  go_simp
  refine hK1 _ _ ?_
  clear hK1 K1
  refine wpList_plain rfl fun K1 hK1 => ?_
  go_simp
  refine (HI.out w1 HX.out).mono ?_; rintro e w2 ⟨rfl, hx2⟩
  go_simp
  refine hK1 _ _ ?_
  clear hK1 K1
  refine wpList_plain rfl fun K1 hK1 => ?_
  go_simp
  refine hK1 _ _ ?_
  clear hK1 K1
  refine wpList_plain rfl fun K1 hK1 => ?_
  go_simp
  refine hK1 _ _ ?_
  clear hK1 K1
  refine wpList_plain rfl fun K1 hK1 => ?_
  go_simp
  refine hK1 _ _ ?_
  clear hK1 K1
  refine wpList_plain rfl fun K1 hK1 => ?_
  go_simp
  refine hK1 _ _ ?_
  clear hK1 K1
  refine wpList_plain rfl fun K1 hK1 => ?_
  go_simp
  refine hK1 _ _ ?_
  clear hK1 K1
  apply wpList_nil
  have HX2 := Lib.hid (HX.out.trans hx2)
  clear hx2 HX HI HB
  go_wp2_with fail
  refine (need_no _).mono ?_
  rintro e w3 ⟨rfl, rfl⟩
  unfold unknE
  dsimp only
  go_wp2_with fail
  exact ⟨rfl, rfl, HX2.out⟩
theorem wpList_built {P : Program} {Q : Exit → Act → World → Prop} {ops : Array Oper} {rest : List Oper} {o : Oper} {a : Act} {w : World} (hg : o.guard = none) (t : TypeId) (parts : Array (Nat × Operand)) (ho : o.op = .build t parts) (cs : Array Value)
 (hf : P.built t (parts.map fun (i, x) => (i, a.eval x)).toList = some cs)
 (h : wpList P ops Q rest (a.put o.dst (.agg cs)) w) : wpList P ops Q (o :: rest) a w :=
 wpList_build hg t parts ho (by rw [hf]; rfl) (by rw [hf]; exact h)
def KvIs (V : List ByteArray) (kv : List (Value × Value)) : Prop := (∀ p ∈ kv, ∃ s, p.1 = .string s ∧ s ∈ V) ∧ ∀ s ∈ V, ∃ j i : Nat, kv[j]? = some (.string s, .int .i64 i) ∧ V[i]? = some s
theorem KvIs.nil : KvIs [] [] := ⟨fun p h => by simp at h, fun s h => by simp at h⟩
theorem KvIs.new {V : List ByteArray} {kv : List (Value × Value)} (h : KvIs V kv) {s : ByteArray} (hn : s ∉ V) : KvIs (V ++ [s]) (kv ++ [(.string s, .int .i64 V.length)]) := by
 refine ⟨fun p hp => ?_, fun t ht => ?_⟩
 ·rcases List.mem_append.1 hp with hp | hp
  ·obtain ⟨t, e, ht⟩ := h.1 p hp
   exact ⟨t, e, List.mem_append_left _ ht⟩
  ·simp at hp
   subst hp
   exact ⟨s, rfl, by simp⟩
 ·rcases List.mem_append.1 ht with ht | ht
  ·obtain ⟨j, i, h1, h2⟩ := h.2 t ht
   refine ⟨j, i, ?_, ?_⟩
   ·rw [List.getElem?_append_left (List.getElem?_eq_some_iff.1 h1).1]; exact h1
   ·rw [List.getElem?_append_left (List.getElem?_eq_some_iff.1 h2).1]; exact h2
  ·simp at ht
   subst ht
   exact ⟨kv.length, V.length, by simp, by simp⟩
theorem KvIs.old {V : List ByteArray} {kv : List (Value × Value)} (h : KvIs V kv) {s : ByteArray} {j : Nat} {u : Value} (hj : kv[j]? = some (.string s, u)) : KvIs (V ++ [s]) (kv.set j (.string s, .int .i64 V.length)) := by
 have hjl := (List.getElem?_eq_some_iff.1 hj).1
 refine ⟨fun p hp => ?_, fun t ht => ?_⟩
 ·rcases List.mem_or_eq_of_mem_set hp with hp | rfl
  ·obtain ⟨t, e, ht⟩ := h.1 p hp
   exact ⟨t, e, List.mem_append_left _ ht⟩
  ·exact ⟨s, rfl, by simp⟩
 ·by_cases hts : t = s
  ·subst hts
   exact ⟨j, V.length, by simp [hjl], by simp⟩
  ·rcases List.mem_append.1 ht with ht | ht
   ·obtain ⟨j', i, h1, h2⟩ := h.2 t ht
    have hne : j ≠ j' := by
     rintro rfl
     rw [hj] at h1
     simp at h1
     exact hts h1.1.symm
    refine ⟨j', i, ?_, ?_⟩
    ·rw [List.getElem?_set_ne hne]; exact h1
    ·rw [List.getElem?_append_left (List.getElem?_eq_some_iff.1 h2).1]; exact h2
   ·simp at ht
    exact absurd ht hts
end Go.Proofs.YtkmbnghghbfkdaaGreat

/- The names of a dictionary, and variables: made. -/
namespace Go.Proofs.YtkmbnghghbfkdaaGreat
open Go.RowKit Go.Shelf Go.Sort
attribute [local go_sem] Oper.semAt_some wide_fn wide_depth
def VarsAt (w : World) (m : Nat) (V : List ByteArray) : Prop := ∃ kv, MapAt .string w m kv ∧ KvIs V kv
theorem VarsAt.ext {w w' : World} {m : Nat} {V : List ByteArray} (h : VarsAt w m V) (hx : Ext w w') : VarsAt w' m V := by
 obtain ⟨kv, h1, h2⟩ := h
 exact ⟨kv, h1.ext hx, h2⟩
theorem VarsAt.kept {w w' : World} {m : Nat} {V : List ByteArray} {row : Option Nat} (h : VarsAt w m V) (hg : w.grownBy w' row) (hne : row ≠ some m) : VarsAt w' m V := by
 obtain ⟨kv, h1, h2⟩ := h
 exact ⟨kv, h1.kept hg hne, h2⟩
theorem VarsAt.lt {w : World} {m : Nat} {V : List ByteArray} (h : VarsAt w m V) : m < w.heap.size := by
 obtain ⟨kv, h1, h2⟩ := h
 exact h1.lt
theorem nm_one (A : Heads) (m : Nat) (a : Option Addr) (n c : Nat) : ∀ v ∈ nmL (hv A) m (.slice a n c), v.oneCell' = true := by
 simp [nmL, dcells, hv, Value.oneCell']
theorem vars_put {w : World} {m : Nat} {V : List ByteArray} (h : VarsAt w m V) (s : ByteArray) (q : Int) (hq : q = V.length) :
 ∃ w', (Instr.mapUpdate 96 (.map (some m)) (.string s) (.int .i64 q)).run Tryz.prog w = .ok () w' ∧ VarsAt w' m (V ++ [s]) ∧ w.grownBy w' (some m) := by
 subst hq
 obtain ⟨kv, h1, h2⟩ := h
 by_cases hs : s ∈ V
 ·obtain ⟨j, i, h3, _⟩ := h2.2 s hs
  obtain ⟨w', r1, r2, r3, _⟩ := run_put_old (P := Tryz.prog) Tryz.underlying96 Tryz.underlying9 h1 (isKey_str s) h3 (.int .i64 V.length)
  exact ⟨w', r1, ⟨_, r2, h2.old h3⟩, r3⟩
 ·obtain ⟨w', r1, r2, r3, _⟩ := run_put_new (P := Tryz.prog) Tryz.underlying96 Tryz.underlying9 h1 (isKey_str s) (fun p hp e => by
   obtain ⟨t, e', ht⟩ := h2.1 p hp
   rw [e] at e'
   cases e'
   exact hs ht) (.int .i64 V.length)
  exact ⟨w', r1, ⟨_, r2, h2.new hs⟩, r3⟩
theorem vars_get {w : World} {m : Nat} {V : List ByteArray} (h : VarsAt w m V) {s : ByteArray} (hs : s ∈ V) : ∃ i : Nat, V[i]? = some s ∧ ∀ w', Ext w w' → (Instr.lookup 96 (.map (some m)) (.string s) false).run Tryz.prog w' = .ok (.int .i64 i) w' := by
 obtain ⟨kv, h1, h2⟩ := h
 obtain ⟨j, i, h3, h4⟩ := h2.2 s hs
 exact ⟨i, h4, fun w' hx => run_get_yes (P := Tryz.prog) Tryz.underlying96 Tryz.underlying9 (h1.ext hx) (isKey_str s) h3 false⟩
set_option maxRecDepth 100000 in
set_option maxHeartbeats 2000000 in
theorem of_any' (A : Heads) (w : World) (a : Option Addr) (c : Nat) (V : List ByteArray) (hV : Strs w (.slice a V.length c) V) (hl : V.length ≤ 1000000) :
 Calls Tryz.prog 43 #[dv (hv A), .slice a V.length c] w fun e w' => ∃ m, e = .returned (nmV (hv A) m (.slice a V.length c)) ∧ VarsAt w' m V ∧ Ext w w' := by
 have hmm := @run_makeMap Tryz.prog
 have hx0 := (Ext.alloc w (.cells (dcells (hv A)).toArray 28)).trans (Ext.alloc (w.alloc (.cells (dcells (hv A)).toArray 28)) (.cells #[.slice none 0 0, .slice none 0 0, .slice none 0 0, .slice none 0 0, .slice none 0 0, .slice none 0 0, .slice none 0 0, .slice none 0 0, .slice none 0 0, .slice none 0 0, .map none, .slice none 0 0] 98))
 have hb0 := (RowAt.new w 28 (dcells (hv A))).ext (Ext.alloc (w.alloc (.cells (dcells (hv A)).toArray 28)) (.cells #[.slice none 0 0, .slice none 0 0, .slice none 0 0, .slice none 0 0, .slice none 0 0, .slice none 0 0, .slice none 0 0, .slice none 0 0, .slice none 0 0, .slice none 0 0, .map none, .slice none 0 0] 98))
 have hb1 : RowAt ((w.alloc (.cells (dcells (hv A)).toArray 28)).alloc (.cells #[.slice none 0 0, .slice none 0 0, .slice none 0 0, .slice none 0 0, .slice none 0 0, .slice none 0 0, .slice none 0 0, .slice none 0 0, .slice none 0 0, .slice none 0 0, .map none, .slice none 0 0] 98)) (w.heap.size + 1) 98 [.slice none 0 0, .slice none 0 0, .slice none 0 0, .slice none 0 0, .slice none 0 0, .slice none 0 0, .slice none 0 0, .slice none 0 0, .slice none 0 0, .slice none 0 0, .map none, .slice none 0 0] := row_at (xs := [.slice none 0 0, .slice none 0 0, .slice none 0 0, .slice none 0 0, .slice none 0 0, .slice none 0 0, .slice none 0 0, .slice none 0 0, .slice none 0 0, .slice none 0 0, .map none, .slice none 0 0]) (by simp)
 have HX := Lib.hid hx0
 have HB := Lib.hid hb0
 have HR := Lib.hid hb1
 have HV := Lib.hid hV
 clear hx0 hb0 hb1 hV
 unfold dv
 go_enter Tryz.func43, Tryz.ntmps43
 go_upto_region 1 with fail
 generalize (w.alloc (.cells (dcells (hv A)).toArray 28)).alloc (.cells #[.slice none 0 0, .slice none 0 0, .slice none 0 0, .slice none 0 0, .slice none 0 0, .slice none 0 0, .slice none 0 0, .slice none 0 0, .slice none 0 0, .slice none 0 0, .map none, .slice none 0 0] 98) = w1 at *
 obtain ⟨y, hy⟩ : ∃ y, w.heap.size = y := ⟨_, rfl⟩
 obtain ⟨yr, hyr⟩ : ∃ x, y + 1 = x := ⟨_, rfl⟩
 rw [hy] at HB HR
 rw [hyr] at HR
 simp only [hy, hyr]
 have HN := Lib.hid (show w.heap.size = y ∧ y + 1 = yr from ⟨hy, hyr⟩)
 clear hy hyr
 apply wp_region_lit
 refine plain_load rfl _ _ rfl y rfl _ _ (HB.out) Tryz.underlying28 rfl (by kernel_rfl) ?_
 go_simp
 refine wpList_plain rfl fun K1 hK1 => ?_
 go_simp
 refine hK1 _ _ ?_
 clear hK1 K1
 have hxm := Ext.alloc w1 (.map #[] 0)
 have hvm : VarsAt (w1.alloc (.map #[] 0)) w1.heap.size [] := ⟨[], MapAt.new .string w1, KvIs.nil⟩
 have hym : yr < w1.heap.size := HR.out.lt
 have HX2 := Lib.hid (HX.out.trans hxm)
 have HM2 := Lib.hid hvm
 have HR2 := Lib.hid (HR.out.ext hxm)
 clear hxm hvm hmm HX HB HR
 generalize w1.alloc (.map #[] 0) = w2 at *
 generalize w1.heap.size = m at *
 refine wpList_plain rfl fun K1 hK1 => ?_
 go_simp
 refine hK1 _ _ ?_
 clear hK1 K1
 refine wpList_built rfl _ _ rfl (nmL (hv A) m (.slice a V.length c)).toArray (by kernel_rfl) ?_
 go_simp
 refine wpList_plain rfl fun K1 hK1 => ?_
 go_simp
 refine hK1 _ _ ?_
 clear hK1 K1
 have hx3 := Ext.alloc w2 (.cells #[.slice none 0 0, .slice none 0 0, .slice none 0 0, .slice none 0 0, .slice none 0 0, .slice none 0 0, .slice none 0 0, .slice none 0 0, .slice none 0 0, .slice none 0 0, .map none, .slice none 0 0] 98)
 have hn3 : RowAt (w2.alloc (.cells #[.slice none 0 0, .slice none 0 0, .slice none 0 0, .slice none 0 0, .slice none 0 0, .slice none 0 0, .slice none 0 0, .slice none 0 0, .slice none 0 0, .slice none 0 0, .map none, .slice none 0 0] 98)) w2.heap.size 98 [.slice none 0 0, .slice none 0 0, .slice none 0 0, .slice none 0 0, .slice none 0 0, .slice none 0 0, .slice none 0 0, .slice none 0 0, .slice none 0 0, .slice none 0 0, .map none, .slice none 0 0] := RowAt.new _ _ _
 have hmy := HM2.out.lt
 have HX3 := Lib.hid (HX2.out.trans hx3)
 have HM3 := Lib.hid (HM2.out.ext hx3)
 have HR3 := Lib.hid (HR2.out.ext hx3)
 have HN3 := Lib.hid hn3
 have hle := HX2.out.size
 clear hx3 hn3 HX2 HM2 HR2
 generalize w2.alloc (.cells #[.slice none 0 0, .slice none 0 0, .slice none 0 0, .slice none 0 0, .slice none 0 0, .slice none 0 0, .slice none 0 0, .slice none 0 0, .slice none 0 0, .slice none 0 0, .map none, .slice none 0 0] 98) = w3 at *
 generalize w2.heap.size = yn at *
 refine plain_store rfl _ _ _ rfl yn (nmL (hv A) m (.slice a V.length c)) rfl rfl (HN3.out) (by kernel_rfl) rfl (nm_one A m a V.length c) ?_
 go_simp
 have hg4 := setRow_grown w3 yn (nmL (hv A) m (.slice a V.length c)).toArray
 have HX4 := Lib.hid (show Ext w (w3.setRow yn (nmL (hv A) m (.slice a V.length c)).toArray) from below_setRow HX3.out hle _)
 have HM4 := Lib.hid (HM3.out.kept hg4 (fun e => by have := Option.some.inj e; omega))
 have HR4 := Lib.hid (HR3.out.kept hg4 (fun e => by have := Option.some.inj e; omega))
 have HN4 := Lib.hid (HN3.out.setRow (nmL (hv A) m (.slice a V.length c)))
 have HNE := Lib.hid (show m ≠ yn ∧ m ≠ yr ∧ yr ≠ yn ∧ w.heap.size ≤ m ∧ w.heap.size ≤ yr by have := HN.out; omega)
 clear hg4 HX3 HM3 HR3 HN3 hle hmy hym HN
 generalize w3.setRow yn (nmL (hv A) m (.slice a V.length c)).toArray = w4 at *
 apply wpList_nil
 go_wp2_with fail
 go_loopg [14] V.length (fun g i wr => ∃ k : Nat, k ≤ V.length ∧ g = V.length - k ∧ i = .int .i64 k ∧ Ext w wr ∧ VarsAt wr m (V.take k) ∧ RowAt wr yn 98 (nmL (hv A) m (.slice a V.length c)) ∧ RowAt wr yr 98 [.slice none 0 0, .slice none 0 0, .slice none 0 0, .slice none 0 0, .slice none 0 0, .slice none 0 0, .slice none 0 0, .slice none 0 0, .slice none 0 0, .slice none 0 0, .map none, .slice none 0 0])
 case atStart => exact ⟨0, Nat.zero_le _, rfl, rfl, HX4.out, HM4.out, HN4.out, HR4.out⟩
 case round =>
  obtain ⟨k, hk, hg, rfl, hx, hm, hn, hr⟩ := hrel
  have Hg := Lib.hid hg
  have HX := Lib.hid hx
  have HM := Lib.hid hm
  have HN := Lib.hid hn
  have HR := Lib.hid hr
  clear hg hx hm hn hr
  by_cases hlt : k < V.length
  ·obtain ⟨b, o, rfl, c0⟩ := (HV.out.ext HX.out).at_ hlt
   have hkk := take_snoc V k hlt
   have hlen : (V.take k).length = k := by rw [List.length_take]; omega
   generalize V[k] = s at *
   obtain ⟨w5, hrun, hm5, hg5⟩ := vars_put HM.out s k (by rw [hlen])
   have HM5 : Hid (VarsAt w5 m (V.take (k + 1))) := Lib.hid (by rw [hkk]; exact hm5)
   have HX5 := Lib.hid (show Ext w w5 from HX.out.grown hg5 HX.out.size (fun r e => by have := Option.some.inj e; have := HNE.out; omega))
   have HN5 := Lib.hid (HN.out.kept hg5 (fun e => by have := Option.some.inj e; have := HNE.out; omega))
   have HR5 := Lib.hid (HR.out.kept hg5 (fun e => by have := Option.some.inj e; have := HNE.out; omega))
   obtain ⟨d0, d1⟩ := nm_map HN.out
   clear hm5 hg5 hkk hlen HX HM HN HR
   go_wp2_with fail
   go_roundg (V.length - (k + 1))
   case measure => have := Hg.out; omega
   case rel => exact ⟨k + 1, by omega, rfl, by first | rfl | go_num, HX5.out, HM5.out, HN5.out, HR5.out⟩
  ·have he : k = V.length := by omega
   subst he
   have HM9 : Hid (VarsAt wr m V) := Lib.hid (by have := HM.out; rwa [List.take_length] at this)
   go_upto_region 7 with fail
   apply wp_region_lit
   refine plain_load rfl _ _ rfl yn rfl _ _ (HN.out) Tryz.underlying98 rfl (by kernel_rfl) ?_
   go_simp
   refine plain_store rfl _ _ _ rfl yr (nmL (hv A) m (.slice a V.length c)) rfl rfl (HR.out) (by kernel_rfl) rfl (nm_one A m a V.length c) ?_
   go_simp
   have hg9 := setRow_grown wr yr (nmL (hv A) m (.slice a V.length c)).toArray
   have HX9 := Lib.hid (show Ext w (wr.setRow yr (nmL (hv A) m (.slice a V.length c)).toArray) from below_setRow HX.out (by have := HNE.out; omega) _)
   have HR9 := Lib.hid (HR.out.setRow (nmL (hv A) m (.slice a V.length c)))
   replace HM9 := Lib.hid (HM9.out.kept hg9 (fun e => by have := Option.some.inj e; have := HNE.out; omega))
   clear hg9 HX HM HN HR
   generalize wr.setRow yr (nmL (hv A) m (.slice a V.length c)).toArray = w9 at *
   apply wpList_nil
   go_wp2_with fail
   exact bodyPost_ret (results_row0 rfl rfl HR9.out Tryz.underlying98 rfl (by kernel_rfl)) rfl ⟨m, rfl, HM9.out, HX9.out⟩
end Go.Proofs.YtkmbnghghbfkdaaGreat
