/- Rows of tokens, cut. -/
import Derived.Test.YtngnplghjaojhaaParLi
namespace Go.Proofs.Ytngnplghjaojhaa
set_option maxRecDepth 100000
set_option maxHeartbeats 2000000
set_option linter.unusedSimpArgs false
open Go.RowKit Go.Shelf Go.Sort
set_option linter.unusedVariables false

def cutS3 (a : Option Addr) (cap l h : Nat) : Value := .slice (if cap = l then a else a.map (fun x => x.add (l * 3))) (h - l) (cap - l)
theorem run_cutTk_lh (a : Option Addr) (len cap l h : Nat) (h1 : l ≤ h) (h2 : h ≤ cap) (w : World) :
    (Instr.slice 36 (.slice a len cap) (some (.int .i64 l)) (some (.int .i64 h)) none).run Try.prog w = .ok (cutS3 a cap l h) w := by
  rw [run_slice_lh w 36 a len cap (by kernel_rfl) .i64 .i64 (l : Int) (h : Int) (by omega) (by omega) (by omega)]
  obtain ⟨i, hi, hz, hsz, hby⟩ := elTok.info
  have he : Try.prog.elem 36 = 39 := by kernel_rfl
  rw [he]
  simp [sizeOf, typeInfo, hi, hsz, sliced, cutS3]
theorem run_cutTk_h (a : Option Addr) (len cap h : Nat) (h2 : h ≤ cap) (w : World) :
    (Instr.slice 36 (.slice a len cap) none (some (.int .i64 h)) none).run Try.prog w = .ok (.slice a h cap) w := by
  rw [run_slice_h w 36 a len cap (by kernel_rfl) .i64 (h : Int) (by omega) (by omega)]
  obtain ⟨i, hi, hz, hsz, hby⟩ := elTok.info
  have he : Try.prog.elem 36 = 39 := by kernel_rfl
  rw [he]
  simp [sizeOf, typeInfo, hi, hsz, sliced]
  intro _; cases a <;> simp [Addr.add]
theorem run_cutTk_l (a : Option Addr) (len cap l : Nat) (h1 : l ≤ len) (w : World) :
    (Instr.slice 36 (.slice a len cap) (some (.int .i64 l)) none none).run Try.prog w = .ok (cutS3 a cap l len) w := by
  rw [run_slice_l w 36 a len cap (by kernel_rfl) .i64 (l : Int) (by omega) (by omega)]
  obtain ⟨i, hi, hz, hsz, hby⟩ := elTok.info
  have he : Try.prog.elem 36 = 39 := by kernel_rfl
  rw [he]
  simp [sizeOf, typeInfo, hi, hsz, sliced, cutS3]
theorem toks_cut {w : World} {a : Option Addr} {n cap : Nat} {l : List Tk} (h : Toks w (.slice a n cap) l) (lo hi : Nat) (h1 : lo ≤ hi) (h2 : hi ≤ l.length) : Toks w (cutS3 a cap lo hi) ((l.drop lo).take (hi - lo)) := by
  obtain ⟨a', c', e, hc1, hc2, h3⟩ := h
  cases e
  have hl2 : ((l.drop lo).take (hi - lo)).length = hi - lo := by rw [List.length_take, List.length_drop]; omega
  unfold Toks
  rw [hl2]
  refine ⟨_, cap - lo, rfl, by omega, by omega, fun hp => ?_⟩
  rw [flatMap_len tkCells 3 (fun _ => rfl), hl2] at hp
  have hlen := flatMap_len tkCells 3 (fun _ => rfl) l
  obtain ⟨b, o, rfl, hc⟩ := h3 (by omega)
  rw [if_neg (by omega)]
  refine ⟨b, o + lo * 3, by simp [addr_add], fun i u hu => ?_⟩
  have hil : i < (hi - lo) * 3 := by
    have := (List.getElem?_eq_some_iff.1 hu).1
    rw [flatMap_len tkCells 3 (fun _ => rfl), hl2] at this; omega
  have key : (l.flatMap tkCells)[lo * 3 + i]? = some u := by
    have e1 : l.flatMap tkCells = (l.take lo).flatMap tkCells ++ ((l.drop lo).take (hi - lo)).flatMap tkCells ++ ((l.drop lo).drop (hi - lo)).flatMap tkCells := by
      rw [← List.flatMap_append, ← List.flatMap_append, List.append_assoc, List.take_append_drop, List.take_append_drop]
    have hl1 : ((l.take lo).flatMap tkCells).length = lo * 3 := by rw [flatMap_len tkCells 3 (fun _ => rfl), List.length_take]; congr 1; omega
    have hl3 : (((l.drop lo).take (hi - lo)).flatMap tkCells).length = (hi - lo) * 3 := by rw [flatMap_len tkCells 3 (fun _ => rfl), hl2]
    rw [e1, List.append_assoc, List.getElem?_append_right (by omega), hl1, Nat.add_sub_cancel_left, List.getElem?_append_left (by omega)]
    exact hu
  have := hc (lo * 3 + i) u key
  rw [Nat.add_assoc]; exact this
/-- The three parts of a row of tokens. -/
theorem three_cuts {w : World} {p : Option Addr} {cap : Nat} {l : List Tk} (h : Toks w (.slice p l.length cap) l) (a b : Nat) (h1 : a < b) (h2 : b ≤ l.length) :
    ∃ p1 n1 k1 p2 n2 k2 p3 n3 k3, (∀ W, (Instr.slice 36 (.slice p l.length cap) none (some (.int .i64 a)) none).run Try.prog W = .ok (.slice p1 n1 k1) W) ∧
      (∀ W, (Instr.slice 36 (.slice p l.length cap) (some (.int .i64 a)) (some (.int .i64 b)) none).run Try.prog W = .ok (.slice p2 n2 k2) W) ∧
      (∀ W, (Instr.slice 36 (.slice p l.length cap) (some (.int .i64 b)) none none).run Try.prog W = .ok (.slice p3 n3 k3) W) ∧
      ∀ W, Ext w W → Toks W (.slice p1 n1 k1) (l.take a) ∧ Toks W (.slice p2 n2 k2) ((l.drop a).take (b - a)) ∧ Toks W (.slice p3 n3 k3) (l.drop b) := by
  obtain ⟨_, _, e, hc, _⟩ := h.shape
  cases e
  refine ⟨p, a, cap, (if cap = a then p else p.map (fun x => x.add (a * 3))), b - a, cap - a, (if cap = b then p else p.map (fun x => x.add (b * 3))), l.length - b, cap - b, run_cutTk_h p l.length cap a (by omega), run_cutTk_lh p l.length cap a b (by omega) (by omega), run_cutTk_l p l.length cap b h2, fun W hx => ⟨toks_take (h.ext hx) a (by omega), toks_cut (h.ext hx) a b (by omega) h2, ?_⟩⟩
  have := toks_cut (h.ext hx) b l.length h2 (Nat.le_refl _)
  rw [List.take_of_length_le (by rw [List.length_drop]; omega)] at this
  exact this
theorem u64_mod (x : Int) (m : Nat) (h0 : 0 < m) (hm : m ≤ 1000) : ∃ k : Nat, k < m ∧ RowKit.wrap64 ((IntKind.u64.wrap x).tmod m) = k := by
  have h1 : 0 ≤ IntKind.u64.wrap x := by unfold IntKind.wrap; simp [IntKind.bits, IntKind.signed]; omega
  refine ⟨((IntKind.u64.wrap x) % m).toNat, ?_, ?_⟩
  · have := Int.emod_lt_of_pos (IntKind.u64.wrap x) (show (0 : Int) < m by omega)
    have := Int.emod_nonneg (IntKind.u64.wrap x) (show (m : Int) ≠ 0 by omega)
    omega
  · rw [Int.tmod_eq_emod_of_nonneg h1]
    have a := Int.emod_lt_of_pos (IntKind.u64.wrap x) (show (0 : Int) < m by omega)
    have b := Int.emod_nonneg (IntKind.u64.wrap x) (show (m : Int) ≠ 0 by omega)
    unfold RowKit.wrap64
    omega
/-- Where the atoms stand, up to a place. -/
def prL (ts : List Tk) (e : Nat → Nat) (k : Nat) : List (Nat × Nat) := ((List.range k).filter (isB ts)).map fun i => (i, e i)
def prCells (x : Nat × Nat) : List Value := [.int .i64 x.1, .int .i64 x.2]
theorem prL_len (ts : List Tk) (e : Nat → Nat) (k : Nat) : (prL ts e k).length = cnt (isB ts) 0 k := by
  unfold prL cnt
  rw [List.length_map, Nat.sub_zero, ← List.range_eq_range', List.countP_eq_length_filter]
theorem prL_yes {ts : List Tk} {e : Nat → Nat} {k : Nat} (h : isB ts k = true) : prL ts e (k + 1) = prL ts e k ++ [(k, e k)] := by
  unfold prL
  rw [List.range_succ, List.filter_append, List.map_append]
  simp [h]
theorem prL_no {ts : List Tk} {e : Nat → Nat} {k : Nat} (h : isB ts k = false) : prL ts e (k + 1) = prL ts e k := by
  unfold prL
  rw [List.range_succ, List.filter_append, List.map_append]
  simp [h]
theorem prL_at {ts : List Tk} {e : Nat → Nat} {k j : Nat} (h : j < (prL ts e k).length) : ∃ a, a < k ∧ isB ts a = true ∧ (prL ts e k)[j] = (a, e a) := by
  have hm := List.getElem_mem h
  unfold prL at hm
  obtain ⟨a, ha, hb⟩ := List.mem_map.1 hm
  obtain ⟨h1, h2⟩ := List.mem_filter.1 ha
  exact ⟨a, by simpa using h1, h2, hb.symm⟩
theorem kind_is {l : List Tk} (hc : ∀ t ∈ l, t.check = true) {k : Nat} (h : k < l.length) : kindAt l k = l[k].kind := by
  unfold kindAt
  rw [List.getElem?_eq_getElem h]
  simp only [hc _ (List.getElem_mem h), if_true]
theorem kind_end {l : List Tk} {k : Nat} (h : ¬ k < l.length) : kindAt l k = 0 := by
  unfold kindAt
  rw [List.getElem?_eq_none (by omega)]
theorem ends_of {l : List Tk} {P : Pat} (hc : ∀ t ∈ l, t.check = true) (h : ToksR l (.ok P)) : ∃ e : Nat → Nat, ∀ a, a < l.length → isB l a = true → Ends l a (e a) ∧ (cnt (isA l) 0 l.length ≤ 3 → ToksR (ins l a (e a)) (.ok P)) := by
  have g := (ToksR.groups hc h).2
  refine ⟨fun a => if x : a < l.length ∧ isB l a = true then Classical.choose (g a x.1 x.2) else 0, fun a h1 h2 => ?_⟩
  dsimp only
  rw [dif_pos ⟨h1, h2⟩]
  exact Classical.choose_spec (g a h1 h2)
end Go.Proofs.Ytngnplghjaojhaa
