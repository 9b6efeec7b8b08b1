/- A pattern that can be gone through, in memory of its own (the law's own): what holds meanwhile. -/
import Derived.Test.YthoneahamnmjlaaGreatDoorGp31
import Derived.Test.YthoneahamnmjlaaGreatDoorGp25
namespace Go.Proofs.YthoneahamnmjlaaGreatDoor
set_option maxRecDepth 100000
set_option maxHeartbeats 2000000
set_option linter.unusedSimpArgs false
open Go.RowKit Go.Shelf Go.Sort
attribute [local go_sem] Oper.semAt_some wide_fn wide_depth
set_option linter.unusedVariables false

def cut60 (s : ByteArray) : ByteArray := s.extract 0 (min s.size 60)
def cutA (a : Atm) : Atm := ⟨a.kind, a.fk, cut60 a.fn, cut60 a.name, cut60 a.value, a.tk, cut60 a.tn⟩
/-- What the law takes of a pattern. -/
def ownB (P : Pat) : Pat := ⟨(P.atoms.take 42).map cutA, (P.ret.take 34).map cut60, P.count, P.distinct, P.limited, P.limit, P.offset, (P.hint.take 34).map cut60⟩
theorem cut60_size (s : ByteArray) : (cut60 s).size ≤ 60 := by unfold cut60; rw [ByteArray.size_extract]; omega
theorem ownB_fits (P : Pat) : (ownB P).Fits := by
  refine ⟨fun a ha => ?_, ?_⟩
  · obtain ⟨b, _, rfl⟩ := List.mem_map.1 ha
    have h1 := cut60_size b.fn
    have h2 := cut60_size b.name
    have h3 := cut60_size b.value
    have h4 := cut60_size b.tn
    exact ⟨by show (cut60 b.fn).size ≤ _; omega, by show (cut60 b.name).size ≤ _; omega, by show (cut60 b.value).size ≤ _; omega, by show (cut60 b.tn).size ≤ _; omega⟩
  · show ((P.atoms.take 42).map cutA).length ≤ _
    rw [List.length_map, List.length_take]; omega
theorem textT_any (s : ByteArray) (w : World) (hs : s.size ≤ 9223372036854775807) :
    Calls Tryz.prog 25 #[.string s] w fun e w' => e = .returned (.string (cut60 s)) ∧ w' = w := by
  have hk : min (s.size : Int) 60 = ((min s.size 60 : Nat) : Int) := by omega
  have hc := fun w' => run_cut_str s (min s.size 60) _ rfl (Nat.min_le_left _ _) w'
  unfold cut60
  generalize min s.size 60 = k at *
  generalize s.extract 0 k = S at *
  go_enter Tryz.func25, Tryz.ntmps25
  go_wp2
  go_ret
  exact ⟨rfl, rfl⟩
theorem own_far_pr {w w' : World} {B size n : Nat} {e : TypeId} {v : Value} {xs : List Value} {row : Option Nat} (h : w.ownsRow B e size v n xs) (hg : w.grownBy w' row) (hne : ∀ g, row = some g → v.ownBlock ≠ some g) : w'.ownsRow B e size v n xs := by
  refine ⟨h.1, ?_⟩
  rcases h.2 with hn | ⟨k, cap, cur, rfl, hbg, hgg, rest⟩
  · exact .inl hn
  · refine .inr ⟨k, cap, cur, rfl, hbg, ?_, rest⟩
    rw [hg.block k (Array.getElem?_eq_some_iff.1 hgg).1 (fun e => hne k e.symm rfl)]
    exact hgg
theorem own_own {w : World} {B1 B2 s1 s2 n1 n2 : Nat} {e1 e2 : TypeId} {v1 v2 : Value} {x1 x2 : List Value} (h1 : w.ownsRow B1 e1 s1 v1 n1 x1) (h2 : w.ownsRow B2 e2 s2 v2 n2 x2) (he : e1 ≠ e2) : ∀ g, v1.ownBlock = some g → v2.ownBlock ≠ some g := by
  intro g hg hg2
  rcases h1.2 with ⟨rfl, _⟩ | ⟨k, cap, cur, rfl, _, hk, _⟩
  · cases hg
  · rcases h2.2 with ⟨rfl, _⟩ | ⟨k', cap', cur', rfl, _, hk', _⟩
    · cases hg2
    · cases hg; cases hg2
      rw [hk] at hk'
      cases hk'
      exact he rfl
def zRow : List Value := [.slice none 0 0, .slice none 0 0, .bool false, .bool false, .bool false, .int .i64 0, .int .i64 0, .slice none 0 0]
/-- What holds while the pattern is taken. -/
structure OwS (w : World) (y1 y2 y3 : Nat) (px : List Value) (va vr vh : Value) (A : List Atm) (R H : List ByteArray) (W : World) : Prop where
  ext : Ext w W
  lo : w.heap.size ≤ y3 ∧ y1 ≠ y3 ∧ y2 ≠ y3
  row : RowAt W y1 25 px
  res : RowAt W y2 25 zRow
  out : RowAt W y3 25 [va, vr, .bool false, .bool false, .bool false, .int .i64 0, .int .i64 0, vh]
  oa : W.ownsRow w.heap.size 40 7 va A.length (A.flatMap atCells)
  ot : W.ownsRow w.heap.size 9 1 vr R.length (R.map Value.string)
  oh : W.ownsRow w.heap.size 9 1 vh H.length (H.map Value.string)
  ne : ∀ g, vr.ownBlock = some g → vh.ownBlock ≠ some g
section
variable {w : World} {y1 y2 y3 : Nat} {px : List Value} {va vr vh : Value} {A : List Atm} {R H : List ByteArray} {W W' : World}
theorem OwS.more (h : OwS w y1 y2 y3 px va vr vh A R H W) (hx : Ext W W') : OwS w y1 y2 y3 px va vr vh A R H W' :=
  ⟨h.ext.trans hx, h.lo, h.row.ext hx, h.res.ext hx, h.out.ext hx, own_ext h.oa hx, own_ext h.ot hx, own_ext h.oh hx, h.ne⟩
theorem OwS.atom (h : OwS w y1 y2 y3 px va vr vh A R H W) {v' : Value} {a : Atm} (hg : W.grownBy W' va.ownBlock) (ho : W'.ownsRow w.heap.size 40 7 v' (A.length + 1) (A.flatMap atCells ++ atCells a)) :
    OwS w y1 y2 y3 px v' vr vh (A ++ [a]) R H (W'.setCell ⟨y3, 0, none⟩ v') := by
  have n1 : va.ownBlock ≠ some y1 := fun e => own_ne_row h.oa h.row (by decide) _ e rfl
  have n2 : va.ownBlock ≠ some y2 := fun e => own_ne_row h.oa h.res (by decide) _ e rfl
  have n3 : va.ownBlock ≠ some y3 := fun e => own_ne_row h.oa h.out (by decide) _ e rfl
  have hs := grown_set W' y3 0 v'
  have o3 := h.out.kept hg n3
  refine ⟨Ext.set_of (h.ext.grown hg h.ext.size (fun r hr => (own_lt h.oa hr).1)) h.lo.1 _, h.lo, (h.row.kept hg n1).kept hs (fun e => h.lo.2.1 (Option.some.inj e).symm), (h.res.kept hg n2).kept hs (fun e => h.lo.2.2 (Option.some.inj e).symm), o3.set 0 v', ?_, ?_, ?_, h.ne⟩
  · rw [List.length_append, List.flatMap_append]
    exact own_turn (by simpa using ho) o3 (by decide) hs
  · exact own_turn (own_far_pr h.ot hg (own_own h.oa h.ot (by decide))) o3 (by decide) hs
  · exact own_turn (own_far_pr h.oh hg (own_own h.oa h.oh (by decide))) o3 (by decide) hs
theorem OwS.ret (h : OwS w y1 y2 y3 px va vr vh A R H W) (hv : vh.ownBlock = none) {v' : Value} {s : ByteArray} (hg : W.grownBy W' vr.ownBlock) (ho : W'.ownsRow w.heap.size 9 1 v' (R.length + 1) (R.map Value.string ++ [Value.string s])) :
    OwS w y1 y2 y3 px va v' vh A (R ++ [s]) H (W'.setCell ⟨y3, 1, none⟩ v') := by
  have n1 : vr.ownBlock ≠ some y1 := fun e => own_ne_row h.ot h.row (by decide) _ e rfl
  have n2 : vr.ownBlock ≠ some y2 := fun e => own_ne_row h.ot h.res (by decide) _ e rfl
  have n3 : vr.ownBlock ≠ some y3 := fun e => own_ne_row h.ot h.out (by decide) _ e rfl
  have hs := grown_set W' y3 1 v'
  have o3 := h.out.kept hg n3
  refine ⟨Ext.set_of (h.ext.grown hg h.ext.size (fun r hr => (own_lt h.ot hr).1)) h.lo.1 _, h.lo, (h.row.kept hg n1).kept hs (fun e => h.lo.2.1 (Option.some.inj e).symm), (h.res.kept hg n2).kept hs (fun e => h.lo.2.2 (Option.some.inj e).symm), o3.set 1 v', ?_, ?_, ?_, fun g _ => by rw [hv]; simp⟩
  · exact own_turn (own_far_pr h.oa hg (own_own h.ot h.oa (by decide))) o3 (by decide) hs
  · rw [List.length_append, List.map_append]
    exact own_turn (by simpa using ho) o3 (by decide) hs
  · exact own_turn (own_far_pr h.oh hg (fun g hg' => by rw [hv]; simp)) o3 (by decide) hs
theorem OwS.hint (h : OwS w y1 y2 y3 px va vr vh A R H W) {v' : Value} {s : ByteArray} (hg : W.grownBy W' vh.ownBlock) (hap : AppAt vh v' W) (ho : W'.ownsRow w.heap.size 9 1 v' (H.length + 1) (H.map Value.string ++ [Value.string s])) :
    OwS w y1 y2 y3 px va vr v' A R (H ++ [s]) (W'.setCell ⟨y3, 7, none⟩ v') := by
  have n1 : vh.ownBlock ≠ some y1 := fun e => own_ne_row h.oh h.row (by decide) _ e rfl
  have n2 : vh.ownBlock ≠ some y2 := fun e => own_ne_row h.oh h.res (by decide) _ e rfl
  have n3 : vh.ownBlock ≠ some y3 := fun e => own_ne_row h.oh h.out (by decide) _ e rfl
  have hs := grown_set W' y3 7 v'
  have o3 := h.out.kept hg n3
  refine ⟨Ext.set_of (h.ext.grown hg h.ext.size (fun r hr => (own_lt h.oh hr).1)) h.lo.1 _, h.lo, (h.row.kept hg n1).kept hs (fun e => h.lo.2.1 (Option.some.inj e).symm), (h.res.kept hg n2).kept hs (fun e => h.lo.2.2 (Option.some.inj e).symm), o3.set 7 v', ?_, ?_, ?_, fun g hr => ?_⟩
  · exact own_turn (own_far_pr h.oa hg (own_own h.oh h.oa (by decide))) o3 (by decide) hs
  · exact own_turn (own_far_pr h.ot hg (fun g hg' hr => h.ne g hr hg')) o3 (by decide) hs
  · rw [List.length_append, List.map_append]
    exact own_turn (by simpa using ho) o3 (by decide) hs
  · rcases hap with e | e
    · rw [e]; exact h.ne g hr
    · rw [e]
      have := (own_lt h.ot hr).2
      intro e2
      have := Option.some.inj e2
      omega
end
theorem groX_write {X : List Nat} {P : Program} {ops : Array Oper} {Q : Exit → Act → World → Prop} {ks : Nat → Gro} {a : Act} {w : World} {i : Nat} {r : List Nat} {o : Oper} (ho : ops[i]? = some o) (hk : ks i = .write)
    (h : ∀ K : Act → World → Prop, (∀ a w, GroX X P ops Q ks r a w → K a w) → if Region.wanted o (yielded ops a.tmps) = true then o.wp P a w K Q else K (a.put o.dst undef) w) : GroX X P ops Q ks (i :: r) a w :=
  ⟨groL0_write ho hk fun K hK => h K fun a w h => hK a w h.out⟩
end Go.Proofs.YthoneahamnmjlaaGreatDoor
