/- The places of variables, collected. -/
import Derived.Test.YtkmbnghghbfkdaaGreatGp26
import Derived.Test.YtkmbnghghbfkdaaGreatGp02
import Derived.Test.YtkmbnghghbfkdaaGreatGp10
import Derived.Test.YtkmbnghghbfkdaaGreatGp16
import Derived.Test.YtkmbnghghbfkdaaGreatGp24
import Derived.Test.YtkmbnghghbfkdaaGreatGp27
set_option linter.unusedSimpArgs false
set_option linter.unusedVariables false
set_option maxHeartbeats 2000000
set_option maxRecDepth 100000

namespace Go.Proofs.YtkmbnghghbfkdaaGreat
open Go.RowKit Go.Shelf Go.Sort
attribute [local go_sem] Oper.semAt_some wide_fn wide_depth
theorem places_any (vs : Nat → Value × Value) (m : Nat) (av : Value) (a : Option Addr) (n c : Nat) (w : World) :
 Calls Tryz.prog 45 #[nmV vs m av, .slice a n c] w fun e w' => ∃ b2 b3, e = .returned (.func (.func 86) #[] #[.pointer (some ⟨b3, 0, none⟩), .pointer (some ⟨b2, 0, none⟩)]) ∧
  RowAt w' b2 98 (nmL vs m av) ∧ RowAt w' b3 22 [.slice a n c] ∧ Ext w w' := by
 have hx0 := (Ext.alloc w (.cells (nmL vs m av).toArray 98)).trans (Ext.alloc (w.alloc (.cells (nmL vs m av).toArray 98)) (.cells #[.slice a n c] 22))
 have hb0 := (RowAt.new w 98 (nmL vs m av)).ext (Ext.alloc (w.alloc (.cells (nmL vs m av).toArray 98)) (.cells #[.slice a n c] 22))
 have hb1 : RowAt ((w.alloc (.cells (nmL vs m av).toArray 98)).alloc (.cells #[.slice a n c] 22)) (w.heap.size + 1) 22 [.slice a n c] := row_at (xs := [.slice a n c]) (by simp)
 have HX := Lib.hid hx0
 have HB := Lib.hid hb0
 have HR := Lib.hid hb1
 clear hx0 hb0 hb1
 unfold nmV
 go_enter Tryz.func45, Tryz.ntmps45
 go_wp2_with fail
 go_ret
 exact ⟨_, _, rfl, HB.out, HR.out, HX.out⟩
set_option maxHeartbeats 2000000 in
theorem places_iter (vs : Nat → Value × Value) (m : Nat) (av : Value) (V l : List ByteArray) (a : Option Addr) (c b2 b3 : Nat) (w0 : World) (h2 : RowAt w0 b2 98 (nmL vs m av)) (h3 : RowAt w0 b3 22 [.slice a l.length c])
 (hl : Strs w0 (.slice a l.length c) l) (hm : VarsAt w0 m V) (hd : Distinct V) (hin : ∀ s ∈ l, s ∈ V) (hll : l.length ≤ 1000000) :
 IterI Tryz.prog 86 #[.pointer (some ⟨b3, 0, none⟩), .pointer (some ⟨b2, 0, none⟩)] (fun W => Ext w0 W) l.length (fun k _ args => ∃ h : k < l.length, args = #[.int .i64 (findF V l[k])]) := by
 intro L W J Js hB hJ hJs hround h0
 refine callsIn_of_wp Tryz.func86 rfl trivial ?_
 simp only [Tryz.ntmps86, List.size_toArray, List.length_cons, List.length_nil, Nat.reduceAdd, Nat.reduceSub, Array.replicate_succ, Array.replicate_zero, List.push_toArray, List.append_toArray, List.nil_append, List.cons_append]
 have c3 := (h3.ext (hB 0 W h0)).cell (i := 0) rfl
 have HJ := Lib.hid hJ
 have HB := Lib.hid hB
 have H2 := Lib.hid h2
 have HL := Lib.hid hl
 have HG := Lib.hid (fun (k : Nat) (hk : k < l.length) => show ∀ w', Ext w0 w' → (Instr.lookup 96 (.map (some m)) (.string l[k]) false).run Tryz.prog w' = .ok (.int .i64 (findF V l[k])) w' from by
  obtain ⟨i, hi, hrun⟩ := vars_get hm (hin _ (List.getElem_mem hk))
  rw [findF_at hd hi]
  exact hrun)
 clear hJ hB h2 h3 hl hm hd hin
 gi_wp2_with fail
 clear c3
 gi_loopw [8] (fun i wr => ∃ k : Nat, k ≤ l.length ∧ i = .int .i64 k ∧ J k wr) (fun i _ => l.length - (intOf i).toNat)
 case atStart => exact ⟨0, Nat.zero_le _, rfl, h0⟩
 case round =>
  obtain ⟨k, hk, rfl, hj⟩ := hrel
  have hx := HB.out k _ hj
  by_cases hlt : k < l.length
  ·obtain ⟨b, o, rfl, c0⟩ := (HL.out.ext hx).at_ hlt
   have d0 := (nm_map (H2.out.ext hx)).1
   have hrun := HG.out k hlt wr hx
   obtain ⟨fn', tmps', assign', body', hy, hR⟩ := hround k #[.int .i64 (findF V l[k])] wr hlt hj ⟨hlt, rfl⟩
   generalize findF V l[k] = q at *
   generalize l[k] = s at *
   gi_wp2_with fail
   refine hR.mono ?_
   rintro e W3 (⟨rfl, hj3⟩ | ⟨rfl, hj3⟩)
   ·gi_wp2
    exact ⟨⟨k + 1, by omega, by first | rfl | go_num, hj3⟩, by first | (simp [intOf]; omega) | (rw [show RowKit.wrap64 ((k : Int) + 1) = (k : Int) + 1 from by unfold RowKit.wrap64; omega]; simp [intOf]; omega)⟩
   ·gi_wp2
    exact bodyPost_ret (results_none rfl _ _ _) rfl ⟨⟨_, rfl⟩, .inr hj3⟩
  ·gi_wp2
   go_end0
   exact ⟨⟨_, rfl⟩, .inl (by rw [show l.length = k from by omega]; exact hj)⟩
end Go.Proofs.YtkmbnghghbfkdaaGreat

/- Numbers that an iterator tells, collected. -/
namespace Go.Proofs.YtkmbnghghbfkdaaGreat
open Go.RowKit Go.Shelf Go.Sort
attribute [local go_sem] Oper.semAt_some wide_fn wide_depth
theorem elIn : ElT Tryz.prog 23 3 (.int .i64 0) 1 8 := ⟨Tryz.underlying23, ⟨_, rfl, by kernel_rfl, by kernel_rfl, by kernel_rfl⟩, rfl, by decide⟩
structure SeqN (w1 : World) (ns : List Int) (k : Nat) (v : Value) (W : World) : Prop where
 below : Below w1.heap.size w1 W
 box : RowAt W w1.heap.size 23 [v]
 own : W.ownsRow (w1.heap.size + 1) 3 1 v k ((ns.take k).map (Value.int .i64))
theorem SeqN.stab (w1 : World) (ns : List Int) (k : Nat) (v : Value) (B : Nat) (hB : w1.heap.size ≤ B) : Stab B (SeqN w1 ns k v) := fun W W' row h hg hr =>
 ⟨h.below.grown hg h.below.size (fun k e => Nat.le_trans hB (hr k e).1), Stab.rowD B _ _ _ W W' row h.box hg hr, Stab.own B _ _ _ _ _ _ W W' row h.own hg hr⟩
theorem SeqN.ext {w1 : World} {ns : List Int} {k : Nat} {v : Value} {W W' : World} (h : SeqN w1 ns k v W) (hx : Ext W W') : SeqN w1 ns k v W' := ⟨Below.ext h.below hx h.below.size, h.box.ext hx, own_ext h.own hx⟩
theorem SeqN.next {w1 : World} {ns : List Int} {k : Nat} {v v4 : Value} {W2 w4 : World} {o : Obj} {B : Nat} {n : Int} (h : SeqN w1 ns k v W2) (hg : (W2.alloc o).grownBy w4 v.ownBlock)
 (hown : w4.ownsRow (w1.heap.size + 1) 3 1 v4 (k + 1) ((ns.take k).map (Value.int .i64) ++ [.int .i64 n])) (hkk : ns.take (k + 1) = ns.take k ++ [n]) :
 KeepsFrom B W2 (w4.setCell ⟨w1.heap.size, 0, none⟩ v4) ∧ ∃ v, SeqN w1 ns (k + 1) v (w4.setCell ⟨w1.heap.size, 0, none⟩ v4) := by
 have h1 := h.ext (Ext.alloc W2 o)
 have hne : ∀ g, g < w1.heap.size + 1 → v.ownBlock ≠ some g := fun g hg e => by have := (own_lt h1.own e).1; omega
 have hout := h1.box.kept hg (hne _ (by omega))
 have hbel : Below w1.heap.size w1 w4 := h1.below.grown hg h1.below.size (fun r hr => by have := (own_lt h1.own hr).1; omega)
 refine ⟨((keeps_ext B (Ext.alloc W2 o)).trans (keeps_own h1.own hg)).trans (keeps_set B hout.facts1.1 v4), v4, ?_, ?_, ?_⟩
 ·exact hbel.setCell (p := ⟨w1.heap.size, 0, none⟩) (Nat.le_refl _) _
 ·exact hout.set 0 v4
 ·rw [hkk, List.map_append]
  exact own_kept hown (grown_set w4 _ 0 v4) (fun r hr => by cases hr; omega)
set_option maxHeartbeats 2000000 in
theorem seqN_any {gf : Nat} {lb : Array Value} (ns : List Int) (w1 : World)
 (hit : IterI Tryz.prog gf lb (fun W => Ext w1 W) ns.length (fun k _ args => ∃ h : k < ns.length, args = #[.int .i64 ns[k]]))
 (eg : ∀ args w, (callFunc gf args).run Tryz.prog w = .ok (.enter gf args) w) (hn : ns.length ≤ 1000000) :
 Calls Tryz.prog 85 #[.slice none 0 0, .func (.func gf) #[] lb] w1 fun e w' => ∃ v, e = .returned v ∧ w'.ownsRow w1.heap.size 3 1 v ns.length (ns.map (Value.int .i64)) ∧ Ext w1 w' := by
 refine calls_of_wp_marks Tryz.func85 rfl ?_
 simp only [Tryz.ntmps85, List.size_toArray, List.length_cons, List.length_nil, Nat.reduceAdd, Nat.reduceSub, Array.replicate_succ, Array.replicate_zero, List.push_toArray, List.append_toArray, List.nil_append, List.cons_append]
 have hI0 : SeqN w1 ns 0 (.slice none 0 0) (w1.alloc (.cells #[.slice none 0 0] 23)) := ⟨Ext.alloc _ _, RowAt.new w1 _ [.slice none 0 0], World.ownsRow_nil _ _ _ _⟩
 have hsz : (w1.alloc (.cells #[.slice none 0 0] 23)).heap.size = w1.heap.size + 1 := by simp
 have HI0 := Lib.hid hI0
 have HSZ := Lib.hid hsz
 have HIT := Lib.hid hit
 clear hI0 hsz hit
 go_wp2_with fail
 generalize w1.alloc (.cells #[.slice none 0 0] 23) = wa at *
 have hle : w1.heap.size ≤ wa.heap.size := by have := HSZ.out; omega
 refine wp_overI rfl eg HIT.out (by rintro k W args ⟨_, rfl⟩; rfl) (fun k args => Stab.pure _ _) (fun k W => ∃ v, SeqN w1 ns k v W) (fun _ _ => False) (fun k => Stab.ex fun v => SeqN.stab w1 ns k v _ hle) (fun c => Stab.pure _ _) (fun k W ⟨v, h⟩ => h.below) ⟨_, HI0.out⟩ ?_ ?_ ?_
 ·rintro k args W L hk hL ⟨v, hI⟩ ⟨_, rfl⟩
  gi_wp2
  refine ⟨keeps_ext _ (Ext.refl _), ⟨v, hI⟩, ⟨hk, by first | rfl | trivial⟩, ?_⟩
  rintro W2 - ⟨v2, hI2⟩ -
  clear hI v
  have hkk := take_snoc ns k hk
  generalize ns[k] = s at *
  have hown := hI2.own
  have hlt2 := hI2.box.lt
  obtain ⟨c0, f0⟩ := hI2.box.facts1
  have hx := Ext.alloc W2 (.cells #[.int .i64 s] 3)
  have HI := Lib.hid hI2
  have HKK := Lib.hid hkk
  clear hI2 hkk
  gi_wp2_with (gi_at_builtin; refine wpListIn_append_sl _ rfl _ _ 23 rfl elIn rfl (own_ext hown hx) rfl (Sl.new _ _ _ 1 1 (Nat.le_refl _) ?_) rfl ?_ ?_ ?_ ?_ ?_)
  ·unfold maxLen; omega
  ·exact rfl
  ·omega
  ·unfold maxLen; omega
  ·have := hx.size; omega
  intro v4 w4 hown4 hB4 hg4 hat4
  obtain ⟨a4, c4, rfl⟩ := own_vw hown4
  have hne : v2.ownBlock ≠ some w1.heap.size := fun e => by have := (own_lt hown e).1; omega
  have hrow := (HI.out.box.ext hx).kept hg4 hne
  obtain ⟨c1, f1⟩ := hrow.facts1
  have HG := Lib.hid hg4
  have HO := Lib.hid hown4
  clear hg4 hown4 hB4 hat4 hrow hown hx c0 f0
  gi_wp2
  exact SeqN.next HI.out HG.out (by have h := HO.out; rwa [← List.map_take] at h) HKK.out
 ·rintro D W hD ⟨v, hI⟩ hdf
  obtain ⟨c0, f0⟩ := hI.box.facts1
  have hown := hI.own
  rw [List.take_of_length_le (Nat.le_refl _)] at hown
  have HO := Lib.hid (own_mark (own_base hown (show w1.heap.size ≤ w1.heap.size + 1 by omega)) hdf)
  have HB := Lib.hid (below_mark hI.below (show w1.heap.size ≤ D by omega))
  clear hown hI
  go_wp2
  exact leave_marked hdf (fun _ => results_tmp rfl _ _ _) ⟨v, rfl, HO.out, HB.out⟩
 ·rintro D c W hD h
  exact h.elim
theorem collect_any (vs : Nat → Value × Value) (m : Nat) (av : Value) (V l : List ByteArray) (a : Option Addr) (c b2 b3 : Nat) (w : World) (h2 : RowAt w b2 98 (nmL vs m av)) (h3 : RowAt w b3 22 [.slice a l.length c])
 (hl : Strs w (.slice a l.length c) l) (hm : VarsAt w m V) (hd : Distinct V) (hin : ∀ s ∈ l, s ∈ V) (hll : l.length ≤ 1000000) :
 Calls Tryz.prog 44 #[.func (.func 86) #[] #[.pointer (some ⟨b3, 0, none⟩), .pointer (some ⟨b2, 0, none⟩)]] w fun e w' => ∃ v, e = .returned v ∧ w'.ownsRow w.heap.size 3 1 v (l.map (findF V)).length ((l.map (findF V)).map (Value.int .i64)) ∧ Ext w w' := by
 have hit : IterI Tryz.prog 86 #[.pointer (some ⟨b3, 0, none⟩), .pointer (some ⟨b2, 0, none⟩)] (fun W => Ext w W) (l.map (findF V)).length (fun k _ args => ∃ h : k < (l.map (findF V)).length, args = #[.int .i64 (l.map (findF V))[k]]) := by
  have h := places_iter vs m av V l a c b2 b3 w h2 h3 hl hm hd hin hll
  have hlen : (l.map (findF V)).length = l.length := List.length_map _
  intro L W J Js g1 g2 g3 g4 g5
  rw [hlen]
  refine h L W J Js g1 g2 g3 (fun k args W hk hj he => g4 k args W (by rw [hlen]; exact hk) hj ?_) g5
  obtain ⟨h', rfl⟩ := he
  exact ⟨by rw [hlen]; exact hk, by simp⟩
 have HS := Lib.hid (seqN_any (l.map (findF V)) w hit (enters_of Tryz.func86 (by kernel_rfl) rfl) (by rw [List.length_map]; exact hll))
 generalize l.map (findF V) = ns at *
 clear hit h2 h3 hl hm hd hin
 go_enter Tryz.func44, Tryz.ntmps44
 go_wp2_with fail
 refine HS.out.mono ?_
 rintro e w2 ⟨v, rfl, ho, hx⟩
 have HO := Lib.hid ho
 have HX := Lib.hid hx
 clear ho hx HS
 obtain ⟨a2, c2, rfl⟩ := own_vw HO.out
 go_wp2_with fail
 go_ret
 exact ⟨_, rfl, HO.out, HX.out⟩
end Go.Proofs.YtkmbnghghbfkdaaGreat

/- What is tried; what is not known leaves it. -/
namespace Go.Proofs.YtkmbnghghbfkdaaGreat
open Go.RowKit Go.Shelf Go.Sort
attribute [local go_sem] Oper.semAt_some wide_fn wide_depth
theorem assertUnk (w : World) : (Instr.typeAssert (.iface 142 (.agg #[])) 20 142 true).run Tryz.prog w = .ok (.tuple #[.agg #[], .bool true]) w := by kernel_rfl
theorem t_catch_idle (p : Addr) (w : World) :
 CallsD Tryz.prog 87 #[.pointer (some p)] .returning w fun e u' w' => e = .returned (.tuple #[]) ∧ u' = .returning ∧ w' = w := by
 refine callsD_of_wpS Tryz.func87 rfl fun c₀ cs hu => ?_
 simp only [Tryz.ntmps87, List.size_toArray, List.length_cons, List.length_nil, Nat.reduceAdd, Nat.reduceSub, Array.replicate_succ, Array.replicate_zero, List.push_toArray, List.append_toArray, List.nil_append, List.cons_append]
 apply wpS_seq
 apply wpS_region
 simp [wpOpsS, go_sem, recoverD, hu, Exit.thenS]
 refine wpS_of_wp ?_
 go_wp2
 refine ⟨rfl, .returning, ?_, .tuple #[], results_none rfl _ _ _, rfl, rfl, rfl⟩
 cases c₀
 simp_all
theorem t_catch_pan (p : Addr) (w : World) (pe : List PanicEntry) (x : Value) (hp : w.cell? p = some x) (fp : w.frozen? p = false) :
 CallsD Tryz.prog 87 #[.pointer (some p)] (.panicking ({ v := .iface 142 (.agg #[]), recovered := false } :: pe)) w fun e u' w' =>
  e = .returned (.tuple #[]) ∧ u' = .panicking ({ v := .iface 142 (.agg #[]), recovered := true } :: pe) ∧ w' = (w.alloc (.cells #[] 142)).setCell p (.bool false) := by
 have hlt := World.block_lt_of_cell? w p hp
 have hp2 : (w.alloc (.cells #[] 142)).cell? p = some x := by
  obtain ⟨b, o, e⟩ := p
  exact (Below.cell (Ext.alloc w _) hlt).trans hp
 have fp2 : (w.alloc (.cells #[] 142)).frozen? p = false := by
  obtain ⟨b, o, e⟩ := p
  exact (Below.frozen (Ext.alloc w _) hlt).trans fp
 refine callsD_of_wpS Tryz.func87 rfl fun c₀ cs hu => ?_
 simp only [Tryz.ntmps87, List.size_toArray, List.length_cons, List.length_nil, Nat.reduceAdd, Nat.reduceSub, Array.replicate_succ, Array.replicate_zero, List.push_toArray, List.append_toArray, List.nil_append, List.cons_append]
 apply wpS_seq
 apply wpS_region
 simp [wpOpsS, go_sem, recoverD, hu, Exit.thenS]
 refine wpS_of_wp ?_
 have ha := assertUnk
 go_wp2
 refine ⟨rfl, _, rfl, .tuple #[], results_none rfl _ _ _, rfl, rfl, rfl⟩
theorem t_results {W : World} {A : Nat} {x : Value} {T : Array Value} (h2 : T.getD 2 undef = .pointer (some ⟨A, 0, none⟩)) (bA : W.cell? ⟨A, 0, none⟩ = some x) :
 (results Tryz.f46 T).run Tryz.prog W = .ok x W := by
 simp only [Array.getD_eq_getD_getElem?] at h2
 simp [results, Tryz.results46, go_sem, h2, bA]
theorem t_leave_pan {R : Ending → World → Prop} {W : World} {A : Nat} {x : Value} {T : Array Value} (h2 : T.getD 2 undef = .pointer (some ⟨A, 0, none⟩)) (bA : RowAt W A 4 [x])
 (hR : R (.returned (.bool false)) ((W.alloc (.cells #[] 142)).setCell ⟨A, 0, none⟩ (.bool false))) :
 Leaves Tryz.prog Tryz.f46 T R [{ target := .fn (.func 87) #[.pointer (some ⟨A, 0, none⟩)], args := #[] }] (.panicking [{ v := .iface 142 (.agg #[]), recovered := false }]) W := by
 refine leaves_cons (f := 87) (args := #[.pointer (some ⟨A, 0, none⟩)]) (by simp) (by simp [go_sem]) ?_
 refine (t_catch_pan _ W [] _ bA.facts1.1 bA.facts1.2).mono ?_
 rintro e u' w'' ⟨rfl, rfl, rfl⟩
 exact ⟨_, t_results h2 ((bA.ext (Ext.alloc _ _)).set 0 (.bool false)).facts1.1, hR⟩
theorem t_leave_ret {R : Ending → World → Prop} {W : World} {A : Nat} {x : Value} {T : Array Value} (h2 : T.getD 2 undef = .pointer (some ⟨A, 0, none⟩)) (bA : RowAt W A 4 [x]) (hR : R (.returned x) W) :
 Leaves Tryz.prog Tryz.f46 T R [{ target := .fn (.func 87) #[.pointer (some ⟨A, 0, none⟩)], args := #[] }] .returning W := by
 refine leaves_cons (f := 87) (args := #[.pointer (some ⟨A, 0, none⟩)]) (by simp) (by simp [go_sem]) ?_
 refine (t_catch_idle _ W).mono ?_
 rintro e u' w'' ⟨rfl, rfl, rfl⟩
 exact ⟨_, t_results h2 bA.facts1.1, hR⟩
theorem triesOf_any (caps : Array Value) (w : World) (Ok Bad : World → Prop)
 (h : Calls Tryz.prog 47 caps (w.alloc (.cells #[.bool false] 4)) fun e w2 => RowAt w2 w.heap.size 4 [.bool false] ∧ ((e = .returned (.tuple #[]) ∧ Ok w2) ∨ (e = unknE ∧ Bad w2))) :
 Calls Tryz.prog 46 #[.func (.func 47) #[] caps] w fun e w' => ∃ w2, RowAt w2 w.heap.size 4 [.bool false] ∧ ((e = .returned (.bool true) ∧ Ok w2 ∧ w' = w2.setCell ⟨w.heap.size, 0, none⟩ (.bool true)) ∨
  (e = .returned (.bool false) ∧ Bad w2 ∧ w' = (w2.alloc (.cells #[] 142)).setCell ⟨w.heap.size, 0, none⟩ (.bool false))) := by
 have hmf : ∀ (fn : Fn) (first cap : Array Value) (w : World), (Instr.makeFunc fn first cap).run Tryz.prog w = .ok (.func fn first cap) w := fun _ _ _ _ => rfl
 have H := Lib.hid h
 clear h
 go_enter_defers Tryz.func46, Tryz.ntmps46
 go_wp2_with fail
 refine H.out.mono ?_
 rintro en w2 ⟨hA, ⟨rfl, ho⟩ | ⟨rfl, hb⟩⟩
 ·have HA := Lib.hid hA
  have HO := Lib.hid ho
  clear hA ho H
  have fA := HA.out.facts1.1
  have fAf := HA.out.facts1.2
  go_wp2_with fail
  exact t_leave_ret rfl (HA.out.set 0 (.bool true)) ⟨w2, HA.out, .inl ⟨rfl, HO.out, rfl⟩⟩
 ·have HA := Lib.hid hA
  have HO := Lib.hid hb
  clear hA hb H
  unfold unknE
  go_wp2_with fail
  exact t_leave_pan rfl HA.out ⟨w2, HA.out, .inr ⟨rfl, HO.out, rfl⟩⟩
theorem triesBack_any (caps : Array Value) (w : World) (Ok Bad : World → Prop)
 (h : Calls Tryz.prog 60 caps (w.alloc (.cells #[.bool false] 4)) fun e w2 => RowAt w2 w.heap.size 4 [.bool false] ∧ ((e = .returned (.tuple #[]) ∧ Ok w2) ∨ (e = unknE ∧ Bad w2))) :
 Calls Tryz.prog 46 #[.func (.func 60) #[] caps] w fun e w' => ∃ w2, RowAt w2 w.heap.size 4 [.bool false] ∧ ((e = .returned (.bool true) ∧ Ok w2 ∧ w' = w2.setCell ⟨w.heap.size, 0, none⟩ (.bool true)) ∨
  (e = .returned (.bool false) ∧ Bad w2 ∧ w' = (w2.alloc (.cells #[] 142)).setCell ⟨w.heap.size, 0, none⟩ (.bool false))) := by
 have hmf : ∀ (fn : Fn) (first cap : Array Value) (w : World), (Instr.makeFunc fn first cap).run Tryz.prog w = .ok (.func fn first cap) w := fun _ _ _ _ => rfl
 have H := Lib.hid h
 clear h
 go_enter_defers Tryz.func46, Tryz.ntmps46
 go_wp2_with fail
 refine H.out.mono ?_
 rintro en w2 ⟨hA, ⟨rfl, ho⟩ | ⟨rfl, hb⟩⟩
 ·have HA := Lib.hid hA
  have HO := Lib.hid ho
  clear hA ho H
  have fA := HA.out.facts1.1
  have fAf := HA.out.facts1.2
  go_wp2_with fail
  exact t_leave_ret rfl (HA.out.set 0 (.bool true)) ⟨w2, HA.out, .inl ⟨rfl, HO.out, rfl⟩⟩
 ·have HA := Lib.hid hA
  have HO := Lib.hid hb
  clear hA hb H
  unfold unknE
  go_wp2_with fail
  exact t_leave_pan rfl HA.out ⟨w2, HA.out, .inr ⟨rfl, HO.out, rfl⟩⟩
end Go.Proofs.YtkmbnghghbfkdaaGreat

/- What a pattern that may be has: plain. -/
namespace Go.Proofs.YtkmbnghghbfkdaaGreat
theorem termS_sub {T : List ByteArray} {t : Bool × ByteArray} {s : ByteArray} (h : s ∈ T) : s ∈ termS T t := by
 unfold termS
 split
 ·exact h
 ·exact List.mem_append_left _ h
theorem termS_mem {T : List ByteArray} {s : ByteArray} (h : s ≠ nilB) : s ∈ termS T (false, s) := by
 unfold termS
 split
 ·rename_i hc
  rcases hc with hc | hc | hc
  ·cases hc
  ·exact absurd hc h
  ·exact hasB_iff.1 hc
 ·simp
theorem termS_dist {T : List ByteArray} {t : Bool × ByteArray} (h : Distinct T) : Distinct (termS T t) := by
 unfold termS
 split
 ·exact h
 ·rename_i hc
  simp only [not_or] at hc
  have hn : t.2 ∉ T := fun hm => hc.2.2 (hasB_iff.2 hm)
  intro i j hi hj he
  rw [List.length_append, List.length_singleton] at hi hj
  by_cases h1 : i < T.length
  ·by_cases h2 : j < T.length
   ·rw [List.getElem_append_left h1, List.getElem_append_left h2] at he
    exact h i j h1 h2 he
   ·rw [List.getElem_append_left h1, List.getElem_append_right (by omega)] at he
    simp only [List.getElem_singleton] at he
    exact absurd (he ▸ List.getElem_mem h1) hn
  ·by_cases h2 : j < T.length
   ·rw [List.getElem_append_left h2, List.getElem_append_right (by omega)] at he
    simp only [List.getElem_singleton] at he
    exact absurd (he ▸ List.getElem_mem h2) hn
   ·omega
theorem varsS_from {T : List ByteArray} (l : List Atm) (s : ByteArray) (h : s ∈ T) : s ∈ l.foldl (fun T a => termS (termS T (a.fk, a.fn)) (a.tk, a.tn)) T := by
 induction l generalizing T with
 | nil => exact h
 | cons a l ih => exact ih (termS_sub (termS_sub h))
theorem varsS_in {T : List ByteArray} (l : List Atm) {a : Atm} (ha : a ∈ l) : (a.fk = false → a.fn ≠ nilB → a.fn ∈ l.foldl (fun T a => termS (termS T (a.fk, a.fn)) (a.tk, a.tn)) T) ∧ (a.tk = false → a.tn ≠ nilB → a.tn ∈ l.foldl (fun T a => termS (termS T (a.fk, a.fn)) (a.tk, a.tn)) T) := by
 induction l generalizing T with
 | nil => cases ha
 | cons b l ih =>
  rcases List.mem_cons.1 ha with rfl | ha
  ·refine ⟨fun hk hn => ?_, fun hk hn => ?_⟩
   ·rw [List.foldl_cons, hk]
    exact varsS_from l _ (termS_sub (termS_mem hn))
   ·rw [List.foldl_cons, hk]
    exact varsS_from l _ (termS_mem hn)
  ·exact ih ha
theorem varsS_distinct (l : List Atm) : Distinct (varsS l) := by
 unfold varsS
 suffices h : ∀ T, Distinct T → Distinct (l.foldl (fun T a => termS (termS T (a.fk, a.fn)) (a.tk, a.tn)) T) from h [] (fun i j hi => by simp at hi)
 induction l with
 | nil => exact fun T h => h
 | cons a l ih => exact fun T h => ih _ (termS_dist (termS_dist h))
theorem wordB_nil : wordB nilB = false := by decide +kernel
theorem wordB_ne {s : ByteArray} (h : wordB s = true) : s ≠ nilB := by rintro rfl; rw [wordB_nil] at h; cases h
theorem atomB_kind {a : Atm} (h : atomB a = true) : (a.kind = 1 ∨ a.kind = 2 ∨ a.kind = 3 ∨ a.kind = 4) ∧ a.fn ≠ nilB ∧ (a.kind = 4 → a.tn ≠ nilB) ∧ (a.kind ≠ 4 → a.tk = false ∧ a.tn = nilB) := by
 unfold atomB at h
 split at h
 ·rename_i hk
  simp only [Bool.and_eq_true, decide_eq_true_eq, Bool.not_eq_true'] at h
  exact ⟨.inl hk, wordB_ne h.2.2.2.2, fun h4 => by omega, fun _ => ⟨h.2.2.1, h.2.2.2.1⟩⟩
 ·split at h
  ·rename_i hk
   simp only [Bool.and_eq_true, decide_eq_true_eq, Bool.not_eq_true'] at h
   exact ⟨.inr (.inl hk), wordB_ne h.2.2.2.1, fun h4 => by omega, fun _ => ⟨h.2.1, h.2.2.1⟩⟩
  ·split at h
   ·rename_i hk
    simp only [Bool.and_eq_true, decide_eq_true_eq, Bool.not_eq_true'] at h
    exact ⟨.inr (.inr (.inl hk)), wordB_ne h.2.2.1, fun h4 => by omega, fun _ => ⟨h.1, h.2.1⟩⟩
   ·split at h
    ·rename_i hk
     simp only [Bool.and_eq_true, decide_eq_true_eq] at h
     exact ⟨.inr (.inr (.inr hk)), wordB_ne h.2.1, fun _ => wordB_ne h.2.2.2, fun h4 => absurd hk h4⟩
    ·cases h
theorem okB_parts {P : Pat} (h : P.okB = true) : (0 < P.atoms.length ∧ P.atoms.length ≤ 40) ∧ (varsS P.atoms).length ≤ 32 ∧ chosenB (varsS P.atoms) P.ret = true ∧ chosenB (varsS P.atoms) P.hint = true ∧ (P.hint.length = 0 ∨ P.hint.length = (varsS P.atoms).length) ∧ ∀ a ∈ P.atoms, atomB a = true := by
 unfold Pat.okB sizesP namedP at h
 simp only [Bool.and_eq_true, decide_eq_true_eq, Bool.or_eq_true] at h
 obtain ⟨⟨h1, h2, h3, h4⟩, ⟨h5, h6, h7⟩, h8, h9, h10⟩ := h
 exact ⟨⟨h1, h2⟩, h4, h5, h6, h7, fun a ha => List.all_eq_true.1 h10 a ha⟩
theorem chosenG_sub {vars seen l : List ByteArray} (h : chosenG vars seen l = true) : ∀ s ∈ l, s ∈ vars := by
 induction l generalizing seen with
 | nil => exact fun s hs => by cases hs
 | cons x l ih =>
  rw [chosenG] at h
  simp only [Bool.and_eq_true] at h
  intro s hs
  rcases List.mem_cons.1 hs with rfl | hs
  ·exact hasB_iff.1 h.1
  ·exact ih h.2.2 s hs
theorem chosenG_len {vars : List ByteArray} {seen l : List ByteArray} (h : chosenG vars seen l = true) (hs : ∀ s ∈ seen, s ∈ vars) (hd : seen.Nodup) : (seen ++ l).Nodup := by
 induction l generalizing seen with
 | nil => simpa using hd
 | cons x l ih =>
  rw [chosenG] at h
  simp only [Bool.and_eq_true, Bool.not_eq_true'] at h
  have hx : x ∉ seen := hasB_no.1 h.2.1
  have h2 := ih h.2.2 (fun s hm => by
   rcases List.mem_append.1 hm with hm | hm
   ·exact hs s hm
   ·rw [List.mem_singleton.1 hm]; exact hasB_iff.1 h.1) (by
   rw [List.nodup_append]
   exact ⟨hd, by simp, fun a ha b hb => by rw [List.mem_singleton.1 hb]; rintro rfl; exact hx ha⟩)
  rwa [List.append_assoc, List.singleton_append] at h2
theorem nodup_le {l : List ByteArray} : ∀ {vars : List ByteArray}, l.Nodup → (∀ s ∈ l, s ∈ vars) → l.length ≤ vars.length := by
 induction l with
 | nil => intro vars _ _; simp
 | cons x l ih =>
  intro vars hd hs
  obtain ⟨hx, hd⟩ := List.nodup_cons.1 hd
  have hm := hs x (List.mem_cons_self ..)
  have h1 := ih (vars := vars.filter (fun y => decide (y ≠ x))) hd (fun s hs' => List.mem_filter.2 ⟨hs s (List.mem_cons_of_mem _ hs'), by simp; rintro rfl; exact hx hs'⟩)
  have h2 := (List.length_filter_lt_length_iff_exists (p := fun y => decide (y ≠ x))).2 ⟨x, hm, by simp⟩
  simp only [List.length_cons]
  omega
theorem chosenB_len {vars l : List ByteArray} (h : chosenB vars l = true) : l.length ≤ vars.length := by
 have h1 := chosenG_len (seen := []) h (fun s hs => by cases hs) List.nodup_nil
 rw [List.nil_append] at h1
 exact nodup_le h1 (fun s hs => chosenG_sub h s hs)
theorem okB_walk {P : Pat} (h : P.okB = true) (hf : P.Fits) : ∀ a ∈ P.atoms, (a.kind = 1 ∨ a.kind = 2 ∨ a.kind = 3 ∨ a.kind = 4) ∧ a.Fits ∧ a.In (varsS P.atoms) := by
 intro a ha
 obtain ⟨_, _, _, _, _, h6⟩ := okB_parts h
 obtain ⟨k1, k2, k3, k4⟩ := atomB_kind (h6 a ha)
 have hv := varsS_in (T := []) P.atoms ha
 exact ⟨k1, hf.atoms a ha, fun hk => hv.1 hk k2, fun h4 hk => hv.2 hk (k3 h4)⟩
end Go.Proofs.YtkmbnghghbfkdaaGreat
