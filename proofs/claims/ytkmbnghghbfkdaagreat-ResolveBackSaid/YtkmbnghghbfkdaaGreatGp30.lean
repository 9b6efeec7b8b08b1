/- What is tried; what is not known leaves it. -/
import Derived.Test.YtkmbnghghbfkdaaGreatGp22
import Derived.Test.YtkmbnghghbfkdaaGreatGp01
import Derived.Test.YtkmbnghghbfkdaaGreatGp24
import Derived.Test.YtkmbnghghbfkdaaGreatGp28
import Derived.Test.YtkmbnghghbfkdaaGreatGp29
import Derived.Test.YtkmbnghghbfkdaaGreatGp19
set_option linter.unusedSimpArgs false
set_option linter.unusedVariables false
set_option maxHeartbeats 2000000
set_option maxRecDepth 100000
namespace Go.Proofs.YtkmbnghghbfkdaaGreat
open Go.Lib (hid)

section
open Go.RowKit Go.Shelf Go.Sort
attribute [local go_sem] Oper.semAt_some wide_fn wide_depth
theorem assertUnk (w:World):(Instr.typeAssert (.iface 142 (.agg #[])) 20 142 true).run Tryz.prog w = .ok (.tuple #[.agg #[],.bool true]) w:=by kernel_rfl
theorem t_catch_idle (p:Addr) (w:World) :
 CallsD Tryz.prog 87 #[.pointer (some p)] .returning w fun e u' w'=>e = .returned (.tuple #[]) ∧ u' = .returning ∧ w' = w:=by
 refine callsD_of_wpS Tryz.func87 rfl fun c₀ cs hu=>?_
 simp only [Tryz.ntmps87,List.size_toArray,List.length_cons,List.length_nil,Nat.reduceAdd,Nat.reduceSub,Array.replicate_succ,Array.replicate_zero,List.push_toArray,List.append_toArray,List.nil_append,List.cons_append]
 apply wpS_seq
 apply wpS_region
 simp [wpOpsS,go_sem,recoverD,hu,Exit.thenS]
 refine wpS_of_wp ?_
 go_wp2
 refine ⟨rfl,.returning,?_,.tuple #[],results_none rfl _ _ _,rfl,rfl,rfl⟩
 cases c₀
 simp_all
theorem t_catch_pan (p:Addr) (w:World) (pe:List PanicEntry) (x:Value) (hp:w.cell? p = some x) (fp:w.frozen? p = false) :
 CallsD Tryz.prog 87 #[.pointer (some p)] (.panicking ({ v:=.iface 142 (.agg #[]),recovered:=false } :: pe)) w fun e u' w' =>
  e = .returned (.tuple #[]) ∧ u' = .panicking ({ v:=.iface 142 (.agg #[]),recovered:=true } :: pe) ∧ w' = (w.alloc (.cells #[] 142)).setCell p (.bool false):=by
 have hlt:=World.block_lt_of_cell? w p hp
 have hp2:(w.alloc (.cells #[] 142)).cell? p = some x:=by
  obtain ⟨b,o,e⟩:=p
  exact (Below.cell (Ext.alloc w _) hlt).trans hp
 have fp2:(w.alloc (.cells #[] 142)).frozen? p = false:=by
  obtain ⟨b,o,e⟩:=p
  exact (Below.frozen (Ext.alloc w _) hlt).trans fp
 refine callsD_of_wpS Tryz.func87 rfl fun c₀ cs hu=>?_
 simp only [Tryz.ntmps87,List.size_toArray,List.length_cons,List.length_nil,Nat.reduceAdd,Nat.reduceSub,Array.replicate_succ,Array.replicate_zero,List.push_toArray,List.append_toArray,List.nil_append,List.cons_append]
 apply wpS_seq
 apply wpS_region
 simp [wpOpsS,go_sem,recoverD,hu,Exit.thenS]
 refine wpS_of_wp ?_
 have ha:=assertUnk
 go_wp2
 refine ⟨rfl,_,rfl,.tuple #[],results_none rfl _ _ _,rfl,rfl,rfl⟩
theorem t_results {W:World} {A:Nat} {x:Value} {T:Array Value} (h2:T.getD 2 undef = .pointer (some ⟨A,0,none⟩)) (bA:W.cell? ⟨A,0,none⟩ = some x) :
 (results Tryz.f46 T).run Tryz.prog W = .ok x W:=by
 simp only [Array.getD_eq_getD_getElem?] at h2
 simp [results,Tryz.results46,go_sem,h2,bA]
theorem t_leave_pan {R:Ending → World → Prop} {W:World} {A:Nat} {x:Value} {T:Array Value} (h2:T.getD 2 undef = .pointer (some ⟨A,0,none⟩)) (bA:RowAt W A 4 [x])
 (hR:R (.returned (.bool false)) ((W.alloc (.cells #[] 142)).setCell ⟨A,0,none⟩ (.bool false))) :
 Leaves Tryz.prog Tryz.f46 T R [{ target:=.fn (.func 87) #[.pointer (some ⟨A,0,none⟩)],args:=#[] }] (.panicking [{ v:=.iface 142 (.agg #[]),recovered:=false }]) W:=by
 refine leaves_cons (f:=87) (args:=#[.pointer (some ⟨A,0,none⟩)]) (by simp) (by simp [go_sem]) ?_
 refine (t_catch_pan _ W [] _ bA.facts1.1 bA.facts1.2).mono ?_
 rintro e u' w'' ⟨rfl,rfl,rfl⟩
 exact ⟨_,t_results h2 ((bA.ext (Ext.alloc _ _)).set 0 (.bool false)).facts1.1,hR⟩
theorem t_leave_ret {R:Ending → World → Prop} {W:World} {A:Nat} {x:Value} {T:Array Value} (h2:T.getD 2 undef = .pointer (some ⟨A,0,none⟩)) (bA:RowAt W A 4 [x]) (hR:R (.returned x) W) :
 Leaves Tryz.prog Tryz.f46 T R [{ target:=.fn (.func 87) #[.pointer (some ⟨A,0,none⟩)],args:=#[] }] .returning W:=by
 refine leaves_cons (f:=87) (args:=#[.pointer (some ⟨A,0,none⟩)]) (by simp) (by simp [go_sem]) ?_
 refine (t_catch_idle _ W).mono ?_
 rintro e u' w'' ⟨rfl,rfl,rfl⟩
 exact ⟨_,t_results h2 bA.facts1.1,hR⟩
theorem triesOf_any (caps:Array Value) (w:World) (Ok Bad:World → Prop)
 (h:Calls Tryz.prog 47 caps (w.alloc (.cells #[.bool false] 4)) fun e w2=>RowAt w2 w.heap.size 4 [.bool false] ∧ ((e = .returned (.tuple #[]) ∧ Ok w2) ∨ (e = unknE ∧ Bad w2))) :
 Calls Tryz.prog 46 #[.func (.func 47) #[] caps] w fun e w'=>∃ w2,RowAt w2 w.heap.size 4 [.bool false] ∧ ((e = .returned (.bool true) ∧ Ok w2 ∧ w' = w2.setCell ⟨w.heap.size,0,none⟩ (.bool true)) ∨
  (e = .returned (.bool false) ∧ Bad w2 ∧ w' = (w2.alloc (.cells #[] 142)).setCell ⟨w.heap.size,0,none⟩ (.bool false))):=by
 have hmf:∀ (fn:Fn) (first cap:Array Value) (w:World),(Instr.makeFunc fn first cap).run Tryz.prog w = .ok (.func fn first cap) w:=fun _ _ _ _=>rfl
 have H:=hid h
 clear h
 go_enter_defers Tryz.func46,Tryz.ntmps46
 go_wp2_with fail
 refine H.out.mono ?_
 rintro en w2 ⟨hA,⟨rfl,ho⟩ | ⟨rfl,hb⟩⟩
 ·have HA:=hid hA
  have HO:=hid ho
  clear hA ho H
  have fA:=HA.out.facts1.1
  have fAf:=HA.out.facts1.2
  go_wp2_with fail
  exact t_leave_ret rfl (HA.out.set 0 (.bool true)) ⟨w2,HA.out,.inl ⟨rfl,HO.out,rfl⟩⟩
 ·have HA:=hid hA
  have HO:=hid hb
  clear hA hb H
  unfold unknE
  go_wp2_with fail
  exact t_leave_pan rfl HA.out ⟨w2,HA.out,.inr ⟨rfl,HO.out,rfl⟩⟩
theorem triesBack_any (caps:Array Value) (w:World) (Ok Bad:World → Prop)
 (h:Calls Tryz.prog 60 caps (w.alloc (.cells #[.bool false] 4)) fun e w2=>RowAt w2 w.heap.size 4 [.bool false] ∧ ((e = .returned (.tuple #[]) ∧ Ok w2) ∨ (e = unknE ∧ Bad w2))) :
 Calls Tryz.prog 46 #[.func (.func 60) #[] caps] w fun e w'=>∃ w2,RowAt w2 w.heap.size 4 [.bool false] ∧ ((e = .returned (.bool true) ∧ Ok w2 ∧ w' = w2.setCell ⟨w.heap.size,0,none⟩ (.bool true)) ∨
  (e = .returned (.bool false) ∧ Bad w2 ∧ w' = (w2.alloc (.cells #[] 142)).setCell ⟨w.heap.size,0,none⟩ (.bool false))):=by
 have hmf:∀ (fn:Fn) (first cap:Array Value) (w:World),(Instr.makeFunc fn first cap).run Tryz.prog w = .ok (.func fn first cap) w:=fun _ _ _ _=>rfl
 have H:=hid h
 clear h
 go_enter_defers Tryz.func46,Tryz.ntmps46
 go_wp2_with fail
 refine H.out.mono ?_
 rintro en w2 ⟨hA,⟨rfl,ho⟩ | ⟨rfl,hb⟩⟩
 ·have HA:=hid hA
  have HO:=hid ho
  clear hA ho H
  have fA:=HA.out.facts1.1
  have fAf:=HA.out.facts1.2
  go_wp2_with fail
  exact t_leave_ret rfl (HA.out.set 0 (.bool true)) ⟨w2,HA.out,.inl ⟨rfl,HO.out,rfl⟩⟩
 ·have HA:=hid hA
  have HO:=hid hb
  clear hA hb H
  unfold unknE
  go_wp2_with fail
  exact t_leave_pan rfl HA.out ⟨w2,HA.out,.inr ⟨rfl,HO.out,rfl⟩⟩
end

/- What a pattern that may be has: plain. -/
section
theorem termS_sub {T:List ByteArray} {t:Bool × ByteArray} {s:ByteArray} (h:s ∈ T):s ∈ termS T t:=by
 unfold termS
 split
 ·exact h
 ·exact List.mem_append_left _ h
theorem termS_mem {T:List ByteArray} {s:ByteArray} (h:s ≠ nilB):s ∈ termS T (false,s):=by
 unfold termS
 split
 ·rename_i hc
  rcases hc with hc | hc | hc
  ·cases hc
  ·exact absurd hc h
  ·exact hasB_iff.1 hc
 ·simp
theorem termS_dist {T:List ByteArray} {t:Bool × ByteArray} (h:Distinct T):Distinct (termS T t):=by
 unfold termS
 split
 ·exact h
 ·rename_i hc
  simp only [not_or] at hc
  have hn:t.2 ∉ T:=fun hm=>hc.2.2 (hasB_iff.2 hm)
  intro i j hi hj he
  rw [List.length_append,List.length_singleton] at hi hj
  by_cases h1:i < T.length
  ·by_cases h2:j < T.length
   ·rw [List.getElem_append_left h1,List.getElem_append_left h2] at he
    exact h i j h1 h2 he
   ·rw [List.getElem_append_left h1,List.getElem_append_right (by omega)] at he
    simp only [List.getElem_singleton] at he
    exact absurd (he ▸ List.getElem_mem h1) hn
  ·by_cases h2:j < T.length
   ·rw [List.getElem_append_left h2,List.getElem_append_right (by omega)] at he
    simp only [List.getElem_singleton] at he
    exact absurd (he ▸ List.getElem_mem h2) hn
   ·omega
theorem varsS_from {T:List ByteArray} (l:List Atm) (s:ByteArray) (h:s ∈ T):s ∈ l.foldl (fun T a=>termS (termS T (a.fk,a.fn)) (a.tk,a.tn)) T:=by
 induction l generalizing T with
 | nil=>exact h
 | cons a l ih=>exact ih (termS_sub (termS_sub h))
theorem varsS_in {T:List ByteArray} (l:List Atm) {a:Atm} (ha:a ∈ l):(a.fk = false → a.fn ≠ nilB → a.fn ∈ l.foldl (fun T a=>termS (termS T (a.fk,a.fn)) (a.tk,a.tn)) T) ∧ (a.tk = false → a.tn ≠ nilB → a.tn ∈ l.foldl (fun T a=>termS (termS T (a.fk,a.fn)) (a.tk,a.tn)) T):=by
 induction l generalizing T with
 | nil=>cases ha
 | cons b l ih =>
  rcases List.mem_cons.1 ha with rfl | ha
  ·refine ⟨fun hk hn=>?_,fun hk hn=>?_⟩
   ·rw [List.foldl_cons,hk]
    exact varsS_from l _ (termS_sub (termS_mem hn))
   ·rw [List.foldl_cons,hk]
    exact varsS_from l _ (termS_mem hn)
  ·exact ih ha
theorem varsS_distinct (l:List Atm):Distinct (varsS l):=by
 unfold varsS
 suffices h:∀ T,Distinct T → Distinct (l.foldl (fun T a=>termS (termS T (a.fk,a.fn)) (a.tk,a.tn)) T) from h [] (fun i j hi=>by simp at hi)
 induction l with
 | nil=>exact fun T h=>h
 | cons a l ih=>exact fun T h=>ih _ (termS_dist (termS_dist h))
theorem wordB_nil:wordB nilB = false:=by decide +kernel
theorem wordB_ne {s:ByteArray} (h:wordB s = true):s ≠ nilB:=by rintro rfl;rw [wordB_nil] at h;cases h
theorem atomB_kind {a:Atm} (h:atomB a = true):(a.kind = 1 ∨ a.kind = 2 ∨ a.kind = 3 ∨ a.kind = 4) ∧ a.fn ≠ nilB ∧ (a.kind = 4 → a.tn ≠ nilB) ∧ (a.kind ≠ 4 → a.tk = false ∧ a.tn = nilB):=by
 unfold atomB at h
 split at h
 ·rename_i hk
  simp only [Bool.and_eq_true,decide_eq_true_eq,Bool.not_eq_true'] at h
  exact ⟨.inl hk,wordB_ne h.2.2.2.2,fun h4=>by omega,fun _=>⟨h.2.2.1,h.2.2.2.1⟩⟩
 ·split at h
  ·rename_i hk
   simp only [Bool.and_eq_true,decide_eq_true_eq,Bool.not_eq_true'] at h
   exact ⟨.inr (.inl hk),wordB_ne h.2.2.2.1,fun h4=>by omega,fun _=>⟨h.2.1,h.2.2.1⟩⟩
  ·split at h
   ·rename_i hk
    simp only [Bool.and_eq_true,decide_eq_true_eq,Bool.not_eq_true'] at h
    exact ⟨.inr (.inr (.inl hk)),wordB_ne h.2.2.1,fun h4=>by omega,fun _=>⟨h.1,h.2.1⟩⟩
   ·split at h
    ·rename_i hk
     simp only [Bool.and_eq_true,decide_eq_true_eq] at h
     exact ⟨.inr (.inr (.inr hk)),wordB_ne h.2.1,fun _=>wordB_ne h.2.2.2,fun h4=>absurd hk h4⟩
    ·cases h
theorem okB_parts {P:Pat} (h:P.okB = true):(0 < P.atoms.length ∧ P.atoms.length ≤ 40) ∧ (varsS P.atoms).length ≤ 32 ∧ chosenB (varsS P.atoms) P.ret = true ∧ chosenB (varsS P.atoms) P.hint = true ∧ (P.hint.length = 0 ∨ P.hint.length = (varsS P.atoms).length) ∧ ∀ a ∈ P.atoms,atomB a = true:=by
 unfold Pat.okB sizesP namedP at h
 simp only [Bool.and_eq_true,decide_eq_true_eq,Bool.or_eq_true] at h
 obtain ⟨⟨h1,h2,h3,h4⟩,⟨h5,h6,h7⟩,h8,h9,h10⟩:=h
 exact ⟨⟨h1,h2⟩,h4,h5,h6,h7,fun a ha=>List.all_eq_true.1 h10 a ha⟩
theorem chosenG_sub {vars seen l:List ByteArray} (h:chosenG vars seen l = true):∀ s ∈ l,s ∈ vars:=by
 induction l generalizing seen with
 | nil=>exact fun s hs=>by cases hs
 | cons x l ih =>
  rw [chosenG] at h
  simp only [Bool.and_eq_true] at h
  intro s hs
  rcases List.mem_cons.1 hs with rfl | hs
  ·exact hasB_iff.1 h.1
  ·exact ih h.2.2 s hs
theorem chosenG_len {vars:List ByteArray} {seen l:List ByteArray} (h:chosenG vars seen l = true) (hs:∀ s ∈ seen,s ∈ vars) (hd:seen.Nodup):(seen ++ l).Nodup:=by
 induction l generalizing seen with
 | nil=>simpa using hd
 | cons x l ih =>
  rw [chosenG] at h
  simp only [Bool.and_eq_true,Bool.not_eq_true'] at h
  have hx:x ∉ seen:=hasB_no.1 h.2.1
  have h2:=ih h.2.2 (fun s hm=>by
   rcases List.mem_append.1 hm with hm | hm
   ·exact hs s hm
   ·rw [List.mem_singleton.1 hm];exact hasB_iff.1 h.1) (by
   rw [List.nodup_append]
   exact ⟨hd,by simp,fun a ha b hb=>by rw [List.mem_singleton.1 hb];rintro rfl;exact hx ha⟩)
  rwa [List.append_assoc,List.singleton_append] at h2
theorem nodup_le {l:List ByteArray}:∀ {vars:List ByteArray},l.Nodup → (∀ s ∈ l,s ∈ vars) → l.length ≤ vars.length:=by
 induction l with
 | nil=>intro vars _ _;simp
 | cons x l ih =>
  intro vars hd hs
  obtain ⟨hx,hd⟩:=List.nodup_cons.1 hd
  have hm:=hs x (List.mem_cons_self ..)
  have h1:=ih (vars:=vars.filter (fun y=>decide (y ≠ x))) hd (fun s hs'=>List.mem_filter.2 ⟨hs s (List.mem_cons_of_mem _ hs'),by simp;rintro rfl;exact hx hs'⟩)
  have h2:=(List.length_filter_lt_length_iff_exists (p:=fun y=>decide (y ≠ x))).2 ⟨x,hm,by simp⟩
  simp only [List.length_cons]
  omega
theorem chosenB_len {vars l:List ByteArray} (h:chosenB vars l = true):l.length ≤ vars.length:=by
 have h1:=chosenG_len (seen:=[]) h (fun s hs=>by cases hs) List.nodup_nil
 rw [List.nil_append] at h1
 exact nodup_le h1 (fun s hs=>chosenG_sub h s hs)
theorem okB_walk {P:Pat} (h:P.okB = true) (hf:P.Fits):∀ a ∈ P.atoms,(a.kind = 1 ∨ a.kind = 2 ∨ a.kind = 3 ∨ a.kind = 4) ∧ a.Fits ∧ a.In (varsS P.atoms):=by
 intro a ha
 obtain ⟨_,_,_,_,_,h6⟩:=okB_parts h
 obtain ⟨k1,k2,k3,k4⟩:=atomB_kind (h6 a ha)
 have hv:=varsS_in (T:=[]) P.atoms ha
 exact ⟨k1,hf.atoms a ha,fun hk=>hv.1 hk k2,fun h4 hk=>hv.2 hk (k3 h4)⟩
end

/- The atoms of a pattern come to relations, one by one. -/
section
open Go.RowKit Go.Shelf Go.Sort
attribute [local go_sem] Oper.semAt_some wide_fn wide_depth
theorem elBn:ElT Tryz.prog 37 75 (.agg #[.int .i64 0,.int .i64 0,.int .i64 0,.int .i64 0,.int .i64 0,.int .i64 0]) 6 48:=⟨Tryz.underlying37,⟨_,rfl,by kernel_rfl,by kernel_rfl,by kernel_rfl⟩,rfl,by decide⟩
def golL (vv av rv hv:Value) (P:Pat):List Value:=[vv,av,rv,.bool P.count,.bool P.distinct,.bool P.limited,.int .i64 P.limit,.int .i64 P.offset,hv]
theorem Grows.below {X:List Nat} {w w' w'':World} (h:Grows X w w') (hb:Below w.heap.size w' w''):Grows X w w'' :=
 ⟨hb.os.trans h.os,hb.tape.trans h.tape,hb.output.trans h.output,Nat.le_trans h.size hb.size,fun i hi hn=>(hb.block i hi).trans (h.block i hi hn)⟩
theorem Grows.over {X:List Nat} {w w1 w':World} (h:Grows X w1 w') (hx:Ext w w1) (hX:∀ g ∈ X,w.heap.size ≤ g):Ext w w' :=
 ⟨h.os.trans hx.os,h.tape.trans hx.tape,h.output.trans hx.output,Nat.le_trans hx.size h.size,fun i hi=>(h.block i (Nat.lt_of_lt_of_le hi hx.size) (fun hm=>by have:=hX i hm;omega)).trans (hx.block i hi)⟩
theorem MapAt.grows {d:TypeDesc} {X:List Nat} {w w':World} {b:Nat} {kv:List (Value × Value)} (h:MapAt d w b kv) (hg:Grows X w w') (hn:b ∉ X):MapAt d w' b kv:=by
 have hl:=h.lt
 obtain ⟨es,c,h1,h2⟩:=h
 exact ⟨es,c,(hg.block b hl hn).trans h1,h2⟩
theorem VarsAt.grows {X:List Nat} {w w':World} {m:Nat} {V:List ByteArray} (h:VarsAt w m V) (hg:Grows X w w') (hn:m ∉ X):VarsAt w' m V:=by
 obtain ⟨kv,h1,h2⟩:=h
 exact ⟨kv,h1.grows hg hn,h2⟩
theorem VarsAt.ne {w:World} {m:Nat} {V:List ByteArray} (h:VarsAt w m V) {g:Nat} {t:TypeId} {xs:List Value} (hg:RowAt w g t xs):m ≠ g:=by
 rintro rfl
 obtain ⟨kv,⟨es,c,h1,_⟩,_⟩:=h
 rw [show w.heap[m]? = _ from hg] at h1
 cases h1
theorem row_ne {w:World} {g g':Nat} {t t':TypeId} {xs ys:List Value} (h:RowAt w g t xs) (h':RowAt w g' t' ys) (hne:t ≠ t'):g ≠ g':=by
 rintro rfl
 have h2:w.heap[g]? = _:=h'
 rw [show w.heap[g]? = _ from h] at h2
 cases h2
 exact hne rfl
theorem flat_snocB {α:Type} (f:α → List Value) (l:List α) (x:α):(l ++ [x]).flatMap f = l.flatMap f ++ f x:=by simp
theorem bndCells_one (b:Bnd):∀ x ∈ bndCells b,x.oneCell' = true:=by simp [bndCells,Value.oneCell']
set_option maxHeartbeats 8000000 in
theorem of1_any {w w1:World} (vs:Nat → Value × Value) (m:Nat) (av:Value) (D:Dic) (V:List ByteArray) (P:Pat) (pav prv phv vv rv hv:Value) (bp bg bn:Nat) (hx:Ext w w1) (hV:DicV w vs D) (hS:DicS D) (hok:DicOK D) (hm:VarsAt w1 m V) (hd:Distinct V)
 (hp:RowAt w1 bp 35 (patL pav prv phv P)) (ha:Ats w pav P.atoms) (hg:RowAt w1 bg 39 (golL vv (.slice none 0 0) rv hv P)) (hn:RowAt w1 bn 98 (nmL vs m av)) (hlo:w.heap.size ≤ bg)
 (hk:∀ a ∈ P.atoms,(a.kind = 1 ∨ a.kind = 2 ∨ a.kind = 3 ∨ a.kind = 4) ∧ a.Fits ∧ a.In V) (hfew:P.atoms.length ≤ 100000) :
 Calls Tryz.prog 47 #[.pointer (some ⟨bp,0,none⟩),.pointer (some ⟨bg,0,none⟩),.pointer (some ⟨bn,0,none⟩)] w1 fun e w'=>∃ av',e = (if (bndsF D V P.atoms).2 = true then .returned (.tuple #[]) else unknE) ∧
  RowAt w' bg 39 (golL vv av' rv hv P) ∧ w'.ownsRow w1.heap.size 75 6 av' (bndsF D V P.atoms).1.length ((bndsF D V P.atoms).1.flatMap bndCells) ∧ Grows [bg] w1 w':=by
 have hmo:Tryz.prog.follows .mixedOrders = true:=by kernel_rfl
 obtain ⟨pa,pc,rfl,hpc,_⟩:=ha.shape
 obtain ⟨F,hF⟩:∃ F,bndsF D V P.atoms = F:=⟨_,rfl⟩
 rw [hF]
 obtain ⟨E,hE⟩:∃ E,(if F.2 = true then .returned (.tuple #[]) else unknE) = E:=⟨_,rfl⟩
 rw [hE]
 have HE:=hid hE
 clear hE
 have HF:=hid (show preF (bndF D V) P.atoms = F from hF)
 have HC:=hid (fun (W:World) (hW:Grows [bg] w1 W) (a:Atm) (ha:a ∈ P.atoms)=>bound_any vs m av D V W (hV.ext (hW.over hx (by simpa using hlo))) hS hok (hm.grows hW (by simpa using hm.ne hg)) hd a (hk a ha).1 (hk a ha).2.1 (hk a ha).2.2)
 have HA:=hid (fun (W:World) (hW:Grows [bg] w1 W)=>ha.ext (hW.over hx (by simpa using hlo)))
 have HP:=hid (fun (W:World) (hW:Grows [bg] w1 W)=>show RowAt W bp 35 (patL (.slice pa P.atoms.length pc) prv phv P) from hW.row hp (by simpa using row_ne hp hg (by decide)))
 have HNM:=hid (fun (W:World) (hW:Grows [bg] w1 W)=>show RowAt W bn 98 (nmL vs m av) from hW.row hn (by simpa using row_ne hn hg (by decide)))
 have HG:=hid hg
 have HBL:=hid hg.lt
 have HFW:=hid hfew
 have c0:=hp.cell (i:=0) rfl
 clear hF hx hV hS hok hm hd hp ha hg hn hlo hk hpc
 go_enter Tryz.func47,Tryz.ntmps47
 go_wp2_with fail
 clear c0
 go_loopg [8] P.atoms.length (fun g i wr=>∃ (k:Nat) (bs:List Bnd) (aa:Option Addr) (ac:Nat),k ≤ P.atoms.length ∧ g = P.atoms.length - k ∧ i = .int .i64 k ∧ Hid (PreI (bndF D V) P.atoms k bs) ∧ Hid (Grows [bg] w1 wr) ∧ Hid (RowAt wr bg 39 (golL vv (.slice aa k ac) rv hv P)) ∧ Hid (wr.ownsRow w1.heap.size 75 6 (.slice aa k ac) k (bs.flatMap bndCells)))
 case atStart=>exact ⟨0,[],none,0,Nat.zero_le _,rfl,rfl,hid (PreI.start _ _),hid (Grows.refl _ _),HG,hid (World.ownsRow_nil _ _ _ _)⟩
 case round =>
  obtain ⟨k,bs,aa,ac,hk,hg,rfl,HI,HGR,HR,HO⟩:=hrel
  have Hg:=hid hg
  clear hg
  by_cases hlt:k < P.atoms.length
  ·obtain ⟨b,o,rfl,c0,c1,c2,c3,c4,c5,c6⟩:=(HA.out wr HGR.out).at_ hlt
   have HBO:=hid (fun (W:World) (hW:Grows [bg] w1 W)=>HC.out W hW P.atoms[k] (List.getElem_mem hlt))
   have HLEN:=hid HI.out.2
   have HSM:=hid (fun b h=>HI.out.some hlt (b:=b) h)
   have HNO:=hid (fun h=>HI.out.none hlt h)
   have hbl:=cell_lt c0
   generalize hAT:P.atoms[k] = x at *
   clear hAT HI
   obtain ⟨kd,fk,fn,name,value,tk,tn⟩:=x
   dsimp only at c0 c1 c2 c3 c4 c5 c6
   unfold atV at HBO
   dsimp only at HBO
   obtain ⟨r,hr⟩:∃ r,bndF D V ⟨kd,fk,fn,name,value,tk,tn⟩ = r:=⟨_,rfl⟩
   rw [hr] at HBO HSM HNO
   clear hr
   have HAX:=hid (Ext.alloc wr (.cells #[.int .i64 kd,.bool fk,.string fn,.string name,.string value,.bool tk,.string tn] 88))
   have HAB:=hid (RowAt.new wr 88 [.int .i64 kd,.bool fk,.string fn,.string name,.string value,.bool tk,.string tn])
   have hk1:k ≤ 100000:=by have:=HFW.out;omega
   go_upto_region 3 with fail
   replace HAB:Hid (RowAt (wr.alloc (.cells #[.int .i64 kd,.bool fk,.string fn,.string name,.string value,.bool tk,.string tn] 88)) wr.heap.size 88 [.int .i64 kd,.bool fk,.string fn,.string name,.string value,.bool tk,.string tn]):=HAB
   generalize wr.alloc (.cells #[.int .i64 kd,.bool fk,.string fn,.string name,.string value,.bool tk,.string tn] 88) = wb at *
   obtain ⟨t,ht⟩:∃ t,wr.heap.size = t:=⟨_,rfl⟩
   rw [ht] at HAB
   simp only [ht]
   clear ht c0 c1 c2 c3 c4 c5 c6 hbl
   have HGR2:=hid (HGR.out.trans (Grows.ext HAX.out))
   have HR2:=hid (HR.out.ext HAX.out)
   have HO2:=hid (own_ext HO.out HAX.out)
   clear HR HO HGR
   have HF0:=hid HF.out
   have HFW2:=hid hk1
   have HLB:=hid (show bs.length = k from HLEN.out)
   clear HF hk1
   refine wp_region_inv [12,13,14,15,16,17,18,19] _ (fun i=>([[],[0],[],[],[2,3],[4],[1,5],[],[6,7]]:List (List Nat)).getD i []) (fun S us W=>∃ z:Nat,∃ v':Value,PlS [some (.pointer (some ⟨bg,1,none⟩)),some (.slice (aa) k ac),some (.agg (nmL vs m av).toArray),some (.agg #[.int .i64 kd,.bool fk,.string fn,.string name,.string value,.bool tk,.string tn]),r.map bndV,some (.slice (some ⟨z,0,none⟩) 1 1),some (v'),some (.pointer (some ⟨bg,1,none⟩))] S us ∧ (fun S W=>Grows [bg] w1 W ∧ RowAt W t 88 [.int .i64 kd,.bool fk,.string fn,.string name,.string value,.bool tk,.string tn] ∧ RowAt W bg 39 (if S 8 = true then golL vv v' rv hv P else golL vv (.slice aa k ac) rv hv P) ∧ (S 6 = false → W.ownsRow w1.heap.size 75 6 (.slice aa k ac) k (bs.flatMap bndCells)) ∧ (S 5 = true → S 6 = false → RowAt W z 75 (bndCells (r.getD zB)) ∧ w1.heap.size ≤ z ∧ (Value.slice aa k ac).ownBlock ≠ some z) ∧ (S 6 = true → W.ownsRow w1.heap.size 75 6 v' (k + 1) ((bs ++ [r.getD zB]).flatMap bndCells)) ∧ (S 8 = true → S 6 = true) ∧ (S 6 = true → S 1 = true ∧ S 5 = true) ∧ (S 5 = true → S 4 = true)) S W) hmo (by kernel_rfl) (by kernel_rfl) (puts_self _ _) ⟨0,undef,PlS.start rfl,⟨HGR2.out.trans (Grows.ext (Ext.drewN wb 1)),HAB.out.ext (Ext.drewN wb 1),by rw [if_neg (by decide)];exact HR2.out.ext (Ext.drewN wb 1),fun _=>own_ext HO2.out (Ext.drewN wb 1),nofun,nofun,nofun,nofun,nofun⟩⟩ ?_ ?_
   ·refine ⟨?_,?_,?_,?_,?_,?_,?_,?_,?_,trivial⟩
    all_goals
     rintro S us wq hd hn ⟨z,v',hF,hI⟩ K hK
     obtain ⟨u0,u1,u2,u3,u4,u5,u6,u7,rfl⟩:=len8 hF.len rfl
     have HK:=hid (fun us' w'' z' v'' h hi=>hK us' w'' ⟨z',v'',h,hi⟩)
     have HF:=hid hF
     have HN:=hid hn
     have HD:=hid hd
     clear hK hF hn hd
     simp only [puts,Act.put,qA,qB,qC,List.set_nil]
    ·have hk:=HK.out _ wq z v' (HF.out.put (i:=0) (v:=.pointer (some ⟨bg,1,none⟩)) rfl) hI
     simp only [puts,Act.put,qA,qB,qC,List.set_nil] at hk
     go_simp
     exact hk
    ·obtain rfl:=HF.out.got (HD.out 0 (by decide)) (i:=0) rfl rfl
     have h6:S 6 = false:=by cases h:S 6;rfl;exact absurd (hI.2.2.2.2.2.2.2.1 h).1 (by rw [HN.out];decide)
     have h8:S 8 = false:=by cases h:S 8;rfl;exact absurd (hI.2.2.2.2.2.2.1 h) (by rw [h6];decide)
     have hrow:=hI.2.2.1
     rw [h8,if_neg (by decide)] at hrow
     have c1:=hrow.cell (i:=1) rfl
     have hk:=HK.out _ wq z v' (HF.out.put (i:=1) (v:=.slice (aa) k ac) rfl) ⟨hI.1,hI.2.1,hI.2.2.1,hI.2.2.2.1,hI.2.2.2.2.1,hI.2.2.2.2.2.1,hI.2.2.2.2.2.2.1,fun h=>⟨rfl,(hI.2.2.2.2.2.2.2.1 h).2⟩,hI.2.2.2.2.2.2.2.2⟩
     simp only [puts,Act.put,qA,qB,qC,List.set_nil] at hk
     go_simp
     exact hk
    ·have hk:=HK.out _ wq z v' (HF.out.put (i:=2) (v:=.agg (nmL vs m av).toArray) rfl) hI
     simp only [puts,Act.put,qA,qB,qC,List.set_nil] at hk
     rw [if_pos (show Region.wanted _ _ = true from rfl)]
     refine wp_load_mid _ _ rfl bn 0 rfl _ _ ((HNM.out wq hI.1).whole) Tryz.underlying98 rfl (by kernel_rfl) ?_
     exact hk
    ·have hk:=HK.out _ wq z v' (HF.out.put (i:=3) (v:=.agg #[.int .i64 kd,.bool fk,.string fn,.string name,.string value,.bool tk,.string tn]) rfl) hI
     simp only [puts,Act.put,qA,qB,qC,List.set_nil] at hk
     rw [if_pos (show Region.wanted _ _ = true from rfl)]
     refine wp_load_mid _ _ rfl t 0 rfl _ _ (hI.2.1.whole) Tryz.underlying88 rfl (by kernel_rfl) ?_
     exact hk
    ·obtain rfl:=HF.out.got (HD.out 2 (by decide)) (i:=2) rfl rfl
     obtain rfl:=HF.out.got (HD.out 3 (by decide)) (i:=3) rfl rfl
     go_simp
     refine (HBO.out wq hI.1).mono ?_
     rintro e w2 ⟨rfl,hx2⟩
     rcases hr:r with _ | y
     ·unfold outE unknE
      have h4:S 5 = false:=by cases h:S 5;rfl;exact absurd (hI.2.2.2.2.2.2.2.2 h) (by rw [HN.out];decide)
      have h6:S 6 = false:=by cases h:S 6;rfl;exact absurd (hI.2.2.2.2.2.2.2.1 h).2 (by rw [h4];decide)
      have h8:S 8 = false:=by cases h:S 8;rfl;exact absurd (hI.2.2.2.2.2.2.1 h) (by rw [h6];decide)
      have hrow:=hI.2.2.1
      rw [h8,if_neg (by decide)] at hrow
      have hF:=HNO.out hr
      have HZ:=hid (HF0.out.symm.trans hF)
      have HRR:=hid (hrow.ext hx2)
      have HOO:=hid (own_ext (hI.2.2.2.1 h6) hx2)
      have HGG:=hid (hI.1.trans (Grows.ext hx2))
      have HLN:=hid HLB.out
      clear hI hrow hF hx2
      go_wp2_with fail
      exact ⟨rfl,Value.slice aa k ac,(by rw [← HE.out,HZ.out];rfl),HRR.out,(by rw [HZ.out];show World.ownsRow _ _ _ _ _ bs.length _;rw [HLN.out];exact HOO.out),HGG.out⟩
     ·have hk:=HK.out _ w2 z v' (HF.out.put (i:=4) (v:=bndV y) (by rw [hr];rfl)) ⟨hI.1.trans (Grows.ext hx2),hI.2.1.ext hx2,hI.2.2.1.ext hx2,fun h=>own_ext (hI.2.2.2.1 h) hx2,fun h h'=>by obtain ⟨q1,q2,q3⟩:=hI.2.2.2.2.1 h h';exact ⟨q1.ext hx2,q2,q3⟩,fun h=>own_ext (hI.2.2.2.2.2.1 h) hx2,hI.2.2.2.2.2.2.1,hI.2.2.2.2.2.2.2.1,fun _=>rfl⟩
      simp only [puts,Act.put,qA,qB,qC,List.set_nil] at hk
      unfold outE
      dsimp only
      go_simp
      exact hk
    ·obtain ⟨x4,hx4,rfl⟩:=HF.out.map (HD.out 4 (by decide)) (i:=4) rfl rfl
     subst hx4
     have h6:S 6 = false:=by cases h:S 6;rfl;exact absurd (hI.2.2.2.2.2.2.2.1 h).2 (by rw [HN.out];decide)
     have hx2:=Ext.alloc wq (.cells (bndCells x4).toArray 75)
     have hr2:=RowAt.new wq 75 (bndCells x4)
     have hk:=HK.out _ _ wq.heap.size v' (HF.out.new (i:=5) (.slice (some ⟨wq.heap.size,0,none⟩) 1 1) HN.out (by show 5 < 8;decide)) ⟨hI.1.trans (Grows.ext hx2),hI.2.1.ext hx2,hI.2.2.1.ext hx2,fun h=>own_ext (hI.2.2.2.1 h) hx2,fun _ _=>⟨hr2,hI.1.size,fun e=>by have:=own_lt (hI.2.2.2.1 h6) e;omega⟩,fun h=>own_ext (hI.2.2.2.2.2.1 h) hx2,hI.2.2.2.2.2.2.1,fun h=>⟨(hI.2.2.2.2.2.2.2.1 h).1,rfl⟩,fun _=>HD.out 4 (by decide)⟩
     simp only [puts,Act.put,qA,qB,qC,List.set_nil] at hk
     unfold bndV bndCells at *
     go_simp
     exact hk
    ·obtain rfl:=HF.out.got (HD.out 1 (by decide)) (i:=1) rfl rfl
     obtain rfl:=HF.out.got (HD.out 5 (by decide)) (i:=5) rfl rfl
     have h5:=HD.out 5 (by decide)
     have h1:=HD.out 1 (by decide)
     have h8:S 8 = false:=by cases h:S 8;rfl;exact absurd (hI.2.2.2.2.2.2.1 h) (by rw [HN.out];decide)
     have ho:=hI.2.2.2.1 HN.out
     obtain ⟨hz,hzl,hzn⟩:=hI.2.2.2.2.1 h5 HN.out
     have hrow:=hI.2.2.1
     rw [h8,if_neg (by decide)] at hrow
     rw [if_pos (show Region.wanted _ _ = true from rfl)]
     refine wp_append_sl wq _ _ 37 rfl elBn rfl ho rfl (hz.sl 1 1 (Nat.le_refl _) (by unfold maxLen;omega)) rfl (bndCells_one _) (by have:=HFW2.out;omega) (by have:=HFW2.out;unfold maxLen;omega) hI.1.size ?_
     intro u' w' ho' hb' hg' _
     have hne1:=own_ne_row ho hI.2.1 (by decide)
     have hne2:=own_ne_row ho hrow (by decide)
     have hk:=HK.out _ w' z u' (HF.out.new (i:=6) u' HN.out (by show 6 < 8;decide)) ⟨hI.1.below hb',hI.2.1.kept hg' (fun e=>hne1 _ e rfl),(by rw [show updB S 6 8 = S 8 from rfl,h8,if_neg (by decide)];exact hrow.kept hg' (fun e=>hne2 _ e rfl)),fun h=>(by cases h),fun _ h=>(by cases h),fun _=>(by rw [flat_snocB];exact ho'),fun _=>rfl,fun _=>⟨h1,h5⟩,hI.2.2.2.2.2.2.2.2⟩
     simp only [puts,Act.put,qA,qB,qC,List.set_nil] at hk
     exact hk
    ·have hk:=HK.out _ wq z v' (HF.out.put (i:=7) (v:=.pointer (some ⟨bg,1,none⟩)) rfl) hI
     simp only [puts,Act.put,qA,qB,qC,List.set_nil] at hk
     go_simp
     exact hk
    ·obtain rfl:=HF.out.got (HD.out 6 (by decide)) (i:=6) rfl rfl
     obtain rfl:=HF.out.got (HD.out 7 (by decide)) (i:=7) rfl rfl
     have h6:=HD.out 6 (by decide)
     have ho:=hI.2.2.2.2.2.1 h6
     have hrow:=hI.2.2.1
     rw [HN.out,if_neg (by decide)] at hrow
     obtain ⟨a2,c2,rfl⟩:=own_vw ho
     have cc:=hrow.cell (i:=1) rfl
     have ff:=hrow.frozen 1
     have hg2:=grown_set wq bg 1 (.slice a2 (k + 1) c2)
     have hk:=HK.out _ _ z (.slice a2 (k + 1) c2) (HF.out.out (by show 8 ≤ 8;decide)) ⟨hI.1.trans (Grows.set (by simp) 1 (.slice a2 (k + 1) c2)),hI.2.1.kept hg2 (fun e=>row_ne hrow hI.2.1 (by decide) (Option.some.inj e)),(by rw [show updB S 8 8 = true from rfl,if_pos rfl];exact hrow.set 1 _),fun h=>(by rw [show updB S 8 6 = S 6 from rfl,h6] at h;cases h),fun _ h=>(by rw [show updB S 8 6 = S 6 from rfl,h6] at h;cases h),fun _=>own_turn ho hrow (by decide) hg2,fun _=>h6,hI.2.2.2.2.2.2.2.1,hI.2.2.2.2.2.2.2.2⟩
     simp only [puts,Act.put,qA,qB,qC,List.set_nil] at hk
     go_simp
     exact hk
   ·rintro S us wq hS ⟨z,v',hF,hI⟩
    obtain ⟨u0,u1,u2,u3,u4,u5,u6,u7,rfl⟩:=len8 hF.len rfl
    obtain rfl:=hF.got (hS 0 (by decide)) (i:=0) rfl rfl
    obtain rfl:=hF.got (hS 1 (by decide)) (i:=1) rfl rfl
    obtain rfl:=hF.got (hS 2 (by decide)) (i:=2) rfl rfl
    obtain rfl:=hF.got (hS 3 (by decide)) (i:=3) rfl rfl
    obtain ⟨x4,hx4,rfl⟩:=hF.map (hS 4 (by decide)) (i:=4) rfl rfl
    obtain rfl:=hF.got (hS 5 (by decide)) (i:=5) rfl rfl
    obtain rfl:=hF.got (hS 6 (by decide)) (i:=6) rfl rfl
    obtain rfl:=hF.got (hS 7 (by decide)) (i:=7) rfl rfl
    have HS:=hid hS
    clear hF hS
    simp only [puts,Act.put,qA,qB,qC,List.set_nil]
    subst hx4
    have hrow:=hI.2.2.1
    rw [HS.out 8 (by decide),if_pos rfl] at hrow
    have ho:=hI.2.2.2.2.2.1 (HS.out 6 (by decide))
    obtain ⟨a2,c2,rfl⟩:=own_vw ho
    have HRR:=hid hrow
    have HOO:=hid ho
    have HGG:=hid hI.1
    have HPI:=hid (HSM.out x4 rfl)
    clear hI hrow ho HS
    go_wp2_with fail
    go_roundg (P.atoms.length - (k + 1))
    case measure=>have:=Hg.out;omega
    case rel=>exact ⟨k + 1,bs ++ [x4],a2,c2,by omega,rfl,by first | rfl | go_num,HPI,HGG,HRR,HOO⟩
  ·have he:k = P.atoms.length:=by omega
   subst he
   have hF:=HI.out.done
   have HZ:=hid (HF.out.symm.trans hF)
   have HLN:=hid HI.out.2
   clear hF
   go_wp2_with fail
   go_end0
   exact ⟨_,(by rw [← HE.out,HZ.out];rfl),HR.out,(by rw [HZ.out];show World.ownsRow _ _ _ _ _ bs.length _;rw [HLN.out];exact HO.out),HGR.out⟩
end

end Go.Proofs.YtkmbnghghbfkdaaGreat
