/- Words. -/
import Derived.Test.YtkmbnghghbfkdaaGreatGp15
import Derived.Test.YtkmbnghghbfkdaaGreatGp14
import Derived.Laws.StructEq
import Derived.Test.YtkmbnghghbfkdaaGreatGp01
import Derived.Laws.Tables
import Derived.Laws.Rows
import Derived.Deep.MidRow
set_option linter.unusedSimpArgs false
set_option linter.unusedVariables false
set_option maxHeartbeats 2000000
set_option maxRecDepth 100000
namespace Go.Proofs.YtkmbnghghbfkdaaGreat
open Go.Lib (hid)

section
open Go.RowKit Go.Shelf Go.Sort
attribute [local go_sem] Oper.semAt_some wide_fn wide_depth
def wordB (s:ByteArray):Bool:=Tk.check ⟨1,s,0⟩
def worthB (s:ByteArray):Bool:=Tk.check ⟨3,s,0⟩
theorem wordB_all (s:ByteArray):allB letterC 1 32 (bts s) = wordB s:=by
 unfold wordB Tk.check
 rw [← right_check]
 unfold rightB
 simp
theorem worthB_all (s:ByteArray):allB quotedC 0 40 (bts s) = worthB s:=by
 unfold worthB Tk.check
 rw [← right_check]
 unfold rightB
 simp
theorem notWord_any (s:ByteArray) (w:World) (hs:s.size ≤ 9223372036854775800) :
 Calls Tryz.prog 136 #[.string s] w fun e w'=>e = .returned (.bool (!wordB s)) ∧ Ext w w':=by
 cases hb:wordB s with
 | true =>
  have HC:=hid (check_yes (t:=⟨1,s,0⟩) w hs hb)
  unfold tkV at HC
  dsimp only at HC
  clear hb
  go_enter Tryz.func136,Tryz.ntmps136
  go_wp2_with fail
  refine HC.out.mono ?_
  rintro e w' ⟨rfl,hx⟩
  go_wp2
  go_ret
  exact ⟨rfl,hx⟩
 | false =>
  have HC:=hid (check_no (t:=⟨1,s,0⟩) w hs hb)
  unfold tkV at HC
  dsimp only at HC
  clear hb
  go_enter Tryz.func136,Tryz.ntmps136
  go_wp2_with fail
  refine HC.out.mono ?_
  rintro e w' ⟨rfl,hx⟩
  go_wp2
  go_ret
  exact ⟨rfl,hx⟩
def IdxQ (w:World) (b:Bool) (e:Ending) (w':World):Prop:=∃ n:Int,e = .returned (.int .i64 n) ∧ decide (0 ≤ n) = b ∧ -1 ≤ n ∧ n ≤ 9223372036854775807 ∧ Ext w w'
theorem idxW_any (v:Value) (l:List ByteArray) (w:World) (hv:Strs w v l) (hs:∀ s ∈ l,s.size ≤ 9223372036854775800) :
 Calls Tryz.prog 111 #[v,.func (.func 136) #[] #[]] w (IdxQ w (!l.all wordB)):=by
 obtain ⟨a,c,rfl,hc1,hc2⟩:=Sl.shape hv
 have HV:=hid hv
 have HS:=hid hs
 clear hv hs
 go_enter Tryz.func111,Tryz.ntmps111
 go_wp2_with fail
 go_loopg [8] l.length (fun g i wr=>∃ k:Nat,k ≤ l.length ∧ g = l.length - k ∧ i = .int .i64 k ∧ Ext w wr ∧ Hid (∀ x ∈ l.take k,wordB x = true))
 case atStart=>exact ⟨0,Nat.zero_le _,rfl,rfl,Ext.refl _,hid (by simp)⟩
 case round =>
  obtain ⟨k,hk,hg,rfl,hx,hall⟩:=hrel
  have Hg:=hid hg
  have HX:=hid hx
  clear hg
  by_cases hlt:k < l.length
  ·obtain ⟨b,o,rfl,c0⟩:=Strs.at_ (Strs.ext HV.out hx) hlt
   have HC:=hid (notWord_any l[k] wr (HS.out _ (List.getElem_mem hlt)))
   have hsn:l.take (k + 1) = l.take k ++ [l[k]]:=List.take_succ_eq_append_getElem hlt
   have hmem:=List.getElem_mem hlt
   generalize l[k] = x at *
   have HSN:=hid hsn
   have HM:=hid hmem
   clear hsn hmem hx
   cases hb:wordB x with
   | true =>
    rw [hb] at HC
    have HB:=hid hb
    clear hb
    go_wp2_with fail
    refine HC.out.mono ?_
    rintro e w2 ⟨rfl,hx2⟩
    have HX2:=hid (HX.out.trans hx2)
    clear hx2 HC c0
    go_wp2_with fail
    go_roundg (l.length - (k + 1))
    case measure=>have:=Hg.out;omega
    case rel=>exact ⟨k + 1,by omega,rfl,by go_num,HX2.out,hid (by rw [HSN.out];intro y hy;rcases List.mem_append.1 hy with h | h;exact hall.out y h;rw [List.mem_singleton.1 h];exact HB.out)⟩
   | false =>
    rw [hb] at HC
    have HB:=hid hb
    clear hb
    go_wp2_with fail
    refine HC.out.mono ?_
    rintro e w2 ⟨rfl,hx2⟩
    have HX2:=hid (HX.out.trans hx2)
    clear hx2 HC c0
    go_wp2_with fail
    go_ret
    refine ⟨k,rfl,?_,by omega,by omega,HX2.out⟩
    rw [show l.all wordB = false from List.all_eq_false.2 ⟨x,HM.out,by rw [HB.out];decide⟩]
    simp
  ·have he:k = l.length:=by omega
   subst he
   go_wp2_with fail
   go_ret
   refine ⟨-1,rfl,?_,by omega,by omega,HX.out⟩
   have h:=hall.out
   rw [List.take_length] at h
   rw [List.all_eq_true.2 h]
   rfl
theorem hasNotWord_any (v:Value) (l:List ByteArray) (w:World) (hv:Strs w v l) (hs:∀ s ∈ l,s.size ≤ 9223372036854775800) :
 Calls Tryz.prog 79 #[v,.func (.func 136) #[] #[]] w fun e w'=>e = .returned (.bool (!l.all wordB)) ∧ Ext w w':=by
 have HC:=hid (idxW_any v l w hv hs)
 obtain ⟨a,c,rfl,hc1,hc2⟩:=Sl.shape hv
 clear hv hs
 go_enter Tryz.func79,Tryz.ntmps79
 go_wp2_with fail
 refine HC.out.mono ?_
 rintro e w2 ⟨n,rfl,hb,h1,h2,hx2⟩
 have HB:=hid hb
 clear hb
 go_wp2_with fail
 go_ret
 exact ⟨by rw [← HB.out];rfl,hx2⟩
theorem words_any (v:Value) (l:List ByteArray) (w:World) (hv:Strs w v l) (hs:∀ s ∈ l,s.size ≤ 9223372036854775800) :
 Calls Tryz.prog 112 #[v] w fun e w'=>e = .returned (.bool (l.all wordB)) ∧ Ext w w':=by
 have HC:=hid (hasNotWord_any v l w hv hs)
 obtain ⟨a,c,rfl,hc1,hc2⟩:=Sl.shape hv
 clear hv hs
 go_enter Tryz.func112,Tryz.ntmps112
 go_wp2_with fail
 refine HC.out.mono ?_
 rintro e w2 ⟨rfl,hx2⟩
 go_wp2_with fail
 go_ret
 exact ⟨by simp,hx2⟩
end

/- Atoms: held against one another; which may be. -/
section
open Go.RowKit Go.Shelf Go.Sort
def Atm.eqB (x y:Atm):Bool:=x.kind == y.kind && ((x.fk == y.fk && x.fn.toList == y.fn.toList) && (x.name.toList == y.name.toList && (x.value.toList == y.value.toList && (x.tk == y.tk && x.tn.toList == y.tn.toList))))
theorem Atm.eqB_iff (x y:Atm):x.eqB y = true ↔ x = y:=by
 obtain ⟨a,b,c,d,e,f,g⟩:=x
 obtain ⟨a',b',c',d',e',f',g'⟩:=y
 unfold Atm.eqB
 simp only [Bool.and_eq_true,str_beq]
 simp [and_assoc]
theorem Atm.eqB_dec (x y:Atm):x.eqB y = decide (x = y):=by
 by_cases h:x = y
 ·rw [decide_eq_true h,(Atm.eqB_iff x y).2 h]
 ·rw [decide_eq_false h]
  cases hh:x.eqB y
  ·rfl
  ·exact absurd ((Atm.eqB_iff x y).1 hh) h
def atV (a:Atm):Value:=.agg #[.int .i64 a.kind,.bool a.fk,.string a.fn,.string a.name,.string a.value,.bool a.tk,.string a.tn]
theorem at_eql (x y:Atm) (w:World):(Op.equalIn 10000 88 (atV x) (atV y)).run Tryz.prog w = .ok (x.eqB y) w:=by
 unfold Atm.eqB atV
 rw [show (10000:Nat) = 9999 + 1 from rfl,run_equalIn_struct (P:=Tryz.prog) w 9999 88 _ _ (by kernel_rfl) (by kernel_rfl)]
 have hf:(Tryz.prog.fieldsOf 88).toList = _:=congrArg Array.toList (show Tryz.prog.fieldsOf 88 = _ by unfold Program.fieldsOf;rw [Tryz.underlying88])
 have hf2:(Tryz.prog.fieldsOf 86).toList = _:=congrArg Array.toList (show Tryz.prog.fieldsOf 86 = _ by unfold Program.fieldsOf;rw [Tryz.underlying86])
 rw [hf]
 simp [Op.eqFields,go_sem,run_equalIn_int,run_equalIn_string]
 by_cases h1:x.kind = y.kind
 case neg=>simp [h1]
 by_cases h2:x.fk = y.fk
 case neg=>simp [h1,h2]
 by_cases h3:x.fn.toList = y.fn.toList
 case neg=>simp [h1,h2,h3]
 by_cases h4:x.name.toList = y.name.toList
 case neg=>simp [h1,h2,h3,h4]
 by_cases h5:x.value.toList = y.value.toList
 case neg=>simp [h1,h2,h3,h4,h5]
 by_cases h6:x.tk = y.tk
 case neg=>simp [h1,h2,h3,h4,h5,h6]
 by_cases h7:x.tn.toList = y.tn.toList <;> simp [h1,h2,h3,h4,h5,h6,h7]
theorem at_eqlB (x y:Atm) (w:World):(binOp .eql 88 (atV x) (atV y)).run Tryz.prog w = .ok (.bool (decide (x = y))) w:=by
 rw [← Atm.eqB_dec]
 have h:=at_eql x y w
 unfold atV at h ⊢
 rw [run_eql_struct,h];rfl
theorem at_neqB (x y:Atm) (w:World):(binOp .neq 88 (atV x) (atV y)).run Tryz.prog w = .ok (.bool (!decide (x = y))) w:=by
 rw [← Atm.eqB_dec]
 have h:=at_eql x y w
 unfold atV at h ⊢
 rw [run_neq_struct,h];rfl
def atomB (a:Atm):Bool :=
 if a.kind = 1 then decide (a.name = nilB) && (decide (a.value = nilB) && (!a.tk && (decide (a.tn = nilB) && wordB a.fn)))
 else if a.kind = 2 then decide (a.value = nilB) && (!a.tk && (decide (a.tn = nilB) && (wordB a.fn && wordB a.name)))
 else if a.kind = 3 then !a.tk && (decide (a.tn = nilB) && (wordB a.fn && (wordB a.name && worthB a.value)))
 else if a.kind = 4 then decide (a.value = nilB) && (wordB a.fn && (wordB a.name && wordB a.tn))
 else false
end

/- A region that draws its order, while blocks of a list may be written; whole rows are loaded and stored in one step. No program in sight. -/
section
open Go.RowKit Go.Sort
structure Grows (X:List Nat) (w w':World):Prop where
 os:w'.os = w.os
 tape:w'.tape = w.tape
 output:w'.output = w.output
 size:w.heap.size ≤ w'.heap.size
 block:∀ i,i < w.heap.size → i ∉ X → w'.heap[i]? = w.heap[i]?
theorem Grows.refl (X:List Nat) (w:World):Grows X w w:=⟨rfl,rfl,rfl,Nat.le_refl _,fun _ _ _=>rfl⟩
theorem Grows.trans {X:List Nat} {a b c:World} (h:Grows X a b) (k:Grows X b c):Grows X a c :=
 ⟨k.os.trans h.os,k.tape.trans h.tape,k.output.trans h.output,Nat.le_trans h.size k.size,fun i hi hn=>(k.block i (Nat.lt_of_lt_of_le hi h.size) hn).trans (h.block i hi hn)⟩
theorem Grows.ext {X:List Nat} {w w':World} (h:Ext w w'):Grows X w w':=⟨h.os,h.tape,h.output,h.size,fun i hi _=>h.block i hi⟩
theorem Grows.one {X:List Nat} {w w':World} {g:Nat} (h:w.grownBy w' (some g)) (hg:g ∈ X):Grows X w w':=⟨h.os,h.tape,h.output,h.size,fun i hi hn=>h.block i hi (fun e=>hn (by cases e;exact hg))⟩
theorem Grows.row {X:List Nat} {w w':World} {b:Nat} {t:TypeId} {xs:List Value} (h:Grows X w w') (hr:RowAt w b t xs) (hn:b ∉ X):RowAt w' b t xs:=(h.block b hr.lt hn).trans hr
theorem Grows.set {X:List Nat} {w:World} {g:Nat} (hg:g ∈ X) (i:Nat) (v:Value):Grows X w (w.setCell ⟨g,i,none⟩ v):=Grows.one (grown_set w g i v) hg
theorem setRow_grown (w:World) (g:Nat) (cs:Array Value):w.grownBy (w.setRow g cs) (some g) :=
 ⟨rfl,rfl,rfl,by simp [World.setRow],fun i hi hn=>setRow_other w g i cs (fun e=>hn (by rw [e]))⟩
theorem Grows.setRow {X:List Nat} {w:World} {g:Nat} (hg:g ∈ X) (cs:Array Value):Grows X w (w.setRow g cs):=Grows.one (setRow_grown w g cs) hg
theorem RowAt.setRow {w:World} {g:Nat} {t:TypeId} {old:List Value} (h:RowAt w g t old) (xs:List Value):RowAt (w.setRow g xs.toArray) g t xs:=setRow_heap _ _ _ _ _ _ h
theorem RowAt.range {w:World} {g:Nat} {t:TypeId} {pre cs post:List Value} (h:RowAt w g t (pre ++ cs ++ post)):w.rangeAt g pre.length cs:=fun j v hv=>by
 refine h.cell ?_
 rw [List.append_assoc,List.getElem?_append_right (by omega),Nat.add_sub_cancel_left,List.getElem?_append_left (List.getElem?_eq_some_iff.1 hv).1]
 exact hv
theorem RowAt.whole {w:World} {g:Nat} {t:TypeId} {cs:List Value} (h:RowAt w g t cs):w.rangeAt g 0 cs:=fun j v hv=>h.cell (by rw [Nat.zero_add];exact hv)
theorem Grows.range {X:List Nat} {w w':World} {b o:Nat} {cs:List Value} (h:Grows X w w') (hc:w.rangeAt b o cs) (hn:b ∉ X):w'.rangeAt b o cs:=fun j v hv=>by
 have h1:=hc j v hv
 exact (World.cell?_of_block (w:=w) (h.block b (World.block_lt_of_cell? w _ h1) hn)).trans h1
theorem grows_some {X:List Nat} {w w':World} (hx:Grows X w w') (p:Addr) (hne:p.block ∉ X) (h:(w.cell? p).isSome = true):w'.cell? p = w.cell? p:=by
 obtain ⟨v,hv⟩:=Option.isSome_iff_exists.1 h
 exact World.cell?_of_block (w:=w) (hx.block p.block (World.block_lt_of_cell? w p hv) hne)
instance growsRel (X:List Nat):Rel (Grows X):=⟨Grows.refl X,fun h k=>h.trans k⟩
structure GroX (X:List Nat) (P:Program) (ops:Array Oper) (Q:Exit → Act → World → Prop) (ks:Nat → Gro) (l:List Nat) (a:Act) (w:World):Prop where
 out:groL (Grows X) P ops Q ks l a w
section
variable {X:List Nat} {P:Program} {ops:Array Oper} {Q:Exit → Act → World → Prop} {ks:Nat → Gro} {a:Act} {w:World} {i:Nat} {r:List Nat} {o:Oper}
theorem groX_nil (h:Q .normal a w):GroX X P ops Q ks [] a w:=⟨h⟩
theorem groX_pure (ho:ops[i]? = some o) (hk:ks i = .pure)
 (h:∀ K:Act → Prop,(∀ a,GroX X P ops Q ks r a w → K a) → if Region.wanted o (yielded ops a.tmps) = true then ∃ v,(∀ w',(execOp a.eval o).run P w' = .ok (.value v) w') ∧ K (a.put o.dst v) else K (a.put o.dst undef)):GroX X P ops Q ks (i :: r) a w :=
 ⟨groL0_pure ho hk fun K hK=>h K fun a h=>hK a h.out⟩
theorem groX_read (ho:ops[i]? = some o) (hk:ks i = .read)
 (h:∀ (K:Act → Prop) (S:Value → Prop),(∀ v,Stays (Grows X) P o a w v → S v) → (∀ a,GroX X P ops Q ks r a w → K a) → if Region.wanted o (yielded ops a.tmps) = true then ∃ v,o.quietAt P a (fun x=>x = w) w v ∧ S v ∧ K (a.put o.dst v) else K (a.put o.dst undef)):GroX X P ops Q ks (i :: r) a w :=
 ⟨groL0_read ho hk fun K S hS hK=>h K S hS fun a h=>hK a h.out⟩
theorem groX_grow (ho:ops[i]? = some o) (hk:ks i = .grow)
 (h:∀ K:Act → World → Prop,(∀ a w',Grows X w w' ∧ GroX X P ops Q ks r a w' → K a w') → if Region.wanted o (yielded ops a.tmps) = true then o.wp P a w K Q else K (a.put o.dst undef) w):GroX X P ops Q ks (i :: r) a w :=
 ⟨groL0_grow ho hk fun K hK=>h K fun a w' h=>hK a w' ⟨h.1,h.2.out⟩⟩
theorem wanted_none (hgd:o.guard = none) (ops:Array Oper) (tmps:Array Value):Region.wanted o (yielded ops tmps) = true:=by simp [Region.wanted,hgd]
theorem groX_load (ho:ops[i]? = some o) (hk:ks i = .read) (hgd:o.guard = none) (ty:TypeId) (x:Operand) (hop:o.op = .load ty x) (b off:Nat) (hx:a.eval x = .pointer (some ⟨b,off,none⟩)) (cs:List Value) (d:TypeDesc) (hc:w.rangeAt b off cs) (hb:b ∉ X)
 (hu:P.underlying ty = some d) (hd:d.isRow = true) (hi:(P.info? ty).map (·.size) = some cs.length)
 (h:GroX X P ops Q ks r (a.put o.dst (.agg cs.toArray)) w):GroX X P ops Q ks (i :: r) a w:=by
 refine groX_read ho hk fun K S hS hK=>?_
 rw [if_pos (wanted_none hgd _ _)]
 have hq:∀ w',w'.rangeAt b off cs → o.quietAt P a (fun x=>x = w') w' (.agg cs.toArray):=fun w' hc'=>by
  unfold Oper.quietAt execOp
  simp only [hop,hx,Instr.loadAt,Instr.sureAddr,Sem.run_bind,Sem.run_pure,Result.andThen_ok,run_loadVar_mid w' b off ty cs d hc' hu hd hi]
  simp [Oper.quietUpon]
 exact ⟨_,hq w hc,hS _ (fun w' hg=>hq w' (hg.range hc hb)),hK _ h⟩
theorem groX_store (ho:ops[i]? = some o) (hk:ks i = .grow) (hgd:o.guard = none) (ty:TypeId) (x y:Operand) (hop:o.op = .store ty x y) (g:Nat) (cs:List Value) (hx:a.eval x = .pointer (some ⟨g,0,none⟩)) (hy:a.eval y = .agg cs.toArray)
 {t:TypeId} {old:List Value} (hg:RowAt w g t old) (hX:g ∈ X) (hi:(P.info? ty).map (·.size) = some cs.length) (hold:old.length = cs.length) (h1:∀ v ∈ cs,v.oneCell' = true)
 (h:GroX X P ops Q ks r (a.put o.dst undef) (w.setRow g cs.toArray)):GroX X P ops Q ks (i :: r) a w:=by
 refine groX_grow ho hk fun K hK=>?_
 rw [if_pos (wanted_none hgd _ _)]
 exact wp_store_row ty x y hop g cs.toArray hx hy t old.toArray hg (by simpa using hi) (by simpa using hold) (all_oneCell_toArray h1) (hK _ _ ⟨Grows.setRow hX _,h⟩)
theorem wp_region_grox (X:List Nat) {id:Nat} {l:List Oper} (ks:Nat → Gro) (ord:List Nat) (hm:P.follows .mixedOrders = true) (hsel:Region.noSelect l.toArray = true) (hn:ord.length = l.length)
 (hB:groText .any l.toArray ks ord (Array.replicate l.toArray.size false) = true) (hQ:∀ c a w d v,Q (.panic c) (a.put (some d) v) w → Q (.panic c) a w)
 (h:GroX X P l.toArray Q ks ord a w.drew):(Code.region id l.toArray true).wp P Q a w:=wp_region_gro0 ks ord hm hsel hn hB hQ h.out
end
theorem load_whole {P:Program} {w:World} {g:Nat} {t ty:TypeId} {xs:List Value} {d:TypeDesc} (h:RowAt w g t xs) (hu:P.underlying ty = some d) (hd:d.isRow = true) (hi:(P.info? ty).map (·.size) = some xs.length):(loadVar ty ⟨g,0,none⟩).run P w = .ok (.agg xs.toArray) w :=
 run_loadVar_mid w g 0 ty xs d h.whole hu hd hi
theorem results_row2 {P:Program} {fn:Func} {p u v:Tmp} {ty:TypeId} (h:fn.results = #[.cell p ty,.tmp u,.tmp v]) {tmps:Array Value} {w:World} {g:Nat} {t:TypeId} {xs:List Value} {d:TypeDesc}
 (hp:tmps.getD p undef = .pointer (some ⟨g,0,none⟩)) (hg:RowAt w g t xs) (hu:P.underlying ty = some d) (hd:d.isRow = true) (hi:(P.info? ty).map (·.size) = some xs.length) :
 (results fn tmps).run P w = .ok (.tuple #[.agg xs.toArray,tmps.getD u undef,tmps.getD v undef]) w:=by
 have hp':tmps[p]?.getD undef = .pointer (some ⟨g,0,none⟩):=by simpa using hp
 simp [results,h,hp',asAddr,load_whole hg hu hd hi]
theorem results_row1 {P:Program} {fn:Func} {p u:Tmp} {ty:TypeId} (h:fn.results = #[.cell p ty,.tmp u]) {tmps:Array Value} {w:World} {g:Nat} {t:TypeId} {xs:List Value} {d:TypeDesc}
 (hp:tmps.getD p undef = .pointer (some ⟨g,0,none⟩)) (hg:RowAt w g t xs) (hu:P.underlying ty = some d) (hd:d.isRow = true) (hi:(P.info? ty).map (·.size) = some xs.length) :
 (results fn tmps).run P w = .ok (.tuple #[.agg xs.toArray,tmps.getD u undef]) w:=by
 have hp':tmps[p]?.getD undef = .pointer (some ⟨g,0,none⟩):=by simpa using hp
 simp [results,h,hp',asAddr,load_whole hg hu hd hi]
theorem results_row0 {P:Program} {fn:Func} {p:Tmp} {ty:TypeId} (h:fn.results = #[.cell p ty]) {tmps:Array Value} {w:World} {g:Nat} {t:TypeId} {xs:List Value} {d:TypeDesc}
 (hp:tmps.getD p undef = .pointer (some ⟨g,0,none⟩)) (hg:RowAt w g t xs) (hu:P.underlying ty = some d) (hd:d.isRow = true) (hi:(P.info? ty).map (·.size) = some xs.length) :
 (results fn tmps).run P w = .ok (.agg xs.toArray) w:=by
 have hp':tmps[p]?.getD undef = .pointer (some ⟨g,0,none⟩):=by simpa using hp
 simp [results,h,hp',asAddr,load_whole hg hu hd hi]
theorem plain_load {P:Program} {Q:Exit → Act → World → Prop} {ops:Array Oper} {rest:List Oper} {o:Oper} {a:Act} {w:World} (hgd:o.guard = none) (ty:TypeId) (x:Operand) (ho:o.op = .load ty x) (g:Nat) (hx:a.eval x = .pointer (some ⟨g,0,none⟩)) {t:TypeId} (cs:List Value) (d:TypeDesc) (hg:RowAt w g t cs)
 (hu:P.underlying ty = some d) (hd:d.isRow = true) (hi:(P.info? ty).map (·.size) = some cs.length)
 (h:wpList P ops Q rest (a.put o.dst (.agg cs.toArray)) w):wpList P ops Q (o :: rest) a w :=
 wpList_load_mid hgd ty x ho g 0 hx cs d hg.whole hu hd hi h
theorem plain_store {P:Program} {Q:Exit → Act → World → Prop} {ops:Array Oper} {rest:List Oper} {o:Oper} {a:Act} {w:World} (hgd:o.guard = none) (ty:TypeId) (x y:Operand) (ho:o.op = .store ty x y) (g:Nat) (cs:List Value) (hx:a.eval x = .pointer (some ⟨g,0,none⟩)) (hy:a.eval y = .agg cs.toArray)
 {t:TypeId} {old:List Value} (hg:RowAt w g t old) (hi:(P.info? ty).map (·.size) = some cs.length) (hold:old.length = cs.length) (h1:∀ v ∈ cs,v.oneCell' = true)
 (h:wpList P ops Q rest (a.put o.dst undef) (w.setRow g cs.toArray)):wpList P ops Q (o :: rest) a w :=
 wpList_store_row hgd ty x y ho g cs.toArray hx hy t old.toArray hg (by simpa using hi) (by simpa using hold) (all_oneCell_toArray h1) h
end

end Go.Proofs.YtkmbnghghbfkdaaGreat
