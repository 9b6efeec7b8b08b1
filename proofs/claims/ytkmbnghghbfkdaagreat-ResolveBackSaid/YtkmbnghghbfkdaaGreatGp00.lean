/- Views of slices in memory, and small laws about worlds: no program in sight. -/
import Derived.WalkKit
import Derived.WalkLawsBesides
import Derived.WalkSpells
import Derived.Deep.QuietTactic
import Derived.BigQuiet
import Derived.Lib.Hide
import Derived.StillTailTactics
import Derived.Maps.AppendAt
import Derived.RangeFuncNested
import Derived.RangeFuncCalls
import Derived.RangeFuncLeaves
import Derived.OwnWalkIn
import Derived.TacticsInMore
import Derived.LoopNIn
import Derived.LoopIn
import Derived.Shelf.Abstract
import Derived.OrdersIn
import Derived.Lib.QuietBelow
set_option linter.unusedSimpArgs false
set_option linter.unusedVariables false
set_option maxHeartbeats 2000000
set_option maxRecDepth 100000
namespace Go.Proofs.YtkmbnghghbfkdaaGreat
open Go.Lib (hid)

section
open Go.RowKit
def Sl (w:World) (v:Value) (n:Nat) (xs:List Value):Prop :=
 ∃ (a:Option Addr) (cap:Nat),v = .slice a n cap ∧ n ≤ cap ∧ cap ≤ maxLen ∧
  (0 < xs.length → ∃ b o,a = some ⟨b,o,none⟩ ∧ ∀ i u,xs[i]? = some u → w.cell? ⟨b,o + i,none⟩ = some u)
def Ext (w w':World):Prop:=Below w.heap.size w w'
theorem Ext.refl (w:World):Ext w w:=Below.refl _ _
theorem Ext.trans {a b c:World} (h:Ext a b) (k:Ext b c):Ext a c:=Below.trans h (Below.mono k h.size)
theorem Ext.drewN (w:World) (n:Nat):Ext w (w.drewN n):=⟨rfl,rfl,rfl,Nat.le_refl _,fun _ _=>rfl⟩
theorem Ext.alloc (w:World) (o:Obj):Ext w (w.alloc o):=(Below.refl _ _).alloc (Nat.le_refl _) _
theorem below_drewN {B:Nat} {a w:World} (h:Below B a w) (n:Nat):Below B a (w.drewN n):=⟨h.os,h.tape,h.output,h.size,h.block⟩
theorem Below.ext {B:Nat} {a w w':World} (h:Below B a w) (k:Ext w w') (hB:B ≤ w.heap.size):Below B a w':=h.trans (Below.mono k hB)
theorem cell_lt {w:World} {b o:Nat} {u:Value} (h:w.cell? ⟨b,o,none⟩ = some u):b < w.heap.size:=World.block_lt_of_cell? w ⟨b,o,none⟩ h
theorem Sl.below {B:Nat} {w w':World} {v:Value} {n:Nat} {xs:List Value} (h:Sl w v n xs) (hb:Below B w w') (hB:w.heap.size ≤ B):Sl w' v n xs:=by
 obtain ⟨a,cap,rfl,h1,h2,h3⟩:=h
 refine ⟨a,cap,rfl,h1,h2,fun hp=>?_⟩
 obtain ⟨b,o,rfl,hc⟩:=h3 hp
 exact ⟨b,o,rfl,fun i u hu=>(hb.cell (p:=⟨b,o + i,none⟩) (Nat.lt_of_lt_of_le (cell_lt (hc i u hu)) hB)).trans (hc i u hu)⟩
theorem Sl.ext {w w':World} {v:Value} {n:Nat} {xs:List Value} (h:Sl w v n xs) (hb:Ext w w'):Sl w' v n xs:=Sl.below h hb (Nat.le_refl _)
theorem Sl.nil (w:World):Sl w (.slice none 0 0) 0 []:=⟨none,0,rfl,Nat.le_refl _,by unfold maxLen;omega,fun h=>by simp at h⟩
theorem Sl.open_ {w:World} {v:Value} {n:Nat} {xs:List Value} (h:Sl w v n xs):∃ a cap,v = .slice a n cap ∧ n ≤ cap ∧ cap ≤ 9223372036854775807 ∧
 ∀ i,i < xs.length → ∃ b o,a = some ⟨b,o,none⟩ ∧ ∀ j u,xs[j]? = some u → w.cell? ⟨b,o + j,none⟩ = some u:=by
 obtain ⟨a,cap,rfl,h1,h2,h3⟩:=h
 unfold maxLen at h2
 exact ⟨a,cap,rfl,h1,h2,fun i hi=>h3 (by omega)⟩
theorem Sl.of_own {w:World} {base:Nat} {e:TypeId} {size n:Nat} {v:Value} {xs:List Value} (h:w.ownsRow base e size v n xs):Sl w v n xs:=by
 obtain ⟨hl,h | ⟨g,cap,cur,rfl,hg,hh,h1,h2,h3,h4⟩⟩:=h
 ·obtain ⟨rfl,rfl⟩:=h
  have:xs = []:=List.eq_nil_of_length_eq_zero (by simpa using hl)
  subst this
  exact Sl.nil w
 ·refine ⟨_,cap,rfl,h1,h2,fun _=>⟨g,0,rfl,fun i u hu=>?_⟩⟩
  rw [Nat.zero_add,cell_of_row w g i cur e (0,0) hh]
  rw [← h4,List.getElem?_take] at hu
  split at hu
  ·simpa using hu
  ·cases hu
theorem own_lt {w:World} {base:Nat} {e:TypeId} {size n:Nat} {v:Value} {xs:List Value} (h:w.ownsRow base e size v n xs) {g:Nat} (hg:v.ownBlock = some g):base ≤ g ∧ g < w.heap.size:=h.lt g hg
theorem own_below {w w':World} {base B:Nat} {e:TypeId} {size n:Nat} {v:Value} {xs:List Value} (h:w.ownsRow base e size v n xs) (hb:Below B w w') (hB:w.heap.size ≤ B):w'.ownsRow base e size v n xs:=by
 refine ⟨h.1,?_⟩
 rcases h.2 with hn | ⟨g,cap,cur,rfl,hbg,hgg,rest⟩
 ·exact .inl hn
 ·refine .inr ⟨g,cap,cur,rfl,hbg,?_,rest⟩
  rw [hb.block g (Nat.lt_of_lt_of_le (Array.getElem?_eq_some_iff.1 hgg).1 hB)]
  exact hgg
theorem own_ext {w w':World} {base:Nat} {e:TypeId} {size n:Nat} {v:Value} {xs:List Value} (h:w.ownsRow base e size v n xs) (hb:Ext w w'):w'.ownsRow base e size v n xs:=own_below h hb (Nat.le_refl _)
theorem own_base {w:World} {base base':Nat} {e:TypeId} {size n:Nat} {v:Value} {xs:List Value} (h:w.ownsRow base e size v n xs) (hb:base' ≤ base):w.ownsRow base' e size v n xs:=by
 refine ⟨h.1,?_⟩
 rcases h.2 with hn | ⟨g,cap,cur,rfl,hbg,rest⟩
 ·exact .inl hn
 ·exact .inr ⟨g,cap,cur,rfl,Nat.le_trans hb hbg,rest⟩
theorem ret_int {k:IntKind} {a b:Int} (h:a = b):Ending.returned (.int k a) = .returned (.int k b):=by rw [h]
theorem ret_bool {a b:Bool} (h:a = b):Ending.returned (.bool a) = .returned (.bool b):=by rw [h]
theorem int_congr {k:IntKind} {a b:Int} (h:a = b):Value.int k a = Value.int k b:=by rw [h]
theorem bool_congr {a b:Bool} (h:a = b):Value.bool a = Value.bool b:=by rw [h]
def Ints (w:World) (k:IntKind) (v:Value) (l:List Int):Prop:=Sl w v l.length (l.map (Value.int k))
theorem Ints.ext {w w':World} {k:IntKind} {v:Value} {l:List Int} (h:Ints w k v l) (hb:Ext w w'):Ints w' k v l:=Sl.ext h hb
theorem Ints.below {B:Nat} {w w':World} {k:IntKind} {v:Value} {l:List Int} (h:Ints w k v l) (hb:Below B w w') (hB:w.heap.size ≤ B):Ints w' k v l:=Sl.below h hb hB
theorem take_snoc {α:Type} (l:List α) (k:Nat) (h:k < l.length):l.take (k + 1) = l.take k ++ [l[k]]:=by
 rw [List.take_succ_eq_append_getElem h]
structure ElT (P:Program) (t e:TypeId) (z:Value) (size bytes:Nat):Prop where
 under:P.underlying t = some (.slice e)
 info:∃ i,P.info? e = some i ∧ i.zero = some z ∧ i.size = size ∧ i.bytes = bytes
 cells:z.cells.size = size
 pos:0 < size
theorem addr_add (b o i:Nat):(⟨b,o,none⟩:Addr).add i = ⟨b,o + i,none⟩:=by unfold Addr.add;split <;> simp_all
theorem own_ge {w:World} {base:Nat} {e:TypeId} {size n:Nat} {v:Value} {xs:List Value} (h:w.ownsRow base e size v n xs):∀ k,v.ownBlock = some k → base ≤ k:=fun k hk=>(h.lt k hk).1
def AppAt (v v':Value) (w:World):Prop:=v'.ownBlock = v.ownBlock ∨ v'.ownBlock = some w.heap.size
theorem run_append_sl {P:Program} (w:World) {base:Nat} {t ty e:TypeId} {z:Value} {size bytes:Nat} (T:ElT P t e z size bytes)
 {v:Value} {n:Nat} {xs:List Value} (hown:w.ownsRow base e size v n xs) {u:Value} {m:Nat} {news:List Value} (hs:Sl w u m news) (hl:news.length = m * size)
 (h1:∀ x ∈ news,x.oneCell' = true) (hb:(n + m) * bytes ≤ 140737488355328) (h63:n + m ≤ maxLen) (hbase:base ≤ w.heap.size) :
 ∃ v' w',(Builtin.append_ #[t,t] ty #[v,u]).run P w = .ok v' w' ∧ w'.ownsRow base e size v' (n + m) (xs ++ news) ∧ w.grownBy w' v.ownBlock ∧
  (v' = .slice none 0 0 ↔ v = .slice none 0 0 ∧ m = 0) ∧ (v'.ownBlock = v.ownBlock ∨ v'.ownBlock = some w.heap.size):=by
 obtain ⟨i,hi,hz,hsz,hby⟩:=T.info
 obtain ⟨a,c,rfl,hmc,hcm,hc⟩:=hs
 by_cases hp:0 < news.length
 ·obtain ⟨b,o,rfl,hcell⟩:=hc hp
  exact run_append_own_at (P:=P) w base t ty e i z size bytes T.under hi hz hsz hby T.cells T.pos v n xs hown ⟨b,o,none⟩ m c news hl (fun j u hu=>by rw [addr_add];exact hcell j u hu) h1 h63 hb hbase
 ·have hnil:news = []:=List.eq_nil_of_length_eq_zero (by omega)
  subst hnil
  have hm:m = 0:=by
   have h0:=T.pos
   rcases Nat.eq_zero_or_pos m with h | h
   ·exact h
   ·have:=Nat.mul_pos h h0;simp at hl;omega
  subst hm
  cases a with
  | some ad=>exact run_append_own_at (P:=P) w base t ty e i z size bytes T.under hi hz hsz hby T.cells T.pos v n xs hown ad 0 c [] hl (fun j u hu=>by simp at hu) h1 h63 hb hbase
  | none =>
   refine ⟨v,w,?_,by simpa using hown,⟨rfl,rfl,rfl,Nat.le_refl _,fun _ _ _=>rfl⟩,by simp,.inl rfl⟩
   rcases hown.2 with ⟨rfl,rfl⟩ | ⟨g,cap,cur,rfl,_,_,hnc,_⟩
   ·simp [Builtin.append_,run_underlying T.under,sizeOf,typeInfo,hi,Builtin.lenOf,Builtin.firstCells]
   ·simp [Builtin.append_,run_underlying T.under,sizeOf,typeInfo,hi,Builtin.lenOf,Builtin.firstCells,hnc,storeCells]
theorem wp_append_sl {P:Program} (w:World) {o:Oper} {a:Act} {K:Act → World → Prop} {Q:Exit → Act → World → Prop} (s x:Operand) (t:TypeId)
 (ho:o.op = .call { callee:=.builtin .append,args:=#[s,x],argTypes:=#[t,t] })
 {base:Nat} {e:TypeId} {z:Value} {size bytes:Nat} (T:ElT P t e z size bytes) {v:Value} {n:Nat} {xs:List Value} (hs:a.eval s = v) (hown:w.ownsRow base e size v n xs)
 {u:Value} {m:Nat} {news:List Value} (hx:a.eval x = u) (hu:Sl w u m news) (hl:news.length = m * size)
 (h1:∀ x ∈ news,x.oneCell' = true) (hb:(n + m) * bytes ≤ 140737488355328) (h63:n + m ≤ maxLen) (hbase:base ≤ w.heap.size)
 (h:∀ v' w',w'.ownsRow base e size v' (n + m) (xs ++ news) → Below base w w' → w.grownBy w' v.ownBlock → AppAt v v' w → K (a.put o.dst v') w'):o.wp P a w K Q:=by
 obtain ⟨v',w',hrun,h2,h3,h4,h5⟩:=run_append_sl (P:=P) w (ty:=o.type) T hown hu hl h1 hb h63 hbase
 unfold Oper.wp execOp
 simp only [ho,resolve,invoke,builtin,Sem.run_bind,Sem.run_pure,Result.andThen_ok,List.map_toArray,List.map_cons,List.map_nil,hs,hx,hrun]
 exact h v' w' h2 ((Below.refl _ _).grown h3 hbase (own_ge hown)) h3 h5
theorem wpList_append_sl {P:Program} (w:World) {ops:Array Oper} {rest:List Oper} {o:Oper} {a:Act} {Q:Exit → Act → World → Prop} (hgd:o.guard = none) (s x:Operand) (t:TypeId)
 (ho:o.op = .call { callee:=.builtin .append,args:=#[s,x],argTypes:=#[t,t] })
 {base:Nat} {e:TypeId} {z:Value} {size bytes:Nat} (T:ElT P t e z size bytes) {v:Value} {n:Nat} {xs:List Value} (hs:a.eval s = v) (hown:w.ownsRow base e size v n xs)
 {u:Value} {m:Nat} {news:List Value} (hx:a.eval x = u) (hu:Sl w u m news) (hl:news.length = m * size)
 (h1:∀ x ∈ news,x.oneCell' = true) (hb:(n + m) * bytes ≤ 140737488355328) (h63:n + m ≤ maxLen) (hbase:base ≤ w.heap.size)
 (h:∀ v' w',w'.ownsRow base e size v' (n + m) (xs ++ news) → Below base w w' → w.grownBy w' v.ownBlock → AppAt v v' w → wpList P ops Q rest (a.put o.dst v') w'):wpList P ops Q (o :: rest) a w :=
 wpList_plain hgd fun _ hK=>wp_append_sl w s x t ho T hs hown hx hu hl h1 hb h63 hbase fun v' w' h2 h3 h4 h5=>hK _ _ (h v' w' h2 h3 h4 h5)
theorem Sl.new (w:World) (cs:Array Value) (t:TypeId) (n cap:Nat) (h:n ≤ cap) (hm:cap ≤ maxLen):Sl (w.alloc (.cells cs t)) (.slice (some ⟨w.heap.size,0,none⟩) n cap) n cs.toList :=
 ⟨_,cap,rfl,h,hm,fun _=>⟨w.heap.size,0,rfl,fun i u hu=>by
  rw [Nat.zero_add,cell_of_row (w.alloc (.cells cs t)) w.heap.size i cs t (0,0) (heap_alloc_new w _)]
  simpa using hu⟩⟩
theorem own_new (w:World) (base:Nat) (cs:Array Value) (t:TypeId) (size n:Nat) (hb:base ≤ w.heap.size) (hn:cs.size = n * size) (hm:n ≤ maxLen) :
 (w.alloc (.cells cs t)).ownsRow base t size (.slice (some ⟨w.heap.size,0,none⟩) n n) n cs.toList :=
 ⟨by simpa using hn,.inr ⟨w.heap.size,n,cs,rfl,hb,heap_alloc_new w _,Nat.le_refl _,hm,hn,by rw [List.take_of_length_le (by simp [hn])]⟩⟩
theorem ints_one (k:IntKind) (l:List Int):∀ x ∈ l.map (Value.int k),x.oneCell' = true:=by
 intro u hu
 obtain ⟨_,_,rfl⟩:=List.mem_map.1 hu
 rfl
theorem below_grown {B:Nat} {a w w':World} {row:Option Nat} (h:Below B a w) (hg:w.grownBy w' row) (hB:B ≤ w.heap.size) (hr:∀ k,row = some k → B ≤ k):Below B a w':=h.grown hg hB hr
end

/- A range over a function, at the wide fence: the statement, and one round. -/
section
open Go.RowKit
theorem wide_fn (f:FuncId):Fence.wide.fn f = True:=rfl
theorem wide_depth:Fence.wide.depth = none:=rfl
def recOf (fn:Nat) (a:Act) (ps:Array Tmp) (assign body:Code) (D:Nat) (st:LoopState) (pe:Option Code):Loop :=
 { state:=st,pending:=pe,fn,tmps:=a.tmps,params:=ps,assign,body,defers:=D }
def overPost (P:Program) (l:Nat) (Q:Exit → Act → World → Prop) (a':Act):Ending → World → Prop:=fun e W =>
 ∃ v,e = .returned v ∧ ∃ r:Loop,W.heap[l]? = some (.loop r) ∧ r.state ≠ .busy ∧ ∀ r':Loop,
  (match r.pending with
   | none=>Q .normal a' (W.putObj l (.loop r'))
   | some c=>c.wpIn Fence.wide 0 P Q a' (W.putObj l (.loop r')))
theorem wp_range {P:Program} {g:Operand} {ps:Array Tmp} {assign body:Code} {Q:Exit → Act → World → Prop} {a:Act} {w:World} {gf:Nat} {lb:Array Value}
 (hg:a.eval g = .func (.func gf) #[] lb) (eg:∀ args w,(callFunc gf args).run P w = .ok (.enter gf args) w) (D L:Nat) (hD:w.heap.size = D) (hL:D + 1 = L) (args:Array Value) (hargs:#[.func (.yield L) #[] #[]] ++ lb = args)
 (h:∀ fn W,W = (w.alloc (.deferred (some []))).alloc (.loop (recOf fn a ps assign body D .ready none)) →
  CallsIn Fence.wide 0 P gf args W (overPost P L Q { a with defers:={ target:=.collected D,args:=#[] } :: a.defers })) :
 (Code.rangeFunc g ps assign body).wpIn Fence.wide 0 P Q a w:=by
 subst hD hL hargs
 refine wpIn_rangeFunc ?_
 intro fn _
 obtain ⟨W,hW⟩:∃ W,W = (w.alloc (.deferred (some []))).alloc (.loop (recOf fn a ps assign body w.heap.size .ready none)):=⟨_,rfl⟩
 have hc:=h fn W hW
 refine ⟨w.heap.size + 1,[{ target:=.collected w.heap.size,args:=#[] }],W,{ target:=.fn (.func gf) lb,args:=#[.func (.yield (w.heap.size + 1)) #[] #[]] },W,gf,
  #[.func (.yield (w.heap.size + 1)) #[] #[]] ++ lb,W,?_,?_,?_,?_,?_,?_⟩
 ·rw [hW];exact run_enterLoop_outer _ _ _ _ _
 ·simp only [resolve,hg]
  simp [go_sem]
 ·intro f' _;trivial
 ·simp [invoke,go_sem,eg]
 ·intro hd;simp [Fence.wide] at hd
 ·refine CallsIn.mono (n:=0) hc ?_
  rintro e W ⟨v,rfl,r,hr,hb,hk⟩
  refine ⟨r.pending,_,run_endLoop hr hb,?_⟩
  cases hp:r.pending with
  | none=>rw [hp] at hk;exact hk _
  | some c=>rw [hp] at hk;exact hk _
def roundQ (l:Nat) (r:Loop) (R:Ending → World → Prop):Exit → Act → World → Prop:=fun e _ W =>
 W.heap[l]? = some (.loop { r with state:=.busy }) ∧
 match e with
 | .normal=>R (.returned (.bool true)) (W.putObj l (.loop { r with state:=.ready,pending:=none }))
 | .ret=>R (.returned (.bool false)) (W.putObj l (.loop { r with state:=.done,pending:=some .ret }))
 | .exit id=>R (.returned (.bool false)) (W.putObj l (.loop { r with state:=.done,pending:=some (.exit id) }))
 | .goto t=>R (.returned (.bool false)) (W.putObj l (.loop { r with state:=.done,pending:=some (.goto t) }))
 | _=>False
theorem yield_round {P:Program} {l:Nat} {r:Loop} {args:Array Value} {W:World} {R:Ending → World → Prop} (hl:W.heap[l]? = some (.loop r)) (hs:args.size = r.params.size) (hst:r.state = .ready)
 (h:r.assign.wpIn (Fence.wide.inRound l) 0 P (Exit.then (fun a₁ w₁=>w₁.heap[l]? = some (.loop r) ∧ r.body.wpIn (Fence.wide.inRound l) 0 P (roundQ l r R) a₁ (w₁.putObj l (.loop { r with state:=.busy }))) (fun _ _ _=>False))
  { tmps:=(r.params.zip args).foldl (fun tmps (t,a)=>tmps.setIfInBounds t a) r.tmps,defers:=[] } W) :
 YieldAt Fence.wide 0 P l args W R:=by
 refine ⟨r.fn,_,r.assign,r.body,run_yield hl hs,roundIn_of_wpIn trivial (wpIn_mono h ?_)⟩
 rintro e a₁ w₁ hq
 cases e with
 | normal =>
  obtain ⟨h1,h2⟩:=hq
  refine ⟨_,run_beginRound h1 hst,wpIn_mono h2 ?_⟩
  rintro e a₂ w₂ ⟨h3,h4⟩
  cases e with
  | normal=>exact ⟨_,_,run_endRound none h3,by simpa using h4⟩
  | ret=>exact ⟨_,_,run_endRound (some .ret) h3,by simpa using h4⟩
  | exit id=>exact ⟨_,_,run_endRound (some (.exit id)) h3,by simpa using h4⟩
  | goto t=>exact ⟨_,_,run_endRound (some (.goto t)) h3,by simpa using h4⟩
  | panic _=>exact h4
  | outgrown=>exact h4
 | _=>exact hq
theorem yield_rec {P:Program} {l:Nat} {r:Loop} {args:Array Value} {W:World} {R:Ending → World → Prop} {fn:Nat} {a:Act} {ps:Array Tmp} {assign body:Code} {D:Nat}
 (hr:recOf fn a ps assign body D .ready none = r) (hl:W.heap[l]? = some (.loop r)) (hs:args.size = ps.size)
 (h:assign.wpIn (Fence.wide.inRound l) 0 P (Exit.then (fun a₁ w₁=>w₁.heap[l]? = some (.loop r) ∧ body.wpIn (Fence.wide.inRound l) 0 P (roundQ l r R) a₁ (w₁.putObj l (.loop { r with state:=.busy }))) (fun _ _ _=>False))
  { tmps:=(ps.zip args).foldl (fun tmps (t,a)=>tmps.setIfInBounds t a) a.tmps,defers:=[] } W) :
 YieldAt Fence.wide 0 P l args W R:=by
 subst hr
 exact yield_round hl hs rfl h
theorem rec_ready {fn:Nat} {a:Act} {ps:Array Tmp} {assign body:Code} {D:Nat} {r:Loop} (hr:recOf fn a ps assign body D .ready none = r):{ r with state:=.ready,pending:=none } = r:=by
 subst hr;rfl
theorem below_put {B:Nat} {w W:World} (h:Below B w W) {l:Nat} (hl:B ≤ l) (o:Obj):Below B w (W.putObj l o) :=
 h.trans ⟨rfl,rfl,rfl,by simp,fun k hk=>World.putObj_heap_other (by omega)⟩
theorem wpListIn_append_sl {F:Fence} {nn:Nat} {P:Program} (w:World) {ops:Array Oper} {rest:List Oper} {o:Oper} {a:Act} {Q:Exit → Act → World → Prop} (hgd:o.guard = none) (s x:Operand) (t:TypeId)
 (ho:o.op = .call { callee:=.builtin .append,args:=#[s,x],argTypes:=#[t,t] })
 {base:Nat} {e:TypeId} {z:Value} {size bytes:Nat} (T:ElT P t e z size bytes) {v:Value} {n:Nat} {xs:List Value} (hs:a.eval s = v) (hown:w.ownsRow base e size v n xs)
 {u:Value} {m:Nat} {news:List Value} (hx:a.eval x = u) (hu:Sl w u m news) (hl:news.length = m * size)
 (h1:∀ x ∈ news,x.oneCell' = true) (hb:(n + m) * bytes ≤ 140737488355328) (h63:n + m ≤ maxLen) (hbase:base ≤ w.heap.size)
 (h:∀ v' w',w'.ownsRow base e size v' (n + m) (xs ++ news) → Below base w w' → w.grownBy w' v.ownBlock → AppAt v v' w → wpListIn F nn P ops Q rest (a.put o.dst v') w'):wpListIn F nn P ops Q (o :: rest) a w:=by
 refine wpListIn_plain hgd fun K hK'=>?_
 obtain ⟨v',w',hrun,h2,h3,_,h5⟩:=run_append_sl (P:=P) w (ty:=o.type) T hown hu hl h1 hb h63 hbase
 unfold Oper.wpIn
 refine ⟨?_,?_⟩
 ·simp [Oper.about,ho,resolve,Target.leads,Sem.run_pure]
 ·rw [Oper.semAt_plain F _ _ (by rw [ho];intro c hc';cases hc')]
  simp only [execOp,ho,resolve,invoke,builtin,Sem.run_bind,Sem.run_pure,Result.andThen_ok,List.map_toArray,List.map_cons,List.map_nil,hs,hx,hrun]
  exact hK' _ _ (h v' w' h2 ((Below.refl _ _).grown h3 hbase (own_ge hown)) h3 h5)
end

/- A range over a function: an iterator's contract, and what the caller owes. No program in sight. -/
section
open Go.RowKit Go.Sort
theorem calls_of_wp_marks {P:Program} {f:FuncId} {fn:Func} {c:Code} {args:Array Value} {w:World} {R:Ending → World → Prop} (hf:P.funcs[f]? = some fn) (hb:fn.body = some c)
 (h:c.wp P (bodyPostM Fence.wide 0 P fn R) { tmps:=args ++ Array.replicate (fn.ntmps - args.size) undef,defers:=[] } w):Calls P f args w R :=
 callsIn_wide.1 (callsIn_of_wp_marks hf hb trivial (wpIn_wide.2 h))
def IterOf (P:Program) (gf:Nat) (lb:Array Value) (w0:World) (N:Nat) (Enc:Nat → World → Array Value → Prop):Prop :=
 ∀ (L:Nat) (W:World) (J:Nat → World → Prop) (Js:World → Prop),
  (∀ k W,J k W → Below w0.heap.size w0 W) → (∀ k W W',J k W → Ext W W' → J k W') → (∀ W W',Js W → Ext W W' → Js W') →
  (∀ k args W,k < N → J k W → Enc k W args → YieldAt Fence.wide 0 P L args W fun e W'=>(e = .returned (.bool true) ∧ J (k + 1) W') ∨ (e = .returned (.bool false) ∧ Js W')) →
  J 0 W →
  CallsIn Fence.wide 0 P gf (#[.func (.yield L) #[] #[]] ++ lb) W fun e W'=>(∃ v,e = .returned v) ∧ (J N W' ∨ Js W')
def Stab (B:Nat) (I:World → Prop):Prop:=∀ W W' row,I W → W.grownBy W' row → (∀ r,row = some r → B ≤ r ∧ ∃ o:Obj,W.heap[r]? = some o ∧ o.isCells = false) → I W'
theorem grown_ext {W W':World} (h:Ext W W'):W.grownBy W' none:=⟨h.os,h.tape,h.output,h.size,fun i hi _=>h.block i hi⟩
theorem ext_cell {w w':World} {b o:Nat} {v:Value} (hx:Ext w w') (h:w.cell? ⟨b,o,none⟩ = some v):w'.cell? ⟨b,o,none⟩ = some v:=(Below.cell (p:=⟨b,o,none⟩) hx (cell_lt h)).trans h
theorem below_step {w W W':World} (h:Below w.heap.size w W) (hx:Ext W W'):Below w.heap.size w W':=Below.ext h hx h.size
theorem below_set2 {w W:World} {b:Nat} (h:Below w.heap.size w W) (hb:w.heap.size ≤ b) (u v:Value):Below w.heap.size w ((W.setCell ⟨b,0,none⟩ u).setCell ⟨b,1,none⟩ v):=(h.setCell (p:=⟨b,0,none⟩) hb u).setCell (p:=⟨b,1,none⟩) hb v
theorem Stab.ext {B:Nat} {I:World → Prop} (h:Stab B I) {W W':World} (hi:I W) (hx:Ext W W'):I W':=h W W' none hi (grown_ext hx) (fun r e=>by cases e)
theorem Stab.put {B:Nat} {I:World → Prop} (h:Stab B I) {W:World} (hi:I W) {l:Nat} {o:Obj} (hl:W.heap[l]? = some o) (ho:o.isCells = false) (hB:B ≤ l) (o':Obj):I (W.putObj l o') :=
 h W _ (some l) hi (grownBy_putObj' W l o') (fun r e=>by cases e;exact ⟨hB,o,hl,ho⟩)
theorem Stab.and {B:Nat} {I I':World → Prop} (h:Stab B I) (h':Stab B I'):Stab B (fun W=>I W ∧ I' W):=fun W W' row hi hg hr=>⟨h W W' row hi.1 hg hr,h' W W' row hi.2 hg hr⟩
theorem Stab.pure (B:Nat) (p:Prop):Stab B (fun _=>p):=fun _ _ _ h _ _=>h
theorem Stab.ex {α:Type} {B:Nat} {I:α → World → Prop} (h:∀ x,Stab B (I x)):Stab B (fun W=>∃ x,I x W):=fun W W' row ⟨x,hi⟩ hg hr=>⟨x,h x W W' row hi hg hr⟩
theorem Stab.boxed (B b:Nat) (t:TypeId) (v:Value):Stab B (fun W=>Boxed W b t v):=fun W W' row h hg hr=>h.kept hg (fun e=>by
 obtain ⟨_,o,ho,hc⟩:=hr b e.symm
 rw [show W.heap[b]? = _ from h] at ho
 cases ho;cases hc)
theorem Stab.below (B n:Nat) (w0:World) (h:n ≤ B) (hB:B ≤ w0.heap.size):Stab B (fun W=>Below n w0 W):=fun W W' row hb hg hr =>
 hb.grown hg (Nat.le_trans h (Nat.le_trans hB hb.size)) (fun k e=>Nat.le_trans h (hr k e).1)
theorem Stab.own (B base n size:Nat) (e:TypeId) (v:Value) (xs:List Value):Stab B (fun W=>W.ownsRow base e size v n xs):=fun W W' row h hg hr=>by
 refine ⟨h.1,?_⟩
 rcases h.2 with hn | ⟨g,cap,cur,rfl,hbg,hgg,rest⟩
 ·exact .inl hn
 ·refine .inr ⟨g,cap,cur,rfl,hbg,?_,rest⟩
  refine (hg.block g (Array.getElem?_eq_some_iff.1 hgg).1 (fun e'=>?_)).trans hgg
  obtain ⟨_,o,ho,hc⟩:=hr g e'.symm
  rw [hgg] at ho
  cases ho;cases hc
def overQ (B:Nat) (I:Nat → World → Prop) (Ix:Code → World → Prop) (k:Nat) (W:World):Exit → Act → World → Prop:=fun e _ W' =>
 KeepsFrom B W W' ∧ match e with
 | .normal=>I (k + 1) W'
 | .ret=>Ix .ret W'
 | .exit id=>Ix (.exit id) W'
 | .goto t=>Ix (.goto t) W'
 | _=>False
theorem keeps_ext (B:Nat) {W W':World} (h:Ext W W'):KeepsFrom B W W':=⟨h.size,fun k _ _ hk _=>(h.block k (Array.getElem?_eq_some_iff.1 hk).1).trans hk⟩
theorem keeps_set (B:Nat) {W:World} {a:Addr} {u:Value} (h:W.cell? a = some u) (v:Value):KeepsFrom B W (W.setCell a v):=by
 obtain ⟨o,ho,hc⟩:=cells_of_cell h
 refine ⟨by simp [World.setCell],fun k o' _ hk ho'=>?_⟩
 have hne:k ≠ a.block:=by rintro rfl;rw [ho] at hk;cases hk;rw [hc] at ho';cases ho'
 rw [Below.heap_setCell _ _ _ k hne];exact hk
theorem keeps_grown (B:Nat) {W W':World} {row:Option Nat} (hg:W.grownBy W' row) (hr:∀ r,row = some r → ∃ o:Obj,W.heap[r]? = some o ∧ o.isCells = true):KeepsFrom B W W' :=
 ⟨hg.size,fun k o _ hk ho=>(hg.block k (Array.getElem?_eq_some_iff.1 hk).1 (fun e=>by
  obtain ⟨o',ho',hc⟩:=hr k e.symm
  rw [hk] at ho';cases ho';rw [ho] at hc;cases hc)).trans hk⟩
theorem wp_over {P:Program} {g:Operand} {ps:Array Tmp} {assign body:Code} {Q:Exit → Act → World → Prop} {a:Act} {w:World} {gf:Nat} {lb:Array Value} {w0:World} {N:Nat} {Enc:Nat → World → Array Value → Prop}
 (hg:a.eval g = .func (.func gf) #[] lb) (eg:∀ args w,(callFunc gf args).run P w = .ok (.enter gf args) w) (hit:IterOf P gf lb w0 N Enc)
 (hsz:∀ k W args,Enc k W args → args.size = ps.size) (hEnc:∀ k args,Stab w.heap.size (fun W=>Enc k W args))
 (I:Nat → World → Prop) (Ix:Code → World → Prop) (hI:∀ k,Stab w.heap.size (I k)) (hIx:∀ c,Stab w.heap.size (Ix c))
 (hb:∀ k W,I k W → Below w0.heap.size w0 W) (h0:I 0 w)
 (hround:∀ k args W L,k < N → w.heap.size < L → I k W → Enc k W args →
  assign.wpIn (Fence.wide.inRound L) 0 P (Exit.then (fun a₁ W₁=>KeepsFrom w.heap.size W W₁ ∧ I k W₁ ∧ Enc k W₁ args ∧ ∀ W₂,I k W₂ → Enc k W₂ args → body.wpIn (Fence.wide.inRound L) 0 P (overQ w.heap.size I Ix k W₂) a₁ W₂) (fun _ _ _=>False))
   { tmps:=(ps.zip args).foldl (fun tmps (t,a)=>tmps.setIfInBounds t a) a.tmps,defers:=[] } W)
 (hdone:∀ D W,w.heap.size ≤ D → I N W → W.heap[D]? = some (.deferred (some [])) → Q .normal { a with defers:={ target:=.collected D,args:=#[] } :: a.defers } W)
 (hstop:∀ D c W,w.heap.size ≤ D → Ix c W → W.heap[D]? = some (.deferred (some [])) → c.wp P Q { a with defers:={ target:=.collected D,args:=#[] } :: a.defers } W) :
 (Code.rangeFunc g ps assign body).wp P Q a w:=by
 refine (wpIn_wide (n:=0)).1 ?_
 refine wp_range hg eg w.heap.size (w.heap.size + 1) rfl rfl _ rfl ?_
 intro fn W hW
 have hr0:∀ st pe,({ recOf fn a ps assign body w.heap.size .ready none with state:=st,pending:=pe }:Loop) = recOf fn a ps assign body w.heap.size st pe:=fun _ _=>rfl
 generalize hr:recOf fn a ps assign body w.heap.size .ready none = r at hW
 have hrd:r.state = .ready ∧ r.pending = none:=by subst hr;exact ⟨rfl,rfl⟩
 have hL0:W.heap[w.heap.size + 1]? = some (.loop r):=by
  subst hW
  have:=World.alloc_heap_new (w.alloc (.deferred (some []))) (.loop r)
  rwa [World.size_alloc] at this
 have hD0:W.heap[w.heap.size]? = some (.deferred (some [])):=by
  subst hW
  rw [Below.heap_alloc _ _ _ (by simp)]
  exact World.alloc_heap_new w _
 have hI0:I 0 W:=by
  subst hW
  exact (hI 0).ext ((hI 0).ext h0 (Ext.alloc _ _)) (Ext.alloc _ _)
 have hx:=hit (w.heap.size + 1) W (fun k W=>W.heap[w.heap.size + 1]? = some (.loop r) ∧ W.heap[w.heap.size]? = some (.deferred (some [])) ∧ I k W)
  (fun W=>∃ c,W.heap[w.heap.size + 1]? = some (.loop { r with state:=.done,pending:=some c }) ∧ W.heap[w.heap.size]? = some (.deferred (some [])) ∧ Ix c W)
  (fun k W h=>hb k W h.2.2)
  (fun k W W' ⟨h1,h2,h3⟩ hx=>⟨(hx.block _ (Array.getElem?_eq_some_iff.1 h1).1).trans h1,(hx.block _ (Array.getElem?_eq_some_iff.1 h2).1).trans h2,(hI k).ext h3 hx⟩)
  (fun W W' ⟨c,h1,h2,h3⟩ hx=>⟨c,(hx.block _ (Array.getElem?_eq_some_iff.1 h1).1).trans h1,(hx.block _ (Array.getElem?_eq_some_iff.1 h2).1).trans h2,(hIx c).ext h3 hx⟩)
  ?_ ⟨hL0,hD0,hI0⟩
 ·refine CallsIn.mono (n:=0) hx ?_
  rintro e W' ⟨⟨v,rfl⟩,h | h⟩
  ·obtain ⟨h1,h2,h3⟩:=h
   refine ⟨v,rfl,r,h1,by rw [hrd.1];decide,fun r'=>?_⟩
   rw [hrd.2]
   exact hdone _ _ (Nat.le_refl _) ((hI N).put h3 h1 rfl (by omega) _) ((World.putObj_heap_other (by omega)).trans h2)
  ·obtain ⟨c,h1,h2,h3⟩:=h
   refine ⟨v,rfl,_,h1,by simp,fun r'=>?_⟩
   simp only []
   exact wpIn_wide.2 (hstop _ c _ (Nat.le_refl _) ((hIx c).put h3 h1 rfl (by omega) _) ((World.putObj_heap_other (by omega)).trans h2))
 ·rintro k args W1 hk ⟨h1,h2,h3⟩ he
  refine yield_rec hr h1 (hsz k W1 args he) ?_
  refine wpIn_mono (hround k args W1 (w.heap.size + 1) hk (by omega) h3 he) ?_
  rintro ex a₁ W₁ hq
  cases ex with
  | normal =>
   obtain ⟨q1,q2,q2',q3⟩:=hq
   have h1':=q1.same _ _ (by omega) h1 rfl
   have h2':=q1.same _ _ (by omega) h2 rfl
   refine ⟨h1',?_⟩
   refine wpIn_mono (q3 (W₁.putObj (w.heap.size + 1) (.loop { r with state:=.busy })) ((hI k).put q2 h1' rfl (by omega) _) ((hEnc k args).put q2' h1' rfl (by omega) _)) ?_
   rintro ex a₂ W₂ ⟨hK,hq⟩
   have h1'':=hK.same _ _ (by omega) (World.putObj_heap_same (Array.getElem?_eq_some_iff.1 h1').1) rfl
   have h2'':=hK.same _ _ (by omega) ((World.putObj_heap_other (by omega)).trans h2') rfl
   have hlt:=(Array.getElem?_eq_some_iff.1 h1'').1
   refine ⟨h1'',?_⟩
   cases ex with
   | normal =>
    refine .inl ⟨rfl,World.putObj_heap_same hlt |>.trans (by rw [rec_ready hr]),(World.putObj_heap_other (by omega)).trans h2'',(hI (k + 1)).put hq h1'' rfl (by omega) _⟩
   | ret=>exact .inr ⟨rfl,.ret,World.putObj_heap_same hlt,(World.putObj_heap_other (by omega)).trans h2'',(hIx _).put hq h1'' rfl (by omega) _⟩
   | exit id=>exact .inr ⟨rfl,.exit id,World.putObj_heap_same hlt,(World.putObj_heap_other (by omega)).trans h2'',(hIx _).put hq h1'' rfl (by omega) _⟩
   | goto t=>exact .inr ⟨rfl,.goto t,World.putObj_heap_same hlt,(World.putObj_heap_other (by omega)).trans h2'',(hIx _).put hq h1'' rfl (by omega) _⟩
   | panic c=>exact hq
   | outgrown=>exact hq
  | _=>exact hq
theorem leave_marked {P:Program} {fn:Func} {tmps:Array Value} {D:Nat} {W:World} {R:Ending → World → Prop} {v:Value} (hD:W.heap[D]? = some (.deferred (some [])))
 (hr:∀ w',(results fn tmps).run P w' = .ok v w') (h:R (.returned v) (W.putObj D (.deferred none))):bodyPostM Fence.wide 0 P fn R .ret { tmps,defers:=[{ target:=.collected D,args:=#[] }] } W :=
 ⟨by simp,.inl ⟨_,_,rfl,run_takeDeferred hD,⟨_,hr _,h⟩⟩⟩
theorem below_mark {B:Nat} {w W:World} {D:Nat} (h:Below B w W) (hD:B ≤ D):Below B w (W.putObj D (.deferred none)):=below_put h hD _
theorem own_mark {W:World} {D:Nat} {base size n:Nat} {e:TypeId} {v:Value} {xs:List Value} (h:W.ownsRow base e size v n xs) (hD:W.heap[D]? = some (.deferred (some []))):(W.putObj D (.deferred none)).ownsRow base e size v n xs :=
 (Stab.own 0 base n size e v xs).put h hD rfl (Nat.zero_le _) _
/-! A region that draws its order, within a round: what only reads. -/
def noDefer (ops:List Oper):Bool:=ops.all fun o=>match o.op with | .defer _=>false | _=>true
theorem noDefer_at {ops:List Oper} (h:noDefer ops = true) {o:Oper} (ho:o ∈ ops):∀ c,o.op ≠ .defer c:=fun c e=>by
 have:=List.all_eq_true.1 h o ho
 rw [e] at this;cases this
theorem oper_round {P:Program} {o:Oper} {a:Act} {w:World} {K:Act → World → Prop} {Q:Exit → Act → World → Prop} (L:Nat) (hd:∀ c,o.op ≠ .defer c) (h:o.wp P a w K Q):o.wpIn (Fence.wide.inRound L) 0 P a w K Q:=by
 refine ⟨fun f _=>trivial,?_⟩
 rw [Oper.semAt_plain _ _ _ hd]
 unfold Oper.wp at h
 generalize (execOp a.eval o).run P w = r at h
 cases r with
 | ok x w' =>
  cases x <;> simp only [Oper.uponIn,Oper.upon] at h ⊢ <;> first | exact h | exact h.elim | skip
  ·exact ⟨fun hd=>by simp [Fence.wide,Fence.inRound] at hd,(callsIn_wide.2 h).inRound L⟩
  ·exact ⟨fun hd=>by simp [Fence.wide,Fence.inRound] at hd,fun c cs _=>let ⟨v,w',r,s⟩:=h c cs;⟨v,w',r,stepsIn_wide.2 s⟩⟩
 | halt x w'=>cases x <;> simp only [Oper.uponIn,Oper.upon] at h ⊢ <;> first | exact h | exact h.elim
theorem wpAnyIn_of_quiet {P:Program} {md:Region.Mode} {ops:Array Oper} {C:World → Prop} {Q:Act → Prop} {Q':Exit → Act → World → Prop} (L:Nat) (hnd:noDefer ops.toList = true) (hQ:∀ a w,C w → Q a → Q' .normal a w):∀ (fuel:Nat) (listed:Array Bool) (a:Act) (w:World),C w →
 wpAnyQ P md ops C Q fuel listed a → wpAnyIn (Fence.wide.inRound L) 0 P md ops Q' fuel listed a w
 | 0,_,_,_,hw,h=>⟨h.1,hQ _ _ hw h.2⟩
 | fuel + 1,listed,a,w,hw,h=>⟨fun h0=>hQ _ _ hw (h.1 h0),fun i hi=>by
  have h:=h.2 i hi
  unfold qOp at h
  unfold wpOpIn
  cases ho:ops[i]? with
  | none=>rw [ho] at h;exact wpAnyIn_of_quiet L hnd hQ fuel _ _ _ hw h
  | some o =>
   rw [ho] at h
   have hm:o ∈ ops.toList:=List.mem_of_getElem? (by rw [Array.getElem?_toList];exact ho)
   simp only [] at h ⊢
   split
   ·rename_i hwn
    rw [if_pos hwn] at h
    exact oper_round L (noDefer_at hnd hm) (Oper.wp_of_quiet hw (fun a' w' hw' hk=>wpAnyIn_of_quiet L hnd hQ fuel _ a' w' hw' hk) h)
   ·rename_i hwn
    rw [if_neg hwn] at h
    exact ⟨fun f _=>trivial,wpAnyIn_of_quiet L hnd hQ fuel _ _ _ hw h⟩⟩
theorem wpIn_round_quiet {P:Program} {id:Nat} {Q:Exit → Act → World → Prop} {a:Act} {w:World} {l:List Oper} {L:Nat} (hnd:noDefer l = true) (hm:P.follows .mixedOrders = true) (hB:Region.lexB .any l.toArray = true)
 (h:wpQuiet P l.toArray (fun w'=>∃ n,w' = w.drewN n) (fun a'=>∀ w',(∃ n,w' = w.drewN n) → Q .normal a' w') l a):(Code.region id l.toArray true).wpIn (Fence.wide.inRound L) 0 P Q a w:=by
 simp only [Region.lexB,Bool.and_eq_true] at hB
 refine wpIn_region_any hm (wpAnyIn_of_quiet (C:=fun w'=>∃ n,w' = w.drewN n) (Q:=fun a'=>∀ w',(∃ n,w' = w.drewN n) → Q .normal a' w') L (by simpa using hnd) (fun _ w' hw' h=>h w' hw') _ _ _ _ ⟨1,rfl⟩ ?_)
 have:=wpAnyQ_lex (C:=fun w'=>∃ n,w' = w.drewN n) (md:=.any) hB.1 l 0 (Array.replicate l.toArray.size false) a (by simp) (by simpa using hB.2) h
 simpa using this
/-! A region that draws its order, whose callees leave all as it was (they may make memory). -/
theorem ext_regrown {w w':World} (h:∃ p:Regrown,w' = grow (redrawn w p.d) p.os):Ext w w':=by obtain ⟨p,rfl⟩:=h;exact below_regrown w p.d p.os
theorem calls_quiet {P:Program} {f:FuncId} {args:Array Value} {w:World} {v:Value} (h:∀ w',Ext w w' → Calls P f args w' fun e w''=>e = .returned v ∧ Ext w' w'') :
 ∀ d os,Calls P f args (grow (redrawn w d) os) fun e w''=>e = .returned v ∧ ∃ p:Regrown,w'' = grow (redrawn w p.d) p.os:=fun d os=>Calls.regrown_of (h _ (below_regrown w d os))
end

end Go.Proofs.YtkmbnghghbfkdaaGreat
