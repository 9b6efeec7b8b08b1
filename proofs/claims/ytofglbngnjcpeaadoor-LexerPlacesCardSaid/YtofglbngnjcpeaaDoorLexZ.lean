/- The reference's Same, Plain and Number. -/
import Derived.Test.YtofglbngnjcpeaaDoorLexY
import Derived.Test.YtofglbngnjcpeaaDoorLexU
import Derived.Test.YtofglbngnjcpeaaDoorLexG
import Derived.Test.YtofglbngnjcpeaaDoorLexN
namespace Go.Proofs.YtofglbngnjcpeaaDoor
set_option maxRecDepth 100000
set_option maxHeartbeats 2000000
set_option linter.unusedVariables false
set_option linter.unusedSimpArgs false
open Go.RowKit

theorem joinT_snoc (l : List Tk) (k : Nat) (hk : k < l.length) : joinT (l.take (k + 1)) = if k = 0 then l[k].stands else joinT (l.take k) ++ 32 :: l[k].stands := by
  unfold joinT
  rw [take_snoc l k hk, List.map_append, List.map_cons, List.map_nil, joinB_snoc]
  by_cases h : k = 0
  · subst h; rw [if_pos (by simp), if_pos rfl]
  · rw [if_neg (fun e => by have := congrArg List.length e; rw [List.length_map, List.length_take] at this; simp only [List.length_nil] at this; omega), if_neg h]
theorem joinT_len (l : List Tk) (ht : ∀ t ∈ l, t.text.size ≤ 1000) : (joinT l).length ≤ l.length * 1004 := by
  unfold joinT
  have := joinB_len (l.map Tk.stands) 1003 (fun x hx => by obtain ⟨t, htm, rfl⟩ := List.mem_map.1 hx; exact stands_size (ht t htm))
  rwa [List.length_map] at this
theorem txt_append (a b : List UInt8) : txt (a ++ b) = txt a ++ txt b := bts_inj (by rw [bts_txt, bts_append, bts_txt, bts_txt])
end Go.Proofs.YtofglbngnjcpeaaDoor
