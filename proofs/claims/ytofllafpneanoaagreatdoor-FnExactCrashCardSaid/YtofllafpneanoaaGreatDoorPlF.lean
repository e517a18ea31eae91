/- Free, l16Forget, release: both programs take the same sockets away. -/
import Derived.Test.YtofllafpneanoaaGreatDoorPlQ
import Derived.Test.YtofllafpneanoaaGreatDoorHouseAll
namespace F5
open Go Go.Fil Go.Proofs Go.Fil.Cf
set_option maxRecDepth 100000
set_option linter.unusedVariables false
set_option linter.unusedSimpArgs false
abbrev andN (a h:Int):Int:=Fil.bits .andNot .i64 a h
/-- A socket that h lets go. -/
def F1 (h:Int) (s:Z8):Option Z8:=if andN s.2.2.1 h = 0 then none else some (s.1,(s.2.1,(andN s.2.2.1 h,s.2.2.2)))
def fr1 (id h:Int) (s:Z8):Option Z8:=if s.1 = id then F1 h s else some s
def frI (I:List Int) (h:Int) (s:Z8):Option Z8:=if s.1∈I then F1 h s else some s
def hb (n:Int):Int:=IntKind.wrap .i64 (1 * (2 ^ (min (Int.toNat n) (IntKind.bits .i64))))
theorem hb_12 {n:Int} (hn:n = 0∨n = 1):hb n = 1∨hb n = 2:=by
 rcases hn with rfl | rfl
 ·left; decide +kernel
 ·right; decide +kernel
theorem andN_idem {a h:Int} (ha:1≤a∧a≤3) (hh:h = 1∨h = 2):andN (andN a h) h = andN a h:=by
 have:a = 1∨a = 2∨a = 3:=by omega
 rcases this with rfl | rfl | rfl <;> rcases hh with rfl | rfl <;> decide +kernel
theorem andN_wf {a h:Int} (ha:1≤a∧a≤3) (hh:h = 1∨h = 2):(Lit.int .i64 (andN a h)).wf = true:=by
 have:a = 1∨a = 2∨a = 3:=by omega
 rcases this with rfl | rfl | rfl <;> rcases hh with rfl | rfl <;> decide +kernel
theorem andN_no {a n:Int} (ha:1≤a∧a≤3) (hn:n = 0∨n = 1) (hbit:bitv a n≠1):andN a (hb n) = a:=by
 have:a = 1∨a = 2∨a = 3:=by omega
 rcases this with rfl | rfl | rfl <;> rcases hn with rfl | rfl <;> revert hbit <;> decide +kernel
/-- Sockets whose texts are short. -/
def SL (s:Z8):Prop:=s.2.2.2.2.1.length≤1048576∧s.2.2.2.2.2.1.length≤1048576
theorem l8Copy (K:Nat) {s:Z8} (h:SL s):Z7k K s = some s:=by
 rw [Z7k.eq,app_nil h.1 (by omega),app_nil h.2 (by omega)]; rfl
theorem app_one {o:List Z8} {y:Z8} {ρ:Type} {e:Option ρ} (h:o.length≤1048576):br (decide ((o.length + [y].length) * 96≤140737488355328)) e none = e:=by
 refine br_true (decide_eq_true ?_)
 rw [List.length_singleton]
 omega
theorem free_loopS {K:Nat} (x:List Z8) (id h:Int) (hh:1≤h∧h≤3) (hl:x.length≤1048576) (h2:∀ s∈x,SL s):∀ (n i k:Nat) (o:List Z8),i + n = x.length→n < k→o.length≤i→Z4v K k x id h (i:Int) o = some (o ++ (x.drop i).filterMap (fr1 id h))
 | 0,i,k + 1,o,h1,_,_=>by
  rw [Z4v.step,br_false (by simp; omega),List.drop_eq_nil_of_le (by omega)]
  simp
 | n + 1,i,k + 1,o,h1,hk,ho=>by
  have hi:i < x.length:=by omega
  have hget:List.getD x (i:Int).toNat Z5.zero = x[i]:=by
   rw [Int.toNat_natCast,List.getD_eq_getElem?_getD,List.getElem?_eq_getElem hi]; rfl
  have hmem:x[i]∈x:=List.getElem_mem hi
  rw [Z4v.step,br_true (by simp; omega),br_true (in_true (by omega) (by omega)),hget,l8Copy K (h2 _ hmem),Option.bind_some,wrap_id (k:=(i:Int) + 1) (by omega) (by omega),List.drop_eq_getElem_cons hi,List.filterMap_cons]
  have key:∀ y:Z8,br (decide ((o.length + [y].length) * 96≤140737488355328)) (Z4v K k x id h ((i:Int) + 1) (o ++ [y])) none = some (o ++ y :: (x.drop (i + 1)).filterMap (fr1 id h)):=fun y=>by
   rw [app_one (by omega),show ((i:Int) + 1) = ((i + 1:Nat):Int) from rfl,free_loopS x id h hh hl h2 n (i + 1) k (o ++ [y]) (by omega) (by omega) (by simp; omega)]
   simp
  by_cases e:x[i].1 = id
  ·rw [br_true (beq_true e),l1In_eq,Option.bind_some,br_true (by simp; omega)]
   have:fr1 id h x[i] = F1 h x[i]:=if_pos e
   rw [this]
   by_cases e2:andN x[i].2.2.1 h = 0
   ·rw [br_true (beq_true e2),F1,if_pos e2,show ((i:Int) + 1) = ((i + 1:Nat):Int) from rfl]
    exact free_loopS x id h hh hl h2 n (i + 1) k o (by omega) (by omega) (by omega)
   ·rw [br_false (beq_false e2),F1,if_neg e2]
    exact key _
  ·rw [br_false (beq_false e)]
   have:fr1 id h x[i] = some x[i]:=if_neg e
   rw [this]
   exact key _
 | _,_,0,_,_,h,_=>absurd h (Nat.not_lt_zero _)
theorem free_loopI {K:Nat} (x:List Z8) (id h:Int) (hh:1≤h∧h≤3) (hl:x.length≤1048576):∀ (n i k:Nat) (o:List Z8),i + n = x.length→n < k→o.length≤i→Z4x K k id h x (i:Int) o x (i:Int) = some (o ++ (x.drop i).filterMap (fr1 id h))
 | 0,i,k + 1,o,h1,_,_=>by
  rw [Z4x.step,br_false (by simp; omega),List.drop_eq_nil_of_le (by omega)]
  simp
 | n + 1,i,k + 1,o,h1,hk,ho=>by
  have hi:i < x.length:=by omega
  have hget:List.getD x (i:Int).toNat Z5.zero = x[i]:=by
   rw [Int.toNat_natCast,List.getD_eq_getElem?_getD,List.getElem?_eq_getElem hi]; rfl
  rw [Z4x.step,br_true (by simp; omega),br_true (in_true (by omega) (by omega)),br_true (by simp),hget,wrap_id (k:=(i:Int) + 1) (by omega) (by omega),List.drop_eq_getElem_cons hi,List.filterMap_cons]
  have key:∀ y:Z8,br (decide ((o.length + [y].length) * 96≤140737488355328)) (Z4x K k id h x ((i:Int) + 1) (o ++ [y]) x ((i:Int) + 1)) none = some (o ++ y :: (x.drop (i + 1)).filterMap (fr1 id h)):=fun y=>by
   rw [app_one (by omega),show ((i:Int) + 1) = ((i + 1:Nat):Int) from rfl,free_loopI x id h hh hl n (i + 1) k (o ++ [y]) (by omega) (by omega) (by simp; omega)]
   simp
  by_cases e:x[i].1 = id
  ·rw [br_true (beq_true e),isIn_eq,Option.bind_some,br_true (by simp; omega)]
   have:fr1 id h x[i] = F1 h x[i]:=if_pos e
   rw [this]
   by_cases e2:andN x[i].2.2.1 h = 0
   ·rw [br_true (beq_true e2),F1,if_pos e2,show ((i:Int) + 1) = ((i + 1:Nat):Int) from rfl]
    exact free_loopI x id h hh hl n (i + 1) k o (by omega) (by omega) (by omega)
   ·rw [br_false (beq_false e2),F1,if_neg e2]
    exact key _
  ·rw [br_false (beq_false e)]
   have:fr1 id h x[i] = some x[i]:=if_neg e
   rw [this]
   exact key _
 | _,_,0,_,_,h,_=>absurd h (Nat.not_lt_zero _)
theorem free_s {K:Nat} (hK:maxLen + 2≤K) (x:List Z8) (id h:Int) (hh:1≤h∧h≤3) (hl:x.length≤1048576) (h2:∀ s∈x,SL s):Z94 K x id h = some (x.filterMap (fr1 id h)):=by
 have hm:maxLen = 2 ^ 63 - 1:=rfl
 rw [Z94.eq]
 have:=free_loopS (K:=K) x id h hh hl h2 x.length 0 K [] (by omega) (by omega) (by simp)
 simpa using this
theorem free_i {K:Nat} (hK:maxLen + 2≤K) (x:List Z8) (id h:Int) (hh:1≤h∧h≤3) (hl:x.length≤1048576) (h2:∀ s∈x,SL s):Zde K x id h = some (x.filterMap (fr1 id h)):=by
 have hm:maxLen = 2 ^ 63 - 1:=rfl
 rw [Zde.eq,cp_socksI hK x hl h2,Option.bind_some]
 have:=free_loopI (K:=K) x id h hh hl x.length 0 K [] (by omega) (by omega) (by simp)
 simpa using this
def H13 (s:Z8):Prop:=1≤s.2.2.1∧s.2.2.1≤3
theorem fmap_congr {α β:Type} {f g:α→Option β}:∀ {l:List α},(∀ x∈l,f x = g x)→l.filterMap f = l.filterMap g
 | [],_=>rfl
 | a :: l,h=>by rw [List.filterMap_cons,List.filterMap_cons,h a (by simp),fmap_congr (fun x hx=>h x (by simp [hx]))]
theorem fr_app {l:List Z8} (hl:∀ s∈l,H13 s) {h:Int} (hh:h = 1∨h = 2) (I:List Int) (id:Int):(l.filterMap (frI I h)).filterMap (fr1 id h) = l.filterMap (frI (I ++ [id]) h):=by
 rw [List.filterMap_filterMap]
 refine fmap_congr (fun s hs=>?_)
 have hid:=andN_idem (hl s hs) hh
 by_cases h1:s.1∈I
 ·have e1:frI I h s = F1 h s:=if_pos h1
  have e2:frI (I ++ [id]) h s = F1 h s:=if_pos (by simp [h1])
  rw [e1,e2]
  by_cases h2:andN s.2.2.1 h = 0
  ·rw [F1,if_pos h2]; rfl
  ·rw [F1,if_neg h2,Option.bind_some]
   by_cases h3:s.1 = id
   ·rw [fr1,if_pos h3,F1,if_neg (by rw [hid]; exact h2),hid]
   ·rw [fr1,if_neg h3]
 ·have e1:frI I h s = some s:=if_neg h1
  rw [e1,Option.bind_some]
  by_cases h3:s.1 = id
  ·rw [fr1,if_pos h3,frI,if_pos (by simp [h3])]
  ·rw [fr1,if_neg h3,frI,if_neg (by simp [h1,h3])]
theorem frI_some {I:List Int} {h:Int} {s t:Z8} (e:frI I h s = some t):t = s∨t = (s.1,(s.2.1,(andN s.2.2.1 h,s.2.2.2))):=by
 unfold frI F1 at e
 split at e
 ·split at e
  ·cases e
  ·exact .inr (Option.some.inj e).symm
 ·exact .inl (Option.some.inj e).symm
theorem fr_SL {l:List Z8} (h2:∀ s∈l,SL s) {I:List Int} {h:Int}:∀ t∈l.filterMap (frI I h),SL t:=by
 intro t ht
 obtain ⟨s,hs,e⟩:=List.mem_filterMap.1 ht
 rcases frI_some e with rfl | rfl
 ·exact h2 _ hs
 ·exact h2 s hs
theorem fr_len {l:List Z8} (h:l.length≤1048576) {I:List Int} {h':Int}:(l.filterMap (frI I h')).length≤1048576:=Nat.le_trans (List.length_filterMap_le _ _) h
theorem fr_nil (l:List Z8) (h:Int):l.filterMap (frI [] h) = l:=by
 have:frI [] h = some:=by funext s; exact if_neg (by simp)
 rw [this,List.filterMap_some]
end F5
