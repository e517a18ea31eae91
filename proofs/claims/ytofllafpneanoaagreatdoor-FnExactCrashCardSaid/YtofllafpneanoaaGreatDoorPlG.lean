/- l16Forget and release: both programs let the same sockets go. -/
import Derived.Test.YtofllafpneanoaaGreatDoorPlF
namespace F5
open Go Go.Fil Go.Proofs Go.Fil.Cf
set_option maxRecDepth 100000
set_option linter.unusedVariables false
set_option linter.unusedSimpArgs false
/-- The world with other sockets. -/
def wS (x:Z2) (l:List Z8):Z2:=(x.1,(x.2.1,(l,x.2.2.2)))
def hOff:Z3:=(0,(0,(0,([],(false,([],([],(0,((0,(0,(0,(0,())))),())))))))))
def hIdle:Z3:=(1,(0,(0,([],(false,([],([],(0,((0,(0,(0,(0,())))),())))))))))
def wH (x:Z2) (l:List Z8) (n:Nat) (h:Z3):Z2:=(x.1,(x.2.1,(l,(x.2.2.2.1.set n h,x.2.2.2.2))))
section
variable {K:Nat} (hK:maxLen + 2≤K) (x:Z2) (n:Int) (hn:n = 0∨n = 1) (hl2:x.2.2.2.1.length = 2) (hl:x.2.2.1.length≤1048576) (h2:∀ s∈x.2.2.1,SL s) (h3:∀ s∈x.2.2.1,H13 s)
include hK hn hl2 hl h2 h3
theorem forget_lines (hlen:(houseAt x n).2.2.2.2.2.2.1.length≤1048576):∀ (m i k:Nat) (I:List Int),i + m = (houseAt x n).2.2.2.2.2.2.1.length→m < k →
  Z4i K k n (i:Int) (wS x (x.2.2.1.filterMap (frI I (hb n)))) = some (wH x (x.2.2.1.filterMap (frI (I ++ ((houseAt x n).2.2.2.2.2.2.1.drop i).map (·.1)) (hb n))) n.toNat hIdle)
 | 0,i,k + 1,I,h,_=>by
  have hin:(decide (0≤n) && decide (n < (((wS x (x.2.2.1.filterMap (frI I (hb n)))).2.2.2.1.length:Nat):Int))) = true:=in_true (by omega) (by show n < (x.2.2.2.1.length:Int); omega)
  rw [Z4i.step,br_true hin,br_false (decide_eq_false (by show ¬ (i:Int) < (((houseAt x n).2.2.2.2.2.2.1.length:Nat):Int); omega)),br_true hin,List.drop_eq_nil_of_le (by omega)]
  simp only [List.map_nil,List.append_nil]
  rfl
 | m + 1,i,k + 1,I,h,hk=>by
  have hi:i < (houseAt x n).2.2.2.2.2.2.1.length:=by omega
  have hin:(decide (0≤n) && decide (n < (((wS x (x.2.2.1.filterMap (frI I (hb n)))).2.2.2.1.length:Nat):Int))) = true:=in_true (by omega) (by show n < (x.2.2.2.1.length:Int); omega)
  have hin2:(decide (0≤(i:Int)) && decide ((i:Int) < (((List.getD (wS x (x.2.2.1.filterMap (frI I (hb n)))).2.2.2.1 (Int.toNat n) Z0.zero).2.2.2.2.2.2.1.length:Nat):Int))) = true:=in_true (by omega) (by show (i:Int) < (((houseAt x n).2.2.2.2.2.2.1.length:Nat):Int); omega)
  have hget:List.getD (houseAt x n).2.2.2.2.2.2.1 (Int.toNat (i:Int)) Zb.zero = (houseAt x n).2.2.2.2.2.2.1[i]:=by
   rw [Int.toNat_natCast,List.getD_eq_getElem?_getD,List.getElem?_eq_getElem hi]; rfl
  have hfree:=free_s hK (x.2.2.1.filterMap (frI I (hb n))) ((houseAt x n).2.2.2.2.2.2.1[i]).1 (hb n) (by rcases hb_12 hn with e | e <;> rw [e] <;> omega) (fr_len hl) (fr_SL h2)
  rw [Z4i.step,br_true hin,br_true (decide_eq_true (by show (i:Int) < (((houseAt x n).2.2.2.2.2.2.1.length:Nat):Int); omega)),br_true hin,br_true hin2,br_false (decide_eq_false (by omega))]
  have e0:Z94 K (wS x (x.2.2.1.filterMap (frI I (hb n)))).2.2.1 (List.getD ((List.getD (wS x (x.2.2.1.filterMap (frI I (hb n)))).2.2.2.1 (Int.toNat n) Z0.zero).2.2.2.2.2.2.1) (Int.toNat (i:Int)) Zb.zero).1 (IntKind.wrap .i64 (1 * (2 ^ (min (Int.toNat n) (IntKind.bits .i64))))) = some ((x.2.2.1.filterMap (frI I (hb n))).filterMap (fr1 ((houseAt x n).2.2.2.2.2.2.1[i]).1 (hb n))):=by
   rw [← hget] at hfree ⊢
   exact hfree
  rw [e0,Option.bind_some,fr_app h3 (hb_12 hn),wrap_id (k:=(i:Int) + 1) (by omega) (by omega)]
  have:=forget_lines hlen m (i + 1) k (I ++ [((houseAt x n).2.2.2.2.2.2.1[i]).1]) (by omega) (by omega)
  rw [List.drop_eq_getElem_cons hi,List.map_cons]
  rw [List.append_assoc,List.singleton_append] at this
  exact this
 | _,_,0,_,_,h=>absurd h (Nat.not_lt_zero _)
theorem forget_asks (hlen:(houseAt x n).2.2.2.2.2.1.length≤1048576):∀ (m i k:Nat) (I:List Int),i + m = (houseAt x n).2.2.2.2.2.1.length→m < k →
  Z5g K k n (i:Int) (wS x (x.2.2.1.filterMap (frI I (hb n)))) = Z4i K K n 0 (wS x (x.2.2.1.filterMap (frI (I ++ ((houseAt x n).2.2.2.2.2.1.drop i).map (·.1)) (hb n))))
 | 0,i,k + 1,I,h,_=>by
  have hin:(decide (0≤n) && decide (n < (((wS x (x.2.2.1.filterMap (frI I (hb n)))).2.2.2.1.length:Nat):Int))) = true:=in_true (by omega) (by show n < (x.2.2.2.1.length:Int); omega)
  rw [Z5g.step,br_true hin,br_false (decide_eq_false (by show ¬ (i:Int) < (((houseAt x n).2.2.2.2.2.1.length:Nat):Int); omega)),List.drop_eq_nil_of_le (by omega)]
  simp only [List.map_nil,List.append_nil]
 | m + 1,i,k + 1,I,h,hk=>by
  have hi:i < (houseAt x n).2.2.2.2.2.1.length:=by omega
  have hin:(decide (0≤n) && decide (n < (((wS x (x.2.2.1.filterMap (frI I (hb n)))).2.2.2.1.length:Nat):Int))) = true:=in_true (by omega) (by show n < (x.2.2.2.1.length:Int); omega)
  have hin2:(decide (0≤(i:Int)) && decide ((i:Int) < (((List.getD (wS x (x.2.2.1.filterMap (frI I (hb n)))).2.2.2.1 (Int.toNat n) Z0.zero).2.2.2.2.2.1.length:Nat):Int))) = true:=in_true (by omega) (by show (i:Int) < (((houseAt x n).2.2.2.2.2.1.length:Nat):Int); omega)
  have hget:List.getD (houseAt x n).2.2.2.2.2.1 (Int.toNat (i:Int)) Z4.zero = (houseAt x n).2.2.2.2.2.1[i]:=by
   rw [Int.toNat_natCast,List.getD_eq_getElem?_getD,List.getElem?_eq_getElem hi]; rfl
  have hfree:=free_s hK (x.2.2.1.filterMap (frI I (hb n))) ((houseAt x n).2.2.2.2.2.1[i]).1 (hb n) (by rcases hb_12 hn with e | e <;> rw [e] <;> omega) (fr_len hl) (fr_SL h2)
  rw [Z5g.step,br_true hin,br_true (decide_eq_true (by show (i:Int) < (((houseAt x n).2.2.2.2.2.1.length:Nat):Int); omega)),br_true hin,br_true hin2,br_false (decide_eq_false (by omega))]
  have e0:Z94 K (wS x (x.2.2.1.filterMap (frI I (hb n)))).2.2.1 (List.getD ((List.getD (wS x (x.2.2.1.filterMap (frI I (hb n)))).2.2.2.1 (Int.toNat n) Z0.zero).2.2.2.2.2.1) (Int.toNat (i:Int)) Z4.zero).1 (IntKind.wrap .i64 (1 * (2 ^ (min (Int.toNat n) (IntKind.bits .i64))))) = some ((x.2.2.1.filterMap (frI I (hb n))).filterMap (fr1 ((houseAt x n).2.2.2.2.2.1[i]).1 (hb n))):=by
   rw [← hget] at hfree ⊢
   exact hfree
  rw [e0,Option.bind_some,fr_app h3 (hb_12 hn),wrap_id (k:=(i:Int) + 1) (by omega) (by omega)]
  have:=forget_asks hlen m (i + 1) k (I ++ [((houseAt x n).2.2.2.2.2.1[i]).1]) (by omega) (by omega)
  rw [List.drop_eq_getElem_cons hi,List.map_cons]
  rw [List.append_assoc,List.singleton_append] at this
  exact this
 | _,_,0,_,_,h=>absurd h (Nat.not_lt_zero _)
/-- The reference: askers and lines let go. -/
theorem forget (hla:(houseAt x n).2.2.2.2.2.1.length≤1048576) (hll:(houseAt x n).2.2.2.2.2.2.1.length≤1048576) :
  Z85 K x n = some (wH x (x.2.2.1.filterMap (frI ((houseAt x n).2.2.2.2.2.1.map (·.1) ++ (houseAt x n).2.2.2.2.2.2.1.map (·.1)) (hb n))) n.toNat hIdle):=by
 have hm:maxLen = 2 ^ 63 - 1:=rfl
 rw [Z85.eq]
 have e1:=forget_asks hK x n hn hl2 hl h2 h3 hla _ 0 K [] (by rw [Nat.zero_add]) (by omega)
 have e2:=forget_lines hK x n hn hl2 hl h2 h3 hll _ 0 K ([] ++ ((houseAt x n).2.2.2.2.2.1.drop 0).map (·.1)) (by rw [Nat.zero_add]) (by omega)
 rw [fr_nil] at e1
 exact e1.trans (by simpa using e2)
/-- The program: the sockets with the bit. -/
theorem release_loop:∀ (m i k:Nat) (I:List Int),i + m = x.2.2.1.length→m < k →
  Z2h K k 0 x.2.2.1 (i:Int) (wS x (x.2.2.1.filterMap (frI I (hb n))),(n,())) x.2.2.1 = some (wH x (x.2.2.1.filterMap (frI (I ++ ((x.2.2.1.drop i).filter (fun s=>bitv s.2.2.1 n == 1)).map (·.1)) (hb n))) n.toNat hOff,(n,()))
 | 0,i,k + 1,I,h,_=>by
  have hin:(decide (0≤n) && decide (n < (((wS x (x.2.2.1.filterMap (frI I (hb n)))).2.2.2.1.length:Nat):Int))) = true:=in_true (by omega) (by show n < (x.2.2.2.1.length:Int); omega)
  rw [Z2h.step,br_false (decide_eq_false (by omega)),List.drop_eq_nil_of_le (by omega)]
  have:r86 K (wS x (x.2.2.1.filterMap (frI I (hb n))),(n,())) = some (wS x (x.2.2.1.filterMap (frI I (hb n))),(n,())):=br_true hin
  rw [this,Option.bind_some]
  simp only [List.filter_nil,List.map_nil,List.append_nil]
  rfl
 | m + 1,i,k + 1,I,h,hk=>by
  have hi:i < x.2.2.1.length:=by omega
  have hget:List.getD x.2.2.1 (Int.toNat (i:Int)) Z5.zero = x.2.2.1[i]:=by
   rw [Int.toNat_natCast,List.getD_eq_getElem?_getD,List.getElem?_eq_getElem hi]; rfl
  rw [Z2h.step,br_true (decide_eq_true (by omega)),br_true (in_true (by omega) (by omega)),br_false (decide_eq_false (by show ¬ n < 0; omega)),hget,wrap_id (k:=(i:Int) + 1) (by omega) (by omega),List.drop_eq_getElem_cons hi,List.filter_cons]
  by_cases hbit:bitv x.2.2.1[i].2.2.1 n = 1
  ·have hfree:=free_i hK (x.2.2.1.filterMap (frI I (hb n))) (x.2.2.1[i]).1 (hb n) (by rcases hb_12 hn with e | e <;> rw [e] <;> omega) (fr_len hl) (fr_SL h2)
   rw [br_true (beq_true hbit),br_false (decide_eq_false (by show ¬ n < 0; omega)),if_pos (beq_true hbit),List.map_cons]
   have e0:Zde K (wS x (x.2.2.1.filterMap (frI I (hb n)))).2.2.1 (x.2.2.1[i]).1 (IntKind.wrap .i64 (1 * (2 ^ (min (Int.toNat n) (IntKind.bits .i64))))) = some ((x.2.2.1.filterMap (frI I (hb n))).filterMap (fr1 (x.2.2.1[i]).1 (hb n))):=hfree
   rw [e0,Option.bind_some,fr_app h3 (hb_12 hn)]
   have:=release_loop m (i + 1) k (I ++ [(x.2.2.1[i]).1]) (by omega) (by omega)
   rw [List.append_assoc,List.singleton_append] at this
   exact this
  ·rw [br_false (beq_false hbit),if_neg (by simpa using hbit)]
   exact release_loop m (i + 1) k I (by omega) (by omega)
 | _,_,0,_,_,h=>absurd h (Nat.not_lt_zero _)
theorem release:Z5t K (x,(n,())) 0 = some (wH x (x.2.2.1.filterMap (frI ((x.2.2.1.filter (fun s=>bitv s.2.2.1 n == 1)).map (·.1)) (hb n))) n.toNat hOff,(n,())):=by
 have hm:maxLen = 2 ^ 63 - 1:=rfl
 rw [Z5t.eq,Z6a.eq,clone_eqP hl (by omega),Option.bind_some]
 have e1:=release_loop hK x n hn hl2 hl h2 h3 _ 0 K [] (by rw [Nat.zero_add]) (by omega)
 rw [fr_nil] at e1
 show Z2h K K 0 x.2.2.1 0 (wS x x.2.2.1,(n,())) x.2.2.1 = _
 simpa using e1
end
/-- The same sockets go. -/
theorem gone_same {x:Z2} {n:Int} (hn:n = 0∨n = 1) (h3:∀ s∈x.2.2.1,H13 s) {h:Z3} (hin:∀ i,i < x.2.2.1.length→SockIn x n h i) :
  x.2.2.1.filterMap (frI (h.2.2.2.2.2.1.map (·.1) ++ h.2.2.2.2.2.2.1.map (·.1)) (hb n)) = x.2.2.1.filterMap (frI ((x.2.2.1.filter (fun s=>bitv s.2.2.1 n == 1)).map (·.1)) (hb n)):=by
 refine fmap_congr (fun s hs=>?_)
 by_cases hbit:bitv s.2.2.1 n = 1
 ·obtain ⟨i,hi,e⟩:=List.getElem_of_mem hs
  have hat:sockAt x.2.2.1 i = s:=by
   rw [sockAt,List.getD_eq_getElem?_getD,List.getElem?_eq_getElem hi]; exact e
  have h4:=hin i hi
  unfold SockIn at h4
  rw [hat] at h4
  have m1:s.1∈h.2.2.2.2.2.1.map (·.1) ++ h.2.2.2.2.2.2.1.map (·.1):=by
   rcases h4 hbit with ⟨j,hj,e2⟩ | ⟨j,hj,e2⟩
   ·exact List.mem_append.2 (.inl (List.mem_map.2 ⟨_,akAt_mem hj,e2⟩))
   ·exact List.mem_append.2 (.inr (List.mem_map.2 ⟨_,lnAt_mem hj,e2⟩))
  have m2:s.1∈(x.2.2.1.filter (fun s=>bitv s.2.2.1 n == 1)).map (·.1):=List.mem_map.2 ⟨s,List.mem_filter.2 ⟨hs,beq_true hbit⟩,rfl⟩
  rw [frI,if_pos m1,frI,if_pos m2]
 ·have e:F1 (hb n) s = some s:=by
   have h5:=andN_no (h3 s hs) hn hbit
   have h6:=h3 s hs
   unfold H13 at h6
   rw [F1,if_neg (by rw [h5]; omega),h5]
  unfold frI
  rw [e]
  simp
end F5
