/- Copies are what was copied. -/
import Derived.Test.YtofllafpneanoaaGreatDoorPlM
import Derived.Test.YtofllafpneanoaaGreatDoorPur5
import Derived.Test.YtofllafpneanoaaGreatDoorFunN1
import Derived.Test.YtofllafpneanoaaGreatDoorFunN2
namespace F5
open Go Go.Fil Go.Proofs
set_option maxRecDepth 100000
set_option linter.unusedVariables false
set_option linter.unusedSimpArgs false
theorem cp_loop {α β:Type} {L:Nat→Int→List α→Option β} {xs:List α} {G:α→Option α} {z:α} {fin:List α→Option β} {c:Nat}
  (step:∀ k (i:Int) (o:List α),L (k + 1) i o = br (decide (i < ((xs.length:Nat):Int))) (br (decide (0≤i) && decide (i < (xs.length:Int))) ((G (xs.getD i.toNat z)).bind fun y=>br (decide ((o.length + [y].length) * c≤140737488355328)) (L k (IntKind.wrap .i64 (i + 1)) (o ++ [y])) none) none) (fin o))
  (hG:∀ x∈xs,G x = some x) (hl:xs.length≤1048576) (hc:c≤1024):∀ (n i k:Nat),i + n = xs.length→n < k→L k (i:Int) (xs.take i) = fin xs
 | 0,i,k + 1,h1,_=>by
  rw [step,br_false (by simp; omega),List.take_of_length_le (by omega)]
 | n + 1,i,k + 1,h1,h2=>by
  have hi:i < xs.length:=by omega
  have hget:xs.getD (i:Int).toNat z = xs[i]:=by
   rw [Int.toNat_natCast,List.getD_eq_getElem?_getD,List.getElem?_eq_getElem hi]; rfl
  have hlen:((xs.take i).length + [xs[i]].length) * c≤140737488355328:=by
   rw [List.length_take,List.length_singleton]
   have:(min i xs.length + 1) * c≤1048577 * 1024:=Nat.mul_le_mul (by omega) hc
   omega
  rw [step,br_true (by simp; omega),br_true (in_true (by omega) (by omega)),hget,hG _ (List.getElem_mem hi),Option.bind_some,br_true (decide_eq_true hlen),wrap_id (by omega) (by omega)]
  have h3:xs.take i ++ [xs[i]] = xs.take (i + 1):=by
   rw [List.take_add_one,List.getElem?_eq_getElem hi]; rfl
  rw [h3,show ((i:Int) + 1) = ((i + 1:Nat):Int) from rfl]
  exact cp_loop step hG hl hc n (i + 1) k (by omega) (by omega)
 | _,_,0,_,h=>absurd h (Nat.not_lt_zero _)
theorem cp_fn {α β:Type} {K:Nat} (hK:maxLen + 2≤K) {L:Nat→Int→List α→Option β} {xs:List α} {G:α→Option α} {z:α} {fin:List α→Option β} {c:Nat}
  (step:∀ k (i:Int) (o:List α),L (k + 1) i o = br (decide (i < ((xs.length:Nat):Int))) (br (decide (0≤i) && decide (i < (xs.length:Int))) ((G (xs.getD i.toNat z)).bind fun y=>br (decide ((o.length + [y].length) * c≤140737488355328)) (L k (IntKind.wrap .i64 (i + 1)) (o ++ [y])) none) none) (fin o))
  (hG:∀ x∈xs,G x = some x) (hl:xs.length≤1048576) (hc:c≤1024):L K 0 [] = fin xs:=by
 have hm:maxLen = 2 ^ 63 - 1:=rfl
 exact cp_loop step hG hl hc xs.length 0 K (by omega) (by omega)
theorem app_nil {α:Type} {x:List α} {c:Nat} {ρ:Type} {y:Option ρ} (h:x.length≤1048576) (hc:c≤1024):br (decide ((([]:List α).length + x.length) * c≤140737488355328)) y none = y:=by
 refine br_true (decide_eq_true ?_)
 have:(([]:List α).length + x.length) * c≤1048576 * 1024:=Nat.mul_le_mul (by simpa using h) hc
 omega
theorem clone_eqP {α:Type} {x:List α} {c:Nat} (h:x.length≤1048576) (hc:c≤1024):br (List.isEmpty x) (both (some ([]:List α)) (br (decide ((([]:List α).length + x.length) * c≤140737488355328)) (some (([]:List α) ++ x)) none)) (br (decide ((([]:List α).length + x.length) * c≤140737488355328)) (some (([]:List α) ++ x)) none) = some x:=by
 rw [app_nil h hc]
 cases x with
 | nil=>show both (some []) (some []) = _; unfold both; rw [if_pos rfl]
 | cons a x=>rfl
theorem cp_step {α β:Type} {c1 c2 c3:Bool} {e:Option β} (x:α) (f:α→Option β):br c1 (br c2 (br c3 (f x) none) none) e = br c1 (br c2 ((br c3 (some x) none).bind f) none) e:=by cases c3 <;> rfl
theorem cp_step2 {α β:Type} {c1 c2 c3:Bool} {e:Option β} (x:α) (f:α→Option β):br c1 (br c2 (br c2 (br c3 (f x) none) none) none) e = br c1 (br c2 ((br c3 (some x) none).bind f) none) e:=by cases c2 <;> cases c3 <;> rfl
/-- Lengths within a world. -/
structure DS (d:Zm):Prop where
 d1:d.1.length≤1048576
 d2:∀ s∈d.1,s.length≤1048576
 c1:d.2.1.length≤1048576
 c2:∀ w∈d.2.1,w.2.1.length≤1048576
structure MS (x:Z2):Prop where
 d:DS x.2.1
 s1:x.2.2.1.length≤1048576
 s2:∀ s∈x.2.2.1,s.2.2.2.2.1.length≤1048576∧s.2.2.2.2.2.1.length≤1048576
 h1:x.2.2.2.1.length≤1048576
 h2:∀ h∈x.2.2.2.1,h.2.2.2.1.length≤1048576∧h.2.2.2.2.2.1.length≤1048576∧h.2.2.2.2.2.2.1.length≤1048576
 p1:x.2.2.2.2.1.length≤1048576
 p2:∀ p∈x.2.2.2.2.1,p.2.1.length≤1048576
 n1:x.2.2.2.2.2.1.length≤1048576
section
variable {K:Nat} (hK:maxLen + 2≤K)
include hK
omit hK in
theorem cp_bytes (x:List Int) (h:x.length≤1048576):Z1c K x = some x:=by
 rw [Z1c.eq]; exact clone_eqP h (by omega)
theorem cp_diskI (d:Zm) (h:DS d):Zb3 K d = some d:=by
 rw [Zb3.eq]
 rw [cp_fn hK (L:=fun k i o=>Z7f K k d i d ([],([],(0,(false,())))) o []) (xs:=d.1) (G:=fun s=>Z1c K s) (z:=[]) (fin:=fun o=>Z5w K K 0 d ([],([],(0,(false,())))) o []) (c:=24) (fun k i o=>Z7f.step K k d i d _ o []) (fun s hs=>cp_bytes s (h.d2 s hs)) h.d1 (by omega)]
 rw [cp_fn hK (L:=fun k i o=>Z5w K k i d ([],([],(0,(false,())))) d.1 o) (xs:=d.2.1) (G:=fun w=>(Z1c K w.2.1).bind fun y=>some (w.1,(y,()))) (z:=Za.zero) (fin:=fun o=>some (d.1,(o,(d.2.2.1,(d.2.2.2.1,()))))) (c:=32) (fun k i o=>by rw [Z5w.step]; simp only [Option.bind_assoc,Option.bind_some]) (fun w hw=>by rw [cp_bytes _ (h.c2 w hw)]; rfl) h.c1 (by omega)]
theorem cp_socksI (x:List Z8) (h1:x.length≤1048576) (h2:∀ s∈x,s.2.2.2.2.1.length≤1048576∧s.2.2.2.2.2.1.length≤1048576):Z89 K x = some x:=by
 rw [Z89.eq]
 exact cp_fn hK (L:=fun k i o=>Z6k K k x i o) (xs:=x) (G:=fun s=>Zb4 K s) (z:=Z5.zero) (fin:=fun o=>some o) (c:=96) (fun k i o=>Z6k.step K k x i o) (fun s hs=>by
  rw [Zb4.eq,cp_bytes _ (h2 s hs).1,Option.bind_some,cp_bytes _ (h2 s hs).2]; rfl) h1 (by omega)
theorem cp_wayI (x:List Zs) (h1:x.length≤1048576) (h2:∀ p∈x,p.2.1.length≤1048576):Zc1 K x = some x:=by
 rw [Zc1.eq]
 exact cp_fn hK (L:=fun k i o=>Z8a K k x i o) (xs:=x) (G:=fun s=>Zb5 K s) (z:=Za.zero) (fin:=fun o=>some o) (c:=32) (fun k i o=>Z8a.step K k x i o) (fun s hs=>by
  rw [Zb5.eq,cp_bytes _ (h2 s hs)]; rfl) h1 (by omega)
omit hK in
theorem cp_houseI (h:Z3) (h2:h.2.2.2.1.length≤1048576∧h.2.2.2.2.2.1.length≤1048576∧h.2.2.2.2.2.2.1.length≤1048576):Z8b K h = some h:=by
 rw [Z8b.eq,Z76.eq,clone_eqP h2.1 (by omega),Option.bind_some,Z62.eq,clone_eqP h2.2.1 (by omega),Option.bind_some,Z69.eq,clone_eqP h2.2.2 (by omega)]
 rfl
theorem cp_worldI (x:Z2) (h:MS x):Z2v K x = some x:=by
 rw [Z2v.eq,cp_diskI hK _ h.d,Option.bind_some,cp_socksI hK _ h.s1 h.s2,Option.bind_some,cp_wayI hK _ h.p1 h.p2,Option.bind_some,Z68.eq,clone_eqP h.n1 (by omega),Option.bind_some]
 exact cp_fn hK (L:=fun k i o=>Z6l K k x i (0,(([],([],(0,(false,())))),([],([],([],([],(0,(0,())))))))) (x.1,(x.2.1,(x.2.2.1,(o,x.2.2.2.2))))) (xs:=x.2.2.2.1) (G:=fun s=>Z8b K s) (z:=Z0.zero) (fin:=fun o=>some (x.1,(x.2.1,(x.2.2.1,(o,x.2.2.2.2))))) (c:=144) (fun k i o=>Z6l.step K k x i _ _) (fun s hs=>cp_houseI s (h.h2 s hs)) h.h1 (by omega)
theorem cp_diskS (d:Zm) (h:DS d):Zco K d = some d:=by
 rw [Zco.eq]
 rw [cp_fn hK (L:=fun k i o=>Z6p K k i d ([],([],(0,(false,())))) (o,([],(d.2.2.1,(d.2.2.2.1,()))))) (xs:=d.1) (G:=fun s=>br (decide ((([]:List Int).length + s.length) * 1≤140737488355328)) (some (([]:List Int) ++ s)) none) (z:=[]) (fin:=fun o=>Z5y K K 0 d ([],([],(0,(false,())))) (o,([],(d.2.2.1,(d.2.2.2.1,()))))) (c:=24) (fun k i o=>(Z6p.step K k i d _ _).trans (cp_step (([]:List Int) ++ (d.1.getD i.toNat [])) (fun y=>br (decide ((o.length + [y].length) * 24≤140737488355328)) (Z6p K k (IntKind.wrap .i64 (i + 1)) d ([],([],(0,(false,())))) (o ++ [y],([],(d.2.2.1,(d.2.2.2.1,()))))) none))) (fun s hs=>app_nil (h.d2 s hs) (by omega)) h.d1 (by omega)]
 rw [cp_fn hK (L:=fun k i o=>Z5y K k i d ([],([],(0,(false,())))) (d.1,(o,(d.2.2.1,(d.2.2.2.1,()))))) (xs:=d.2.1) (G:=fun w=>br (decide ((([]:List Int).length + w.2.1.length) * 1≤140737488355328)) (some (w.1,((([]:List Int) ++ w.2.1),()))) none) (z:=Za.zero) (fin:=fun o=>some (d.1,(o,(d.2.2.1,(d.2.2.2.1,()))))) (c:=32) (fun k i o=>(Z5y.step K k i d _ _).trans (cp_step2 ((d.2.1.getD i.toNat Za.zero).1,((([]:List Int) ++ (d.2.1.getD i.toNat Za.zero).2.1),())) (fun y=>br (decide ((o.length + [y].length) * 32≤140737488355328)) (Z5y K k (IntKind.wrap .i64 (i + 1)) d ([],([],(0,(false,())))) (d.1,(o ++ [y],(d.2.2.1,(d.2.2.2.1,()))))) none))) (fun w hw=>app_nil (h.c2 w hw) (by omega)) h.c1 (by omega)]
theorem cp_socksS (x:List Z8) (h1:x.length≤1048576) (h2:∀ s∈x,s.2.2.2.2.1.length≤1048576∧s.2.2.2.2.2.1.length≤1048576):Zdp K x = some x:=by
 rw [Zdp.eq]
 exact cp_fn hK (L:=fun k i o=>Z9h K k x i o) (xs:=x) (G:=fun s=>Z7k K s) (z:=Z5.zero) (fin:=fun o=>some o) (c:=96) (fun k i o=>Z9h.step K k x i o) (fun s hs=>by
  rw [Z7k.eq,app_nil (h2 s hs).1 (by omega),app_nil (h2 s hs).2 (by omega)]; rfl) h1 (by omega)
theorem cp_wayS (x:List Zs) (h1:x.length≤1048576) (h2:∀ p∈x,p.2.1.length≤1048576):Z9j K x = some x:=by
 rw [Z9j.eq]
 exact cp_fn hK (L:=fun k i o=>Z7y K k x i o) (xs:=x) (G:=fun s=>Zbi K s) (z:=Za.zero) (fin:=fun o=>some o) (c:=32) (fun k i o=>Z7y.step K k x i o) (fun s hs=>by
  rw [Zbi.eq,app_nil (h2 s hs) (by omega)]; rfl) h1 (by omega)
omit hK in
theorem cp_houseS (h:Z3) (h2:h.2.2.2.1.length≤1048576∧h.2.2.2.2.2.1.length≤1048576∧h.2.2.2.2.2.2.1.length≤1048576):Z9i K h = some h:=by
 rw [Z9i.eq,app_nil h2.1 (by omega),app_nil h2.2.1 (by omega),app_nil h2.2.2 (by omega)]
 rfl
theorem cp_worldS (x:Z2) (h:MS x):Z9k K x = some x:=by
 rw [Z9k.eq,cp_diskS hK _ h.d,Option.bind_some,cp_socksS hK _ h.s1 h.s2,Option.bind_some]
 rw [cp_fn hK (L:=fun k i o=>Z80 K k i x (0,(([],([],(0,(false,())))),([],([],([],([],(0,(0,())))))))) (x.1,(x.2.1,(x.2.2.1,(o,x.2.2.2.2))))) (xs:=x.2.2.2.1) (G:=fun s=>Z9i K s) (z:=Z0.zero) (fin:=fun o=>(Z9j K x.2.2.2.2.1).bind fun y=>br (decide ((([]:List Zu).length + x.2.2.2.2.2.1.length) * 72≤140737488355328)) (some (x.1,(x.2.1,(x.2.2.1,(o,(y,((([]:List Zu) ++ x.2.2.2.2.2.1),x.2.2.2.2.2.2))))))) none) (c:=144) (fun k i o=>Z80.step K k i x _ _) (fun s hs=>cp_houseS s (h.h2 s hs)) h.h1 (by omega)]
 rw [cp_wayS hK _ h.p1 h.p2,Option.bind_some,app_nil h.n1 (by omega)]
 rfl
end
theorem mh_Disk {K:Nat} (hK:maxLen + 2≤K):MH (Z8o K) (Zb9 K) 2199024304128 DS:=by
 intro x k hx h1 h2
 obtain ⟨k1,s1,a1,a2,a3,a4⟩:=mh_ByteSS hK x.1 k ⟨hx.d1,hx.d2⟩ h1 (by omega)
 obtain ⟨k2,s2,b1,b2,b3,b4⟩:=mh_WrS hK x.2.1 k1 ⟨hx.c1,hx.c2⟩ (by omega) (by omega)
 refine ⟨k2,(s1,(s2,x.2.2)),?_,?_,by omega,by omega⟩
 ·rw [Z8o.eq,a1,Option.bind_some]
  simp only [lt]
  rw [b1,Option.bind_some]
 ·rw [Zb9.eq]
  simp only
  rw [a2,Option.bind_some,br_false (decide_eq_false (by omega)),b2,Option.bind_some,br_false (decide_eq_false (by omega))]
theorem mh_World {K:Nat} (hK:maxLen + 2≤K):MH (Z1w K) (Z5n K) 35184372088832 MS:=by
 intro x k hx h1 h2
 obtain ⟨k1,s1,a1,a2,a3,a4⟩:=mh_Disk hK x.2.1 k hx.d h1 (by omega)
 obtain ⟨k2,s2,b1,b2,b3,b4⟩:=mh_SockS hK x.2.2.1 k1 ⟨hx.s1,hx.s2⟩ (by omega) (by omega)
 obtain ⟨k3,s3,c1,c2,c3,c4⟩:=mh_HouseS hK x.2.2.2.1 k2 ⟨hx.h1,hx.h2⟩ (by omega) (by omega)
 obtain ⟨k4,s4,d1,d2,d3,d4⟩:=mh_PackS hK x.2.2.2.2.1 k3 ⟨hx.p1,hx.p2⟩ (by omega) (by omega)
 obtain ⟨k5,s5,e1,e2,e3,e4⟩:=mh_NoteS hK x.2.2.2.2.2.1 k4 ⟨hx.n1,fun _ _=>trivial⟩ (by omega) (by omega)
 refine ⟨k5,(x.1,(s1,(s2,(s3,(s4,(s5,x.2.2.2.2.2.2)))))),?_,?_,by omega,by omega⟩
 ·rw [Z1w.eq,a1,Option.bind_some]
  simp only [lt]
  rw [b1,Option.bind_some]
  simp only
  rw [c1,Option.bind_some]
  simp only
  rw [d1,Option.bind_some]
  simp only
  rw [e1,Option.bind_some]
 ·rw [Z5n.eq]
  simp only
  rw [a2,Option.bind_some,br_false (decide_eq_false (by omega)),b2,Option.bind_some,br_false (decide_eq_false (by omega)),c2,Option.bind_some,br_false (decide_eq_false (by omega)),d2,Option.bind_some,br_false (decide_eq_false (by omega)),e2,Option.bind_some,br_false (decide_eq_false (by omega))]
end F5
