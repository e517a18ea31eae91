/- Copies are what was copied. -/
import Derived.Test.YtofllafpneanoaaGreatDoorPlM
import Derived.Test.YtofllafpneanoaaGreatDoorPur5
import Derived.Test.YtofllafpneanoaaGreatDoorFunN1
import Derived.Test.YtofllafpneanoaaGreatDoorFunN2
namespace F5
open Go Go.Fil Go.Proofs
set_option maxRecDepth 100000
set_option linter.unusedVariables false
set_option linter.unusedSimpArgs false
theorem cp_loop {α β:Type} {L:Nat→Int→List α→Option β} {xs:List α} {G:α→Option α} {z:α} {fin:List α→Option β} {c:Nat}
  (step:∀ k (i:Int) (o:List α),L (k + 1) i o = br (decide (i < ((xs.length:Nat):Int))) (br (decide (0≤i) && decide (i < (xs.length:Int))) ((G (xs.getD i.toNat z)).bind fun y=>br (decide ((o.length + [y].length) * c≤140737488355328)) (L k (IntKind.wrap .i64 (i + 1)) (o ++ [y])) none) none) (fin o))
  (hG:∀ x∈xs,G x = some x) (hl:xs.length≤1048576) (hc:c≤1024):∀ (n i k:Nat),i + n = xs.length→n < k→L k (i:Int) (xs.take i) = fin xs
 | 0,i,k + 1,h1,_=>by
  rw [step,br_false (by simp; omega),List.take_of_length_le (by omega)]
 | n + 1,i,k + 1,h1,h2=>by
  have hi:i < xs.length:=by omega
  have hget:xs.getD (i:Int).toNat z = xs[i]:=by
   rw [Int.toNat_natCast,List.getD_eq_getElem?_getD,List.getElem?_eq_getElem hi]; rfl
  have hlen:((xs.take i).length + [xs[i]].length) * c≤140737488355328:=by
   rw [List.length_take,List.length_singleton]
   have:(min i xs.length + 1) * c≤1048577 * 1024:=Nat.mul_le_mul (by omega) hc
   omega
  rw [step,br_true (by simp; omega),br_true (in_true (by omega) (by omega)),hget,hG _ (List.getElem_mem hi),Option.bind_some,br_true (decide_eq_true hlen),wrap_id (by omega) (by omega)]
  have h3:xs.take i ++ [xs[i]] = xs.take (i + 1):=by
   rw [List.take_add_one,List.getElem?_eq_getElem hi]; rfl
  rw [h3,show ((i:Int) + 1) = ((i + 1:Nat):Int) from rfl]
  exact cp_loop step hG hl hc n (i + 1) k (by omega) (by omega)
 | _,_,0,_,h=>absurd h (Nat.not_lt_zero _)
theorem cp_fn {α β:Type} {K:Nat} (hK:maxLen + 2≤K) {L:Nat→Int→List α→Option β} {xs:List α} {G:α→Option α} {z:α} {fin:List α→Option β} {c:Nat}
  (step:∀ k (i:Int) (o:List α),L (k + 1) i o = br (decide (i < ((xs.length:Nat):Int))) (br (decide (0≤i) && decide (i < (xs.length:Int))) ((G (xs.getD i.toNat z)).bind fun y=>br (decide ((o.length + [y].length) * c≤140737488355328)) (L k (IntKind.wrap .i64 (i + 1)) (o ++ [y])) none) none) (fin o))
  (hG:∀ x∈xs,G x = some x) (hl:xs.length≤1048576) (hc:c≤1024):L K 0 [] = fin xs:=by
 have hm:maxLen = 2 ^ 63 - 1:=rfl
 exact cp_loop step hG hl hc xs.length 0 K (by omega) (by omega)
theorem app_nil {α:Type} {x:List α} {c:Nat} {ρ:Type} {y:Option ρ} (h:x.length≤1048576) (hc:c≤1024):br (decide ((([]:List α).length + x.length) * c≤140737488355328)) y none = y:=by
 refine br_true (decide_eq_true ?_)
 have:(([]:List α).length + x.length) * c≤1048576 * 1024:=Nat.mul_le_mul (by simpa using h) hc
 omega
theorem clone_eqP {α:Type} {x:List α} {c:Nat} (h:x.length≤1048576) (hc:c≤1024):br (List.isEmpty x) (both (some ([]:List α)) (br (decide ((([]:List α).length + x.length) * c≤140737488355328)) (some (([]:List α) ++ x)) none)) (br (decide ((([]:List α).length + x.length) * c≤140737488355328)) (some (([]:List α) ++ x)) none) = some x:=by
 rw [app_nil h hc]
 cases x with
 | nil=>show both (some []) (some []) = _; unfold both; rw [if_pos rfl]
 | cons a x=>rfl
theorem cp_step {α β:Type} {c1 c2 c3:Bool} {e:Option β} (x:α) (f:α→Option β):br c1 (br c2 (br c3 (f x) none) none) e = br c1 (br c2 ((br c3 (some x) none).bind f) none) e:=by cases c3 <;> rfl
theorem cp_step2 {α β:Type} {c1 c2 c3:Bool} {e:Option β} (x:α) (f:α→Option β):br c1 (br c2 (br c2 (br c3 (f x) none) none) none) e = br c1 (br c2 ((br c3 (some x) none).bind f) none) e:=by cases c2 <;> cases c3 <;> rfl
/-- Lengths within a world. -/
structure DS (d:S_impl_Disk):Prop where
 d1:d.1.length≤1048576
 d2:∀ s∈d.1,s.length≤1048576
 c1:d.2.1.length≤1048576
 c2:∀ w∈d.2.1,w.2.1.length≤1048576
structure MS (x:S_impl_World):Prop where
 d:DS x.2.1
 s1:x.2.2.1.length≤1048576
 s2:∀ s∈x.2.2.1,s.2.2.2.2.1.length≤1048576∧s.2.2.2.2.2.1.length≤1048576
 h1:x.2.2.2.1.length≤1048576
 h2:∀ h∈x.2.2.2.1,h.2.2.2.1.length≤1048576∧h.2.2.2.2.2.1.length≤1048576∧h.2.2.2.2.2.2.1.length≤1048576
 p1:x.2.2.2.2.1.length≤1048576
 p2:∀ p∈x.2.2.2.2.1,p.2.1.length≤1048576
 n1:x.2.2.2.2.2.1.length≤1048576
section
variable {K:Nat} (hK:maxLen + 2≤K)
include hK
omit hK in
theorem cp_bytes (x:List Int) (h:x.length≤1048576):g_slices_Clone_S_byte K x = some x:=by
 rw [g_slices_Clone_S_byte.eq]; exact clone_eqP h (by omega)
theorem cp_diskI (d:S_impl_Disk) (h:DS d):g_impl_diskCopy K d = some d:=by
 rw [g_impl_diskCopy.eq]
 rw [cp_fn hK (L:=fun k i o=>L_impl_diskCopy_3 K k d i d ([],([],(0,(false,())))) o []) (xs:=d.1) (G:=fun s=>g_slices_Clone_S_byte K s) (z:=[]) (fin:=fun o=>L_impl_diskCopy_8 K K 0 d ([],([],(0,(false,())))) o []) (c:=24) (fun k i o=>L_impl_diskCopy_3.step K k d i d _ o []) (fun s hs=>cp_bytes s (h.d2 s hs)) h.d1 (by omega)]
 rw [cp_fn hK (L:=fun k i o=>L_impl_diskCopy_8 K k i d ([],([],(0,(false,())))) d.1 o) (xs:=d.2.1) (G:=fun w=>(g_slices_Clone_S_byte K w.2.1).bind fun y=>some (w.1,(y,()))) (z:=T_impl_Pack.zero) (fin:=fun o=>some (d.1,(o,(d.2.2.1,(d.2.2.2.1,()))))) (c:=32) (fun k i o=>by rw [L_impl_diskCopy_8.step]; simp only [Option.bind_assoc,Option.bind_some]) (fun w hw=>by rw [cp_bytes _ (h.c2 w hw)]; rfl) h.c1 (by omega)]
theorem cp_socksI (x:List S_impl_Sock) (h1:x.length≤1048576) (h2:∀ s∈x,s.2.2.2.2.1.length≤1048576∧s.2.2.2.2.2.1.length≤1048576):g_impl_socksCopy K x = some x:=by
 rw [g_impl_socksCopy.eq]
 exact cp_fn hK (L:=fun k i o=>L_impl_socksCopy_3 K k x i o) (xs:=x) (G:=fun s=>g_impl_sockCopy K s) (z:=T_impl_Sock.zero) (fin:=fun o=>some o) (c:=96) (fun k i o=>L_impl_socksCopy_3.step K k x i o) (fun s hs=>by
  rw [g_impl_sockCopy.eq,cp_bytes _ (h2 s hs).1,Option.bind_some,cp_bytes _ (h2 s hs).2]; rfl) h1 (by omega)
theorem cp_wayI (x:List S_impl_Pack) (h1:x.length≤1048576) (h2:∀ p∈x,p.2.1.length≤1048576):g_impl_wayCopy K x = some x:=by
 rw [g_impl_wayCopy.eq]
 exact cp_fn hK (L:=fun k i o=>L_impl_wayCopy_3 K k x i o) (xs:=x) (G:=fun s=>g_impl_packCopy K s) (z:=T_impl_Pack.zero) (fin:=fun o=>some o) (c:=32) (fun k i o=>L_impl_wayCopy_3.step K k x i o) (fun s hs=>by
  rw [g_impl_packCopy.eq,cp_bytes _ (h2 s hs)]; rfl) h1 (by omega)
omit hK in
theorem cp_houseI (h:S_impl_House) (h2:h.2.2.2.1.length≤1048576∧h.2.2.2.2.2.1.length≤1048576∧h.2.2.2.2.2.2.1.length≤1048576):g_impl_houseCopy K h = some h:=by
 rw [g_impl_houseCopy.eq,g_slices_Clone_S_impl_Db.eq,clone_eqP h2.1 (by omega),Option.bind_some,g_slices_Clone_S_impl_Asker.eq,clone_eqP h2.2.1 (by omega),Option.bind_some,g_slices_Clone_S_impl_Line.eq,clone_eqP h2.2.2 (by omega)]
 rfl
theorem cp_worldI (x:S_impl_World) (h:MS x):g_impl_worldCopy K x = some x:=by
 rw [g_impl_worldCopy.eq,cp_diskI hK _ h.d,Option.bind_some,cp_socksI hK _ h.s1 h.s2,Option.bind_some,cp_wayI hK _ h.p1 h.p2,Option.bind_some,g_slices_Clone_S_impl_Note.eq,clone_eqP h.n1 (by omega),Option.bind_some]
 exact cp_fn hK (L:=fun k i o=>L_impl_worldCopy_5 K k x i (0,(([],([],(0,(false,())))),([],([],([],([],(0,(0,())))))))) (x.1,(x.2.1,(x.2.2.1,(o,x.2.2.2.2))))) (xs:=x.2.2.2.1) (G:=fun s=>g_impl_houseCopy K s) (z:=T_impl_House.zero) (fin:=fun o=>some (x.1,(x.2.1,(x.2.2.1,(o,x.2.2.2.2))))) (c:=144) (fun k i o=>L_impl_worldCopy_5.step K k x i _ _) (fun s hs=>cp_houseI s (h.h2 s hs)) h.h1 (by omega)
theorem cp_diskS (d:S_impl_Disk) (h:DS d):g_spec_l2Copy K d = some d:=by
 rw [g_spec_l2Copy.eq]
 rw [cp_fn hK (L:=fun k i o=>L_spec_l2Copy_3 K k i d ([],([],(0,(false,())))) (o,([],(d.2.2.1,(d.2.2.2.1,()))))) (xs:=d.1) (G:=fun s=>br (decide ((([]:List Int).length + s.length) * 1≤140737488355328)) (some (([]:List Int) ++ s)) none) (z:=[]) (fin:=fun o=>L_spec_l2Copy_7 K K 0 d ([],([],(0,(false,())))) (o,([],(d.2.2.1,(d.2.2.2.1,()))))) (c:=24) (fun k i o=>(L_spec_l2Copy_3.step K k i d _ _).trans (cp_step (([]:List Int) ++ (d.1.getD i.toNat [])) (fun y=>br (decide ((o.length + [y].length) * 24≤140737488355328)) (L_spec_l2Copy_3 K k (IntKind.wrap .i64 (i + 1)) d ([],([],(0,(false,())))) (o ++ [y],([],(d.2.2.1,(d.2.2.2.1,()))))) none))) (fun s hs=>app_nil (h.d2 s hs) (by omega)) h.d1 (by omega)]
 rw [cp_fn hK (L:=fun k i o=>L_spec_l2Copy_7 K k i d ([],([],(0,(false,())))) (d.1,(o,(d.2.2.1,(d.2.2.2.1,()))))) (xs:=d.2.1) (G:=fun w=>br (decide ((([]:List Int).length + w.2.1.length) * 1≤140737488355328)) (some (w.1,((([]:List Int) ++ w.2.1),()))) none) (z:=T_impl_Pack.zero) (fin:=fun o=>some (d.1,(o,(d.2.2.1,(d.2.2.2.1,()))))) (c:=32) (fun k i o=>(L_spec_l2Copy_7.step K k i d _ _).trans (cp_step2 ((d.2.1.getD i.toNat T_impl_Pack.zero).1,((([]:List Int) ++ (d.2.1.getD i.toNat T_impl_Pack.zero).2.1),())) (fun y=>br (decide ((o.length + [y].length) * 32≤140737488355328)) (L_spec_l2Copy_7 K k (IntKind.wrap .i64 (i + 1)) d ([],([],(0,(false,())))) (d.1,(o ++ [y],(d.2.2.1,(d.2.2.2.1,()))))) none))) (fun w hw=>app_nil (h.c2 w hw) (by omega)) h.c1 (by omega)]
theorem cp_socksS (x:List S_impl_Sock) (h1:x.length≤1048576) (h2:∀ s∈x,s.2.2.2.2.1.length≤1048576∧s.2.2.2.2.2.1.length≤1048576):g_spec_l8All K x = some x:=by
 rw [g_spec_l8All.eq]
 exact cp_fn hK (L:=fun k i o=>L_spec_l8All_3 K k x i o) (xs:=x) (G:=fun s=>g_spec_l8Copy K s) (z:=T_impl_Sock.zero) (fin:=fun o=>some o) (c:=96) (fun k i o=>L_spec_l8All_3.step K k x i o) (fun s hs=>by
  rw [g_spec_l8Copy.eq,app_nil (h2 s hs).1 (by omega),app_nil (h2 s hs).2 (by omega)]; rfl) h1 (by omega)
theorem cp_wayS (x:List S_impl_Pack) (h1:x.length≤1048576) (h2:∀ p∈x,p.2.1.length≤1048576):g_spec_l12Copy K x = some x:=by
 rw [g_spec_l12Copy.eq]
 exact cp_fn hK (L:=fun k i o=>L_spec_l12Copy_3 K k x i o) (xs:=x) (G:=fun s=>g_spec_l12Pack K s) (z:=T_impl_Pack.zero) (fin:=fun o=>some o) (c:=32) (fun k i o=>L_spec_l12Copy_3.step K k x i o) (fun s hs=>by
  rw [g_spec_l12Pack.eq,app_nil (h2 s hs) (by omega)]; rfl) h1 (by omega)
omit hK in
theorem cp_houseS (h:S_impl_House) (h2:h.2.2.2.1.length≤1048576∧h.2.2.2.2.2.1.length≤1048576∧h.2.2.2.2.2.2.1.length≤1048576):g_spec_l10Copy K h = some h:=by
 rw [g_spec_l10Copy.eq,app_nil h2.1 (by omega),app_nil h2.2.1 (by omega),app_nil h2.2.2 (by omega)]
 rfl
theorem cp_worldS (x:S_impl_World) (h:MS x):g_spec_l14Copy K x = some x:=by
 rw [g_spec_l14Copy.eq,cp_diskS hK _ h.d,Option.bind_some,cp_socksS hK _ h.s1 h.s2,Option.bind_some]
 rw [cp_fn hK (L:=fun k i o=>L_spec_l14Copy_6 K k i x (0,(([],([],(0,(false,())))),([],([],([],([],(0,(0,())))))))) (x.1,(x.2.1,(x.2.2.1,(o,x.2.2.2.2))))) (xs:=x.2.2.2.1) (G:=fun s=>g_spec_l10Copy K s) (z:=T_impl_House.zero) (fin:=fun o=>(g_spec_l12Copy K x.2.2.2.2.1).bind fun y=>br (decide ((([]:List S_impl_Note).length + x.2.2.2.2.2.1.length) * 72≤140737488355328)) (some (x.1,(x.2.1,(x.2.2.1,(o,(y,((([]:List S_impl_Note) ++ x.2.2.2.2.2.1),x.2.2.2.2.2.2))))))) none) (c:=144) (fun k i o=>L_spec_l14Copy_6.step K k i x _ _) (fun s hs=>cp_houseS s (h.h2 s hs)) h.h1 (by omega)]
 rw [cp_wayS hK _ h.p1 h.p2,Option.bind_some,app_nil h.n1 (by omega)]
 rfl
end
theorem mh_Disk {K:Nat} (hK:maxLen + 2≤K):MH (h_laws_markDisk K) (g_laws_heldDisk K) 2199024304128 DS:=by
 intro x k hx h1 h2
 obtain ⟨k1,s1,a1,a2,a3,a4⟩:=mh_ByteSS hK x.1 k ⟨hx.d1,hx.d2⟩ h1 (by omega)
 obtain ⟨k2,s2,b1,b2,b3,b4⟩:=mh_WrS hK x.2.1 k1 ⟨hx.c1,hx.c2⟩ (by omega) (by omega)
 refine ⟨k2,(s1,(s2,x.2.2)),?_,?_,by omega,by omega⟩
 ·rw [h_laws_markDisk.eq,a1,Option.bind_some]
  simp only [lt]
  rw [b1,Option.bind_some]
 ·rw [g_laws_heldDisk.eq]
  simp only
  rw [a2,Option.bind_some,br_false (decide_eq_false (by omega)),b2,Option.bind_some,br_false (decide_eq_false (by omega))]
theorem mh_World {K:Nat} (hK:maxLen + 2≤K):MH (h_laws_markWorld K) (g_laws_heldWorld K) 35184372088832 MS:=by
 intro x k hx h1 h2
 obtain ⟨k1,s1,a1,a2,a3,a4⟩:=mh_Disk hK x.2.1 k hx.d h1 (by omega)
 obtain ⟨k2,s2,b1,b2,b3,b4⟩:=mh_SockS hK x.2.2.1 k1 ⟨hx.s1,hx.s2⟩ (by omega) (by omega)
 obtain ⟨k3,s3,c1,c2,c3,c4⟩:=mh_HouseS hK x.2.2.2.1 k2 ⟨hx.h1,hx.h2⟩ (by omega) (by omega)
 obtain ⟨k4,s4,d1,d2,d3,d4⟩:=mh_PackS hK x.2.2.2.2.1 k3 ⟨hx.p1,hx.p2⟩ (by omega) (by omega)
 obtain ⟨k5,s5,e1,e2,e3,e4⟩:=mh_NoteS hK x.2.2.2.2.2.1 k4 ⟨hx.n1,fun _ _=>trivial⟩ (by omega) (by omega)
 refine ⟨k5,(x.1,(s1,(s2,(s3,(s4,(s5,x.2.2.2.2.2.2)))))),?_,?_,by omega,by omega⟩
 ·rw [h_laws_markWorld.eq,a1,Option.bind_some]
  simp only [lt]
  rw [b1,Option.bind_some]
  simp only
  rw [c1,Option.bind_some]
  simp only
  rw [d1,Option.bind_some]
  simp only
  rw [e1,Option.bind_some]
 ·rw [g_laws_heldWorld.eq]
  simp only
  rw [a2,Option.bind_some,br_false (decide_eq_false (by omega)),b2,Option.bind_some,br_false (decide_eq_false (by omega)),c2,Option.bind_some,br_false (decide_eq_false (by omega)),d2,Option.bind_some,br_false (decide_eq_false (by omega)),e2,Option.bind_some,br_false (decide_eq_false (by omega))]
end F5
